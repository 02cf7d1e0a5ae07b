import Derived.Test.YtngjjedlpjbdoaaS12GridW
import Derived.Test.YtngjjedlpjbdoaaSxUMoves
set_option linter.all false
set_option maxHeartbeats 4000000
set_option linter.all false
namespace Go.Proofs.Ytngjjedlpjbdoaa
open Go.Sx
attribute [local irreducible] RunSem AListSem AgainK Again Side Sx.Ends IntKind.wrap SatV AgainR DSem MJ
attribute [local irreducible] floorB goesB rightG arrow isLetter wayTo allP allM
theorem MWaysC_ok (g : Gr) (hg : GrOk g) (c x : Int) (b : Nat) : Sat Try.prog 22 [iv c, iv x, ptrA b] [gBox b g] (isTS [iv ((wayTo g c x).getD 0), bv (wayTo g c x).isSome] [gBox b g]) := by
  refine Sat.of T_ok Try.func22 Try.call22 rfl rfl rfl ?_
  repeat' (first | assumption | exact fun h : ¬ True => absurd trivial h | exact fun h : False => h.elim | exact sd (by first | omega | (simp only []; omega) | (simp only [List.length_append, List.length_cons, List.length_nil, List.length_take, List.length_drop, List.length_map, List.length_range]; omega)) | exact sp (fun h => by simp [PathHolds] at h; omega) | exact sd rfl | exact sd ⟨rfl, by decide⟩ | exact sd trivial | exact Bin.x rfl | (apply Run.nilStop rfl; apply RunSem.eqNil T_ok) | refine Run.storeStop rfl ?_ | (apply Run.mapStop; apply RunSem.mapSet T_ok) | (apply Run.newMapStop; apply RunSem.newMap T_ok) | (apply Run.sliceStop; apply RunSem.litI T_ok; rotate_left; rfl; rfl; rfl) | (apply AList.sliceStop; apply AListSem.litI T_ok; rotate_left; rfl; rfl; rfl) | (apply Run.semStop; apply RunSem.rangeStr T_ok) | (apply Run.semStop; apply RunSem.nextStr T_ok) | apply Run.condP | apply Sx.Ends.by () | constructor | intro _)
  apply RunSem.lend T_ok (Ways_ok g hg c) (fun _ => ⟨rfl, rfl⟩)
  all_goals repeat' (first | assumption | exact fun h : ¬ True => absurd trivial h | exact fun h : False => h.elim | exact sd (by first | omega | (simp only []; omega) | (simp only [List.length_append, List.length_cons, List.length_nil, List.length_take, List.length_drop, List.length_map, List.length_range]; omega)) | exact sp (fun h => by simp [PathHolds] at h; omega) | exact sd rfl | exact sd ⟨rfl, by decide⟩ | exact sd trivial | exact Bin.x rfl | (apply Run.nilStop rfl; apply RunSem.eqNil T_ok) | refine Run.storeStop rfl ?_ | (apply Run.mapStop; apply RunSem.mapSet T_ok) | (apply Run.newMapStop; apply RunSem.newMap T_ok) | (apply Run.sliceStop; apply RunSem.litI T_ok; rotate_left; rfl; rfl; rfl) | (apply AList.sliceStop; apply AListSem.litI T_ok; rotate_left; rfl; rfl; rfl) | (apply Run.semStop; apply RunSem.rangeStr T_ok) | (apply Run.semStop; apply RunSem.nextStr T_ok) | apply Run.condP | apply Sx.Ends.by () | constructor | intro _)
  rename_i v _
  refine RunSem.loopK T_ok [0, 1, 2, 13, 14] (fun k : Nat => [(15, [], iv k)]) (fun k => []) (fun k => k ≤ (waysL g c).length ∧ wayTo g c x = (((waysL g c).drop k).find? fun w : Nat => decide ((goesB g c w).getD 0 = x)).map Int.ofNat) (fun k => (waysL g c).length - k) 0 ⟨by omega, by unfold wayTo; rfl⟩ (by repeat' constructor) (by repeat' constructor) (by repeat' constructor) ?_
  dsimp only [List.cons_append, List.nil_append]
  rintro k ⟨hk, hw⟩
  have hwl := waysL_len g c
  repeat' (first | assumption | exact fun h : ¬ True => absurd trivial h | exact fun h : False => h.elim | exact sd (by first | omega | (simp only []; omega) | (simp only [List.length_append, List.length_cons, List.length_nil, List.length_take, List.length_drop, List.length_map, List.length_range]; omega)) | exact sp (fun h => by simp [PathHolds] at h; omega) | exact sd rfl | exact sd ⟨rfl, by decide⟩ | exact sd trivial | exact Bin.x rfl | (apply Run.nilStop rfl; apply RunSem.eqNil T_ok) | refine Run.storeStop rfl ?_ | (apply Run.mapStop; apply RunSem.mapSet T_ok) | (apply Run.newMapStop; apply RunSem.newMap T_ok) | (apply Run.sliceStop; apply RunSem.litI T_ok; rotate_left; rfl; rfl; rfl) | (apply AList.sliceStop; apply AListSem.litI T_ok; rotate_left; rfl; rfl; rfl) | (apply Run.semStop; apply RunSem.rangeStr T_ok) | (apply Run.semStop; apply RunSem.nextStr T_ok) | apply Run.condP | apply Sx.Ends.by () | constructor | intro _)
  · rename_i hlt
    have hlt' : k < (waysL g c).length := by omega
    rw [List.drop_eq_getElem_cons hlt', List.find?_cons] at hw
    apply RunSem.lend T_ok (Goes_ok g hg c ((waysL g c).getD k 0 : Nat)) (fun _ => ⟨rfl, rfl⟩)
    all_goals repeat' (first | assumption | exact fun h : ¬ True => absurd trivial h | exact fun h : False => h.elim | exact sd (by first | omega | (simp only []; omega) | (simp only [List.length_append, List.length_cons, List.length_nil, List.length_take, List.length_drop, List.length_map, List.length_range]; omega)) | exact sp (fun h => by simp [PathHolds] at h; omega) | exact sd rfl | exact sd ⟨rfl, by decide⟩ | exact sd trivial | exact Bin.x rfl | (apply Run.nilStop rfl; apply RunSem.eqNil T_ok) | refine Run.storeStop rfl ?_ | (apply Run.mapStop; apply RunSem.mapSet T_ok) | (apply Run.newMapStop; apply RunSem.newMap T_ok) | (apply Run.sliceStop; apply RunSem.litI T_ok; rotate_left; rfl; rfl; rfl) | (apply AList.sliceStop; apply AListSem.litI T_ok; rotate_left; rfl; rfl; rfl) | (apply Run.semStop; apply RunSem.rangeStr T_ok) | (apply Run.semStop; apply RunSem.nextStr T_ok) | apply Run.condP | apply Sx.Ends.by () | constructor | intro _)
    · rename_i heq
      have e : (waysL g c).getD k 0 = (waysL g c)[k] := by simp [List.getD, hlt']
      rw [e] at heq
      rw [decide_eq_true heq] at hw
      have hw' : wayTo g c x = some ((waysL g c)[k] : Int) := hw
      rw [hw', e]; rfl
    · rename_i heq
      have e : (waysL g c).getD k 0 = (waysL g c)[k] := by simp [List.getD, hlt']
      rw [e] at heq
      rw [decide_eq_true heq] at hw
      have hw' : wayTo g c x = some ((waysL g c)[k] : Int) := hw
      rw [hw']; rfl
    · rename_i hne
      have e : (waysL g c).getD k 0 = (waysL g c)[k] := by simp [List.getD, hlt']
      rw [e] at hne
      rw [decide_eq_false hne] at hw
      apply AgainK.mk (k + 1)
      case' h4 => (try simp only [List.append_nil]); repeat' constructor
      case' h3 => repeat' constructor
      case' h1 => first | omega | (dsimp only; omega)
      exact ⟨by omega, hw⟩
  · rename_i hge
    have hw' : wayTo g c x = none := by
      rw [hw, List.drop_of_length_le (by omega)]
      rfl
    rw [hw']; rfl
  · rename_i hge
    have hw' : wayTo g c x = none := by
      rw [hw, List.drop_of_length_le (by omega)]
      rfl
    rw [hw']; rfl
theorem MGoC_ok (g : Gr) (hg : GrOk g) (c x : Int) (b : Nat) : Sat Try.prog 25 [iv c, iv x, ptrA b] [gBox b g] (isTS [iv ((goesB g c x).getD 0), bv (goesB g c x).isSome] [gBox b g]) := by
  refine Sat.of T_ok Try.func25 Try.call25 rfl rfl rfl ?_
  repeat' (first | assumption | exact fun h : ¬ True => absurd trivial h | exact fun h : False => h.elim | exact sd (by first | omega | (simp only []; omega) | (simp only [List.length_append, List.length_cons, List.length_nil, List.length_take, List.length_drop, List.length_map, List.length_range]; omega)) | exact sp (fun h => by simp [PathHolds] at h; omega) | exact sd rfl | exact sd ⟨rfl, by decide⟩ | exact sd trivial | exact Bin.x rfl | (apply Run.nilStop rfl; apply RunSem.eqNil T_ok) | refine Run.storeStop rfl ?_ | (apply Run.mapStop; apply RunSem.mapSet T_ok) | (apply Run.newMapStop; apply RunSem.newMap T_ok) | (apply Run.sliceStop; apply RunSem.litI T_ok; rotate_left; rfl; rfl; rfl) | (apply AList.sliceStop; apply AListSem.litI T_ok; rotate_left; rfl; rfl; rfl) | (apply Run.semStop; apply RunSem.rangeStr T_ok) | (apply Run.semStop; apply RunSem.nextStr T_ok) | apply Run.condP | apply Sx.Ends.by () | constructor | intro _)
  apply RunSem.lend T_ok (Goes_ok g hg c x) (fun _ => ⟨rfl, rfl⟩)
  all_goals repeat' (first | assumption | exact fun h : ¬ True => absurd trivial h | exact fun h : False => h.elim | exact sd (by first | omega | (simp only []; omega) | (simp only [List.length_append, List.length_cons, List.length_nil, List.length_take, List.length_drop, List.length_map, List.length_range]; omega)) | exact sp (fun h => by simp [PathHolds] at h; omega) | exact sd rfl | exact sd ⟨rfl, by decide⟩ | exact sd trivial | exact Bin.x rfl | (apply Run.nilStop rfl; apply RunSem.eqNil T_ok) | refine Run.storeStop rfl ?_ | (apply Run.mapStop; apply RunSem.mapSet T_ok) | (apply Run.newMapStop; apply RunSem.newMap T_ok) | (apply Run.sliceStop; apply RunSem.litI T_ok; rotate_left; rfl; rfl; rfl) | (apply AList.sliceStop; apply AListSem.litI T_ok; rotate_left; rfl; rfl; rfl) | (apply Run.semStop; apply RunSem.rangeStr T_ok) | (apply Run.semStop; apply RunSem.nextStr T_ok) | apply Run.condP | apply Sx.Ends.by () | constructor | intro _)
theorem to_iter (g : Gr) (cells l : List Int) (hl : cells.length = l.length) (hcl : cells.length < 4611686018427387904) (fo : FuncId) (q : Int → Int → Option Int) (bg b1 b2 b3 : Nat)
    (hf : ∀ x y, Sat Try.prog fo [iv x, iv y, ptrA bg] [gBox bg g] (isTS [iv ((q x y).getD 0), bv (q x y).isSome] [gBox bg g])) :
    Iter Try.prog 36 #[.pointer (some ⟨b1, 0, none⟩), .pointer (some ⟨b2, 0, none⟩), .pointer (some ⟨b3, 0, none⟩)] [.box b1 [DI cells], .box b2 [.v (.func (.func fo) #[] #[.pointer (some ⟨bg, 0, none⟩)])], .box b3 [DI l], gBox bg g] (fun x => [iv x]) (allP q cells l) := by
  intro fv J S0 hold h0 hy
  refine Sat.of T_ok Try.func36 Try.call36 rfl rfl rfl ?_
  repeat' (first | assumption | exact fun h : ¬ True => absurd trivial h | exact fun h : False => h.elim | exact sd (by first | omega | (simp only []; omega) | (simp only [List.length_append, List.length_cons, List.length_nil, List.length_take, List.length_drop, List.length_map, List.length_range]; omega)) | exact sp (fun h => by simp [PathHolds] at h; omega) | exact sd rfl | exact sd ⟨rfl, by decide⟩ | exact sd trivial | (apply Run.nilStop rfl; apply RunSem.eqNil T_ok) | refine Run.storeStop rfl ?_ | (apply Run.mapStop; apply RunSem.mapSet T_ok) | (apply Run.newMapStop; apply RunSem.newMap T_ok) | (apply Run.sliceStop; apply RunSem.litI T_ok; rotate_left; rfl; rfl; rfl) | (apply AList.sliceStop; apply AListSem.litI T_ok; rotate_left; rfl; rfl; rfl) | (apply Run.semStop; apply RunSem.rangeStr T_ok) | (apply Run.semStop; apply RunSem.nextStr T_ok) | apply Run.condP | apply Sx.Ends.by () | (apply Run.drawStop; apply RunSem.drawW (id := 3) T_ok mix [(.fl, 0), (.fl, 1), (.fl, 2), (.fl, 3), (.fl, 4), (.fl, 5), (.mn, 6), (.fl, 7), (.fl, 8), (.fl, 9), (.mn, 10), (.mn, 11)] [] (by kernel_rfl) (by rfl)) | (apply MJ.none T_ok) | (apply MJ.some T_ok) | (apply DSem.nilW T_ok) | (apply DSem.flI T_ok; rfl; rotate_left; rfl; rfl; rfl) | (apply DSem.flW T_ok; rfl; rfl) | (apply DSem.flG T_ok; rfl; rfl) | (apply DSem.mnW T_ok; rfl) | (apply DSem.alW T_ok) | (apply FlW.q; rfl; rfl) | (apply FlW.g; rfl; rfl) | (apply FlW.l; rfl; rotate_left; rfl; rfl; rfl; rfl) | constructor | intro _)
  refine RunSem.loopK T_ok [0, 1, 2, 3, 9, 10] (fun x : Nat × Sto => [(11, [], iv x.1)]) (fun x => [.box b1 [DI cells], .box b2 [.v (.func (.func fo) #[] #[.pointer (some ⟨bg, 0, none⟩)])], .box b3 [DI l], gBox bg g] ++ x.2) (fun x => x.1 ≤ cells.length ∧ ∃ pre, allP q cells l = pre ++ allP q (cells.drop x.1) (l.drop x.1) ∧ J pre x.2) (fun x => cells.length - x.1) (0, S0) ⟨by simp, [], by simp, h0⟩ (by repeat' constructor) (by repeat' constructor) (by repeat' constructor) ?_
  dsimp only [List.cons_append, List.nil_append]
  rintro ⟨k, S⟩ ⟨hk, pre, hpre, hJ⟩
  simp only [List.append_nil] at hk hpre hJ ⊢
  repeat' (first | assumption | exact fun h : ¬ True => absurd trivial h | exact fun h : False => h.elim | exact sd (by first | omega | (simp only []; omega) | (simp only [List.length_append, List.length_cons, List.length_nil, List.length_take, List.length_drop, List.length_map, List.length_range]; omega)) | exact sp (fun h => by simp [PathHolds] at h; omega) | exact sd rfl | exact sd ⟨rfl, by decide⟩ | exact sd trivial | exact Bin.x rfl | (apply Run.nilStop rfl; apply RunSem.eqNil T_ok) | refine Run.storeStop rfl ?_ | (apply Run.mapStop; apply RunSem.mapSet T_ok) | (apply Run.newMapStop; apply RunSem.newMap T_ok) | (apply Run.sliceStop; apply RunSem.litI T_ok; rotate_left; rfl; rfl; rfl) | (apply AList.sliceStop; apply AListSem.litI T_ok; rotate_left; rfl; rfl; rfl) | (apply Run.semStop; apply RunSem.rangeStr T_ok) | (apply Run.semStop; apply RunSem.nextStr T_ok) | apply Run.condP | apply Sx.Ends.by () | (apply Run.drawStop; apply RunSem.drawW (id := 3) T_ok mix [(.fl, 0), (.fl, 1), (.fl, 2), (.fl, 3), (.fl, 4), (.fl, 5), (.mn, 6), (.fl, 7), (.fl, 8), (.fl, 9), (.mn, 10), (.mn, 11)] [] (by kernel_rfl) (by rfl)) | (apply MJ.none T_ok) | (apply MJ.some T_ok) | (apply DSem.nilW T_ok) | (apply DSem.flI T_ok; rfl; rotate_left; rfl; rfl; rfl) | (apply DSem.flW T_ok; rfl; rfl) | (apply DSem.flG T_ok; rfl; rfl) | (apply DSem.mnW T_ok; rfl) | (apply DSem.alW T_ok) | (apply FlW.q; rfl; rfl) | (apply FlW.g; rfl; rfl) | (apply FlW.l; rfl; rotate_left; rfl; rfl; rfl; rfl) | constructor | intro _)
  · rename_i hlt
    have hlt' : k < cells.length := by omega
    have hat := allP_at (q := q) hl hlt'
    apply RunSem.call T_ok (hf (cells.getD k 0) (l.getD k 0))
    all_goals repeat' (first | assumption | exact fun h : ¬ True => absurd trivial h | exact fun h : False => h.elim | exact sd (by first | omega | (simp only []; omega) | (simp only [List.length_append, List.length_cons, List.length_nil, List.length_take, List.length_drop, List.length_map, List.length_range]; omega)) | exact sp (fun h => by simp [PathHolds] at h; omega) | exact sd rfl | exact sd ⟨rfl, by decide⟩ | exact sd trivial | exact Bin.x rfl | (apply Run.nilStop rfl; apply RunSem.eqNil T_ok) | refine Run.storeStop rfl ?_ | (apply Run.mapStop; apply RunSem.mapSet T_ok) | (apply Run.newMapStop; apply RunSem.newMap T_ok) | (apply Run.sliceStop; apply RunSem.litI T_ok; rotate_left; rfl; rfl; rfl) | (apply AList.sliceStop; apply AListSem.litI T_ok; rotate_left; rfl; rfl; rfl) | (apply Run.semStop; apply RunSem.rangeStr T_ok) | (apply Run.semStop; apply RunSem.nextStr T_ok) | apply Run.condP | apply Sx.Ends.by () | (apply Run.drawStop; apply RunSem.drawW (id := 3) T_ok mix [(.fl, 0), (.fl, 1), (.fl, 2), (.fl, 3), (.fl, 4), (.fl, 5), (.mn, 6), (.fl, 7), (.fl, 8), (.fl, 9), (.mn, 10), (.mn, 11)] [] (by kernel_rfl) (by rfl)) | (apply MJ.none T_ok) | (apply MJ.some T_ok) | (apply DSem.nilW T_ok) | (apply DSem.flI T_ok; rfl; rotate_left; rfl; rfl; rfl) | (apply DSem.flW T_ok; rfl; rfl) | (apply DSem.flG T_ok; rfl; rfl) | (apply DSem.mnW T_ok; rfl) | (apply DSem.alW T_ok) | (apply FlW.q; rfl; rfl) | (apply FlW.g; rfl; rfl) | (apply FlW.l; rfl; rotate_left; rfl; rfl; rfl; rfl) | constructor | intro _)
    have hold1 := hold _ _ hJ
    apply RunSem.yieldG T_ok (fv := fv) (args := [iv ((q (cells.getD k 0) (l.getD k 0)).getD 0)]) (stoF := S) (J := J (pre ++ [(q (cells.getD k 0) (l.getD k 0)).getD 0]))
    all_goals repeat' (first | assumption | exact fun h : ¬ True => absurd trivial h | exact fun h : False => h.elim | exact sd (by first | omega | (simp only []; omega) | (simp only [List.length_append, List.length_cons, List.length_nil, List.length_take, List.length_drop, List.length_map, List.length_range]; omega)) | exact sp (fun h => by simp [PathHolds] at h; omega) | exact sd rfl | exact sd ⟨rfl, by decide⟩ | exact sd trivial | exact Bin.x rfl | (apply Run.nilStop rfl; apply RunSem.eqNil T_ok) | refine Run.storeStop rfl ?_ | (apply Run.mapStop; apply RunSem.mapSet T_ok) | (apply Run.newMapStop; apply RunSem.newMap T_ok) | (apply Run.sliceStop; apply RunSem.litI T_ok; rotate_left; rfl; rfl; rfl) | (apply AList.sliceStop; apply AListSem.litI T_ok; rotate_left; rfl; rfl; rfl) | (apply Run.semStop; apply RunSem.rangeStr T_ok) | (apply Run.semStop; apply RunSem.nextStr T_ok) | apply Run.condP | apply Sx.Ends.by () | (apply Run.drawStop; apply RunSem.drawW (id := 3) T_ok mix [(.fl, 0), (.fl, 1), (.fl, 2), (.fl, 3), (.fl, 4), (.fl, 5), (.mn, 6), (.fl, 7), (.fl, 8), (.fl, 9), (.mn, 10), (.mn, 11)] [] (by kernel_rfl) (by rfl)) | (apply MJ.none T_ok) | (apply MJ.some T_ok) | (apply DSem.nilW T_ok) | (apply DSem.flI T_ok; rfl; rotate_left; rfl; rfl; rfl) | (apply DSem.flW T_ok; rfl; rfl) | (apply DSem.flG T_ok; rfl; rfl) | (apply DSem.mnW T_ok; rfl) | (apply DSem.alW T_ok) | (apply FlW.q; rfl; rfl) | (apply FlW.g; rfl; rfl) | (apply FlW.l; rfl; rotate_left; rfl; rfl; rfl; rfl) | constructor | intro _)
    · rename_i hq
      cases hqq : q (cells.getD k 0) (l.getD k 0) with
      | none => rw [hqq] at hq; simp [PathHolds] at hq
      | some z =>
        refine hy _ _ S ?_ hJ
        rw [hqq] at hat
        rw [hpre, hat]
        exact ⟨_, rfl⟩
    · rename_i hq hJ2 hx
      exfalso
      rcases hx with hx | hx
      · cases hqq : q (cells.getD k 0) (l.getD k 0) with
        | none => rw [hqq] at hq; simp [PathHolds] at hq
        | some z => rw [hqq] at hx; exact hx rfl
      · exact hx
    · rename_i s hq hJ2 hx
      cases hqq : q (cells.getD k 0) (l.getD k 0) with
      | none => rw [hqq] at hq; simp [PathHolds] at hq
      | some z =>
        rw [hqq] at hat hJ2
        apply AgainK.mk ((k + 1, s))
        case' h4 => (try simp only [List.append_nil]); repeat' constructor
        case' h3 => repeat' constructor
        case' h1 => first | omega | (dsimp only; omega)
        refine ⟨by simp only; omega, pre ++ [z], ?_, hJ2⟩
        rw [hpre, hat, List.append_assoc]
        rfl
    · rename_i hq hx
      cases hqq : q (cells.getD k 0) (l.getD k 0) with
      | none =>
        rw [hqq] at hat
        rw [hat, List.append_nil] at hpre
        rw [hpre]
        refine Sx.Ends.any (s := [.box b1 [DI cells], .box b2 [.v (.func (.func fo) #[] #[.pointer (some ⟨bg, 0, none⟩)])], .box b3 [DI l], gBox bg g] ++ S) rfl .nil .nil ?_ ⟨rfl, S, hJ, rfl⟩
        repeat' constructor
      | some z => rw [hqq] at hq; exact absurd trivial (fun _ => hq ⟨rfl, trivial⟩)
    · rename_i hq hx
      exfalso
      cases hqq : q (cells.getD k 0) (l.getD k 0) with
      | none => rw [hqq] at hx; exact hx (.inl (by simp))
      | some z => rw [hqq] at hq; exact hq ⟨rfl, trivial⟩
  · rename_i hge
    have hke : k = cells.length := by omega
    subst hke
    have h0 : allP q (cells.drop cells.length) (l.drop cells.length) = [] := by rw [List.drop_length]; unfold allP; rfl
    rw [h0, List.append_nil] at hpre
    rw [hpre]
    exact Sx.Ends.any rfl .nil .nil (.same _) ⟨rfl, S, hJ, rfl⟩
end Go.Proofs.Ytngjjedlpjbdoaa
