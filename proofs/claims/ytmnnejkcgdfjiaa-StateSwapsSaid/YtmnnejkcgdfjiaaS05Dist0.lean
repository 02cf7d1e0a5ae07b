import Derived.Test.YtmnnejkcgdfjiaaS05Grid2
import Derived.Test.YtmnnejkcgdfjiaaS05Ints
import Derived.Test.YtmnnejkcgdfjiaaSxUDist
set_option linter.all false
set_option maxHeartbeats 4000000
set_option maxRecDepth 100000
set_option linter.all false
namespace Go.Proofs.Ytmnnejkcgdfjiaa
open Go.Sx
attribute [local irreducible] RunSem AListSem AgainK Again Side Sx.Ends IntKind.wrap SatV AgainR DSem MJ
attribute [local irreducible] floorB goesB rightG arrow isLetter
theorem set_ok (l : List Int) (hl : l.length < 4611686018427387904) : Sat Try.prog 49 [DI l] [] (Gives (ι := Nat) (fun r => .v (.map (some r))) (fun r => [.mp r true (kInt .i64) false 1 encBo (setG l)]) (fun _ => True)) := by
  refine Sat.of T_ok Try.func49 Try.call49 rfl rfl rfl ?_
  repeat' (first | assumption | exact fun h : ¬ True => absurd trivial h | exact fun h : False => h.elim | exact sd (by first | omega | (simp only []; omega) | (simp only [List.length_append, List.length_cons, List.length_nil, List.length_take, List.length_drop, List.length_map, List.length_range, List.length_set]; omega)) | exact sp (fun h => by simp [PathHolds] at h; omega) | exact sp (fun h => by simp [PathHolds, -List.getD_eq_getElem?_getD] at h; omega) | exact sd rfl | exact sd ⟨rfl, by decide⟩ | exact sd trivial | (show Nat.beq _ _ = true; rfl) | exact Bin.x rfl | (apply Run.nilStop rfl; apply RunSem.eqNil T_ok) | refine Run.storeStop rfl ?_ | (apply Run.mapStop; apply RunSem.mapSet T_ok) | (apply Run.newMapStop; apply RunSem.newMap T_ok) | (apply Run.sliceStop; apply RunSem.litI T_ok; rotate_left; rfl; rfl; rfl) | (apply AList.sliceStop; apply AListSem.litI T_ok; rotate_left; rfl; rfl; rfl) | (apply Run.semStop; apply RunSem.rangeStr T_ok) | (apply Run.semStop; apply RunSem.nextStr T_ok) | apply Run.condP | apply Sx.Ends.by () | constructor | intro _)
  rename_i r
  refine RunSem.loopK T_ok [0, 3, 7, 8] (fun k : Nat => [(9, [], iv k)]) (fun k => [.mp r true (kInt .i64) false 1 encBo (setG (l.take k))]) (fun k => k ≤ l.length) (fun k => l.length - k) 0 (by omega) (by repeat' constructor) (by repeat' first | assumption | exact tab_age _ _ _ | constructor) (by repeat' first | assumption | exact tab_age _ _ _ | constructor) ?_
  dsimp only [List.cons_append, List.nil_append]
  intro k hk
  repeat' (first | assumption | exact fun h : ¬ True => absurd trivial h | exact fun h : False => h.elim | exact sd (by first | omega | (simp only []; omega) | (simp only [List.length_append, List.length_cons, List.length_nil, List.length_take, List.length_drop, List.length_map, List.length_range, List.length_set]; omega)) | exact sp (fun h => by simp [PathHolds] at h; omega) | exact sp (fun h => by simp [PathHolds, -List.getD_eq_getElem?_getD] at h; omega) | exact sd rfl | exact sd ⟨rfl, by decide⟩ | exact sd trivial | (show Nat.beq _ _ = true; rfl) | exact Bin.x rfl | (apply Run.nilStop rfl; apply RunSem.eqNil T_ok) | refine Run.storeStop rfl ?_ | (apply Run.mapStop; apply RunSem.mapSet T_ok) | (apply Run.newMapStop; apply RunSem.newMap T_ok) | (apply Run.sliceStop; apply RunSem.litI T_ok; rotate_left; rfl; rfl; rfl) | (apply AList.sliceStop; apply AListSem.litI T_ok; rotate_left; rfl; rfl; rfl) | (apply Run.semStop; apply RunSem.rangeStr T_ok) | (apply Run.semStop; apply RunSem.nextStr T_ok) | apply Run.condP | apply Sx.Ends.by () | constructor | intro _)
  · rename_i hlt
    have hlt' : k < l.length := by omega
    apply AgainK.mk (k + 1)
    case' h4 => (try simp only [List.append_nil]); repeat' (first | exact tab_age _ _ _ | constructor)
    case' h3 => repeat' constructor
    case' h1 => first | omega | (dsimp only; omega)
    · rw [List.take_add_one, List.getElem?_eq_getElem hlt', Option.toList_some, setG_snoc]
      simp [List.getD, hlt']
    · omega
  · rename_i hge
    obtain rfl : k = l.length := by omega
    apply Sx.Ends.by (r)
    all_goals repeat' (first | assumption | exact fun h : ¬ True => absurd trivial h | exact fun h : False => h.elim | exact sd (by first | omega | (simp only []; omega) | (simp only [List.length_append, List.length_cons, List.length_nil, List.length_take, List.length_drop, List.length_map, List.length_range, List.length_set]; omega)) | exact sp (fun h => by simp [PathHolds] at h; omega) | exact sp (fun h => by simp [PathHolds, -List.getD_eq_getElem?_getD] at h; omega) | exact sd rfl | exact sd ⟨rfl, by decide⟩ | exact sd trivial | (show Nat.beq _ _ = true; rfl) | exact Bin.x rfl | (apply Run.nilStop rfl; apply RunSem.eqNil T_ok) | refine Run.storeStop rfl ?_ | (apply Run.mapStop; apply RunSem.mapSet T_ok) | (apply Run.newMapStop; apply RunSem.newMap T_ok) | (apply Run.sliceStop; apply RunSem.litI T_ok; rotate_left; rfl; rfl; rfl) | (apply AList.sliceStop; apply AListSem.litI T_ok; rotate_left; rfl; rfl; rfl) | (apply Run.semStop; apply RunSem.rangeStr T_ok) | (apply Run.semStop; apply RunSem.nextStr T_ok) | apply Run.condP | apply Sx.Ends.by () | constructor | intro _)
    rw [List.take_length]
theorem into_ok (g : Gr) (c : Int) : Sat Try.prog 50 [gA g, iv c] [] (Gives (ι := Nat × Nat) (fun b => .v (.func (.func 53) #[] #[.pointer (some ⟨b.1, 0, none⟩), .pointer (some ⟨b.2, 0, none⟩)])) (fun b => [.box b.1 [iv c], .box b.2 [iv g.W, iv g.H, .v (.string g.C)]]) (fun _ => True)) := by
  refine Sat.of T_ok Try.func50 Try.call50 rfl rfl rfl ?_
  repeat' (first | assumption | exact fun h : ¬ True => absurd trivial h | exact fun h : False => h.elim | exact sd (by first | omega | (simp only []; omega) | (simp only [List.length_append, List.length_cons, List.length_nil, List.length_take, List.length_drop, List.length_map, List.length_range, List.length_set]; omega)) | exact sp (fun h => by simp [PathHolds] at h; omega) | exact sp (fun h => by simp [PathHolds, -List.getD_eq_getElem?_getD] at h; omega) | exact sd rfl | exact sd ⟨rfl, by decide⟩ | exact sd trivial | (show Nat.beq _ _ = true; rfl) | exact Bin.x rfl | (apply Run.nilStop rfl; apply RunSem.eqNil T_ok) | refine Run.storeStop rfl ?_ | (apply Run.mapStop; apply RunSem.mapSet T_ok) | (apply Run.newMapStop; apply RunSem.newMap T_ok) | (apply Run.sliceStop; apply RunSem.litI T_ok; rotate_left; rfl; rfl; rfl) | (apply AList.sliceStop; apply AListSem.litI T_ok; rotate_left; rfl; rfl; rfl) | (apply Run.semStop; apply RunSem.rangeStr T_ok) | (apply Run.semStop; apply RunSem.nextStr T_ok) | apply Run.condP | apply Sx.Ends.by () | constructor | intro _)
  rename_i b1 b2
  apply Sx.Ends.by ((b2, b1))
  all_goals repeat' (first | assumption | exact fun h : ¬ True => absurd trivial h | exact fun h : False => h.elim | exact sd (by first | omega | (simp only []; omega) | (simp only [List.length_append, List.length_cons, List.length_nil, List.length_take, List.length_drop, List.length_map, List.length_range, List.length_set]; omega)) | exact sp (fun h => by simp [PathHolds] at h; omega) | exact sp (fun h => by simp [PathHolds, -List.getD_eq_getElem?_getD] at h; omega) | exact sd rfl | exact sd ⟨rfl, by decide⟩ | exact sd trivial | (show Nat.beq _ _ = true; rfl) | exact Bin.x rfl | (apply Run.nilStop rfl; apply RunSem.eqNil T_ok) | refine Run.storeStop rfl ?_ | (apply Run.mapStop; apply RunSem.mapSet T_ok) | (apply Run.newMapStop; apply RunSem.newMap T_ok) | (apply Run.sliceStop; apply RunSem.litI T_ok; rotate_left; rfl; rfl; rfl) | (apply AList.sliceStop; apply AListSem.litI T_ok; rotate_left; rfl; rfl; rfl) | (apply Run.semStop; apply RunSem.rangeStr T_ok) | (apply Run.semStop; apply RunSem.nextStr T_ok) | apply Run.condP | apply Sx.Ends.by () | constructor | intro _)
theorem into_iter (g : Gr) (hg : GrOk g) (c : Int) (hc : 0 ≤ c ∧ c < g.C.size) (b1 b2 : Nat) : Iter Try.prog 53 #[.pointer (some ⟨b1, 0, none⟩), .pointer (some ⟨b2, 0, none⟩)] [.box b1 [iv c], .box b2 [iv g.W, iv g.H, .v (.string g.C)]] (fun x => [iv x]) (intoL g c) := by
  intro fv J S0 hold h0 hy
  have hsz := hg.size
  have hw2 := hg.w
  refine Sat.of T_ok Try.func53 Try.call53 rfl rfl rfl ?_
  repeat' (first | assumption | exact fun h : ¬ True => absurd trivial h | exact fun h : False => h.elim | exact sd (by first | omega | (simp only []; omega) | (simp only [List.length_append, List.length_cons, List.length_nil, List.length_take, List.length_drop, List.length_map, List.length_range, List.length_set]; omega)) | exact sp (fun h => by simp [PathHolds] at h; omega) | exact sp (fun h => by simp [PathHolds, -List.getD_eq_getElem?_getD] at h; omega) | exact sd rfl | exact sd ⟨rfl, by decide⟩ | exact sd trivial | (show Nat.beq _ _ = true; rfl) | exact Bin.x rfl | (apply Run.nilStop rfl; apply RunSem.eqNil T_ok) | refine Run.storeStop rfl ?_ | (apply Run.mapStop; apply RunSem.mapSet T_ok) | (apply Run.newMapStop; apply RunSem.newMap T_ok) | (apply Run.sliceStop; apply RunSem.litI T_ok; rotate_left; rfl; rfl; rfl) | (apply AList.sliceStop; apply AListSem.litI T_ok; rotate_left; rfl; rfl; rfl) | (apply Run.semStop; apply RunSem.rangeStr T_ok) | (apply Run.semStop; apply RunSem.nextStr T_ok) | apply Run.condP | apply Sx.Ends.by () | constructor | intro _)
  refine RunSem.loopK T_ok [0, 1, 2] (fun x : Nat × Sto => [(4, [], iv (x.1 + 1))]) (fun x => [.box b1 [iv c], .box b2 [iv g.W, iv g.H, .v (.string g.C)]] ++ x.2) (fun x => x.1 ≤ 4 ∧ J (intoK g c (4 * x.1)) x.2) (fun x => 4 - x.1) (0, S0) ⟨by simp, h0⟩ (by repeat' constructor) (by repeat' first | assumption | exact tab_age _ _ _ | constructor) (by repeat' first | assumption | exact tab_age _ _ _ | constructor) ?_
  dsimp only [List.cons_append, List.nil_append]
  rintro ⟨k, S⟩ ⟨hk, hJ⟩
  simp only [List.append_nil] at hk hJ ⊢
  repeat' (first | assumption | exact fun h : ¬ True => absurd trivial h | exact fun h : False => h.elim | exact sd (by first | omega | (simp only []; omega) | (simp only [List.length_append, List.length_cons, List.length_nil, List.length_take, List.length_drop, List.length_map, List.length_range, List.length_set]; omega)) | exact sp (fun h => by simp [PathHolds] at h; omega) | exact sp (fun h => by simp [PathHolds, -List.getD_eq_getElem?_getD] at h; omega) | exact sd rfl | exact sd ⟨rfl, by decide⟩ | exact sd trivial | (show Nat.beq _ _ = true; rfl) | exact Bin.x rfl | (apply Run.nilStop rfl; apply RunSem.eqNil T_ok) | refine Run.storeStop rfl ?_ | (apply Run.mapStop; apply RunSem.mapSet T_ok) | (apply Run.newMapStop; apply RunSem.newMap T_ok) | (apply Run.sliceStop; apply RunSem.litI T_ok; rotate_left; rfl; rfl; rfl) | (apply AList.sliceStop; apply AListSem.litI T_ok; rotate_left; rfl; rfl; rfl) | (apply Run.semStop; apply RunSem.rangeStr T_ok) | (apply Run.semStop; apply RunSem.nextStr T_ok) | apply Run.condP | apply Sx.Ends.by () | constructor | intro _)
  · rename_i hk4
    refine RunSem.loopK T_ok [0, 1, 2, 4, 25] (fun x : Nat × Sto => [(26, [], iv x.1)]) (fun x => [.box b1 [iv c], .box b2 [iv g.W, iv g.H, .v (.string g.C)]] ++ x.2) (fun x => x.1 ≤ 4 ∧ J (intoK g c (4 * k + x.1)) x.2) (fun x => 4 - x.1) (0, S) ⟨by simp, hJ⟩ (by repeat' constructor) (by repeat' first | assumption | exact tab_age _ _ _ | constructor) (by repeat' first | assumption | exact tab_age _ _ _ | constructor) ?_
    dsimp only [List.cons_append, List.nil_append]
    rintro ⟨i, S1⟩ ⟨hi, hJ1⟩
    simp only [List.append_nil] at hi hJ1 ⊢
    repeat' (first | assumption | exact fun h : ¬ True => absurd trivial h | exact fun h : False => h.elim | exact sd (by first | omega | (simp only []; omega) | (simp only [List.length_append, List.length_cons, List.length_nil, List.length_take, List.length_drop, List.length_map, List.length_range, List.length_set]; omega)) | exact sp (fun h => by simp [PathHolds] at h; omega) | exact sp (fun h => by simp [PathHolds, -List.getD_eq_getElem?_getD] at h; omega) | exact sd rfl | exact sd ⟨rfl, by decide⟩ | exact sd trivial | (show Nat.beq _ _ = true; rfl) | exact Bin.x rfl | (apply Run.nilStop rfl; apply RunSem.eqNil T_ok) | refine Run.storeStop rfl ?_ | (apply Run.mapStop; apply RunSem.mapSet T_ok) | (apply Run.newMapStop; apply RunSem.newMap T_ok) | (apply Run.sliceStop; apply RunSem.litI T_ok; rotate_left; rfl; rfl; rfl) | (apply AList.sliceStop; apply AListSem.litI T_ok; rotate_left; rfl; rfl; rfl) | (apply Run.semStop; apply RunSem.rangeStr T_ok) | (apply Run.semStop; apply RunSem.nextStr T_ok) | apply Run.condP | apply Sx.Ends.by () | constructor | intro _)
    · rename_i hi4
      have hk4' : k < 4 := by omega
      have hi4' : i < 4 := by omega
      have hcand := candL_get g c k i hk4' hi4'
      have hsucc := intoK_succ hcand
      apply RunSem.lend T_ok (Goes_ok g hg (([c - g.W, c - 1, c + 1, c + g.W] : List Int).getD (i : Int).toNat 0) ((k : Int) + 1)) (fun _ => ⟨rfl, rfl⟩)
      all_goals repeat' (first | assumption | exact fun h : ¬ True => absurd trivial h | exact fun h : False => h.elim | exact sd (by first | omega | (simp only []; omega) | (simp only [List.length_append, List.length_cons, List.length_nil, List.length_take, List.length_drop, List.length_map, List.length_range, List.length_set]; omega)) | exact sp (fun h => by simp [PathHolds] at h; omega) | exact sp (fun h => by simp [PathHolds, -List.getD_eq_getElem?_getD] at h; omega) | exact sd rfl | exact sd ⟨rfl, by decide⟩ | exact sd trivial | (show Nat.beq _ _ = true; rfl) | exact Bin.x rfl | (apply Run.nilStop rfl; apply RunSem.eqNil T_ok) | refine Run.storeStop rfl ?_ | (apply Run.mapStop; apply RunSem.mapSet T_ok) | (apply Run.newMapStop; apply RunSem.newMap T_ok) | (apply Run.sliceStop; apply RunSem.litI T_ok; rotate_left; rfl; rfl; rfl) | (apply AList.sliceStop; apply AListSem.litI T_ok; rotate_left; rfl; rfl; rfl) | (apply Run.semStop; apply RunSem.rangeStr T_ok) | (apply Run.semStop; apply RunSem.nextStr T_ok) | apply Run.condP | apply Sx.Ends.by () | constructor | intro _)
      have hold1 := hold _ _ hJ1
      apply RunSem.yieldG T_ok (fv := fv) (args := [iv (([c - g.W, c - 1, c + 1, c + g.W] : List Int).getD (i : Int).toNat 0)]) (stoF := S1) (J := J (intoK g c (4 * k + i) ++ [([c - g.W, c - 1, c + 1, c + g.W] : List Int).getD i 0]))
      all_goals repeat' (first | assumption | exact fun h : ¬ True => absurd trivial h | exact fun h : False => h.elim | exact sd (by first | omega | (simp only []; omega) | (simp only [List.length_append, List.length_cons, List.length_nil, List.length_take, List.length_drop, List.length_map, List.length_range, List.length_set]; omega)) | exact sp (fun h => by simp [PathHolds] at h; omega) | exact sp (fun h => by simp [PathHolds, -List.getD_eq_getElem?_getD] at h; omega) | exact sd rfl | exact sd ⟨rfl, by decide⟩ | exact sd trivial | (show Nat.beq _ _ = true; rfl) | exact Bin.x rfl | (apply Run.nilStop rfl; apply RunSem.eqNil T_ok) | refine Run.storeStop rfl ?_ | (apply Run.mapStop; apply RunSem.mapSet T_ok) | (apply Run.newMapStop; apply RunSem.newMap T_ok) | (apply Run.sliceStop; apply RunSem.litI T_ok; rotate_left; rfl; rfl; rfl) | (apply AList.sliceStop; apply AListSem.litI T_ok; rotate_left; rfl; rfl; rfl) | (apply Run.semStop; apply RunSem.rangeStr T_ok) | (apply Run.semStop; apply RunSem.nextStr T_ok) | apply Run.condP | apply Sx.Ends.by () | constructor | intro _)
      · rename_i hq
        have hg1 : goesTo g c ((k : Int) + 1, ([c - g.W, c - 1, c + 1, c + g.W] : List Int).getD i 0) = true := goesTo_yes (by simpa [PathHolds, -List.getD_eq_getElem?_getD] using hq)
        refine hy _ _ S1 ?_ hJ1
        obtain ⟨r, hr⟩ := intoK_pre (g := g) (c := c) (n := 4 * k + i + 1) (by omega)
        exact ⟨r, by rw [hr, hsucc, if_pos hg1]; simp⟩
      · rename_i h
        exact absurd h.2 id
      · rename_i s hq hJ2 hx
        have hg1 : goesTo g c ((k : Int) + 1, ([c - g.W, c - 1, c + 1, c + g.W] : List Int).getD i 0) = true := goesTo_yes (by simpa [PathHolds, -List.getD_eq_getElem?_getD] using hq)
        apply AgainK.mk ((i + 1, s))
        case' h4 => (try simp only [List.append_nil]); repeat' (first | exact tab_age _ _ _ | constructor)
        case' h3 => repeat' constructor
        case' h1 => first | omega | (dsimp only; omega)
        refine ⟨by simp only; omega, ?_⟩
        show J (intoK g c (4 * k + i + 1)) s
        rw [hsucc, if_pos hg1]
        exact hJ2
      · rename_i h
        exact absurd h.2 id
      · rename_i hq hx
        have hg1 : ¬ goesTo g c ((k : Int) + 1, ([c - g.W, c - 1, c + 1, c + g.W] : List Int).getD i 0) = true := fun h => hq (by simpa [PathHolds, -List.getD_eq_getElem?_getD] using goesTo_is h)
        apply AgainK.mk ((i + 1, S1))
        case' h4 => (try simp only [List.append_nil]); repeat' (first | exact tab_age _ _ _ | constructor)
        case' h3 => repeat' constructor
        case' h1 => first | omega | (dsimp only; omega)
        refine ⟨by simp only; omega, ?_⟩
        show J (intoK g c (4 * k + i + 1)) S1
        rw [hsucc, if_neg hg1]
        exact hJ1
    · rename_i hi4
      obtain rfl : i = 4 := by omega
      apply AgainK.mk ((k + 1, S1))
      case' h4 => (try simp only [List.append_nil]); repeat' (first | exact tab_age _ _ _ | constructor)
      case' h3 => repeat' constructor
      case' h1 => first | omega | (dsimp only; omega)
      refine ⟨by simp only; omega, ?_⟩
      show J (intoK g c (4 * k + 4)) S1
      exact hJ1
  · rename_i hk4
    obtain rfl : k = 4 := by omega
    exact Sx.Ends.any rfl .nil .nil (.same _) ⟨rfl, S, hJ, rfl⟩
end Go.Proofs.Ytmnnejkcgdfjiaa
