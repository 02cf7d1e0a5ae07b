import Derived.Test.YtojfchnfhmccaaaS02Base
import Derived.Test.YtojfchnfhmccaaaSxUVarint
set_option linter.all false
set_option maxHeartbeats 4000000
set_option maxRecDepth 100000
set_option linter.all false
namespace Go.Proofs.Ytojfchnfhmccaaa
open Go.Sx
attribute [local irreducible] RunSem AListSem AgainK Again Side Sx.Ends IntKind.wrap SatV AgainR DSem MJ
attribute [local irreducible] takeB takeGo
theorem Same_ok (a b : List UInt8) (h : a.length < 4611686018427387904) : Sat Try.prog 9 [DB a, DB b] [] (isV (.bool (decide (a = b)))) := by
  refine Sat.of T_ok Try.func9 Try.call9 rfl rfl rfl ?_
  repeat' (first | assumption | exact fun h : ¬ True => absurd trivial h | exact fun h : False => h.elim | exact sd (by first | omega | (simp only []; omega) | (simp only [List.length_append, List.length_cons, List.length_nil, List.length_take, List.length_drop, List.length_map, List.length_range, List.length_set]; omega)) | exact sp (fun h => by simp [PathHolds] at h; omega) | exact sp (fun h => by simp [PathHolds, -List.getD_eq_getElem?_getD] at h; omega) | exact sd rfl | exact sd ⟨rfl, by decide⟩ | exact sd trivial | (show Nat.beq _ _ = true; rfl) | (apply Run.nilStop rfl; apply RunSem.eqNil T_ok) | refine Run.storeStop rfl ?_ | (apply Run.mapStop; apply RunSem.mapSet T_ok) | (apply Run.newMapStop; apply RunSem.newMap T_ok) | (apply Run.sliceStop; apply RunSem.litI T_ok; rotate_left; rfl; rfl; rfl) | (apply AList.sliceStop; apply AListSem.litI T_ok; rotate_left; rfl; rfl; rfl) | (apply Run.semStop; apply RunSem.rangeStr T_ok) | (apply Run.semStop; apply RunSem.nextStr T_ok) | apply Run.condP | apply Sx.Ends.by () | (apply Run.drawStop; apply RunSem.drawW (id := 6) T_ok mix [(.fl, 0), (.fl, 1), (.fl, 2), (.fl, 3), (.fl, 4), (.fl, 5), (.fl, 6), (.fl, 7), (.fl, 8)] [] (by kernel_rfl) (by rfl)) | (apply MJ.none T_ok) | (apply MJ.some T_ok) | (apply DSem.nilW T_ok) | (apply DSem.flI T_ok; rfl; rotate_left; rfl; rfl; rfl) | (apply DSem.flW T_ok; rfl; rfl) | (apply DSem.flG T_ok; rfl; rfl) | (apply DSem.mnW T_ok; rfl) | (apply DSem.alW T_ok) | (apply FlW.q; rfl; rfl) | (apply FlW.g; rfl; rfl) | (apply FlW.l; rfl; rotate_left; rfl; rfl; rfl; rfl) | constructor | intro _)
  · rename_i hne
    have : a ≠ b := fun e => by subst e; omega
    simp [this]
  · rename_i heq
    have hl' : a.length = b.length := by omega
    refine RunSem.loopK T_ok [0, 1] (fun k : Nat => [(5, [], iv k)]) (fun _ => []) (fun k => k ≤ a.length ∧ ∀ i, i < k → a.getD i 0 = b.getD i 0) (fun k => a.length - k) 0 ⟨by omega, by simp⟩ (by repeat' constructor) (by repeat' first | assumption | exact tab_age _ _ _ | constructor) (by repeat' first | assumption | exact tab_age _ _ _ | constructor) ?_
    dsimp only [List.cons_append, List.nil_append]
    rintro k ⟨hk, hs⟩
    repeat' (first | assumption | exact fun h : ¬ True => absurd trivial h | exact fun h : False => h.elim | exact sd (by first | omega | (simp only []; omega) | (simp only [List.length_append, List.length_cons, List.length_nil, List.length_take, List.length_drop, List.length_map, List.length_range, List.length_set]; omega)) | exact sp (fun h => by simp [PathHolds] at h; omega) | exact sp (fun h => by simp [PathHolds, -List.getD_eq_getElem?_getD] at h; omega) | exact sd rfl | exact sd ⟨rfl, by decide⟩ | exact sd trivial | (show Nat.beq _ _ = true; rfl) | exact Bin.x rfl | (apply Run.nilStop rfl; apply RunSem.eqNil T_ok) | refine Run.storeStop rfl ?_ | (apply Run.mapStop; apply RunSem.mapSet T_ok) | (apply Run.newMapStop; apply RunSem.newMap T_ok) | (apply Run.sliceStop; apply RunSem.litI T_ok; rotate_left; rfl; rfl; rfl) | (apply AList.sliceStop; apply AListSem.litI T_ok; rotate_left; rfl; rfl; rfl) | (apply Run.semStop; apply RunSem.rangeStr T_ok) | (apply Run.semStop; apply RunSem.nextStr T_ok) | apply Run.condP | apply Sx.Ends.by () | (apply Run.drawStop; apply RunSem.drawW (id := 6) T_ok mix [(.fl, 0), (.fl, 1), (.fl, 2), (.fl, 3), (.fl, 4), (.fl, 5), (.fl, 6), (.fl, 7), (.fl, 8)] [] (by kernel_rfl) (by rfl)) | (apply MJ.none T_ok) | (apply MJ.some T_ok) | (apply DSem.nilW T_ok) | (apply DSem.flI T_ok; rfl; rotate_left; rfl; rfl; rfl) | (apply DSem.flW T_ok; rfl; rfl) | (apply DSem.flG T_ok; rfl; rfl) | (apply DSem.mnW T_ok; rfl) | (apply DSem.alW T_ok) | (apply FlW.q; rfl; rfl) | (apply FlW.g; rfl; rfl) | (apply FlW.l; rfl; rotate_left; rfl; rfl; rfl; rfl) | constructor | intro _)
    · rename_i hlt hne
      have : a ≠ b := fun e => by subst e; exact hne rfl
      simp [this]
    · rename_i hlt he
      apply AgainK.mk (k + 1)
      case' h4 => (try simp only [List.append_nil]); repeat' (first | exact tab_age _ _ _ | constructor)
      case' h3 => repeat' constructor
      case' h1 => first | omega | (dsimp only; omega)
      refine ⟨by omega, fun i hi => ?_⟩
      rcases Nat.lt_succ_iff_lt_or_eq.1 hi with h' | h'
      · exact hs i h'
      · subst h'; exact UInt8.toNat_inj.1 (by omega)
    · rename_i hge
      have : a = b := List.ext_getElem hl' (fun i h1 h2 => by have := hs i (by omega); simpa [List.getD, h1, h2] using this)
      simp [this]
def bytesAre (l : List UInt8) : AV → Sto → Prop := Gives (ι := Value) (fun v => .o v) (fun v => [.row v true 5 1 encB 0 l]) (fun _ => True)
theorem refPut_ok (n : Nat) (h : n < 18446744073709551616) : Sat Try.prog 19 [.v (.int .u64 (n : Int))] [] (bytesAre (putN n)) := by
  induction n using Nat.strongRecOn with
  | _ n ih =>
    have e1 : (n : Int).tmod 128 = ((n % 128 : Nat) : Int) := by rw [Int.tmod_eq_emod_of_nonneg (by omega)]; omega
    have e2 : (n : Int).tdiv 128 = ((n / 128 : Nat) : Int) := by rw [Int.tdiv_eq_ediv_of_nonneg (by omega)]; omega
    refine Sat.of T_ok Try.func19 Try.call19 rfl rfl rfl ?_
    repeat' (first | constructor | intro _)
    all_goals try (first | exact sd rfl | exact sd ⟨rfl, by decide⟩)
    · rename_i hn
      have hn' : n < 128 := by have : (n : Int) < 128 := by simpa using hn
                               omega
      apply RunSem.lit T_ok encB 0 [UInt8.ofNat n]
      all_goals repeat' (first | constructor | intro _)
      · simp [litL, encB, b8]
      · rename_i v
        rw [putN_lt hn']
        apply Sx.Ends.by (v)
        all_goals repeat' (first | assumption | exact fun h : ¬ True => absurd trivial h | exact fun h : False => h.elim | exact sd (by first | omega | (simp only []; omega) | (simp only [List.length_append, List.length_cons, List.length_nil, List.length_take, List.length_drop, List.length_map, List.length_range, List.length_set]; omega)) | exact sp (fun h => by simp [PathHolds] at h; omega) | exact sp (fun h => by simp [PathHolds, -List.getD_eq_getElem?_getD] at h; omega) | exact sd rfl | exact sd ⟨rfl, by decide⟩ | exact sd trivial | (show Nat.beq _ _ = true; rfl) | exact Bin.x rfl | (apply Run.nilStop rfl; apply RunSem.eqNil T_ok) | refine Run.storeStop rfl ?_ | (apply Run.mapStop; apply RunSem.mapSet T_ok) | (apply Run.newMapStop; apply RunSem.newMap T_ok) | (apply Run.semStop; apply RunSem.rangeStr T_ok) | (apply Run.semStop; apply RunSem.nextStr T_ok) | apply Run.condP | apply Sx.Ends.by () | constructor | intro _)
    · rename_i hn
      have hn' : 128 ≤ n := by have : ¬ (n : Int) < 128 := by simpa using hn
                               omega
      apply RunSem.lit T_ok encB 0 [UInt8.ofNat (n % 128 + 128)]
      all_goals repeat' (first | constructor | intro _)
      all_goals try (first | exact sd rfl | exact sd ⟨rfl, by decide⟩)
      · rw [e1, wu8 (x := ((n % 128 : Nat) : Int)) (by omega)]
        simp [litL, encB, IntKind.wrap_u8']
      · rw [e2, wu64 (by omega)]
        apply RunSem.call T_ok (ih (n / 128) (by omega) (by omega))
        all_goals repeat' (first | constructor | intro _)
        · have := putN_len (n / 128) (by omega)
          exact sd (by simp; omega)
        · rename_i v2
          rw [putN_ge hn']
          apply Sx.Ends.by (v2)
          all_goals repeat' (first | assumption | exact fun h : ¬ True => absurd trivial h | exact fun h : False => h.elim | exact sd (by first | omega | (simp only []; omega) | (simp only [List.length_append, List.length_cons, List.length_nil, List.length_take, List.length_drop, List.length_map, List.length_range, List.length_set]; omega)) | exact sp (fun h => by simp [PathHolds] at h; omega) | exact sp (fun h => by simp [PathHolds, -List.getD_eq_getElem?_getD] at h; omega) | exact sd rfl | exact sd ⟨rfl, by decide⟩ | exact sd trivial | (show Nat.beq _ _ = true; rfl) | exact Bin.x rfl | (apply Run.nilStop rfl; apply RunSem.eqNil T_ok) | refine Run.storeStop rfl ?_ | (apply Run.mapStop; apply RunSem.mapSet T_ok) | (apply Run.newMapStop; apply RunSem.newMap T_ok) | (apply Run.semStop; apply RunSem.rangeStr T_ok) | (apply Run.semStop; apply RunSem.nextStr T_ok) | apply Run.condP | apply Sx.Ends.by () | constructor | intro _)
theorem Put_ok (l : List Nat) (hl : ∀ x ∈ l, x < 18446744073709551616) (h : l.length < 1099511627776) : Sat Try.prog 17 [.d false 1 encU 0 l] [] (bytesAre (putL l)) := by
  have hg : ∀ k, l.getD k 0 < 18446744073709551616 := by
    intro k
    rcases Nat.lt_or_ge k l.length with h | h
    · rw [List.getD, List.getElem?_eq_getElem h]; exact hl _ (List.getElem_mem _)
    · rw [List.getD, List.getElem?_eq_none h]; decide
  refine Sat.of T_ok Try.func17 Try.call17 rfl rfl rfl ?_
  repeat' (first | assumption | exact fun h : ¬ True => absurd trivial h | exact fun h : False => h.elim | exact sd (by first | omega | (simp only []; omega) | (simp only [List.length_append, List.length_cons, List.length_nil, List.length_take, List.length_drop, List.length_map, List.length_range, List.length_set]; omega)) | exact sp (fun h => by simp [PathHolds] at h; omega) | exact sp (fun h => by simp [PathHolds, -List.getD_eq_getElem?_getD] at h; omega) | exact sd rfl | exact sd ⟨rfl, by decide⟩ | exact sd trivial | (show Nat.beq _ _ = true; rfl) | (apply Run.nilStop rfl; apply RunSem.eqNil T_ok) | refine Run.storeStop rfl ?_ | (apply Run.mapStop; apply RunSem.mapSet T_ok) | (apply Run.newMapStop; apply RunSem.newMap T_ok) | (apply Run.semStop; apply RunSem.rangeStr T_ok) | (apply Run.semStop; apply RunSem.nextStr T_ok) | apply Run.condP | apply Sx.Ends.by () | constructor | intro _)
  refine RunSem.loopK T_ok [6, 7] (fun x : Nat × Value => [(8, [], iv x.1), (3, [], .o x.2)]) (fun x => [.row x.2 true 5 1 encB 0 (putL (l.take x.1))]) (fun x => x.1 ≤ l.length) (fun x => l.length - x.1) (0, .slice none 0 0) (by simp) (by repeat' constructor) (by repeat' first | assumption | exact tab_age _ _ _ | constructor) (by repeat' first | assumption | exact tab_age _ _ _ | constructor) ?_
  dsimp only [List.cons_append, List.nil_append]
  rintro ⟨k, v⟩ hk
  simp only at hk ⊢
  have hb1 := putL_len (l.take k) (fun x hx => hl x (List.mem_of_mem_take hx))
  have hbase : (putL (l.take k)).length ≤ 10995116277760 := by simp at hb1; omega
  repeat' (first | assumption | exact fun h : ¬ True => absurd trivial h | exact fun h : False => h.elim | exact sd (by first | omega | (simp only []; omega) | (simp only [List.length_append, List.length_cons, List.length_nil, List.length_take, List.length_drop, List.length_map, List.length_range, List.length_set]; omega)) | exact sp (fun h => by simp [PathHolds] at h; omega) | exact sp (fun h => by simp [PathHolds, -List.getD_eq_getElem?_getD] at h; omega) | exact sd rfl | exact sd ⟨rfl, by decide⟩ | exact sd trivial | (show Nat.beq _ _ = true; rfl) | exact Bin.x rfl | (apply Run.nilStop rfl; apply RunSem.eqNil T_ok) | refine Run.storeStop rfl ?_ | (apply Run.mapStop; apply RunSem.mapSet T_ok) | (apply Run.newMapStop; apply RunSem.newMap T_ok) | (apply Run.semStop; apply RunSem.rangeStr T_ok) | (apply Run.semStop; apply RunSem.nextStr T_ok) | apply Run.condP | apply Sx.Ends.by () | constructor | intro _)
  · rename_i hlt
    have hlt' : k < l.length := by omega
    refine RunSem.loopK T_ok [6, 7, 8] (fun x : Nat × Value × List UInt8 => [(5, [], .v (.int .u64 (x.1 : Int))), (3, [], .o x.2.1)]) (fun x => [.row x.2.1 true 5 1 encB 0 x.2.2]) (fun x => x.1 < 18446744073709551616 ∧ x.2.2 ++ putN x.1 = putL (l.take k) ++ putN (l.getD k 0)) (fun x => x.1) (l.getD k 0, v, putL (l.take k)) ⟨hg k, rfl⟩ (by repeat' constructor) (by repeat' first | assumption | exact tab_age _ _ _ | constructor) (by repeat' first | assumption | exact tab_age _ _ _ | constructor) ?_
    dsimp only [List.cons_append, List.nil_append]
    rintro ⟨n, v', dn⟩ ⟨hx, hdn⟩
    simp only at hx hdn ⊢
    have hlen := putN_len (l.getD k 0) (hg k)
    have hlen2 := congrArg List.length hdn
    simp only [List.length_append] at hlen2
    repeat' (first | assumption | exact fun h : ¬ True => absurd trivial h | exact fun h : False => h.elim | exact sd (by first | omega | (simp only []; omega) | (simp only [List.length_append, List.length_cons, List.length_nil, List.length_take, List.length_drop, List.length_map, List.length_range, List.length_set]; omega)) | exact sp (fun h => by simp [PathHolds] at h; omega) | exact sp (fun h => by simp [PathHolds, -List.getD_eq_getElem?_getD] at h; omega) | exact sd rfl | exact sd ⟨rfl, by decide⟩ | exact sd trivial | (show Nat.beq _ _ = true; rfl) | exact Bin.x rfl | (apply Run.nilStop rfl; apply RunSem.eqNil T_ok) | refine Run.storeStop rfl ?_ | (apply Run.mapStop; apply RunSem.mapSet T_ok) | (apply Run.newMapStop; apply RunSem.newMap T_ok) | (apply Run.semStop; apply RunSem.rangeStr T_ok) | (apply Run.semStop; apply RunSem.nextStr T_ok) | apply Run.condP | apply Sx.Ends.by () | constructor | intro _)
    · rename_i hge
      have hge' : 128 ≤ n := by omega
      apply RunSem.lit T_ok encB 0 [UInt8.ofNat (n % 128 + 128)]
      all_goals repeat' (first | assumption | exact fun h : ¬ True => absurd trivial h | exact fun h : False => h.elim | exact sd (by first | omega | (simp only []; omega) | (simp only [List.length_append, List.length_cons, List.length_nil, List.length_take, List.length_drop, List.length_map, List.length_range, List.length_set]; omega)) | exact sp (fun h => by simp [PathHolds] at h; omega) | exact sp (fun h => by simp [PathHolds, -List.getD_eq_getElem?_getD] at h; omega) | exact sd rfl | exact sd ⟨rfl, by decide⟩ | exact sd trivial | (show Nat.beq _ _ = true; rfl) | exact Bin.x rfl | (apply Run.nilStop rfl; apply RunSem.eqNil T_ok) | refine Run.storeStop rfl ?_ | (apply Run.mapStop; apply RunSem.mapSet T_ok) | (apply Run.newMapStop; apply RunSem.newMap T_ok) | (apply Run.semStop; apply RunSem.rangeStr T_ok) | (apply Run.semStop; apply RunSem.nextStr T_ok) | apply Run.condP | apply Sx.Ends.by () | constructor | intro _)
      · rw [u8w n, show (128 : Int) = ((128 : Nat) : Int) from rfl, or8 _ _ (by omega) (by omega), or128 _ (by omega)]
        simp [litL, encB]
        omega
      rename_i v2 v3
      apply AgainK.mk ((n / 128, v3, dn ++ [UInt8.ofNat (n % 128 + 128)]))
      case' h4 => (try simp only [List.append_nil]); repeat' (first | exact tab_age _ _ _ | constructor)
      case' h3 => repeat' constructor
      case' h1 => first | omega | (dsimp only; omega)
      · exact congrArg (fun x => Value.int IntKind.u64 x) (fdivN n 128)
      · exact ⟨by simp only; omega, by simp only; rw [← hdn, putN_ge hge']; simp⟩
    · rename_i hge
      have hge' : n < 128 := by omega
      apply RunSem.lit T_ok encB 0 [UInt8.ofNat n]
      all_goals repeat' (first | assumption | exact fun h : ¬ True => absurd trivial h | exact fun h : False => h.elim | exact sd (by first | omega | (simp only []; omega) | (simp only [List.length_append, List.length_cons, List.length_nil, List.length_take, List.length_drop, List.length_map, List.length_range, List.length_set]; omega)) | exact sp (fun h => by simp [PathHolds] at h; omega) | exact sp (fun h => by simp [PathHolds, -List.getD_eq_getElem?_getD] at h; omega) | exact sd rfl | exact sd ⟨rfl, by decide⟩ | exact sd trivial | (show Nat.beq _ _ = true; rfl) | exact Bin.x rfl | (apply Run.nilStop rfl; apply RunSem.eqNil T_ok) | refine Run.storeStop rfl ?_ | (apply Run.mapStop; apply RunSem.mapSet T_ok) | (apply Run.newMapStop; apply RunSem.newMap T_ok) | (apply Run.semStop; apply RunSem.rangeStr T_ok) | (apply Run.semStop; apply RunSem.nextStr T_ok) | apply Run.condP | apply Sx.Ends.by () | constructor | intro _)
      · simp [litL, encB, b8]
      rename_i v2 v3
      apply AgainK.mk ((k + 1, v3))
      case' h4 => (try simp only [List.append_nil]); repeat' (first | exact tab_age _ _ _ | constructor)
      case' h3 => repeat' constructor
      case' h1 => first | omega | (dsimp only; omega)
      · rw [putL_take l k hlt', ← hdn, putN_lt hge']
      · simp only; omega
  · apply Sx.Ends.by (v)
    all_goals repeat' (first | assumption | exact fun h : ¬ True => absurd trivial h | exact fun h : False => h.elim | exact sd (by first | omega | (simp only []; omega) | (simp only [List.length_append, List.length_cons, List.length_nil, List.length_take, List.length_drop, List.length_map, List.length_range, List.length_set]; omega)) | exact sp (fun h => by simp [PathHolds] at h; omega) | exact sp (fun h => by simp [PathHolds, -List.getD_eq_getElem?_getD] at h; omega) | exact sd rfl | exact sd ⟨rfl, by decide⟩ | exact sd trivial | (show Nat.beq _ _ = true; rfl) | exact Bin.x rfl | (apply Run.nilStop rfl; apply RunSem.eqNil T_ok) | refine Run.storeStop rfl ?_ | (apply Run.mapStop; apply RunSem.mapSet T_ok) | (apply Run.newMapStop; apply RunSem.newMap T_ok) | (apply Run.semStop; apply RunSem.rangeStr T_ok) | (apply Run.semStop; apply RunSem.nextStr T_ok) | apply Run.condP | apply Sx.Ends.by () | constructor | intro _)
    rw [show k = l.length by omega, List.take_length]
def isT (p : Nat × Int × Int) : AV → Sto → Prop := Gives (ι := Unit) (fun _ => .t [.v (.int .u64 (p.1 : Int)), iv p.2.1, iv p.2.2]) (fun _ => []) (fun _ => True)
theorem Take_ok (b : List UInt8) (at_ : Int) (hb : b.length < 4611686018427387904) (hat : -9223372036854775808 ≤ at_ ∧ at_ ≤ 9223372036854775807) : Sat Try.prog 21 [DB b, iv at_] [] (isT (takeB b at_)) := by
  by_cases hc' : at_ < 0 ∨ (b.length : Int) < at_
  · have hT : takeB b at_ = (0, 0, 1) := by rw [takeB, if_pos hc']
    rw [hT]
    refine Sat.of T_ok Try.func21 Try.call21 rfl rfl rfl ?_
    repeat' (first | assumption | exact fun h : ¬ True => absurd trivial h | exact fun h : False => h.elim | exact sd (by first | omega | (simp only []; omega) | (simp only [List.length_append, List.length_cons, List.length_nil, List.length_take, List.length_drop, List.length_map, List.length_range, List.length_set]; omega)) | exact sp (fun h => by simp [PathHolds] at h; omega) | exact sp (fun h => by simp [PathHolds, -List.getD_eq_getElem?_getD] at h; omega) | exact sd rfl | exact sd ⟨rfl, by decide⟩ | exact sd trivial | (show Nat.beq _ _ = true; rfl) | (apply Run.nilStop rfl; apply RunSem.eqNil T_ok) | refine Run.storeStop rfl ?_ | (apply Run.mapStop; apply RunSem.mapSet T_ok) | (apply Run.newMapStop; apply RunSem.newMap T_ok) | (apply Run.semStop; apply RunSem.rangeStr T_ok) | (apply Run.semStop; apply RunSem.nextStr T_ok) | apply Run.condP | apply Sx.Ends.by () | constructor | intro _)
    all_goals (exfalso; omega)
  · have hT : takeB b at_ = ((takeGo (b.drop at_.toNat) 0 0).1, if (takeGo (b.drop at_.toNat) 0 0).2.2 = 0 then at_ + (takeGo (b.drop at_.toNat) 0 0).2.1 else 0, ((takeGo (b.drop at_.toNat) 0 0).2.2 : Int)) := by rw [takeB, if_neg hc']
    have e1 : IntKind.i64.wrap (at_ + 10) = at_ + 10 := wi64 (by omega)
    have e2 : List.drop at_.toNat (List.take (min (b.length : Int) (IntKind.i64.wrap (at_ + 10))).toNat b) = (b.drop at_.toNat).take 10 := by
      rw [e1, List.drop_take]
      by_cases h : (b.length : Int) ≤ at_ + 10
      · rw [List.take_of_length_le (by simp; omega), List.take_of_length_le (by simp; omega)]
      · congr 1; omega
    refine Sat.of T_ok Try.func21 Try.call21 rfl rfl rfl ?_
    repeat' (first | assumption | exact fun h : ¬ True => absurd trivial h | exact fun h : False => h.elim | exact sd (by first | omega | (simp only []; omega) | (simp only [List.length_append, List.length_cons, List.length_nil, List.length_take, List.length_drop, List.length_map, List.length_range, List.length_set]; omega)) | exact sp (fun h => by simp [PathHolds] at h; omega) | exact sp (fun h => by simp [PathHolds, -List.getD_eq_getElem?_getD] at h; omega) | exact sd rfl | exact sd ⟨rfl, by decide⟩ | exact sd trivial | (show Nat.beq _ _ = true; rfl) | (apply Run.nilStop rfl; apply RunSem.eqNil T_ok) | refine Run.storeStop rfl ?_ | (apply Run.mapStop; apply RunSem.mapSet T_ok) | (apply Run.newMapStop; apply RunSem.newMap T_ok) | (apply Run.semStop; apply RunSem.rangeStr T_ok) | (apply Run.semStop; apply RunSem.nextStr T_ok) | apply Run.condP | apply Sx.Ends.by () | constructor | intro _)
    · exfalso; omega
    · exfalso; omega
    · exfalso; omega
    rw [e2]
    generalize hr : (b.drop at_.toNat).take 10 = r
    have hrl : r.length ≤ 10 := by rw [← hr]; simp; omega
    rw [← takeGo_take _ 0 0 (by omega), hr] at hT
    refine RunSem.loopK T_ok [1, 25, 26] (fun x : Nat × Nat => [(27, [], iv x.1), (7, [], .v (.int .u64 (x.2 : Int)))]) (fun _ => []) (fun x => x.1 ≤ 9 ∧ x.1 ≤ r.length ∧ x.2 < 128 ^ x.1 ∧ takeGo (r.drop x.1) x.1 x.2 = takeGo r 0 0) (fun x => r.length - x.1) (0, 0) ⟨by simp, by simp, by simp, rfl⟩ (by repeat' constructor) (by repeat' first | assumption | exact tab_age _ _ _ | constructor) (by repeat' first | assumption | exact tab_age _ _ _ | constructor) ?_
    dsimp only [List.cons_append, List.nil_append]
    rintro ⟨k, n⟩ ⟨hk9, hk, hn, hg⟩
    simp only at hk9 hk hn hg ⊢
    have F1 : k < r.length → ((0 < k ∧ (r.getD k 0).toNat = 0) ∨ (k = 9 ∧ 1 < (r.getD k 0).toNat)) → takeB b at_ = (0, 0, 3) := by
      intro h1 h2
      have e := takeGo_step (n := n) h1
      rw [if_pos h2, hg] at e
      rw [hT, e]; rfl
    have F2 : k < r.length → ¬ ((0 < k ∧ (r.getD k 0).toNat = 0) ∨ (k = 9 ∧ 1 < (r.getD k 0).toNat)) → (r.getD k 0).toNat < 128 → takeB b at_ = (n + (r.getD k 0).toNat % 128 * 128 ^ k, at_ + k + 1, 0) := by
      intro h1 h2 h3
      have e := takeGo_step (n := n) h1
      rw [if_neg h2, if_pos h3, hg] at e
      rw [hT, e, if_pos rfl]
      simp only [Prod.mk.injEq, true_and]
      exact ⟨by omega, rfl⟩
    have F3 : k < r.length → ¬ ((0 < k ∧ (r.getD k 0).toNat = 0) ∨ (k = 9 ∧ 1 < (r.getD k 0).toNat)) → ¬ (r.getD k 0).toNat < 128 → takeGo (r.drop (k + 1)) (k + 1) (n + (r.getD k 0).toNat % 128 * 128 ^ k) = takeGo r 0 0 := by
      intro h1 h2 h3
      have e := takeGo_step (n := n) h1
      rw [if_neg h2, if_neg h3, hg] at e
      exact e.symm
    have F4 : ¬ k < r.length → takeB b at_ = (0, 0, 2) := by
      intro h1
      have e : takeGo (r.drop k) k n = (0, 0, 2) := by rw [show k = r.length by omega, List.drop_length, takeGo]
      rw [hg] at e
      rw [hT, e]; rfl
    repeat' (first | assumption | exact fun h : ¬ True => absurd trivial h | exact fun h : False => h.elim | exact sd (by first | omega | (simp only []; omega) | (simp only [List.length_append, List.length_cons, List.length_nil, List.length_take, List.length_drop, List.length_map, List.length_range, List.length_set]; omega)) | exact sp (fun h => by simp [PathHolds] at h; omega) | exact sp (fun h => by simp [PathHolds, -List.getD_eq_getElem?_getD] at h; omega) | exact sd rfl | exact sd ⟨rfl, by decide⟩ | exact sd trivial | (show Nat.beq _ _ = true; rfl) | exact Bin.x rfl | (apply Run.nilStop rfl; apply RunSem.eqNil T_ok) | refine Run.storeStop rfl ?_ | (apply Run.mapStop; apply RunSem.mapSet T_ok) | (apply Run.newMapStop; apply RunSem.newMap T_ok) | (apply Run.semStop; apply RunSem.rangeStr T_ok) | (apply Run.semStop; apply RunSem.nextStr T_ok) | apply Run.condP | apply Sx.Ends.by () | constructor | intro _)
    · rw [F1 (by omega) (by omega)]; rfl
    · rw [F1 (by omega) (by omega)]
    · rw [F1 (by omega) (by omega)]
    · rw [F2 (by omega) (by omega) (by omega), ← step_val hk9 (UInt8.toNat_lt _) hn (by omega)]
      simp only [wi64 (show -9223372036854775808 ≤ 7 * (k : Int) ∧ 7 * (k : Int) ≤ 9223372036854775807 by omega)]
    · rw [F2 (by omega) (by omega) (by omega)]
    · rw [F2 (by omega) (by omega) (by omega)]
    · apply AgainK.mk ((k + 1, n + (r.getD k 0).toNat % 128 * 128 ^ k))
      case' h4 => (try simp only [List.append_nil]); repeat' (first | exact tab_age _ _ _ | constructor)
      case' h3 => repeat' constructor
      case' h1 => first | omega | (dsimp only; omega)
      · rw [← step_val hk9 (UInt8.toNat_lt _) hn (by omega)]
        simp only [wi64 (show -9223372036854775808 ≤ 7 * (k : Int) ∧ 7 * (k : Int) ≤ 9223372036854775807 by omega)]
      · exact ⟨by simp only; omega, by simp only; omega, step_lt hn, F3 (by omega) (by omega) (by omega)⟩
    · rw [F4 (by omega)]; rfl
    · rw [F4 (by omega)]
    · rw [F4 (by omega)]
theorem refTake_ok (b : List UInt8) (at_ : Int) (hb : b.length < 4611686018427387904) (hat : -9223372036854775808 ≤ at_ ∧ at_ ≤ 9223372036854775807) : Sat Try.prog 24 [DB b, iv at_] [] (isT (takeB b at_)) := by
  by_cases hc' : at_ < 0 ∨ (b.length : Int) < at_
  · have hT : takeB b at_ = (0, 0, 1) := by rw [takeB, if_pos hc']
    rw [hT]
    refine Sat.of T_ok Try.func24 Try.call24 rfl rfl rfl ?_
    repeat' (first | assumption | exact fun h : ¬ True => absurd trivial h | exact fun h : False => h.elim | exact sd (by first | omega | (simp only []; omega) | (simp only [List.length_append, List.length_cons, List.length_nil, List.length_take, List.length_drop, List.length_map, List.length_range, List.length_set]; omega)) | exact sp (fun h => by simp [PathHolds] at h; omega) | exact sp (fun h => by simp [PathHolds, -List.getD_eq_getElem?_getD] at h; omega) | exact sd rfl | exact sd ⟨rfl, by decide⟩ | exact sd trivial | (show Nat.beq _ _ = true; rfl) | (apply Run.nilStop rfl; apply RunSem.eqNil T_ok) | refine Run.storeStop rfl ?_ | (apply Run.mapStop; apply RunSem.mapSet T_ok) | (apply Run.newMapStop; apply RunSem.newMap T_ok) | (apply Run.semStop; apply RunSem.rangeStr T_ok) | (apply Run.semStop; apply RunSem.nextStr T_ok) | apply Run.condP | apply Sx.Ends.by () | constructor | intro _)
    all_goals (exfalso; omega)
  · have hT : takeB b at_ = ((takeGo (b.drop at_.toNat) 0 0).1, if (takeGo (b.drop at_.toNat) 0 0).2.2 = 0 then at_ + (takeGo (b.drop at_.toNat) 0 0).2.1 else 0, ((takeGo (b.drop at_.toNat) 0 0).2.2 : Int)) := by rw [takeB, if_neg hc']
    obtain ⟨p, rfl⟩ := Int.eq_ofNat_of_zero_le (show 0 ≤ at_ by omega)
    have hp : p ≤ b.length := by omega
    rw [Int.toNat_natCast] at hT
    generalize hr : b.drop p = r at hT
    have hrl : r.length = b.length - p := by rw [← hr]; simp
    refine Sat.of T_ok Try.func24 Try.call24 rfl rfl rfl ?_
    repeat' (first | assumption | exact fun h : ¬ True => absurd trivial h | exact fun h : False => h.elim | exact sd (by first | omega | (simp only []; omega) | (simp only [List.length_append, List.length_cons, List.length_nil, List.length_take, List.length_drop, List.length_map, List.length_range, List.length_set]; omega)) | exact sp (fun h => by simp [PathHolds] at h; omega) | exact sp (fun h => by simp [PathHolds, -List.getD_eq_getElem?_getD] at h; omega) | exact sd rfl | exact sd ⟨rfl, by decide⟩ | exact sd trivial | (show Nat.beq _ _ = true; rfl) | (apply Run.nilStop rfl; apply RunSem.eqNil T_ok) | refine Run.storeStop rfl ?_ | (apply Run.mapStop; apply RunSem.mapSet T_ok) | (apply Run.newMapStop; apply RunSem.newMap T_ok) | (apply Run.semStop; apply RunSem.rangeStr T_ok) | (apply Run.semStop; apply RunSem.nextStr T_ok) | apply Run.condP | apply Sx.Ends.by () | constructor | intro _)
    · exfalso; omega
    · exfalso; omega
    · exfalso; omega
    rename_i hq
    refine RunSem.loopK T_ok [0, 1] (fun x : Nat × Nat => [(9, [], iv x.1), (8, [], .v (.int .u64 ((128 ^ x.1 : Nat) : Int))), (7, [], .v (.int .u64 (x.2 : Int)))]) (fun _ => []) (fun x => x.1 ≤ 9 ∧ x.1 ≤ r.length ∧ x.2 < 128 ^ x.1 ∧ takeGo (r.drop x.1) x.1 x.2 = takeGo r 0 0) (fun x => r.length - x.1) (0, 0) ⟨by simp, by simp, by simp, rfl⟩ (by repeat' constructor) (by repeat' first | assumption | exact tab_age _ _ _ | constructor) (by repeat' first | assumption | exact tab_age _ _ _ | constructor) ?_
    dsimp only [List.cons_append, List.nil_append]
    rintro ⟨k, n⟩ ⟨hk9, hk, hn, hg⟩
    simp only at hk9 hk hn hg ⊢
    have F1 : k < r.length → ((0 < k ∧ (r.getD k 0).toNat = 0) ∨ (k = 9 ∧ 1 < (r.getD k 0).toNat)) → takeB b (p : Int) = (0, 0, 3) := by
      intro h1 h2
      have e := takeGo_step (n := n) h1
      rw [if_pos h2, hg] at e
      rw [hT, e]; rfl
    have F2 : k < r.length → ¬ ((0 < k ∧ (r.getD k 0).toNat = 0) ∨ (k = 9 ∧ 1 < (r.getD k 0).toNat)) → (r.getD k 0).toNat < 128 → takeB b (p : Int) = (n + (r.getD k 0).toNat % 128 * 128 ^ k, (p : Int) + k + 1, 0) := by
      intro h1 h2 h3
      have e := takeGo_step (n := n) h1
      rw [if_neg h2, if_pos h3, hg] at e
      rw [hT, e, if_pos rfl]
      simp only [Prod.mk.injEq, true_and]
      exact ⟨by omega, rfl⟩
    have F3 : k < r.length → ¬ ((0 < k ∧ (r.getD k 0).toNat = 0) ∨ (k = 9 ∧ 1 < (r.getD k 0).toNat)) → ¬ (r.getD k 0).toNat < 128 → takeGo (r.drop (k + 1)) (k + 1) (n + (r.getD k 0).toNat % 128 * 128 ^ k) = takeGo r 0 0 := by
      intro h1 h2 h3
      have e := takeGo_step (n := n) h1
      rw [if_neg h2, if_neg h3, hg] at e
      exact e.symm
    have F4 : ¬ k < r.length → takeB b (p : Int) = (0, 0, 2) := by
      intro h1
      have e : takeGo (r.drop k) k n = (0, 0, 2) := by rw [show k = r.length by omega, List.drop_length, takeGo]
      rw [hg] at e
      rw [hT, e]; rfl
    have hget := drop_get b p k
    rw [hr] at hget
    have hpk : ((p : Int) + (k : Int)).toNat = p + k := by omega
    have hw : IntKind.i64.wrap ((p : Int) + (k : Int)) = (p : Int) + (k : Int) := wi64 (by omega)
    rw [hget] at F1 F2 F3
    repeat' (first | assumption | exact fun h : ¬ True => absurd trivial h | exact fun h : False => h.elim | exact sd (by first | omega | (simp only []; omega) | (simp only [List.length_append, List.length_cons, List.length_nil, List.length_take, List.length_drop, List.length_map, List.length_range, List.length_set]; omega)) | exact sp (fun h => by simp [PathHolds] at h; omega) | exact sp (fun h => by simp [PathHolds, -List.getD_eq_getElem?_getD] at h; omega) | exact sd rfl | exact sd ⟨rfl, by decide⟩ | exact sd trivial | (show Nat.beq _ _ = true; rfl) | exact Bin.x rfl | (apply Run.nilStop rfl; apply RunSem.eqNil T_ok) | refine Run.storeStop rfl ?_ | (apply Run.mapStop; apply RunSem.mapSet T_ok) | (apply Run.newMapStop; apply RunSem.newMap T_ok) | (apply Run.semStop; apply RunSem.rangeStr T_ok) | (apply Run.semStop; apply RunSem.nextStr T_ok) | apply Run.condP | apply Sx.Ends.by () | constructor | intro _)
    · rw [F1 (by omega) (by omega)]; rfl
    · rw [F1 (by omega) (by omega)]
    · rw [F1 (by omega) (by omega)]
    · rw [F2 (by omega) (by omega) (by omega), ← step_val' hk9 hn (by omega)]
    · rw [F2 (by omega) (by omega) (by omega)]
    · rw [F2 (by omega) (by omega) (by omega)]
    · apply AgainK.mk ((k + 1, n + (b.getD (p + k) 0).toNat % 128 * 128 ^ k))
      case' h4 => (try simp only [List.append_nil]); repeat' (first | exact tab_age _ _ _ | constructor)
      case' h3 => repeat' constructor
      case' h1 => first | omega | (dsimp only; omega)
      · have h9 := pow_le9 (show k + 1 ≤ 9 by omega)
        rw [Nat.pow_succ] at h9 ⊢
        rw [wu64 (by omega)]; rfl
      · rw [← step_val' hk9 hn (by omega)]
      · exact ⟨by simp only; omega, by simp only; omega, step_lt hn, F3 (by omega) (by omega) (by omega)⟩
    · rw [F4 (by omega)]; rfl
    · rw [F4 (by omega)]
    · rw [F4 (by omega)]
end Go.Proofs.Ytojfchnfhmccaaa
