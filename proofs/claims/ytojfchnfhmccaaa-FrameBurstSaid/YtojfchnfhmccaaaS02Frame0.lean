import Derived.Test.YtojfchnfhmccaaaS02Var0
import Derived.Test.YtojfchnfhmccaaaSxUFrame2
set_option linter.all false
set_option maxHeartbeats 4000000
set_option maxRecDepth 100000
set_option linter.all false
namespace Go.Proofs.Ytojfchnfhmccaaa
open Go.Sx
attribute [local irreducible] RunSem AListSem AgainK Again Side Sx.Ends IntKind.wrap SatV AgainR DSem MJ
attribute [local irreducible] takeB takeGo crc1 crcN crc8 crcGo
theorem four_ok (c : Nat) (h : c < 4294967296) : Sat Try.prog 18 [.v (.int .u32 (c : Int))] [] (bytesAre (fourB c)) := by
  refine Sat.of T_ok Try.func18 Try.call18 rfl rfl rfl ?_
  repeat' (first | assumption | exact fun h : ¬ True => absurd trivial h | exact fun h : False => h.elim | exact sd (by first | omega | (simp only []; omega) | (simp only [List.length_append, List.length_cons, List.length_nil, List.length_take, List.length_drop, List.length_map, List.length_range, List.length_set]; omega)) | exact sp (fun h => by simp [PathHolds] at h; omega) | exact sp (fun h => by simp [PathHolds, -List.getD_eq_getElem?_getD] at h; omega) | exact sd rfl | exact sd ⟨rfl, by decide⟩ | exact sd trivial | (show Nat.beq _ _ = true; rfl) | (apply Run.nilStop rfl; apply RunSem.eqNil T_ok) | refine Run.storeStop rfl ?_ | (apply Run.mapStop; apply RunSem.mapSet T_ok) | (apply Run.newMapStop; apply RunSem.newMap T_ok) | (apply Run.sliceStop; apply RunSem.litI T_ok; rotate_left; rfl; rfl; rfl) | (apply AList.sliceStop; apply AListSem.litI T_ok; rotate_left; rfl; rfl; rfl) | (apply Run.semStop; apply RunSem.rangeStr T_ok) | (apply Run.semStop; apply RunSem.nextStr T_ok) | apply Run.condP | apply Sx.Ends.by () | constructor | intro _)
  refine RunSem.loopK T_ok [] (fun x : Nat × Nat × Value => [(4, [], iv x.1), (0, [], .v (.int .u32 (x.2.1 : Int))), (3, [], .o x.2.2)]) (fun x => [.row x.2.2 true 5 1 encB 0 ((fourB c).take x.1)]) (fun x => x.1 ≤ 4 ∧ x.2.1 = c / 256 ^ x.1) (fun x => 4 - x.1) (0, c, .slice none 0 0) (by simp) (by repeat' constructor) (by repeat' first | assumption | exact tab_age _ _ _ | constructor) (by repeat' first | assumption | exact tab_age _ _ _ | constructor) ?_
  dsimp only [List.cons_append, List.nil_append]
  rintro ⟨k, y, v⟩ ⟨hk, hy⟩
  simp only at hk hy ⊢
  repeat' (first | assumption | exact fun h : ¬ True => absurd trivial h | exact fun h : False => h.elim | exact sd (by first | omega | (simp only []; omega) | (simp only [List.length_append, List.length_cons, List.length_nil, List.length_take, List.length_drop, List.length_map, List.length_range, List.length_set]; omega)) | exact sp (fun h => by simp [PathHolds] at h; omega) | exact sp (fun h => by simp [PathHolds, -List.getD_eq_getElem?_getD] at h; omega) | exact sd rfl | exact sd ⟨rfl, by decide⟩ | exact sd trivial | (show Nat.beq _ _ = true; rfl) | exact Bin.x rfl | (apply Run.nilStop rfl; apply RunSem.eqNil T_ok) | refine Run.storeStop rfl ?_ | (apply Run.mapStop; apply RunSem.mapSet T_ok) | (apply Run.newMapStop; apply RunSem.newMap T_ok) | (apply Run.sliceStop; apply RunSem.litI T_ok; rotate_left; rfl; rfl; rfl) | (apply AList.sliceStop; apply AListSem.litI T_ok; rotate_left; rfl; rfl; rfl) | (apply Run.semStop; apply RunSem.rangeStr T_ok) | (apply Run.semStop; apply RunSem.nextStr T_ok) | apply Run.condP | apply Sx.Ends.by () | constructor | intro _)
  · rename_i hlt
    apply RunSem.lit T_ok encB 0 [UInt8.ofNat y]
    all_goals repeat' (first | assumption | exact fun h : ¬ True => absurd trivial h | exact fun h : False => h.elim | exact sd (by first | omega | (simp only []; omega) | (simp only [List.length_append, List.length_cons, List.length_nil, List.length_take, List.length_drop, List.length_map, List.length_range, List.length_set]; omega)) | exact sp (fun h => by simp [PathHolds] at h; omega) | exact sp (fun h => by simp [PathHolds, -List.getD_eq_getElem?_getD] at h; omega) | exact sd rfl | exact sd ⟨rfl, by decide⟩ | exact sd trivial | (show Nat.beq _ _ = true; rfl) | exact Bin.x rfl | (apply Run.nilStop rfl; apply RunSem.eqNil T_ok) | refine Run.storeStop rfl ?_ | (apply Run.mapStop; apply RunSem.mapSet T_ok) | (apply Run.newMapStop; apply RunSem.newMap T_ok) | (apply Run.sliceStop; apply RunSem.litI T_ok; rotate_left; rfl; rfl; rfl) | (apply AList.sliceStop; apply AListSem.litI T_ok; rotate_left; rfl; rfl; rfl) | (apply Run.semStop; apply RunSem.rangeStr T_ok) | (apply Run.semStop; apply RunSem.nextStr T_ok) | apply Run.condP | apply Sx.Ends.by () | constructor | intro _)
    · simp [litL, encB, b8]
    · rename_i v2 v3
      apply AgainK.mk ((k + 1, y / 256, v3))
      case' h4 => (try simp only [List.append_nil]); repeat' (first | exact tab_age _ _ _ | constructor)
      case' h3 => repeat' constructor
      case' h1 => first | omega | (dsimp only; omega)
      · exact congrArg (fun x => Value.int IntKind.u32 x) (fdivN y 256)
      · have hk4 : k = 0 ∨ k = 1 ∨ k = 2 ∨ k = 3 := by omega
        rcases hk4 with rfl | rfl | rfl | rfl <;> subst hy <;> simp [fourB]
      · exact ⟨by simp only; omega, by simp only; rw [hy, Nat.div_div_eq_div_mul, Nat.pow_succ]⟩
  · apply Sx.Ends.by (v)
    all_goals repeat' (first | assumption | exact fun h : ¬ True => absurd trivial h | exact fun h : False => h.elim | exact sd (by first | omega | (simp only []; omega) | (simp only [List.length_append, List.length_cons, List.length_nil, List.length_take, List.length_drop, List.length_map, List.length_range, List.length_set]; omega)) | exact sp (fun h => by simp [PathHolds] at h; omega) | exact sp (fun h => by simp [PathHolds, -List.getD_eq_getElem?_getD] at h; omega) | exact sd rfl | exact sd ⟨rfl, by decide⟩ | exact sd trivial | (show Nat.beq _ _ = true; rfl) | exact Bin.x rfl | (apply Run.nilStop rfl; apply RunSem.eqNil T_ok) | refine Run.storeStop rfl ?_ | (apply Run.mapStop; apply RunSem.mapSet T_ok) | (apply Run.newMapStop; apply RunSem.newMap T_ok) | (apply Run.sliceStop; apply RunSem.litI T_ok; rotate_left; rfl; rfl; rfl) | (apply AList.sliceStop; apply AListSem.litI T_ok; rotate_left; rfl; rfl; rfl) | (apply Run.semStop; apply RunSem.rangeStr T_ok) | (apply Run.semStop; apply RunSem.nextStr T_ok) | apply Run.condP | apply Sx.Ends.by () | constructor | intro _)
    rw [List.take_of_length_le (by rw [fourB_len]; omega)]
theorem refFour_ok (c : Nat) (h : c < 4294967296) : Sat Try.prog 20 [.v (.int .u32 (c : Int))] [] (bytesAre (fourB c)) := by
  refine Sat.of T_ok Try.func20 Try.call20 rfl rfl rfl ?_
  repeat' (first | assumption | exact fun h : ¬ True => absurd trivial h | exact fun h : False => h.elim | exact sd (by first | omega | (simp only []; omega) | (simp only [List.length_append, List.length_cons, List.length_nil, List.length_take, List.length_drop, List.length_map, List.length_range, List.length_set]; omega)) | exact sp (fun h => by simp [PathHolds] at h; omega) | exact sp (fun h => by simp [PathHolds, -List.getD_eq_getElem?_getD] at h; omega) | exact sd rfl | exact sd ⟨rfl, by decide⟩ | exact sd trivial | (show Nat.beq _ _ = true; rfl) | (apply Run.nilStop rfl; apply RunSem.eqNil T_ok) | refine Run.storeStop rfl ?_ | (apply Run.mapStop; apply RunSem.mapSet T_ok) | (apply Run.newMapStop; apply RunSem.newMap T_ok) | (apply Run.sliceStop; apply RunSem.litI T_ok; rotate_left; rfl; rfl; rfl) | (apply AList.sliceStop; apply AListSem.litI T_ok; rotate_left; rfl; rfl; rfl) | (apply Run.semStop; apply RunSem.rangeStr T_ok) | (apply Run.semStop; apply RunSem.nextStr T_ok) | apply Run.condP | apply Sx.Ends.by () | constructor | intro _)
  apply RunSem.lit T_ok encB 0 (fourB c)
  all_goals repeat' (first | assumption | exact fun h : ¬ True => absurd trivial h | exact fun h : False => h.elim | exact sd (by first | omega | (simp only []; omega) | (simp only [List.length_append, List.length_cons, List.length_nil, List.length_take, List.length_drop, List.length_map, List.length_range, List.length_set]; omega)) | exact sp (fun h => by simp [PathHolds] at h; omega) | exact sp (fun h => by simp [PathHolds, -List.getD_eq_getElem?_getD] at h; omega) | exact sd rfl | exact sd ⟨rfl, by decide⟩ | exact sd trivial | (show Nat.beq _ _ = true; rfl) | exact Bin.x rfl | (apply Run.nilStop rfl; apply RunSem.eqNil T_ok) | refine Run.storeStop rfl ?_ | (apply Run.mapStop; apply RunSem.mapSet T_ok) | (apply Run.newMapStop; apply RunSem.newMap T_ok) | (apply Run.sliceStop; apply RunSem.litI T_ok; rotate_left; rfl; rfl; rfl) | (apply AList.sliceStop; apply AListSem.litI T_ok; rotate_left; rfl; rfl; rfl) | (apply Run.semStop; apply RunSem.rangeStr T_ok) | (apply Run.semStop; apply RunSem.nextStr T_ok) | apply Run.condP | apply Sx.Ends.by () | constructor | intro _)
  · have e (k : Nat) : (c : Int).tdiv (k : Int) = ((c / k : Nat) : Int) := rfl
    have e2 (m k : Nat) : (m : Int).tmod (k : Int) = ((m % k : Nat) : Int) := rfl
    have w1 : IntKind.u32.wrap ((c / 256 : Nat) : Int) = ((c / 256 : Nat) : Int) := wu32 (by omega)
    have w2 : IntKind.u32.wrap ((c / 65536 : Nat) : Int) = ((c / 65536 : Nat) : Int) := wu32 (by omega)
    have w3 : IntKind.u32.wrap ((c / 16777216 : Nat) : Int) = ((c / 16777216 : Nat) : Int) := wu32 (by omega)
    rw [show (256 : Int) = ((256 : Nat) : Int) from rfl, show (65536 : Int) = ((65536 : Nat) : Int) from rfl, show (16777216 : Int) = ((16777216 : Nat) : Int) from rfl, e, e, e, w1, w2, w3, e2, e2, e2, u8w, u8w, u8w, u8w]
    simp [litL, encB, fourB]
  rename_i v
  apply Sx.Ends.by (v)
  all_goals repeat' (first | assumption | exact fun h : ¬ True => absurd trivial h | exact fun h : False => h.elim | exact sd (by first | omega | (simp only []; omega) | (simp only [List.length_append, List.length_cons, List.length_nil, List.length_take, List.length_drop, List.length_map, List.length_range, List.length_set]; omega)) | exact sp (fun h => by simp [PathHolds] at h; omega) | exact sp (fun h => by simp [PathHolds, -List.getD_eq_getElem?_getD] at h; omega) | exact sd rfl | exact sd ⟨rfl, by decide⟩ | exact sd trivial | (show Nat.beq _ _ = true; rfl) | exact Bin.x rfl | (apply Run.nilStop rfl; apply RunSem.eqNil T_ok) | refine Run.storeStop rfl ?_ | (apply Run.mapStop; apply RunSem.mapSet T_ok) | (apply Run.newMapStop; apply RunSem.newMap T_ok) | (apply Run.sliceStop; apply RunSem.litI T_ok; rotate_left; rfl; rfl; rfl) | (apply AList.sliceStop; apply AListSem.litI T_ok; rotate_left; rfl; rfl; rfl) | (apply Run.semStop; apply RunSem.rangeStr T_ok) | (apply Run.semStop; apply RunSem.nextStr T_ok) | apply Run.condP | apply Sx.Ends.by () | constructor | intro _)
attribute [local irreducible] tabA
theorem checks_ok : Sat Try.prog 25 [] [] (Gives (ι := Nat → Int) (fun f => .g (tabA 256 .u32 f)) (fun _ => []) (fun f => ∀ i, i < 256 → f i = ((crc8 i : Nat) : Int))) := by
  refine Sat.of T_ok Try.func25 Try.call25 rfl rfl rfl ?_
  repeat' (first | assumption | exact fun h : ¬ True => absurd trivial h | exact fun h : False => h.elim | exact sd (by first | omega | (simp only []; omega) | (simp only [List.length_append, List.length_cons, List.length_nil, List.length_take, List.length_drop, List.length_map, List.length_range, List.length_set]; omega)) | exact sp (fun h => by simp [PathHolds] at h; omega) | exact sp (fun h => by simp [PathHolds, -List.getD_eq_getElem?_getD] at h; omega) | exact sd rfl | exact sd ⟨rfl, by decide⟩ | exact sd trivial | (show Nat.beq _ _ = true; rfl) | (apply Run.nilStop rfl; apply RunSem.eqNil T_ok) | refine Run.storeStop rfl ?_ | (apply Run.mapStop; apply RunSem.mapSet T_ok) | (apply Run.newMapStop; apply RunSem.newMap T_ok) | (apply Run.sliceStop; apply RunSem.litI T_ok; rotate_left; rfl; rfl; rfl) | (apply AList.sliceStop; apply AListSem.litI T_ok; rotate_left; rfl; rfl; rfl) | (apply Run.semStop; apply RunSem.rangeStr T_ok) | (apply Run.semStop; apply RunSem.nextStr T_ok) | apply Run.condP | apply Sx.Ends.by () | exact tab_age _ _ _ | exact tab_all | exact tab_cells | exact tab_beq _ _ _ | exact tab_put _ _ _ _ | exact tab_put0 _ _ _ _ | exact tab_upd (by omega) | exact tab_read8 _ _ _ | exact tab_read (by omega) | exact sd (u8_range _) | constructor | intro _)
  rename_i b0 b1
  dsimp only
  rw [tab_zero]
  refine RunSem.loopK T_ok [0, 1] (fun x : Nat × (Nat → Int) => [(4, [], iv x.1)]) (fun x => [.box b1 (tabA 256 .u32 x.2)]) (fun x => x.1 ≤ 256 ∧ ∀ i, i < x.1 → x.2 i = ((crc8 i : Nat) : Int)) (fun x => 256 - x.1) (0, fun _ => 0) ⟨by simp, by simp⟩ (by repeat' constructor) (by repeat' first | assumption | exact tab_age _ _ _ | constructor) (by repeat' first | assumption | exact tab_age _ _ _ | constructor) ?_
  dsimp only [List.cons_append, List.nil_append]
  rintro ⟨k, f⟩ ⟨hk, hf⟩
  simp only at hk hf ⊢
  have e0 : IntKind.u32.wrap (k : Int) = (k : Int) := wu32 (by omega)
  repeat' (first | assumption | exact fun h : ¬ True => absurd trivial h | exact fun h : False => h.elim | exact sd (by first | omega | (simp only []; omega) | (simp only [List.length_append, List.length_cons, List.length_nil, List.length_take, List.length_drop, List.length_map, List.length_range, List.length_set]; omega)) | exact sp (fun h => by simp [PathHolds] at h; omega) | exact sp (fun h => by simp [PathHolds, -List.getD_eq_getElem?_getD] at h; omega) | exact sd rfl | exact sd ⟨rfl, by decide⟩ | exact sd trivial | (show Nat.beq _ _ = true; rfl) | exact Bin.x rfl | (apply Run.nilStop rfl; apply RunSem.eqNil T_ok) | refine Run.storeStop rfl ?_ | (apply Run.mapStop; apply RunSem.mapSet T_ok) | (apply Run.newMapStop; apply RunSem.newMap T_ok) | (apply Run.sliceStop; apply RunSem.litI T_ok; rotate_left; rfl; rfl; rfl) | (apply AList.sliceStop; apply AListSem.litI T_ok; rotate_left; rfl; rfl; rfl) | (apply Run.semStop; apply RunSem.rangeStr T_ok) | (apply Run.semStop; apply RunSem.nextStr T_ok) | apply Run.condP | apply Sx.Ends.by () | exact tab_age _ _ _ | exact tab_all | exact tab_cells | exact tab_beq _ _ _ | exact tab_put _ _ _ _ | exact tab_put0 _ _ _ _ | exact tab_upd (by omega) | exact tab_read8 _ _ _ | exact tab_read (by omega) | exact sd (u8_range _) | constructor | intro _)
  · rename_i hlt
    rw [e0]
    refine RunSem.loopK T_ok [0, 1, 2, 4] (fun x : Nat × Nat => [(9, [], iv x.1), (3, [], .v (.int .u32 (x.2 : Int)))]) (fun _ => []) (fun x => x.1 ≤ 8 ∧ x.2 < 4294967296 ∧ crcN (8 - x.1) x.2 = crc8 k) (fun x => 8 - x.1) (0, k) ⟨by simp, by simp only; omega, by rw [crc8]; rfl⟩ (by repeat' constructor) (by repeat' first | assumption | exact tab_age _ _ _ | constructor) (by repeat' first | assumption | exact tab_age _ _ _ | constructor) ?_
    dsimp only [List.cons_append, List.nil_append]
    rintro ⟨j, d⟩ ⟨hj, hd, hr⟩
    simp only at hj hd hr ⊢
    repeat' (first | assumption | exact fun h : ¬ True => absurd trivial h | exact fun h : False => h.elim | exact sd (by first | omega | (simp only []; omega) | (simp only [List.length_append, List.length_cons, List.length_nil, List.length_take, List.length_drop, List.length_map, List.length_range, List.length_set]; omega)) | exact sp (fun h => by simp [PathHolds] at h; omega) | exact sp (fun h => by simp [PathHolds, -List.getD_eq_getElem?_getD] at h; omega) | exact sd rfl | exact sd ⟨rfl, by decide⟩ | exact sd trivial | (show Nat.beq _ _ = true; rfl) | exact Bin.x rfl | (apply Run.nilStop rfl; apply RunSem.eqNil T_ok) | refine Run.storeStop rfl ?_ | (apply Run.mapStop; apply RunSem.mapSet T_ok) | (apply Run.newMapStop; apply RunSem.newMap T_ok) | (apply Run.sliceStop; apply RunSem.litI T_ok; rotate_left; rfl; rfl; rfl) | (apply AList.sliceStop; apply AListSem.litI T_ok; rotate_left; rfl; rfl; rfl) | (apply Run.semStop; apply RunSem.rangeStr T_ok) | (apply Run.semStop; apply RunSem.nextStr T_ok) | apply Run.condP | apply Sx.Ends.by () | exact tab_age _ _ _ | exact tab_all | exact tab_cells | exact tab_beq _ _ _ | exact tab_put _ _ _ _ | exact tab_put0 _ _ _ _ | exact tab_upd (by omega) | exact tab_read8 _ _ _ | exact tab_read (by omega) | exact sd (u8_range _) | constructor | intro _)
    · rename_i h8
      apply AgainK.mk ((j + 1, crc1 d))
      case' h4 => (try simp only [List.append_nil]); repeat' (first | exact tab_age _ _ _ | constructor)
      case' h3 => repeat' constructor
      case' h1 => first | omega | (dsimp only; omega)
      · rw [← crc1_prog d hd]
      · refine ⟨by simp only; omega, crc1_lt hd, ?_⟩
        rw [← hr, show 8 - j = (8 - (j + 1)) + 1 by omega, crcN_succ]
    · rename_i h8
      have : j = 8 := by omega
      subst this
      rw [Nat.sub_self, crcN_zero] at hr
      apply AgainK.mk ((k + 1, fun i => if i = k then (d : Int) else f i))
      case' h4 => (try simp only [List.append_nil]); repeat' (first | exact tab_age _ _ _ | constructor)
      case' h3 => repeat' constructor
      case' h1 => first | omega | (dsimp only; omega)
      refine ⟨by simp only; omega, fun i hi => ?_⟩
      simp only
      split
      · rename_i e; rw [hr, e]
      · exact hf i (by simp only at hi; omega)
  · apply Sx.Ends.by (f)
    all_goals repeat' (first | assumption | exact fun h : ¬ True => absurd trivial h | exact fun h : False => h.elim | exact sd (by first | omega | (simp only []; omega) | (simp only [List.length_append, List.length_cons, List.length_nil, List.length_take, List.length_drop, List.length_map, List.length_range, List.length_set]; omega)) | exact sp (fun h => by simp [PathHolds] at h; omega) | exact sp (fun h => by simp [PathHolds, -List.getD_eq_getElem?_getD] at h; omega) | exact sd rfl | exact sd ⟨rfl, by decide⟩ | exact sd trivial | (show Nat.beq _ _ = true; rfl) | exact Bin.x rfl | (apply Run.nilStop rfl; apply RunSem.eqNil T_ok) | refine Run.storeStop rfl ?_ | (apply Run.mapStop; apply RunSem.mapSet T_ok) | (apply Run.newMapStop; apply RunSem.newMap T_ok) | (apply Run.sliceStop; apply RunSem.litI T_ok; rotate_left; rfl; rfl; rfl) | (apply AList.sliceStop; apply AListSem.litI T_ok; rotate_left; rfl; rfl; rfl) | (apply Run.semStop; apply RunSem.rangeStr T_ok) | (apply Run.semStop; apply RunSem.nextStr T_ok) | apply Run.condP | apply Sx.Ends.by () | exact tab_age _ _ _ | exact tab_all | exact tab_cells | exact tab_beq _ _ _ | exact tab_put _ _ _ _ | exact tab_put0 _ _ _ _ | exact tab_upd (by omega) | exact tab_read8 _ _ _ | exact tab_read (by omega) | exact sd (u8_range _) | constructor | intro _)
    exact hf _ (by omega)
theorem Check_ok (b : List UInt8) (h : b.length < 4611686018427387904) : Sat Try.prog 13 [DB b] [] (isV (.int .u32 (checkN b : Int))) := by
  refine Sat.of T_ok Try.func13 Try.call13 rfl rfl rfl ?_
  repeat' (first | assumption | exact fun h : ¬ True => absurd trivial h | exact fun h : False => h.elim | exact sd (by first | omega | (simp only []; omega) | (simp only [List.length_append, List.length_cons, List.length_nil, List.length_take, List.length_drop, List.length_map, List.length_range, List.length_set]; omega)) | exact sp (fun h => by simp [PathHolds] at h; omega) | exact sp (fun h => by simp [PathHolds, -List.getD_eq_getElem?_getD] at h; omega) | exact sd rfl | exact sd ⟨rfl, by decide⟩ | exact sd trivial | (show Nat.beq _ _ = true; rfl) | (apply Run.nilStop rfl; apply RunSem.eqNil T_ok) | refine Run.storeStop rfl ?_ | (apply Run.mapStop; apply RunSem.mapSet T_ok) | (apply Run.newMapStop; apply RunSem.newMap T_ok) | (apply Run.sliceStop; apply RunSem.litI T_ok; rotate_left; rfl; rfl; rfl) | (apply AList.sliceStop; apply AListSem.litI T_ok; rotate_left; rfl; rfl; rfl) | (apply Run.semStop; apply RunSem.rangeStr T_ok) | (apply Run.semStop; apply RunSem.nextStr T_ok) | apply Run.condP | apply Sx.Ends.by () | exact tab_age _ _ _ | exact tab_all | exact tab_cells | exact tab_beq _ _ _ | exact tab_put _ _ _ _ | exact tab_put0 _ _ _ _ | exact tab_upd (by omega) | exact tab_read8 _ _ _ | exact tab_read (by omega) | exact sd (u8_range _) | constructor | intro _)
  apply RunSem.lend T_ok checks_ok (fun _ => ⟨tab_fresh _ _ _, rfl⟩)
  all_goals repeat' (first | assumption | exact fun h : ¬ True => absurd trivial h | exact fun h : False => h.elim | exact sd (by first | omega | (simp only []; omega) | (simp only [List.length_append, List.length_cons, List.length_nil, List.length_take, List.length_drop, List.length_map, List.length_range, List.length_set]; omega)) | exact sp (fun h => by simp [PathHolds] at h; omega) | exact sp (fun h => by simp [PathHolds, -List.getD_eq_getElem?_getD] at h; omega) | exact sd rfl | exact sd ⟨rfl, by decide⟩ | exact sd trivial | (show Nat.beq _ _ = true; rfl) | exact Bin.x rfl | (apply Run.nilStop rfl; apply RunSem.eqNil T_ok) | refine Run.storeStop rfl ?_ | (apply Run.mapStop; apply RunSem.mapSet T_ok) | (apply Run.newMapStop; apply RunSem.newMap T_ok) | (apply Run.sliceStop; apply RunSem.litI T_ok; rotate_left; rfl; rfl; rfl) | (apply AList.sliceStop; apply AListSem.litI T_ok; rotate_left; rfl; rfl; rfl) | (apply Run.semStop; apply RunSem.rangeStr T_ok) | (apply Run.semStop; apply RunSem.nextStr T_ok) | apply Run.condP | apply Sx.Ends.by () | exact tab_age _ _ _ | exact tab_all | exact tab_cells | exact tab_beq _ _ _ | exact tab_put _ _ _ _ | exact tab_put0 _ _ _ _ | exact tab_upd (by omega) | exact tab_read8 _ _ _ | exact tab_read (by omega) | exact sd (u8_range _) | constructor | intro _)
  rename_i f hf p
  refine RunSem.loopK T_ok [3, 8, 9] (fun x : Nat × Nat => [(10, [], iv x.1), (4, [], .v (.int .u32 (x.2 : Int)))]) (fun _ => []) (fun x => x.1 ≤ b.length ∧ x.2 < 4294967296 ∧ crcGo x.2 (b.drop x.1) = crcGo 4294967295 b) (fun x => b.length - x.1) (0, 4294967295) ⟨by simp, by simp, rfl⟩ (by repeat' constructor) (by repeat' first | assumption | exact tab_age _ _ _ | constructor) (by repeat' first | assumption | exact tab_age _ _ _ | constructor) ?_
  dsimp only [List.cons_append, List.nil_append]
  rintro ⟨k, c⟩ ⟨hk, hc, hg⟩
  simp only at hk hc hg ⊢
  repeat' (first | assumption | exact fun h : ¬ True => absurd trivial h | exact fun h : False => h.elim | exact sd (by first | omega | (simp only []; omega) | (simp only [List.length_append, List.length_cons, List.length_nil, List.length_take, List.length_drop, List.length_map, List.length_range, List.length_set]; omega)) | exact sp (fun h => by simp [PathHolds] at h; omega) | exact sp (fun h => by simp [PathHolds, -List.getD_eq_getElem?_getD] at h; omega) | exact sd rfl | exact sd ⟨rfl, by decide⟩ | exact sd trivial | (show Nat.beq _ _ = true; rfl) | exact Bin.x rfl | (apply Run.nilStop rfl; apply RunSem.eqNil T_ok) | refine Run.storeStop rfl ?_ | (apply Run.mapStop; apply RunSem.mapSet T_ok) | (apply Run.newMapStop; apply RunSem.newMap T_ok) | (apply Run.sliceStop; apply RunSem.litI T_ok; rotate_left; rfl; rfl; rfl) | (apply AList.sliceStop; apply AListSem.litI T_ok; rotate_left; rfl; rfl; rfl) | (apply Run.semStop; apply RunSem.rangeStr T_ok) | (apply Run.semStop; apply RunSem.nextStr T_ok) | apply Run.condP | apply Sx.Ends.by () | exact tab_age _ _ _ | exact tab_all | exact tab_cells | exact tab_beq _ _ _ | exact tab_put _ _ _ _ | exact tab_put0 _ _ _ _ | exact tab_upd (by omega) | exact tab_read8 _ _ _ | exact tab_read (by omega) | exact sd (u8_range _) | constructor | intro _)
  · rename_i hlt
    have hlt' : k < b.length := by omega
    have hx := UInt8.toNat_lt (b.getD k 0)
    apply AgainK.mk ((k + 1, crc8 (c ^^^ (b.getD k 0).toNat)))
    case' h4 => (try simp only [List.append_nil]); repeat' (first | exact tab_age _ _ _ | constructor)
    case' h3 => repeat' constructor
    case' h1 => first | omega | (dsimp only; omega)
    · rw [← crcT_prog c hc (b.getD k 0) f hf]
    · refine ⟨by simp only; omega, crc8_lt (xor_lt32 hc (by omega)), ?_⟩
      rw [← hg, List.drop_eq_getElem_cons hlt', crcGo_cons, List.getD, List.getElem?_eq_getElem hlt']
      rfl
  · rename_i hge
    have : k = b.length := by omega
    subst this
    rw [List.drop_length, crcGo_nil] at hg
    rw [checkN, ← hg, ← not32 c hc]
theorem refCheck_ok (b : List UInt8) (h : b.length < 4611686018427387904) : Sat Try.prog 14 [DB b] [] (isV (.int .u32 (checkN b : Int))) := by
  refine Sat.of T_ok Try.func14 Try.call14 rfl rfl rfl ?_
  repeat' (first | assumption | exact fun h : ¬ True => absurd trivial h | exact fun h : False => h.elim | exact sd (by first | omega | (simp only []; omega) | (simp only [List.length_append, List.length_cons, List.length_nil, List.length_take, List.length_drop, List.length_map, List.length_range, List.length_set]; omega)) | exact sp (fun h => by simp [PathHolds] at h; omega) | exact sp (fun h => by simp [PathHolds, -List.getD_eq_getElem?_getD] at h; omega) | exact sd rfl | exact sd ⟨rfl, by decide⟩ | exact sd trivial | (show Nat.beq _ _ = true; rfl) | (apply Run.nilStop rfl; apply RunSem.eqNil T_ok) | refine Run.storeStop rfl ?_ | (apply Run.mapStop; apply RunSem.mapSet T_ok) | (apply Run.newMapStop; apply RunSem.newMap T_ok) | (apply Run.sliceStop; apply RunSem.litI T_ok; rotate_left; rfl; rfl; rfl) | (apply AList.sliceStop; apply AListSem.litI T_ok; rotate_left; rfl; rfl; rfl) | (apply Run.semStop; apply RunSem.rangeStr T_ok) | (apply Run.semStop; apply RunSem.nextStr T_ok) | apply Run.condP | apply Sx.Ends.by () | exact tab_age _ _ _ | exact tab_all | exact tab_cells | exact tab_beq _ _ _ | exact tab_put _ _ _ _ | exact tab_put0 _ _ _ _ | exact tab_upd (by omega) | exact tab_read8 _ _ _ | exact tab_read (by omega) | exact sd (u8_range _) | constructor | intro _)
  refine RunSem.loopK T_ok [0] (fun x : Nat × Nat => [(4, [], iv x.1), (3, [], .v (.int .u32 (x.2 : Int)))]) (fun _ => []) (fun x => x.1 ≤ b.length ∧ x.2 < 4294967296 ∧ crcGo x.2 (b.drop x.1) = crcGo 4294967295 b) (fun x => b.length - x.1) (0, 4294967295) ⟨by simp, by simp, rfl⟩ (by repeat' constructor) (by repeat' first | assumption | exact tab_age _ _ _ | constructor) (by repeat' first | assumption | exact tab_age _ _ _ | constructor) ?_
  dsimp only [List.cons_append, List.nil_append]
  rintro ⟨k, c⟩ ⟨hk, hc, hg⟩
  simp only at hk hc hg ⊢
  have hx := UInt8.toNat_lt (b.getD k 0)
  have e0 : IntKind.u32.wrap ((b.getD k 0).toNat : Int) = ((b.getD k 0).toNat : Int) := wu32 (by omega)
  have e1 := xor32 c (b.getD k 0).toNat hc (by omega)
  have hc' := xor_lt32 hc (show (b.getD k 0).toNat < 4294967296 by omega)
  repeat' (first | assumption | exact fun h : ¬ True => absurd trivial h | exact fun h : False => h.elim | exact sd (by first | omega | (simp only []; omega) | (simp only [List.length_append, List.length_cons, List.length_nil, List.length_take, List.length_drop, List.length_map, List.length_range, List.length_set]; omega)) | exact sp (fun h => by simp [PathHolds] at h; omega) | exact sp (fun h => by simp [PathHolds, -List.getD_eq_getElem?_getD] at h; omega) | exact sd rfl | exact sd ⟨rfl, by decide⟩ | exact sd trivial | (show Nat.beq _ _ = true; rfl) | exact Bin.x rfl | (apply Run.nilStop rfl; apply RunSem.eqNil T_ok) | refine Run.storeStop rfl ?_ | (apply Run.mapStop; apply RunSem.mapSet T_ok) | (apply Run.newMapStop; apply RunSem.newMap T_ok) | (apply Run.sliceStop; apply RunSem.litI T_ok; rotate_left; rfl; rfl; rfl) | (apply AList.sliceStop; apply AListSem.litI T_ok; rotate_left; rfl; rfl; rfl) | (apply Run.semStop; apply RunSem.rangeStr T_ok) | (apply Run.semStop; apply RunSem.nextStr T_ok) | apply Run.condP | apply Sx.Ends.by () | exact tab_age _ _ _ | exact tab_all | exact tab_cells | exact tab_beq _ _ _ | exact tab_put _ _ _ _ | exact tab_put0 _ _ _ _ | exact tab_upd (by omega) | exact tab_read8 _ _ _ | exact tab_read (by omega) | exact sd (u8_range _) | constructor | intro _)
  · rename_i hlt
    have hlt' : k < b.length := by omega
    rw [e0, e1]
    refine RunSem.loopK T_ok [0, 4] (fun x : Nat × Nat => [(5, [], iv x.1), (3, [], .v (.int .u32 (x.2 : Int)))]) (fun _ => []) (fun x => x.1 ≤ 8 ∧ x.2 < 4294967296 ∧ crcN (8 - x.1) x.2 = crc8 (c ^^^ (b.getD k 0).toNat)) (fun x => 8 - x.1) (0, c ^^^ (b.getD k 0).toNat) ⟨by simp, hc', by rw [crc8]; rfl⟩ (by repeat' constructor) (by repeat' first | assumption | exact tab_age _ _ _ | constructor) (by repeat' first | assumption | exact tab_age _ _ _ | constructor) ?_
    dsimp only [List.cons_append, List.nil_append]
    rintro ⟨j, d⟩ ⟨hj, hd, hr⟩
    simp only at hj hd hr ⊢
    have e3 : IntKind.u32.wrap ((d : Int).tdiv 2) = ((d / 2 : Nat) : Int) := wu32 (x := ((d / 2 : Nat) : Int)) (by omega)
    have e4 : (d : Int).tmod 2 = ((d % 2 : Nat) : Int) := rfl
    have e5 := xor32 (d / 2) 3988292384 (by omega) (by omega)
    repeat' (first | assumption | exact fun h : ¬ True => absurd trivial h | exact fun h : False => h.elim | exact sd (by first | omega | (simp only []; omega) | (simp only [List.length_append, List.length_cons, List.length_nil, List.length_take, List.length_drop, List.length_map, List.length_range, List.length_set]; omega)) | exact sp (fun h => by simp [PathHolds] at h; omega) | exact sp (fun h => by simp [PathHolds, -List.getD_eq_getElem?_getD] at h; omega) | exact sd rfl | exact sd ⟨rfl, by decide⟩ | exact sd trivial | (show Nat.beq _ _ = true; rfl) | exact Bin.x rfl | (apply Run.nilStop rfl; apply RunSem.eqNil T_ok) | refine Run.storeStop rfl ?_ | (apply Run.mapStop; apply RunSem.mapSet T_ok) | (apply Run.newMapStop; apply RunSem.newMap T_ok) | (apply Run.sliceStop; apply RunSem.litI T_ok; rotate_left; rfl; rfl; rfl) | (apply AList.sliceStop; apply AListSem.litI T_ok; rotate_left; rfl; rfl; rfl) | (apply Run.semStop; apply RunSem.rangeStr T_ok) | (apply Run.semStop; apply RunSem.nextStr T_ok) | apply Run.condP | apply Sx.Ends.by () | exact tab_age _ _ _ | exact tab_all | exact tab_cells | exact tab_beq _ _ _ | exact tab_put _ _ _ _ | exact tab_put0 _ _ _ _ | exact tab_upd (by omega) | exact tab_read8 _ _ _ | exact tab_read (by omega) | exact sd (u8_range _) | constructor | intro _)
    · rename_i h8 hodd
      rw [e4] at hodd
      apply AgainK.mk ((j + 1, crc1 d))
      case' h4 => (try simp only [List.append_nil]); repeat' (first | exact tab_age _ _ _ | constructor)
      case' h3 => repeat' constructor
      case' h1 => first | omega | (dsimp only; omega)
      · rw [e3, show (3988292384 : Int) = ((3988292384 : Nat) : Int) from rfl, e5, crc1, if_pos (by omega)]
      · refine ⟨by simp only; omega, crc1_lt hd, ?_⟩
        rw [← hr, show 8 - j = (8 - (j + 1)) + 1 by omega, crcN_succ]
    · rename_i h8 hodd
      rw [e4] at hodd
      apply AgainK.mk ((j + 1, crc1 d))
      case' h4 => (try simp only [List.append_nil]); repeat' (first | exact tab_age _ _ _ | constructor)
      case' h3 => repeat' constructor
      case' h1 => first | omega | (dsimp only; omega)
      · rw [e3, crc1, if_neg (by omega)]
      · refine ⟨by simp only; omega, crc1_lt hd, ?_⟩
        rw [← hr, show 8 - j = (8 - (j + 1)) + 1 by omega, crcN_succ]
    · rename_i h8
      have : j = 8 := by omega
      subst this
      rw [Nat.sub_self, crcN_zero] at hr
      apply AgainK.mk ((k + 1, d))
      case' h4 => (try simp only [List.append_nil]); repeat' (first | exact tab_age _ _ _ | constructor)
      case' h3 => repeat' constructor
      case' h1 => first | omega | (dsimp only; omega)
      refine ⟨by simp only; omega, hd, ?_⟩
      rw [← hg, List.drop_eq_getElem_cons hlt', crcGo_cons, hr, List.getD, List.getElem?_eq_getElem hlt']
      rfl
  · rename_i hge
    have : k = b.length := by omega
    subst this
    rw [List.drop_length, crcGo_nil] at hg
    rw [checkN, ← hg, wu32 (by omega)]
    exact congrArg (fun x => Value.int IntKind.u32 x) (by omega)
end Go.Proofs.Ytojfchnfhmccaaa
