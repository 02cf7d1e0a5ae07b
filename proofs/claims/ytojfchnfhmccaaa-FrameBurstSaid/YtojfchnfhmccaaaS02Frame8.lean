import Derived.Test.YtojfchnfhmccaaaS02Frame6
import Derived.Test.YtojfchnfhmccaaaSxUFrame4
set_option linter.all false
set_option maxHeartbeats 4000000
set_option maxRecDepth 100000
set_option linter.all false
namespace Go.Proofs.Ytojfchnfhmccaaa
open Go.Sx
attribute [local irreducible] RunSem AListSem AgainK Again Side Sx.Ends IntKind.wrap SatV AgainR DSem MJ
attribute [local irreducible] takeB takeGo crc1 crcN crc8 crcGo checkN frameAt scanGo scanB fourB frameB framesB BurstI
def scan3' (L : List (List UInt8)) (n : Nat) (e : Int) : AV → Sto → Prop := Gives (ι := Value) (fun v => .t [.o v, iv n, iv e]) (fun v => [.row v true 22 1 encBL [] L]) (fun _ => True)
theorem FrameBurst_ok (b c : List UInt8) (at_ : Int) (turn : Nat) (hat : -9223372036854775808 ≤ at_ ∧ at_ ≤ 9223372036854775807) (hturn : turn < 4294967296) (hb : b.length ≤ 140737488351232) (hc : c.length ≤ 140737488351232) : Sat Try.prog 5 [.g [DB b, DB c], iv at_, .v (.int .u32 (turn : Int))] [] (isV (.bool true)) := by
  by_cases h2000 : b.length ≤ 2000 ∧ c.length ≤ 2000
  · have hbb := frameB_bounds b (by omega)
    have hcb := frameB_bounds c (by omega)
    have hfl := frameB_len b
    refine Sat.of T_ok Try.func5 Try.call5 rfl rfl rfl ?_
    repeat' (first | assumption | exact fun h : ¬ True => absurd trivial h | exact fun h : False => h.elim | exact sd (by first | omega | (simp only []; omega) | (simp only [List.length_append, List.length_cons, List.length_nil, List.length_take, List.length_drop, List.length_map, List.length_range, List.length_set]; omega)) | exact sp (fun h => by simp [PathHolds] at h; omega) | exact sp (fun h => by simp [PathHolds, -List.getD_eq_getElem?_getD] at h; omega) | exact sd rfl | exact sd ⟨rfl, by decide⟩ | exact sd trivial | (show Nat.beq _ _ = true; rfl) | (apply Run.nilStop rfl; apply RunSem.eqNil T_ok) | refine Run.storeStop rfl ?_ | (apply Run.mapStop; apply RunSem.mapSet T_ok) | (apply Run.newMapStop; apply RunSem.newMap T_ok) | (apply Run.sliceStop; apply RunSem.litI T_ok; rotate_left; rfl; rfl; rfl) | (apply AList.sliceStop; apply AListSem.litI T_ok; rotate_left; rfl; rfl; rfl) | (apply Run.semStop; apply RunSem.rangeStr T_ok) | (apply Run.semStop; apply RunSem.nextStr T_ok) | apply Run.condP | apply Sx.Ends.by () | (apply Run.semStop; apply RunSem.appendK (s := 9) (d := 131) T_ok) | constructor | intro _)
    apply RunSem.lend T_ok awake_ok (fun _ => ⟨rfl, rfl⟩)
    all_goals repeat' (first | assumption | exact fun h : ¬ True => absurd trivial h | exact fun h : False => h.elim | exact sd (by first | omega | (simp only []; omega) | (simp only [List.length_append, List.length_cons, List.length_nil, List.length_take, List.length_drop, List.length_map, List.length_range, List.length_set]; omega)) | exact sp (fun h => by simp [PathHolds] at h; omega) | exact sp (fun h => by simp [PathHolds, -List.getD_eq_getElem?_getD] at h; omega) | exact sd rfl | exact sd ⟨rfl, by decide⟩ | exact sd trivial | (show Nat.beq _ _ = true; rfl) | exact Bin.x rfl | (apply Run.nilStop rfl; apply RunSem.eqNil T_ok) | refine Run.storeStop rfl ?_ | (apply Run.mapStop; apply RunSem.mapSet T_ok) | (apply Run.newMapStop; apply RunSem.newMap T_ok) | (apply Run.sliceStop; apply RunSem.litI T_ok; rotate_left; rfl; rfl; rfl) | (apply AList.sliceStop; apply AListSem.litI T_ok; rotate_left; rfl; rfl; rfl) | (apply Run.semStop; apply RunSem.rangeStr T_ok) | (apply Run.semStop; apply RunSem.nextStr T_ok) | apply Run.condP | apply Sx.Ends.by () | (apply Run.semStop; apply RunSem.appendK (s := 9) (d := 131) T_ok) | constructor | intro _)
    rename_i hgd
    obtain ⟨a, rfl⟩ := Int.eq_ofNat_of_zero_le (show 0 ≤ at_ by omega)
    have ha : a < 8 * (b.length + 4) := by omega
    apply RunSem.lend T_ok (Put_ok' b (by omega)) (fun _ => ⟨rfl, rfl⟩)
    all_goals repeat' (first | assumption | exact fun h : ¬ True => absurd trivial h | exact fun h : False => h.elim | exact sd (by first | omega | (simp only []; omega) | (simp only [List.length_append, List.length_cons, List.length_nil, List.length_take, List.length_drop, List.length_map, List.length_range, List.length_set]; omega)) | exact sp (fun h => by simp [PathHolds] at h; omega) | exact sp (fun h => by simp [PathHolds, -List.getD_eq_getElem?_getD] at h; omega) | exact sd rfl | exact sd ⟨rfl, by decide⟩ | exact sd trivial | (show Nat.beq _ _ = true; rfl) | exact Bin.x rfl | (apply Run.nilStop rfl; apply RunSem.eqNil T_ok) | refine Run.storeStop rfl ?_ | (apply Run.mapStop; apply RunSem.mapSet T_ok) | (apply Run.newMapStop; apply RunSem.newMap T_ok) | (apply Run.sliceStop; apply RunSem.litI T_ok; rotate_left; rfl; rfl; rfl) | (apply AList.sliceStop; apply AListSem.litI T_ok; rotate_left; rfl; rfl; rfl) | (apply Run.semStop; apply RunSem.rangeStr T_ok) | (apply Run.semStop; apply RunSem.nextStr T_ok) | apply Run.condP | apply Sx.Ends.by () | (apply Run.semStop; apply RunSem.appendK (s := 9) (d := 131) T_ok) | constructor | intro _)
    rename_i vf _
    apply RunSem.lend T_ok (Put_ok' c (by omega)) (fun _ => ⟨rfl, rfl⟩)
    all_goals repeat' (first | assumption | exact fun h : ¬ True => absurd trivial h | exact fun h : False => h.elim | exact sd (by first | omega | (simp only []; omega) | (simp only [List.length_append, List.length_cons, List.length_nil, List.length_take, List.length_drop, List.length_map, List.length_range, List.length_set]; omega)) | exact sp (fun h => by simp [PathHolds] at h; omega) | exact sp (fun h => by simp [PathHolds, -List.getD_eq_getElem?_getD] at h; omega) | exact sd rfl | exact sd ⟨rfl, by decide⟩ | exact sd trivial | (show Nat.beq _ _ = true; rfl) | exact Bin.x rfl | (apply Run.nilStop rfl; apply RunSem.eqNil T_ok) | refine Run.storeStop rfl ?_ | (apply Run.mapStop; apply RunSem.mapSet T_ok) | (apply Run.newMapStop; apply RunSem.newMap T_ok) | (apply Run.sliceStop; apply RunSem.litI T_ok; rotate_left; rfl; rfl; rfl) | (apply AList.sliceStop; apply AListSem.litI T_ok; rotate_left; rfl; rfl; rfl) | (apply Run.semStop; apply RunSem.rangeStr T_ok) | (apply Run.semStop; apply RunSem.nextStr T_ok) | apply Run.condP | apply Sx.Ends.by () | (apply Run.semStop; apply RunSem.appendK (s := 9) (d := 131) T_ok) | constructor | intro _)
    · exfalso; omega
    rename_i vg _ _
    have hfr : (frameB b).length - b.length - 4 = (putN b.length).length := by omega
    have h10 := putN_len b.length (by omega)
    refine RunSem.loopK T_ok [1, 7, 8, 9, 11, 13] (fun x : Nat × Nat × Bool × List UInt8 => [(15, [], iv x.1), (2, [], .v (.int .u32 (x.2.1 : Int))), (14, [], bv x.2.2.1)]) (fun x => [.row vf true 5 1 encB 0 x.2.2.2]) (fun x => x.1 ≤ 32 ∧ BurstI b a turn x.1 x.2.1 x.2.2.1 x.2.2.2) (fun x => 32 - x.1) (0, turn, false, frameB b) ⟨by simp, BurstI.start b a turn⟩ (by repeat' constructor) (by repeat' first | assumption | exact tab_age _ _ _ | constructor) (by repeat' first | assumption | exact tab_age _ _ _ | constructor) ?_
    dsimp only [List.cons_append, List.nil_append]
    rintro ⟨i, t, sm, fc⟩ ⟨hi, hI⟩
    simp only at hi hI ⊢
    have hlen := hI.len
    have ht : t < 4294967296 := hI.lt hturn
    have htm : (t : Int).tmod 2 = ((t % 2 : Nat) : Int) := rfl
    have htd : IntKind.u32.wrap ((t : Int).tdiv 2) = ((t / 2 : Nat) : Int) := wu32 (x := ((t / 2 : Nat) : Int)) (by omega)
    have hai : ((a : Int) + (i : Int)).tmod 8 = (((a + i) % 8 : Nat) : Int) := rfl
    have hai2 : ((a : Int) + (i : Int)).tdiv 8 = (((a + i) / 8 : Nat) : Int) := rfl
    have hix2 : (((frameB b).length : Int) - (b.length : Int) - 4 + ((a : Int) + (i : Int)) / 8).toNat = (putN b.length).length + (a + i) / 8 := by omega
    have hix : ((frameB b).length : Int) - (b.length : Int) - 4 + (((a + i) / 8 : Nat) : Int) = (((putN b.length).length + (a + i) / 8 : Nat) : Int) := by omega
    repeat' (first | assumption | exact fun h : ¬ True => absurd trivial h | exact fun h : False => h.elim | exact sd (by first | omega | (simp only []; omega) | (simp only [List.length_append, List.length_cons, List.length_nil, List.length_take, List.length_drop, List.length_map, List.length_range, List.length_set]; omega)) | exact sp (fun h => by simp [PathHolds] at h; omega) | exact sp (fun h => by simp [PathHolds, -List.getD_eq_getElem?_getD] at h; omega) | exact sd rfl | exact sd ⟨rfl, by decide⟩ | exact sd trivial | (show Nat.beq _ _ = true; rfl) | exact Bin.x rfl | (apply Run.nilStop rfl; apply RunSem.eqNil T_ok) | refine Run.storeStop rfl ?_ | (apply Run.mapStop; apply RunSem.mapSet T_ok) | (apply Run.newMapStop; apply RunSem.newMap T_ok) | (apply Run.sliceStop; apply RunSem.litI T_ok; rotate_left; rfl; rfl; rfl) | (apply AList.sliceStop; apply AListSem.litI T_ok; rotate_left; rfl; rfl; rfl) | (apply Run.semStop; apply RunSem.rangeStr T_ok) | (apply Run.semStop; apply RunSem.nextStr T_ok) | apply Run.condP | apply Sx.Ends.by () | (apply Run.semStop; apply RunSem.appendK (s := 9) (d := 131) T_ok) | constructor | intro _)
    · rename_i hi32 hcd
      rw [htm] at hcd
      refine RunSem.loopK T_ok [1, 7, 8, 9, 11, 13, 15, 2, 14, 16] (fun x : Nat × Nat => [(18, [], iv x.1), (17, [], .v (.int .u8 (x.2 : Int)))]) (fun _ => []) (fun x => x.1 ≤ (a + i) % 8 ∧ x.2 = 2 ^ x.1) (fun x => 8 - x.1) (0, 1) ⟨by simp, by simp⟩ (by repeat' constructor) (by repeat' first | assumption | exact tab_age _ _ _ | constructor) (by repeat' first | assumption | exact tab_age _ _ _ | constructor) ?_
      dsimp only [List.cons_append, List.nil_append]
      rintro ⟨j, p⟩ ⟨hj, hp⟩
      simp only at hj hp ⊢
      have hp7 : p ≤ 128 := by
        have := Nat.pow_le_pow_right (n := 2) (by omega) (show j ≤ 7 by omega)
        omega
      repeat' (first | assumption | exact fun h : ¬ True => absurd trivial h | exact fun h : False => h.elim | exact sd (by first | omega | (simp only []; omega) | (simp only [List.length_append, List.length_cons, List.length_nil, List.length_take, List.length_drop, List.length_map, List.length_range, List.length_set]; omega)) | exact sp (fun h => by simp [PathHolds] at h; omega) | exact sp (fun h => by simp [PathHolds, -List.getD_eq_getElem?_getD] at h; omega) | exact sd rfl | exact sd ⟨rfl, by decide⟩ | exact sd trivial | (show Nat.beq _ _ = true; rfl) | exact Bin.x rfl | (apply Run.nilStop rfl; apply RunSem.eqNil T_ok) | refine Run.storeStop rfl ?_ | (apply Run.mapStop; apply RunSem.mapSet T_ok) | (apply Run.newMapStop; apply RunSem.newMap T_ok) | (apply Run.sliceStop; apply RunSem.litI T_ok; rotate_left; rfl; rfl; rfl) | (apply AList.sliceStop; apply AListSem.litI T_ok; rotate_left; rfl; rfl; rfl) | (apply Run.semStop; apply RunSem.rangeStr T_ok) | (apply Run.semStop; apply RunSem.nextStr T_ok) | apply Run.condP | apply Sx.Ends.by () | (apply Run.semStop; apply RunSem.appendK (s := 9) (d := 131) T_ok) | constructor | intro _)
      · rename_i hjl
        have hp6 : p ≤ 64 := by
          have := Nat.pow_le_pow_right (n := 2) (by omega) (show j ≤ 6 by omega)
          omega
        apply AgainK.mk ((j + 1, 2 * p))
        case' h4 => (try simp only [List.append_nil]); repeat' (first | exact tab_age _ _ _ | constructor)
        case' h3 => repeat' constructor
        case' h1 => first | omega | (dsimp only; omega)
        · exact congrArg (fun x => Value.int IntKind.u8 x) (wu8 (x := ((2 * p : Nat) : Int)) (by omega))
        · exact ⟨by simp only; omega, by simp only; rw [hp, Nat.pow_succ, Nat.mul_comm]⟩
      · rename_i hjl
        have hje : j = (a + i) % 8 := by omega
        subst hje
        subst hp
        apply RunSem.storeE T_ok ((fc.getD ((putN b.length).length + (a + i) / 8) 0 ^^^ UInt8.ofNat (2 ^ ((a + i) % 8))))
        all_goals repeat' (first | assumption | exact fun h : ¬ True => absurd trivial h | exact fun h : False => h.elim | exact sd (by first | omega | (simp only []; omega) | (simp only [List.length_append, List.length_cons, List.length_nil, List.length_take, List.length_drop, List.length_map, List.length_range, List.length_set]; omega)) | exact sp (fun h => by simp [PathHolds] at h; omega) | exact sp (fun h => by simp [PathHolds, -List.getD_eq_getElem?_getD] at h; omega) | exact sd rfl | exact sd ⟨rfl, by decide⟩ | exact sd trivial | (show Nat.beq _ _ = true; rfl) | exact Bin.x rfl | (apply Run.nilStop rfl; apply RunSem.eqNil T_ok) | refine Run.storeStop rfl ?_ | (apply Run.mapStop; apply RunSem.mapSet T_ok) | (apply Run.newMapStop; apply RunSem.newMap T_ok) | (apply Run.sliceStop; apply RunSem.litI T_ok; rotate_left; rfl; rfl; rfl) | (apply AList.sliceStop; apply AListSem.litI T_ok; rotate_left; rfl; rfl; rfl) | (apply Run.semStop; apply RunSem.rangeStr T_ok) | (apply Run.semStop; apply RunSem.nextStr T_ok) | apply Run.condP | apply Sx.Ends.by () | (apply Run.semStop; apply RunSem.appendK (s := 9) (d := 131) T_ok) | constructor | intro _)
        · have hpt : (UInt8.ofNat (2 ^ ((a + i) % 8))).toNat = 2 ^ ((a + i) % 8) := by simp; omega
          rw [hix2, if_pos ⟨Nat.le_refl _, by simp⟩]
          show DV.v (.int .u8 _) = DV.v (.int .u8 _)
          rw [xor8N _ _ (UInt8.toNat_lt _) (by omega), UInt8.toNat_xor, hpt]
        · rw [hix2]
          apply AgainK.mk ((i + 1, t / 2, true, fc.set ((putN b.length).length + (a + i) / 8) (fc.getD ((putN b.length).length + (a + i) / 8) 0 ^^^ UInt8.ofNat (2 ^ ((a + i) % 8)))))
          case' h4 => (try simp only [List.append_nil]); repeat' (first | exact tab_age _ _ _ | constructor)
          case' h3 => repeat' constructor
          case' h1 => first | omega | (dsimp only; omega)
          · rw [htd]
          · exact ⟨by simp only; omega, hI.flip (by omega) (by omega)⟩
    · rename_i hi32 hcd
      rw [htm] at hcd
      apply AgainK.mk ((i + 1, t / 2, sm, fc))
      case' h4 => (try simp only [List.append_nil]); repeat' (first | exact tab_age _ _ _ | constructor)
      case' h3 => repeat' constructor
      case' h1 => first | omega | (dsimp only; omega)
      · rw [htd]
      · exact ⟨by simp only; omega, hI.keep (by omega)⟩
    · rename_i hge va
      have hi32 : i = 32 := by omega
      subst hi32
      have hpp : List.drop 0 (List.take fc.length (fc ++ frameB c)) = fc := by rw [List.drop_zero, List.take_left]
      have hS1 := Scan_ok (fc ++ frameB c) (by rw [List.length_append]; omega)
      have hS2 := Scan_ok fc (by omega)
      rw [← hpp] at hS2
      rw [hpp] at hS2
      cases sm with
      | true =>
        have hb1 := hI.bad (by omega) ha (frameB c)
        have hb2 := hI.bad (by omega) ha []
        rw [if_neg (fun h => by rw [h] at hcb; simp at hcb)] at hb1
        rw [List.append_nil, if_pos rfl] at hb2
        rw [hb1] at hS1
        rw [hb2] at hS2
        change Sat _ _ _ _ (scan3' [] 0 2) at hS1
        change Sat _ _ _ _ (scan3' [] 0 1) at hS2
        apply RunSem.lend T_ok hS1 (fun _ => ⟨rfl, rfl⟩)
        all_goals repeat' (first | assumption | exact fun h : ¬ True => absurd trivial h | exact fun h : False => h.elim | exact sd (by first | omega | (simp only []; omega) | (simp only [List.length_append, List.length_cons, List.length_nil, List.length_take, List.length_drop, List.length_map, List.length_range, List.length_set]; omega)) | exact sp (fun h => by simp [PathHolds] at h; omega) | exact sp (fun h => by simp [PathHolds, -List.getD_eq_getElem?_getD] at h; omega) | exact sd rfl | exact sd ⟨rfl, by decide⟩ | exact sd trivial | (show Nat.beq _ _ = true; rfl) | exact Bin.x rfl | (apply Run.nilStop rfl; apply RunSem.eqNil T_ok) | refine Run.storeStop rfl ?_ | (apply Run.mapStop; apply RunSem.mapSet T_ok) | (apply Run.newMapStop; apply RunSem.newMap T_ok) | (apply Run.sliceStop; apply RunSem.litI T_ok; rotate_left; rfl; rfl; rfl) | (apply AList.sliceStop; apply AListSem.litI T_ok; rotate_left; rfl; rfl; rfl) | (apply Run.semStop; apply RunSem.rangeStr T_ok) | (apply Run.semStop; apply RunSem.nextStr T_ok) | apply Run.condP | apply Sx.Ends.by () | (apply Run.semStop; apply RunSem.appendK (s := 9) (d := 131) T_ok) | constructor | intro _)
        apply RunSem.lend T_ok hS2 (fun _ => ⟨rfl, rfl⟩)
        all_goals repeat' (first | assumption | exact fun h : ¬ True => absurd trivial h | exact fun h : False => h.elim | exact sd (by first | omega | (simp only []; omega) | (simp only [List.length_append, List.length_cons, List.length_nil, List.length_take, List.length_drop, List.length_map, List.length_range, List.length_set]; omega)) | exact sp (fun h => by simp [PathHolds] at h; omega) | exact sp (fun h => by simp [PathHolds, -List.getD_eq_getElem?_getD] at h; omega) | exact sd rfl | exact sd ⟨rfl, by decide⟩ | exact sd trivial | (show Nat.beq _ _ = true; rfl) | exact Bin.x rfl | (apply Run.nilStop rfl; apply RunSem.eqNil T_ok) | refine Run.storeStop rfl ?_ | (apply Run.mapStop; apply RunSem.mapSet T_ok) | (apply Run.newMapStop; apply RunSem.newMap T_ok) | (apply Run.sliceStop; apply RunSem.litI T_ok; rotate_left; rfl; rfl; rfl) | (apply AList.sliceStop; apply AListSem.litI T_ok; rotate_left; rfl; rfl; rfl) | (apply Run.semStop; apply RunSem.rangeStr T_ok) | (apply Run.semStop; apply RunSem.nextStr T_ok) | apply Run.condP | apply Sx.Ends.by () | (apply Run.semStop; apply RunSem.appendK (s := 9) (d := 131) T_ok) | constructor | intro _)
      | false =>
        have hfs := hI.same
        subst hfs
        have e1 := scanB_frames (l := [b, c]) (by intro x hx; simp at hx; rcases hx with rfl | rfl <;> omega)
        have e2 := scanB_frames (l := [b]) (by intro x hx; simp at hx; subst hx; omega)
        have e3 : framesB [b, c] = frameB b ++ frameB c := by rw [framesB_cons, framesB_one]
        rw [framesB_one] at e2
        rw [e3] at e1
        rw [e1] at hS1
        rw [e2] at hS2
        change Sat _ _ _ _ (scan3' [b, c] _ 0) at hS1
        change Sat _ _ _ _ (scan3' [b] _ 0) at hS2
        apply RunSem.lend T_ok hS1 (fun _ => ⟨rfl, rfl⟩)
        all_goals repeat' (first | assumption | exact fun h : ¬ True => absurd trivial h | exact fun h : False => h.elim | exact sd (by first | omega | (simp only []; omega) | (simp only [List.length_append, List.length_cons, List.length_nil, List.length_take, List.length_drop, List.length_map, List.length_range, List.length_set]; omega)) | exact sp (fun h => by simp [PathHolds] at h; omega) | exact sp (fun h => by simp [PathHolds, -List.getD_eq_getElem?_getD] at h; omega) | exact sd rfl | exact sd ⟨rfl, by decide⟩ | exact sd trivial | (show Nat.beq _ _ = true; rfl) | exact Bin.x rfl | (apply Run.nilStop rfl; apply RunSem.eqNil T_ok) | refine Run.storeStop rfl ?_ | (apply Run.mapStop; apply RunSem.mapSet T_ok) | (apply Run.newMapStop; apply RunSem.newMap T_ok) | (apply Run.sliceStop; apply RunSem.litI T_ok; rotate_left; rfl; rfl; rfl) | (apply AList.sliceStop; apply AListSem.litI T_ok; rotate_left; rfl; rfl; rfl) | (apply Run.semStop; apply RunSem.rangeStr T_ok) | (apply Run.semStop; apply RunSem.nextStr T_ok) | apply Run.condP | apply Sx.Ends.by () | (apply Run.semStop; apply RunSem.appendK (s := 9) (d := 131) T_ok) | constructor | intro _)
        apply RunSem.lend T_ok hS2 (fun _ => ⟨rfl, rfl⟩)
        all_goals repeat' (first | assumption | exact fun h : ¬ True => absurd trivial h | exact fun h : False => h.elim | exact sd (by first | omega | (simp only []; omega) | (simp only [List.length_append, List.length_cons, List.length_nil, List.length_take, List.length_drop, List.length_map, List.length_range, List.length_set]; omega)) | exact sp (fun h => by simp [PathHolds] at h; omega) | exact sp (fun h => by simp [PathHolds, -List.getD_eq_getElem?_getD] at h; omega) | exact sd rfl | exact sd ⟨rfl, by decide⟩ | exact sd trivial | (show Nat.beq _ _ = true; rfl) | exact Bin.x rfl | (apply Run.nilStop rfl; apply RunSem.eqNil T_ok) | refine Run.storeStop rfl ?_ | (apply Run.mapStop; apply RunSem.mapSet T_ok) | (apply Run.newMapStop; apply RunSem.newMap T_ok) | (apply Run.sliceStop; apply RunSem.litI T_ok; rotate_left; rfl; rfl; rfl) | (apply AList.sliceStop; apply AListSem.litI T_ok; rotate_left; rfl; rfl; rfl) | (apply Run.semStop; apply RunSem.rangeStr T_ok) | (apply Run.semStop; apply RunSem.nextStr T_ok) | apply Run.condP | apply Sx.Ends.by () | (apply Run.semStop; apply RunSem.appendK (s := 9) (d := 131) T_ok) | constructor | intro _)
    · rename_i hge va
      have hi32 : i = 32 := by omega
      subst hi32
      have hS1 := Scan_ok (fc ++ frameB c) (by rw [List.length_append]; omega)
      have hS2 := Scan_ok fc (by omega)
      cases sm with
      | true =>
        have hb1 := hI.bad (by omega) ha (frameB c)
        have hb2 := hI.bad (by omega) ha []
        rw [if_neg (fun h => by rw [h] at hcb; simp at hcb)] at hb1
        rw [List.append_nil, if_pos rfl] at hb2
        rw [hb1] at hS1
        rw [hb2] at hS2
        change Sat _ _ _ _ (scan3' [] 0 2) at hS1
        change Sat _ _ _ _ (scan3' [] 0 1) at hS2
        apply RunSem.lend T_ok hS1 (fun _ => ⟨rfl, rfl⟩)
        all_goals repeat' (first | assumption | exact fun h : ¬ True => absurd trivial h | exact fun h : False => h.elim | exact sd (by first | omega | (simp only []; omega) | (simp only [List.length_append, List.length_cons, List.length_nil, List.length_take, List.length_drop, List.length_map, List.length_range, List.length_set]; omega)) | exact sp (fun h => by simp [PathHolds] at h; omega) | exact sp (fun h => by simp [PathHolds, -List.getD_eq_getElem?_getD] at h; omega) | exact sd rfl | exact sd ⟨rfl, by decide⟩ | exact sd trivial | (show Nat.beq _ _ = true; rfl) | exact Bin.x rfl | (apply Run.nilStop rfl; apply RunSem.eqNil T_ok) | refine Run.storeStop rfl ?_ | (apply Run.mapStop; apply RunSem.mapSet T_ok) | (apply Run.newMapStop; apply RunSem.newMap T_ok) | (apply Run.sliceStop; apply RunSem.litI T_ok; rotate_left; rfl; rfl; rfl) | (apply AList.sliceStop; apply AListSem.litI T_ok; rotate_left; rfl; rfl; rfl) | (apply Run.semStop; apply RunSem.rangeStr T_ok) | (apply Run.semStop; apply RunSem.nextStr T_ok) | apply Run.condP | apply Sx.Ends.by () | (apply Run.semStop; apply RunSem.appendK (s := 9) (d := 131) T_ok) | constructor | intro _)
        apply RunSem.lend T_ok hS2 (fun _ => ⟨rfl, rfl⟩)
        all_goals repeat' (first | assumption | exact fun h : ¬ True => absurd trivial h | exact fun h : False => h.elim | exact sd (by first | omega | (simp only []; omega) | (simp only [List.length_append, List.length_cons, List.length_nil, List.length_take, List.length_drop, List.length_map, List.length_range, List.length_set]; omega)) | exact sp (fun h => by simp [PathHolds] at h; omega) | exact sp (fun h => by simp [PathHolds, -List.getD_eq_getElem?_getD] at h; omega) | exact sd rfl | exact sd ⟨rfl, by decide⟩ | exact sd trivial | (show Nat.beq _ _ = true; rfl) | exact Bin.x rfl | (apply Run.nilStop rfl; apply RunSem.eqNil T_ok) | refine Run.storeStop rfl ?_ | (apply Run.mapStop; apply RunSem.mapSet T_ok) | (apply Run.newMapStop; apply RunSem.newMap T_ok) | (apply Run.sliceStop; apply RunSem.litI T_ok; rotate_left; rfl; rfl; rfl) | (apply AList.sliceStop; apply AListSem.litI T_ok; rotate_left; rfl; rfl; rfl) | (apply Run.semStop; apply RunSem.rangeStr T_ok) | (apply Run.semStop; apply RunSem.nextStr T_ok) | apply Run.condP | apply Sx.Ends.by () | (apply Run.semStop; apply RunSem.appendK (s := 9) (d := 131) T_ok) | constructor | intro _)
      | false =>
        have hfs := hI.same
        subst hfs
        have e1 := scanB_frames (l := [b, c]) (by intro x hx; simp at hx; rcases hx with rfl | rfl <;> omega)
        have e2 := scanB_frames (l := [b]) (by intro x hx; simp at hx; subst hx; omega)
        have e3 : framesB [b, c] = frameB b ++ frameB c := by rw [framesB_cons, framesB_one]
        rw [framesB_one] at e2
        rw [e3] at e1
        rw [e1] at hS1
        rw [e2] at hS2
        change Sat _ _ _ _ (scan3' [b, c] _ 0) at hS1
        change Sat _ _ _ _ (scan3' [b] _ 0) at hS2
        apply RunSem.lend T_ok hS1 (fun _ => ⟨rfl, rfl⟩)
        all_goals repeat' (first | assumption | exact fun h : ¬ True => absurd trivial h | exact fun h : False => h.elim | exact sd (by first | omega | (simp only []; omega) | (simp only [List.length_append, List.length_cons, List.length_nil, List.length_take, List.length_drop, List.length_map, List.length_range, List.length_set]; omega)) | exact sp (fun h => by simp [PathHolds] at h; omega) | exact sp (fun h => by simp [PathHolds, -List.getD_eq_getElem?_getD] at h; omega) | exact sd rfl | exact sd ⟨rfl, by decide⟩ | exact sd trivial | (show Nat.beq _ _ = true; rfl) | exact Bin.x rfl | (apply Run.nilStop rfl; apply RunSem.eqNil T_ok) | refine Run.storeStop rfl ?_ | (apply Run.mapStop; apply RunSem.mapSet T_ok) | (apply Run.newMapStop; apply RunSem.newMap T_ok) | (apply Run.sliceStop; apply RunSem.litI T_ok; rotate_left; rfl; rfl; rfl) | (apply AList.sliceStop; apply AListSem.litI T_ok; rotate_left; rfl; rfl; rfl) | (apply Run.semStop; apply RunSem.rangeStr T_ok) | (apply Run.semStop; apply RunSem.nextStr T_ok) | apply Run.condP | apply Sx.Ends.by () | (apply Run.semStop; apply RunSem.appendK (s := 9) (d := 131) T_ok) | constructor | intro _)
        apply RunSem.lend T_ok hS2 (fun _ => ⟨rfl, rfl⟩)
        all_goals repeat' (first | assumption | exact fun h : ¬ True => absurd trivial h | exact fun h : False => h.elim | exact sd (by first | omega | (simp only []; omega) | (simp only [List.length_append, List.length_cons, List.length_nil, List.length_take, List.length_drop, List.length_map, List.length_range, List.length_set]; omega)) | exact sp (fun h => by simp [PathHolds] at h; omega) | exact sp (fun h => by simp [PathHolds, -List.getD_eq_getElem?_getD] at h; omega) | exact sd rfl | exact sd ⟨rfl, by decide⟩ | exact sd trivial | (show Nat.beq _ _ = true; rfl) | exact Bin.x rfl | (apply Run.nilStop rfl; apply RunSem.eqNil T_ok) | refine Run.storeStop rfl ?_ | (apply Run.mapStop; apply RunSem.mapSet T_ok) | (apply Run.newMapStop; apply RunSem.newMap T_ok) | (apply Run.sliceStop; apply RunSem.litI T_ok; rotate_left; rfl; rfl; rfl) | (apply AList.sliceStop; apply AListSem.litI T_ok; rotate_left; rfl; rfl; rfl) | (apply Run.semStop; apply RunSem.rangeStr T_ok) | (apply Run.semStop; apply RunSem.nextStr T_ok) | apply Run.condP | apply Sx.Ends.by () | (apply Run.semStop; apply RunSem.appendK (s := 9) (d := 131) T_ok) | constructor | intro _)
  · refine Sat.of T_ok Try.func5 Try.call5 rfl rfl rfl ?_
    repeat' (first | assumption | exact fun h : ¬ True => absurd trivial h | exact fun h : False => h.elim | exact sd (by first | omega | (simp only []; omega) | (simp only [List.length_append, List.length_cons, List.length_nil, List.length_take, List.length_drop, List.length_map, List.length_range, List.length_set]; omega)) | exact sp (fun h => by simp [PathHolds] at h; omega) | exact sp (fun h => by simp [PathHolds, -List.getD_eq_getElem?_getD] at h; omega) | exact sd rfl | exact sd ⟨rfl, by decide⟩ | exact sd trivial | (show Nat.beq _ _ = true; rfl) | (apply Run.nilStop rfl; apply RunSem.eqNil T_ok) | refine Run.storeStop rfl ?_ | (apply Run.mapStop; apply RunSem.mapSet T_ok) | (apply Run.newMapStop; apply RunSem.newMap T_ok) | (apply Run.sliceStop; apply RunSem.litI T_ok; rotate_left; rfl; rfl; rfl) | (apply AList.sliceStop; apply AListSem.litI T_ok; rotate_left; rfl; rfl; rfl) | (apply Run.semStop; apply RunSem.rangeStr T_ok) | (apply Run.semStop; apply RunSem.nextStr T_ok) | apply Run.condP | apply Sx.Ends.by () | (apply Run.semStop; apply RunSem.appendK (s := 9) (d := 131) T_ok) | constructor | intro _)
    apply RunSem.lend T_ok awake_ok (fun _ => ⟨rfl, rfl⟩)
    all_goals repeat' (first | assumption | exact fun h : ¬ True => absurd trivial h | exact fun h : False => h.elim | exact sd (by first | omega | (simp only []; omega) | (simp only [List.length_append, List.length_cons, List.length_nil, List.length_take, List.length_drop, List.length_map, List.length_range, List.length_set]; omega)) | exact sp (fun h => by simp [PathHolds] at h; omega) | exact sp (fun h => by simp [PathHolds, -List.getD_eq_getElem?_getD] at h; omega) | exact sd rfl | exact sd ⟨rfl, by decide⟩ | exact sd trivial | (show Nat.beq _ _ = true; rfl) | exact Bin.x rfl | (apply Run.nilStop rfl; apply RunSem.eqNil T_ok) | refine Run.storeStop rfl ?_ | (apply Run.mapStop; apply RunSem.mapSet T_ok) | (apply Run.newMapStop; apply RunSem.newMap T_ok) | (apply Run.sliceStop; apply RunSem.litI T_ok; rotate_left; rfl; rfl; rfl) | (apply AList.sliceStop; apply AListSem.litI T_ok; rotate_left; rfl; rfl; rfl) | (apply Run.semStop; apply RunSem.rangeStr T_ok) | (apply Run.semStop; apply RunSem.nextStr T_ok) | apply Run.condP | apply Sx.Ends.by () | (apply Run.semStop; apply RunSem.appendK (s := 9) (d := 131) T_ok) | constructor | intro _)
    exfalso; omega
end Go.Proofs.Ytojfchnfhmccaaa
