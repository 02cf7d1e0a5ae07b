import Derived.Test.YtngjjedlpjbdoaaS12Base
import Derived.Test.YtngjjedlpjbdoaaSxUGrid
import Derived.Lib.Bytealg
set_option linter.all false
set_option maxHeartbeats 4000000
set_option linter.all false
namespace Go.Proofs.Ytngjjedlpjbdoaa
open Go.Sx
attribute [local irreducible] RunSem AListSem AgainK Again Side Sx.Ends IntKind.wrap SatV AgainR DSem MJ
theorem Floor_ok (g : Gr) (c : Int) : Sat Try.prog 27 [gA g, iv c] [] (isV (.bool (floorB g c))) := by
  refine Sat.of T_ok Try.func27 Try.call27 rfl rfl rfl ?_
  repeat' (first | assumption | exact fun h : ¬ True => absurd trivial h | exact fun h : False => h.elim | exact sd (by first | omega | (simp only []; omega) | (simp only [List.length_append, List.length_cons, List.length_nil, List.length_take, List.length_drop, List.length_map, List.length_range]; omega)) | exact sp (fun h => by simp [PathHolds] at h; omega) | exact sd rfl | exact sd ⟨rfl, by decide⟩ | exact sd trivial | exact Bin.x rfl | (apply Run.nilStop rfl; apply RunSem.eqNil T_ok) | refine Run.storeStop rfl ?_ | (apply Run.mapStop; apply RunSem.mapSet T_ok) | (apply Run.newMapStop; apply RunSem.newMap T_ok) | (apply Run.sliceStop; apply RunSem.litI T_ok) | (apply AList.sliceStop; apply AListSem.litI T_ok) | (apply Run.semStop; apply RunSem.rangeStr T_ok) | (apply Run.semStop; apply RunSem.nextStr T_ok) | apply Run.condP | apply Sx.Ends.by () | constructor | intro _)
  rw [floorB_eq]
theorem refFloor_ok (g : Gr) (c : Int) : Sat Try.prog 33 [gA g, iv c] [] (isV (.bool (floorB g c))) := by
  refine Sat.of T_ok Try.func33 Try.call33 rfl rfl rfl ?_
  repeat' (first | assumption | exact fun h : ¬ True => absurd trivial h | exact fun h : False => h.elim | exact sd (by first | omega | (simp only []; omega) | (simp only [List.length_append, List.length_cons, List.length_nil, List.length_take, List.length_drop, List.length_map, List.length_range]; omega)) | exact sp (fun h => by simp [PathHolds] at h; omega) | exact sd rfl | exact sd ⟨rfl, by decide⟩ | exact sd trivial | exact Bin.x rfl | (apply Run.nilStop rfl; apply RunSem.eqNil T_ok) | refine Run.storeStop rfl ?_ | (apply Run.mapStop; apply RunSem.mapSet T_ok) | (apply Run.newMapStop; apply RunSem.newMap T_ok) | (apply Run.sliceStop; apply RunSem.litI T_ok) | (apply AList.sliceStop; apply AListSem.litI T_ok) | (apply Run.semStop; apply RunSem.rangeStr T_ok) | (apply Run.semStop; apply RunSem.nextStr T_ok) | apply Run.condP | apply Sx.Ends.by () | constructor | intro _)
  rw [floorB_eq]
theorem index0_ext (s : ByteArray) (c : UInt8) : Ext Try.prog 37 [.string s, .int .u8 (c.toNat : Int)] (.int .i64 (Lib.indexByte s.data.toList c)) := by
  intro w
  rw [run_callFunc_extern Try.func37 (by kernel_rfl) (by kernel_rfl) (by kernel_rfl) (e := Extern.BytealgIndexByte.indexByte) (by kernel_rfl)]
  rw [Lib.run_indexByteString]
  simp
theorem index1_ok (s : ByteArray) (c : UInt8) : Sat Try.prog 35 [.v (.string s), .v (.int .u8 (c.toNat : Int))] [] (isV (.int .i64 (Lib.indexByte s.data.toList c))) := by
  refine Sat.of T_ok Try.func35 Try.call35 rfl rfl rfl ?_
  repeat' (first | assumption | exact fun h : ¬ True => absurd trivial h | exact fun h : False => h.elim | exact sd (by first | omega | (simp only []; omega) | (simp only [List.length_append, List.length_cons, List.length_nil, List.length_take, List.length_drop, List.length_map, List.length_range]; omega)) | exact sp (fun h => by simp [PathHolds] at h; omega) | exact sd rfl | exact sd ⟨rfl, by decide⟩ | exact sd trivial | exact Bin.x rfl | (apply Run.nilStop rfl; apply RunSem.eqNil T_ok) | refine Run.storeStop rfl ?_ | (apply Run.mapStop; apply RunSem.mapSet T_ok) | (apply Run.newMapStop; apply RunSem.newMap T_ok) | (apply Run.sliceStop; apply RunSem.litI T_ok) | (apply AList.sliceStop; apply AListSem.litI T_ok) | (apply Run.semStop; apply RunSem.rangeStr T_ok) | (apply Run.semStop; apply RunSem.nextStr T_ok) | apply Run.condP | apply Sx.Ends.by () | constructor | intro _)
  apply RunSem.ext T_ok (index0_ext s c) rfl
  all_goals repeat' (first | assumption | exact fun h : ¬ True => absurd trivial h | exact fun h : False => h.elim | exact sd (by first | omega | (simp only []; omega) | (simp only [List.length_append, List.length_cons, List.length_nil, List.length_take, List.length_drop, List.length_map, List.length_range]; omega)) | exact sp (fun h => by simp [PathHolds] at h; omega) | exact sd rfl | exact sd ⟨rfl, by decide⟩ | exact sd trivial | exact Bin.x rfl | (apply Run.nilStop rfl; apply RunSem.eqNil T_ok) | refine Run.storeStop rfl ?_ | (apply Run.mapStop; apply RunSem.mapSet T_ok) | (apply Run.newMapStop; apply RunSem.newMap T_ok) | (apply Run.sliceStop; apply RunSem.litI T_ok) | (apply AList.sliceStop; apply AListSem.litI T_ok) | (apply Run.semStop; apply RunSem.rangeStr T_ok) | (apply Run.semStop; apply RunSem.nextStr T_ok) | apply Run.condP | apply Sx.Ends.by () | constructor | intro _)
theorem IndexByte_ok (s : ByteArray) (c : UInt8) : Sat Try.prog 28 [.v (.string s), .v (.int .u8 (c.toNat : Int))] [] (isV (.int .i64 (Lib.indexByte s.data.toList c))) := by
  refine Sat.of T_ok Try.func28 Try.call28 rfl rfl rfl ?_
  repeat' (first | assumption | exact fun h : ¬ True => absurd trivial h | exact fun h : False => h.elim | exact sd (by first | omega | (simp only []; omega) | (simp only [List.length_append, List.length_cons, List.length_nil, List.length_take, List.length_drop, List.length_map, List.length_range]; omega)) | exact sp (fun h => by simp [PathHolds] at h; omega) | exact sd rfl | exact sd ⟨rfl, by decide⟩ | exact sd trivial | exact Bin.x rfl | (apply Run.nilStop rfl; apply RunSem.eqNil T_ok) | refine Run.storeStop rfl ?_ | (apply Run.mapStop; apply RunSem.mapSet T_ok) | (apply Run.newMapStop; apply RunSem.newMap T_ok) | (apply Run.sliceStop; apply RunSem.litI T_ok) | (apply AList.sliceStop; apply AListSem.litI T_ok) | (apply Run.semStop; apply RunSem.rangeStr T_ok) | (apply Run.semStop; apply RunSem.nextStr T_ok) | apply Run.condP | apply Sx.Ends.by () | constructor | intro _)
  apply RunSem.lend T_ok (index1_ok s c) (fun _ => ⟨rfl, rfl⟩)
  all_goals repeat' (first | assumption | exact fun h : ¬ True => absurd trivial h | exact fun h : False => h.elim | exact sd (by first | omega | (simp only []; omega) | (simp only [List.length_append, List.length_cons, List.length_nil, List.length_take, List.length_drop, List.length_map, List.length_range]; omega)) | exact sp (fun h => by simp [PathHolds] at h; omega) | exact sd rfl | exact sd ⟨rfl, by decide⟩ | exact sd trivial | exact Bin.x rfl | (apply Run.nilStop rfl; apply RunSem.eqNil T_ok) | refine Run.storeStop rfl ?_ | (apply Run.mapStop; apply RunSem.mapSet T_ok) | (apply Run.newMapStop; apply RunSem.newMap T_ok) | (apply Run.sliceStop; apply RunSem.litI T_ok) | (apply AList.sliceStop; apply AListSem.litI T_ok) | (apply Run.semStop; apply RunSem.rangeStr T_ok) | (apply Run.semStop; apply RunSem.nextStr T_ok) | apply Run.condP | apply Sx.Ends.by () | constructor | intro _)
attribute [local irreducible] floorB goesB rightG arrow
theorem Goes_ok (g : Gr) (hg : GrOk g) (c way : Int) : Sat Try.prog 19 [gA g, iv c, iv way] [] (Gives (ι := Unit) (fun _ => .t [iv ((goesB g c way).getD 0), bv (goesB g c way).isSome]) (fun _ => []) (fun _ => True)) := by
  have hF := Floor_ok g c
  cases hf : floorB g c with
  | false =>
    have hG : goesB g c way = none := by unfold goesB; rw [if_pos (.inl hf)]
    rw [hG]
    rw [hf] at hF
    refine Sat.of T_ok Try.func19 Try.call19 rfl rfl rfl ?_
    repeat' (first | assumption | exact fun h : ¬ True => absurd trivial h | exact fun h : False => h.elim | exact sd (by first | omega | (simp only []; omega) | (simp only [List.length_append, List.length_cons, List.length_nil, List.length_take, List.length_drop, List.length_map, List.length_range]; omega)) | exact sp (fun h => by simp [PathHolds] at h; omega) | exact sd rfl | exact sd ⟨rfl, by decide⟩ | exact sd trivial | exact Bin.x rfl | (apply Run.nilStop rfl; apply RunSem.eqNil T_ok) | refine Run.storeStop rfl ?_ | (apply Run.mapStop; apply RunSem.mapSet T_ok) | (apply Run.newMapStop; apply RunSem.newMap T_ok) | (apply Run.sliceStop; apply RunSem.litI T_ok) | (apply AList.sliceStop; apply AListSem.litI T_ok) | (apply Run.semStop; apply RunSem.rangeStr T_ok) | (apply Run.semStop; apply RunSem.nextStr T_ok) | apply Run.condP | apply Sx.Ends.by () | (apply Run.drawStop; refine RunSem.drawBy (id := 6) T_ok mix 10 (by kernel_rfl) ?_) | constructor | intro _)
    apply RunSem.lend T_ok hF (fun _ => ⟨rfl, rfl⟩)
    all_goals repeat' (first | assumption | exact fun h : ¬ True => absurd trivial h | exact fun h : False => h.elim | exact sd (by first | omega | (simp only []; omega) | (simp only [List.length_append, List.length_cons, List.length_nil, List.length_take, List.length_drop, List.length_map, List.length_range]; omega)) | exact sp (fun h => by simp [PathHolds] at h; omega) | exact sd rfl | exact sd ⟨rfl, by decide⟩ | exact sd trivial | exact Bin.x rfl | (apply Run.nilStop rfl; apply RunSem.eqNil T_ok) | refine Run.storeStop rfl ?_ | (apply Run.mapStop; apply RunSem.mapSet T_ok) | (apply Run.newMapStop; apply RunSem.newMap T_ok) | (apply Run.sliceStop; apply RunSem.litI T_ok) | (apply AList.sliceStop; apply AListSem.litI T_ok) | (apply Run.semStop; apply RunSem.rangeStr T_ok) | (apply Run.semStop; apply RunSem.nextStr T_ok) | apply Run.condP | apply Sx.Ends.by () | (apply Run.drawStop; refine RunSem.drawBy (id := 6) T_ok mix 10 (by kernel_rfl) ?_) | constructor | intro _)
    all_goals (rename_i h; exact absurd trivial h)
  | true =>
    have hlt := floorB_lt hf
    rw [hf] at hF
    refine Sat.of T_ok Try.func19 Try.call19 rfl rfl rfl ?_
    repeat' (first | assumption | exact fun h : ¬ True => absurd trivial h | exact fun h : False => h.elim | exact sd (by first | omega | (simp only []; omega) | (simp only [List.length_append, List.length_cons, List.length_nil, List.length_take, List.length_drop, List.length_map, List.length_range]; omega)) | exact sp (fun h => by simp [PathHolds] at h; omega) | exact sd rfl | exact sd ⟨rfl, by decide⟩ | exact sd trivial | exact Bin.x rfl | (apply Run.nilStop rfl; apply RunSem.eqNil T_ok) | refine Run.storeStop rfl ?_ | (apply Run.mapStop; apply RunSem.mapSet T_ok) | (apply Run.newMapStop; apply RunSem.newMap T_ok) | (apply Run.sliceStop; apply RunSem.litI T_ok) | (apply AList.sliceStop; apply AListSem.litI T_ok) | (apply Run.semStop; apply RunSem.rangeStr T_ok) | (apply Run.semStop; apply RunSem.nextStr T_ok) | apply Run.condP | apply Sx.Ends.by () | (apply Run.drawStop; refine RunSem.drawBy (id := 6) T_ok mix 10 (by kernel_rfl) ?_) | constructor | intro _)
    apply RunSem.lend T_ok hF (fun _ => ⟨rfl, rfl⟩)
    all_goals repeat' (first | assumption | exact fun h : ¬ True => absurd trivial h | exact fun h : False => h.elim | exact sd (by first | omega | (simp only []; omega) | (simp only [List.length_append, List.length_cons, List.length_nil, List.length_take, List.length_drop, List.length_map, List.length_range]; omega)) | exact sp (fun h => by simp [PathHolds] at h; omega) | exact sd rfl | exact sd ⟨rfl, by decide⟩ | exact sd trivial | exact Bin.x rfl | (apply Run.nilStop rfl; apply RunSem.eqNil T_ok) | refine Run.storeStop rfl ?_ | (apply Run.mapStop; apply RunSem.mapSet T_ok) | (apply Run.newMapStop; apply RunSem.newMap T_ok) | (apply Run.sliceStop; apply RunSem.litI T_ok) | (apply AList.sliceStop; apply AListSem.litI T_ok) | (apply Run.semStop; apply RunSem.rangeStr T_ok) | (apply Run.semStop; apply RunSem.nextStr T_ok) | apply Run.condP | apply Sx.Ends.by () | (apply Run.drawStop; refine RunSem.drawBy (id := 6) T_ok mix 10 (by kernel_rfl) ?_) | constructor | intro _)
    · rename_i h
      have hG : goesB g c way = none := by unfold goesB; rw [if_pos (by simpa [hf] using h)]
      rw [hG]; rfl
    · rename_i h
      have hG : goesB g c way = none := by unfold goesB; rw [if_pos (by simpa [hf] using h)]
      rw [hG]; rfl
    · rename_i h1
      have hw : 0 ≤ way ∧ way ≤ 4 := by simp at h1; omega
      have hsz := hg.size
      have hdm := divmod_facts hlt.1 hg.w
      have hh := hg.h
      have hw2 := hg.w
      have hi := IndexByte_ok ⟨#[94, 62, 118, 60]⟩ (g.at c.toNat)
      rw [show Lib.indexByte (⟨#[94, 62, 118, 60]⟩ : ByteArray).data.toList (g.at c.toNat) = arrow (g.at c.toNat) by unfold arrow; rfl] at hi
      apply RunSem.lend T_ok hi (fun _ => ⟨rfl, rfl⟩)
      all_goals repeat' (first | assumption | exact fun h : ¬ True => absurd trivial h | exact fun h : False => h.elim | exact sd (by first | omega | (simp only []; omega) | (simp only [List.length_append, List.length_cons, List.length_nil, List.length_take, List.length_drop, List.length_map, List.length_range]; omega)) | exact sp (fun h => by simp [PathHolds] at h; omega) | exact sd rfl | exact sd ⟨rfl, by decide⟩ | exact sd trivial | exact Bin.x rfl | (apply Run.nilStop rfl; apply RunSem.eqNil T_ok) | refine Run.storeStop rfl ?_ | (apply Run.mapStop; apply RunSem.mapSet T_ok) | (apply Run.newMapStop; apply RunSem.newMap T_ok) | (apply Run.sliceStop; apply RunSem.litI T_ok) | (apply AList.sliceStop; apply AListSem.litI T_ok) | (apply Run.semStop; apply RunSem.rangeStr T_ok) | (apply Run.semStop; apply RunSem.nextStr T_ok) | apply Run.condP | apply Sx.Ends.by () | (apply Run.drawStop; refine RunSem.drawBy (id := 6) T_ok mix 10 (by kernel_rfl) ?_) | constructor | intro _)
      · rename_i h
        rw [goesB_arrow h]; rfl
      · rename_i h
        rw [goesB_arrow h]; rfl
      · rename_i har n1
        obtain rfl : way = 1 := by omega
        first | apply RunSem.lend T_ok (Floor_ok g (goY g c 1 * g.W + goX g c 1)) (fun _ => ⟨rfl, rfl⟩) | apply RunSem.callG T_ok (lend := true) (isV_fun (Floor_ok g (goY g c 1 * g.W + goX g c 1))) (fun _ => rfl) rfl | apply AListSem.call T_ok (lend := true) (isV_fun (Floor_ok g (goY g c 1 * g.W + goX g c 1))) (fun _ => rfl) rfl | apply AListSem.callG T_ok (lend := true) (isV_fun (Floor_ok g (goY g c 1 * g.W + goX g c 1))) (fun _ => rfl) rfl
        all_goals repeat' (first | assumption | exact fun h : ¬ True => absurd trivial h | exact fun h : False => h.elim | exact sd (by first | omega | (simp only []; omega) | (simp only [List.length_append, List.length_cons, List.length_nil, List.length_take, List.length_drop, List.length_map, List.length_range]; omega)) | exact sp (fun h => by simp [PathHolds] at h; omega) | exact sd rfl | exact sd ⟨rfl, by decide⟩ | exact sd trivial | exact Bin.x rfl | (apply Run.nilStop rfl; apply RunSem.eqNil T_ok) | refine Run.storeStop rfl ?_ | (apply Run.mapStop; apply RunSem.mapSet T_ok) | (apply Run.newMapStop; apply RunSem.newMap T_ok) | (apply Run.sliceStop; apply RunSem.litI T_ok) | (apply AList.sliceStop; apply AListSem.litI T_ok) | (apply Run.semStop; apply RunSem.rangeStr T_ok) | (apply Run.semStop; apply RunSem.nextStr T_ok) | apply Run.condP | apply Sx.Ends.by () | (apply Run.drawStop; refine RunSem.drawBy (id := 6) T_ok mix 10 (by kernel_rfl) ?_) | constructor | intro _)
        · rename_i hcond; rw [goes_out hf hw har hcond]; rfl
        · rename_i hcond; rw [goes_out hf hw har hcond]; rfl
        · rename_i hcond; rw [goes_in hf hw har hcond]; rfl
        · rename_i hcond; rw [goes_in hf hw har hcond]; rfl
      · rename_i har n1 n2
        obtain rfl : way = 2 := by omega
        first | apply RunSem.lend T_ok (Floor_ok g (goY g c 2 * g.W + goX g c 2)) (fun _ => ⟨rfl, rfl⟩) | apply RunSem.callG T_ok (lend := true) (isV_fun (Floor_ok g (goY g c 2 * g.W + goX g c 2))) (fun _ => rfl) rfl | apply AListSem.call T_ok (lend := true) (isV_fun (Floor_ok g (goY g c 2 * g.W + goX g c 2))) (fun _ => rfl) rfl | apply AListSem.callG T_ok (lend := true) (isV_fun (Floor_ok g (goY g c 2 * g.W + goX g c 2))) (fun _ => rfl) rfl
        all_goals repeat' (first | assumption | exact fun h : ¬ True => absurd trivial h | exact fun h : False => h.elim | exact sd (by first | omega | (simp only []; omega) | (simp only [List.length_append, List.length_cons, List.length_nil, List.length_take, List.length_drop, List.length_map, List.length_range]; omega)) | exact sp (fun h => by simp [PathHolds] at h; omega) | exact sd rfl | exact sd ⟨rfl, by decide⟩ | exact sd trivial | exact Bin.x rfl | (apply Run.nilStop rfl; apply RunSem.eqNil T_ok) | refine Run.storeStop rfl ?_ | (apply Run.mapStop; apply RunSem.mapSet T_ok) | (apply Run.newMapStop; apply RunSem.newMap T_ok) | (apply Run.sliceStop; apply RunSem.litI T_ok) | (apply AList.sliceStop; apply AListSem.litI T_ok) | (apply Run.semStop; apply RunSem.rangeStr T_ok) | (apply Run.semStop; apply RunSem.nextStr T_ok) | apply Run.condP | apply Sx.Ends.by () | (apply Run.drawStop; refine RunSem.drawBy (id := 6) T_ok mix 10 (by kernel_rfl) ?_) | constructor | intro _)
        · rename_i hcond; rw [goes_out hf hw har hcond]; rfl
        · rename_i hcond; rw [goes_out hf hw har hcond]; rfl
        · rename_i hcond; rw [goes_in hf hw har hcond]; rfl
        · rename_i hcond; rw [goes_in hf hw har hcond]; rfl
      · rename_i har n1 n2 n3
        obtain rfl : way = 3 := by omega
        first | apply RunSem.lend T_ok (Floor_ok g (goY g c 3 * g.W + goX g c 3)) (fun _ => ⟨rfl, rfl⟩) | apply RunSem.callG T_ok (lend := true) (isV_fun (Floor_ok g (goY g c 3 * g.W + goX g c 3))) (fun _ => rfl) rfl | apply AListSem.call T_ok (lend := true) (isV_fun (Floor_ok g (goY g c 3 * g.W + goX g c 3))) (fun _ => rfl) rfl | apply AListSem.callG T_ok (lend := true) (isV_fun (Floor_ok g (goY g c 3 * g.W + goX g c 3))) (fun _ => rfl) rfl
        all_goals repeat' (first | assumption | exact fun h : ¬ True => absurd trivial h | exact fun h : False => h.elim | exact sd (by first | omega | (simp only []; omega) | (simp only [List.length_append, List.length_cons, List.length_nil, List.length_take, List.length_drop, List.length_map, List.length_range]; omega)) | exact sp (fun h => by simp [PathHolds] at h; omega) | exact sd rfl | exact sd ⟨rfl, by decide⟩ | exact sd trivial | exact Bin.x rfl | (apply Run.nilStop rfl; apply RunSem.eqNil T_ok) | refine Run.storeStop rfl ?_ | (apply Run.mapStop; apply RunSem.mapSet T_ok) | (apply Run.newMapStop; apply RunSem.newMap T_ok) | (apply Run.sliceStop; apply RunSem.litI T_ok) | (apply AList.sliceStop; apply AListSem.litI T_ok) | (apply Run.semStop; apply RunSem.rangeStr T_ok) | (apply Run.semStop; apply RunSem.nextStr T_ok) | apply Run.condP | apply Sx.Ends.by () | (apply Run.drawStop; refine RunSem.drawBy (id := 6) T_ok mix 10 (by kernel_rfl) ?_) | constructor | intro _)
        · rename_i hcond; rw [goes_out hf hw har hcond]; rfl
        · rename_i hcond; rw [goes_out hf hw har hcond]; rfl
        · rename_i hcond; rw [goes_in hf hw har hcond]; rfl
        · rename_i hcond; rw [goes_in hf hw har hcond]; rfl
      · rename_i har n1 n2 n3 n4
        obtain rfl : way = 4 := by omega
        first | apply RunSem.lend T_ok (Floor_ok g (goY g c 4 * g.W + goX g c 4)) (fun _ => ⟨rfl, rfl⟩) | apply RunSem.callG T_ok (lend := true) (isV_fun (Floor_ok g (goY g c 4 * g.W + goX g c 4))) (fun _ => rfl) rfl | apply AListSem.call T_ok (lend := true) (isV_fun (Floor_ok g (goY g c 4 * g.W + goX g c 4))) (fun _ => rfl) rfl | apply AListSem.callG T_ok (lend := true) (isV_fun (Floor_ok g (goY g c 4 * g.W + goX g c 4))) (fun _ => rfl) rfl
        all_goals repeat' (first | assumption | exact fun h : ¬ True => absurd trivial h | exact fun h : False => h.elim | exact sd (by first | omega | (simp only []; omega) | (simp only [List.length_append, List.length_cons, List.length_nil, List.length_take, List.length_drop, List.length_map, List.length_range]; omega)) | exact sp (fun h => by simp [PathHolds] at h; omega) | exact sd rfl | exact sd ⟨rfl, by decide⟩ | exact sd trivial | exact Bin.x rfl | (apply Run.nilStop rfl; apply RunSem.eqNil T_ok) | refine Run.storeStop rfl ?_ | (apply Run.mapStop; apply RunSem.mapSet T_ok) | (apply Run.newMapStop; apply RunSem.newMap T_ok) | (apply Run.sliceStop; apply RunSem.litI T_ok) | (apply AList.sliceStop; apply AListSem.litI T_ok) | (apply Run.semStop; apply RunSem.rangeStr T_ok) | (apply Run.semStop; apply RunSem.nextStr T_ok) | apply Run.condP | apply Sx.Ends.by () | (apply Run.drawStop; refine RunSem.drawBy (id := 6) T_ok mix 10 (by kernel_rfl) ?_) | constructor | intro _)
        · rename_i hcond; rw [goes_out hf hw har hcond]; rfl
        · rename_i hcond; rw [goes_out hf hw har hcond]; rfl
        · rename_i hcond; rw [goes_in hf hw har hcond]; rfl
        · rename_i hcond; rw [goes_in hf hw har hcond]; rfl
      · rename_i har n1 n2 n3 n4
        obtain rfl : way = 0 := by omega
        first | apply RunSem.lend T_ok (Floor_ok g (goY g c 0 * g.W + goX g c 0)) (fun _ => ⟨rfl, rfl⟩) | apply RunSem.callG T_ok (lend := true) (isV_fun (Floor_ok g (goY g c 0 * g.W + goX g c 0))) (fun _ => rfl) rfl | apply AListSem.call T_ok (lend := true) (isV_fun (Floor_ok g (goY g c 0 * g.W + goX g c 0))) (fun _ => rfl) rfl | apply AListSem.callG T_ok (lend := true) (isV_fun (Floor_ok g (goY g c 0 * g.W + goX g c 0))) (fun _ => rfl) rfl
        all_goals repeat' (first | assumption | exact fun h : ¬ True => absurd trivial h | exact fun h : False => h.elim | exact sd (by first | omega | (simp only []; omega) | (simp only [List.length_append, List.length_cons, List.length_nil, List.length_take, List.length_drop, List.length_map, List.length_range]; omega)) | exact sp (fun h => by simp [PathHolds] at h; omega) | exact sd rfl | exact sd ⟨rfl, by decide⟩ | exact sd trivial | exact Bin.x rfl | (apply Run.nilStop rfl; apply RunSem.eqNil T_ok) | refine Run.storeStop rfl ?_ | (apply Run.mapStop; apply RunSem.mapSet T_ok) | (apply Run.newMapStop; apply RunSem.newMap T_ok) | (apply Run.sliceStop; apply RunSem.litI T_ok) | (apply AList.sliceStop; apply AListSem.litI T_ok) | (apply Run.semStop; apply RunSem.rangeStr T_ok) | (apply Run.semStop; apply RunSem.nextStr T_ok) | apply Run.condP | apply Sx.Ends.by () | (apply Run.drawStop; refine RunSem.drawBy (id := 6) T_ok mix 10 (by kernel_rfl) ?_) | constructor | intro _)
        · rename_i hcond; rw [goes_out hf hw har hcond]; rfl
        · rename_i hcond; rw [goes_out hf hw har hcond]; rfl
        · rename_i hcond; rw [goes_in hf hw har hcond]; rfl
        · rename_i hcond; rw [goes_in hf hw har hcond]; rfl
end Go.Proofs.Ytngjjedlpjbdoaa
