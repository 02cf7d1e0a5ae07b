import Derived.Test.YtlhcklmaikfjcaaS08GateR2
set_option linter.all false
set_option maxHeartbeats 4000000
set_option linter.all false
namespace Go.Proofs.Ytlhcklmaikfjcaa
open Go.Sx
attribute [local irreducible] RunSem AListSem AgainK Again Side Sx.Ends IntKind.wrap
theorem light_ok (a b c : List Int) : Sat Try.prog 7 [.g [DI a, DI b, DI c]] [] (isV (.bool (decide (a.length ≤ 60 ∧ b.length ≤ 60 ∧ c.length ≤ 60)))) := by
  refine Sat.of T_ok Try.func7 Try.call7 rfl rfl rfl ?_
  repeat' (first | assumption | exact sd (by first | omega | (simp only []; omega) | (simp only [List.length_append, List.length_cons, List.length_nil, List.length_take, List.length_drop, List.length_map, List.length_range]; omega)) | exact sp (fun h => by simp [PathHolds] at h; omega) | exact sd rfl | exact sd ⟨rfl, by decide⟩ | exact sd trivial | exact Bin.x rfl | (apply Run.nilStop rfl; apply RunSem.eqNil T_ok) | refine Run.storeStop rfl ?_ | (apply Run.mapStop; apply RunSem.mapSet T_ok) | (apply Run.newMapStop; apply RunSem.newMap T_ok) | (apply Run.sliceStop; apply RunSem.litI T_ok) | (apply AList.sliceStop; apply AListSem.litI T_ok) | apply Run.condP | apply Sx.Ends.by () | constructor | intro _)
  congr 1
  rw [Bool.eq_iff_iff]
  simp
  omega
theorem awake_ok : Sat Try.prog 6 [] [] (isV (.bool true)) := by
  have h1 := Gate_ok [1, 2] [2, 1] [] (by decide) (by decide) (by decide)
  rw [show gateB [1, 2] [2, 1] [] = ([1, 2], 0) by decide] at h1
  have h2 := Gate_ok [1, 2, 9] [2, 3, 3] [] (by decide) (by decide) (by decide)
  rw [show gateB [1, 2, 9] [2, 3, 3] [] = ([2, 3, 9], 0) by decide] at h2
  have h3 := Gate_ok [1, 1] [1, 1] [] (by decide) (by decide) (by decide)
  rw [show gateB [1, 1] [1, 1] [] = ([], 6) by decide] at h3
  have h4 := Clash_ok [1, 2, 4] [3, 3, 3] (by decide)
  rw [show clashB [1, 2, 4] [3, 3, 3] = (0, 1) by decide] at h4
  refine Sat.of T_ok Try.func6 Try.call6 rfl rfl rfl ?_
  repeat' (first | assumption | exact sd (by first | omega | (simp only []; omega) | (simp only [List.length_append, List.length_cons, List.length_nil, List.length_take, List.length_drop, List.length_map, List.length_range]; omega)) | exact sp (fun h => by simp [PathHolds] at h; omega) | exact sd rfl | exact sd ⟨rfl, by decide⟩ | exact sd trivial | exact Bin.x rfl | (apply Run.nilStop rfl; apply RunSem.eqNil T_ok) | refine Run.storeStop rfl ?_ | (apply Run.mapStop; apply RunSem.mapSet T_ok) | (apply Run.newMapStop; apply RunSem.newMap T_ok) | (apply Run.sliceStop; apply RunSem.litI T_ok) | (apply AList.sliceStop; apply AListSem.litI T_ok) | apply Run.condP | apply Sx.Ends.by () | constructor | intro _)
  apply RunSem.lend T_ok h1 (fun _ => ⟨rfl, rfl⟩)
  all_goals repeat' (first | assumption | exact sd (by first | omega | (simp only []; omega) | (simp only [List.length_append, List.length_cons, List.length_nil, List.length_take, List.length_drop, List.length_map, List.length_range]; omega)) | exact sp (fun h => by simp [PathHolds] at h; omega) | exact sd rfl | exact sd ⟨rfl, by decide⟩ | exact sd trivial | exact Bin.x rfl | (apply Run.nilStop rfl; apply RunSem.eqNil T_ok) | refine Run.storeStop rfl ?_ | (apply Run.mapStop; apply RunSem.mapSet T_ok) | (apply Run.newMapStop; apply RunSem.newMap T_ok) | (apply Run.sliceStop; apply RunSem.litI T_ok) | (apply AList.sliceStop; apply AListSem.litI T_ok) | apply Run.condP | apply Sx.Ends.by () | constructor | intro _)
  apply RunSem.lend T_ok h2 (fun _ => ⟨rfl, rfl⟩)
  all_goals repeat' (first | assumption | exact sd (by first | omega | (simp only []; omega) | (simp only [List.length_append, List.length_cons, List.length_nil, List.length_take, List.length_drop, List.length_map, List.length_range]; omega)) | exact sp (fun h => by simp [PathHolds] at h; omega) | exact sd rfl | exact sd ⟨rfl, by decide⟩ | exact sd trivial | exact Bin.x rfl | (apply Run.nilStop rfl; apply RunSem.eqNil T_ok) | refine Run.storeStop rfl ?_ | (apply Run.mapStop; apply RunSem.mapSet T_ok) | (apply Run.newMapStop; apply RunSem.newMap T_ok) | (apply Run.sliceStop; apply RunSem.litI T_ok) | (apply AList.sliceStop; apply AListSem.litI T_ok) | apply Run.condP | apply Sx.Ends.by () | constructor | intro _)
  apply RunSem.lend T_ok h3 (fun _ => ⟨rfl, rfl⟩)
  all_goals repeat' (first | assumption | exact sd (by first | omega | (simp only []; omega) | (simp only [List.length_append, List.length_cons, List.length_nil, List.length_take, List.length_drop, List.length_map, List.length_range]; omega)) | exact sp (fun h => by simp [PathHolds] at h; omega) | exact sd rfl | exact sd ⟨rfl, by decide⟩ | exact sd trivial | exact Bin.x rfl | (apply Run.nilStop rfl; apply RunSem.eqNil T_ok) | refine Run.storeStop rfl ?_ | (apply Run.mapStop; apply RunSem.mapSet T_ok) | (apply Run.newMapStop; apply RunSem.newMap T_ok) | (apply Run.sliceStop; apply RunSem.litI T_ok) | (apply AList.sliceStop; apply AListSem.litI T_ok) | apply Run.condP | apply Sx.Ends.by () | constructor | intro _)
  apply RunSem.lend T_ok h4 (fun _ => ⟨rfl, rfl⟩)
  all_goals repeat' (first | assumption | exact sd (by first | omega | (simp only []; omega) | (simp only [List.length_append, List.length_cons, List.length_nil, List.length_take, List.length_drop, List.length_map, List.length_range]; omega)) | exact sp (fun h => by simp [PathHolds] at h; omega) | exact sd rfl | exact sd ⟨rfl, by decide⟩ | exact sd trivial | exact Bin.x rfl | (apply Run.nilStop rfl; apply RunSem.eqNil T_ok) | refine Run.storeStop rfl ?_ | (apply Run.mapStop; apply RunSem.mapSet T_ok) | (apply Run.newMapStop; apply RunSem.newMap T_ok) | (apply Run.sliceStop; apply RunSem.litI T_ok) | (apply AList.sliceStop; apply AListSem.litI T_ok) | apply Run.condP | apply Sx.Ends.by () | constructor | intro _)
section
variable (a b c : List Int)
theorem GateTells_ok : Sat Try.prog 3 [.g [DI a, DI b, DI c]] [] (isV (.bool true)) := by
  refine Sat.of T_ok Try.func3 Try.call3 rfl rfl rfl ?_
  repeat' (first | assumption | exact sd (by first | omega | (simp only []; omega) | (simp only [List.length_append, List.length_cons, List.length_nil, List.length_take, List.length_drop, List.length_map, List.length_range]; omega)) | exact sp (fun h => by simp [PathHolds] at h; omega) | exact sd rfl | exact sd ⟨rfl, by decide⟩ | exact sd trivial | exact Bin.x rfl | (apply Run.nilStop rfl; apply RunSem.eqNil T_ok) | refine Run.storeStop rfl ?_ | (apply Run.mapStop; apply RunSem.mapSet T_ok) | (apply Run.newMapStop; apply RunSem.newMap T_ok) | (apply Run.sliceStop; apply RunSem.litI T_ok) | (apply AList.sliceStop; apply AListSem.litI T_ok) | apply Run.condP | apply Sx.Ends.by () | constructor | intro _)
  apply RunSem.lend T_ok awake_ok (fun _ => ⟨rfl, rfl⟩)
  all_goals repeat' (first | assumption | exact sd (by first | omega | (simp only []; omega) | (simp only [List.length_append, List.length_cons, List.length_nil, List.length_take, List.length_drop, List.length_map, List.length_range]; omega)) | exact sp (fun h => by simp [PathHolds] at h; omega) | exact sd rfl | exact sd ⟨rfl, by decide⟩ | exact sd trivial | exact Bin.x rfl | (apply Run.nilStop rfl; apply RunSem.eqNil T_ok) | refine Run.storeStop rfl ?_ | (apply Run.mapStop; apply RunSem.mapSet T_ok) | (apply Run.newMapStop; apply RunSem.newMap T_ok) | (apply Run.sliceStop; apply RunSem.litI T_ok) | (apply AList.sliceStop; apply AListSem.litI T_ok) | apply Run.condP | apply Sx.Ends.by () | constructor | intro _)
  apply RunSem.lend T_ok (light_ok a b c) (fun _ => ⟨rfl, rfl⟩)
  all_goals repeat' (first | assumption | exact sd (by first | omega | (simp only []; omega) | (simp only [List.length_append, List.length_cons, List.length_nil, List.length_take, List.length_drop, List.length_map, List.length_range]; omega)) | exact sp (fun h => by simp [PathHolds] at h; omega) | exact sd rfl | exact sd ⟨rfl, by decide⟩ | exact sd trivial | exact Bin.x rfl | (apply Run.nilStop rfl; apply RunSem.eqNil T_ok) | refine Run.storeStop rfl ?_ | (apply Run.mapStop; apply RunSem.mapSet T_ok) | (apply Run.newMapStop; apply RunSem.newMap T_ok) | (apply Run.sliceStop; apply RunSem.litI T_ok) | (apply AList.sliceStop; apply AListSem.litI T_ok) | apply Run.condP | apply Sx.Ends.by () | constructor | intro _)
  rename_i hc
  have hc' := Classical.not_not.1 hc
  apply RunSem.lend T_ok (Gate_ok a b c (by omega) (by omega) (by omega)) (fun _ => ⟨rfl, rfl⟩)
  all_goals repeat' (first | assumption | exact sd (by first | omega | (simp only []; omega) | (simp only [List.length_append, List.length_cons, List.length_nil, List.length_take, List.length_drop, List.length_map, List.length_range]; omega)) | exact sp (fun h => by simp [PathHolds] at h; omega) | exact sd rfl | exact sd ⟨rfl, by decide⟩ | exact sd trivial | exact Bin.x rfl | (apply Run.nilStop rfl; apply RunSem.eqNil T_ok) | refine Run.storeStop rfl ?_ | (apply Run.mapStop; apply RunSem.mapSet T_ok) | (apply Run.newMapStop; apply RunSem.newMap T_ok) | (apply Run.sliceStop; apply RunSem.litI T_ok) | (apply AList.sliceStop; apply AListSem.litI T_ok) | apply Run.condP | apply Sx.Ends.by () | constructor | intro _)
  apply RunSem.lend T_ok (refGate_ok a b c (by omega) (by omega) (by omega)) (fun _ => ⟨rfl, rfl⟩)
  all_goals repeat' (first | assumption | exact sd (by first | omega | (simp only []; omega) | (simp only [List.length_append, List.length_cons, List.length_nil, List.length_take, List.length_drop, List.length_map, List.length_range]; omega)) | exact sp (fun h => by simp [PathHolds] at h; omega) | exact sd rfl | exact sd ⟨rfl, by decide⟩ | exact sd trivial | exact Bin.x rfl | (apply Run.nilStop rfl; apply RunSem.eqNil T_ok) | refine Run.storeStop rfl ?_ | (apply Run.mapStop; apply RunSem.mapSet T_ok) | (apply Run.newMapStop; apply RunSem.newMap T_ok) | (apply Run.sliceStop; apply RunSem.litI T_ok) | (apply AList.sliceStop; apply AListSem.litI T_ok) | apply Run.condP | apply Sx.Ends.by () | constructor | intro _)
  apply RunSem.lend T_ok (Clash_ok a b (by omega)) (fun _ => ⟨rfl, rfl⟩)
  all_goals repeat' (first | assumption | exact sd (by first | omega | (simp only []; omega) | (simp only [List.length_append, List.length_cons, List.length_nil, List.length_take, List.length_drop, List.length_map, List.length_range]; omega)) | exact sp (fun h => by simp [PathHolds] at h; omega) | exact sd rfl | exact sd ⟨rfl, by decide⟩ | exact sd trivial | exact Bin.x rfl | (apply Run.nilStop rfl; apply RunSem.eqNil T_ok) | refine Run.storeStop rfl ?_ | (apply Run.mapStop; apply RunSem.mapSet T_ok) | (apply Run.newMapStop; apply RunSem.newMap T_ok) | (apply Run.sliceStop; apply RunSem.litI T_ok) | (apply AList.sliceStop; apply AListSem.litI T_ok) | apply Run.condP | apply Sx.Ends.by () | constructor | intro _)
  apply RunSem.lend T_ok (refClash_ok a b (by omega) (by omega)) (fun _ => ⟨rfl, rfl⟩)
  all_goals repeat' (first | assumption | exact sd (by first | omega | (simp only []; omega) | (simp only [List.length_append, List.length_cons, List.length_nil, List.length_take, List.length_drop, List.length_map, List.length_range]; omega)) | exact sp (fun h => by simp [PathHolds] at h; omega) | exact sd rfl | exact sd ⟨rfl, by decide⟩ | exact sd trivial | exact Bin.x rfl | (apply Run.nilStop rfl; apply RunSem.eqNil T_ok) | refine Run.storeStop rfl ?_ | (apply Run.mapStop; apply RunSem.mapSet T_ok) | (apply Run.newMapStop; apply RunSem.newMap T_ok) | (apply Run.sliceStop; apply RunSem.litI T_ok) | (apply AList.sliceStop; apply AListSem.litI T_ok) | apply Run.condP | apply Sx.Ends.by () | constructor | intro _)
  apply RunSem.lend T_ok (Ints_ok (gateB a b c).1 (gateB a b c).1 (by have := gateB_len a b c; omega)) (fun _ => ⟨rfl, rfl⟩)
  all_goals repeat' (first | assumption | exact sd (by first | omega | (simp only []; omega) | (simp only [List.length_append, List.length_cons, List.length_nil, List.length_take, List.length_drop, List.length_map, List.length_range]; omega)) | exact sp (fun h => by simp [PathHolds] at h; omega) | exact sd rfl | exact sd ⟨rfl, by decide⟩ | exact sd trivial | exact Bin.x rfl | (apply Run.nilStop rfl; apply RunSem.eqNil T_ok) | refine Run.storeStop rfl ?_ | (apply Run.mapStop; apply RunSem.mapSet T_ok) | (apply Run.newMapStop; apply RunSem.newMap T_ok) | (apply Run.sliceStop; apply RunSem.litI T_ok) | (apply AList.sliceStop; apply AListSem.litI T_ok) | apply Run.condP | apply Sx.Ends.by () | constructor | intro _)
  simp
theorem GateSafe_ok : Sat Try.prog 4 [.g [DI a, DI b, DI c]] [] (isV (.bool true)) := by
  refine Sat.of T_ok Try.func4 Try.call4 rfl rfl rfl ?_
  repeat' (first | assumption | exact sd (by first | omega | (simp only []; omega) | (simp only [List.length_append, List.length_cons, List.length_nil, List.length_take, List.length_drop, List.length_map, List.length_range]; omega)) | exact sp (fun h => by simp [PathHolds] at h; omega) | exact sd rfl | exact sd ⟨rfl, by decide⟩ | exact sd trivial | exact Bin.x rfl | (apply Run.nilStop rfl; apply RunSem.eqNil T_ok) | refine Run.storeStop rfl ?_ | (apply Run.mapStop; apply RunSem.mapSet T_ok) | (apply Run.newMapStop; apply RunSem.newMap T_ok) | (apply Run.sliceStop; apply RunSem.litI T_ok) | (apply AList.sliceStop; apply AListSem.litI T_ok) | apply Run.condP | apply Sx.Ends.by () | (apply Run.drawStop; refine RunSem.drawBy (id := 16) T_ok mix 33 (by kernel_rfl) ?_) | (apply Run.drawStop; refine RunSem.drawBy (id := 21) T_ok mix 22 (by kernel_rfl) ?_) | (apply Run.drawStop; refine RunSem.drawBy (id := 23) T_ok mix 22 (by kernel_rfl) ?_) | constructor | intro _)
  apply RunSem.lend T_ok awake_ok (fun _ => ⟨rfl, rfl⟩)
  all_goals repeat' (first | assumption | exact sd (by first | omega | (simp only []; omega) | (simp only [List.length_append, List.length_cons, List.length_nil, List.length_take, List.length_drop, List.length_map, List.length_range]; omega)) | exact sp (fun h => by simp [PathHolds] at h; omega) | exact sd rfl | exact sd ⟨rfl, by decide⟩ | exact sd trivial | exact Bin.x rfl | (apply Run.nilStop rfl; apply RunSem.eqNil T_ok) | refine Run.storeStop rfl ?_ | (apply Run.mapStop; apply RunSem.mapSet T_ok) | (apply Run.newMapStop; apply RunSem.newMap T_ok) | (apply Run.sliceStop; apply RunSem.litI T_ok) | (apply AList.sliceStop; apply AListSem.litI T_ok) | apply Run.condP | apply Sx.Ends.by () | (apply Run.drawStop; refine RunSem.drawBy (id := 16) T_ok mix 33 (by kernel_rfl) ?_) | (apply Run.drawStop; refine RunSem.drawBy (id := 21) T_ok mix 22 (by kernel_rfl) ?_) | (apply Run.drawStop; refine RunSem.drawBy (id := 23) T_ok mix 22 (by kernel_rfl) ?_) | constructor | intro _)
  apply RunSem.lend T_ok (light_ok a b c) (fun _ => ⟨rfl, rfl⟩)
  all_goals repeat' (first | assumption | exact sd (by first | omega | (simp only []; omega) | (simp only [List.length_append, List.length_cons, List.length_nil, List.length_take, List.length_drop, List.length_map, List.length_range]; omega)) | exact sp (fun h => by simp [PathHolds] at h; omega) | exact sd rfl | exact sd ⟨rfl, by decide⟩ | exact sd trivial | exact Bin.x rfl | (apply Run.nilStop rfl; apply RunSem.eqNil T_ok) | refine Run.storeStop rfl ?_ | (apply Run.mapStop; apply RunSem.mapSet T_ok) | (apply Run.newMapStop; apply RunSem.newMap T_ok) | (apply Run.sliceStop; apply RunSem.litI T_ok) | (apply AList.sliceStop; apply AListSem.litI T_ok) | apply Run.condP | apply Sx.Ends.by () | (apply Run.drawStop; refine RunSem.drawBy (id := 16) T_ok mix 33 (by kernel_rfl) ?_) | (apply Run.drawStop; refine RunSem.drawBy (id := 21) T_ok mix 22 (by kernel_rfl) ?_) | (apply Run.drawStop; refine RunSem.drawBy (id := 23) T_ok mix 22 (by kernel_rfl) ?_) | constructor | intro _)
  rename_i hc
  have hc' := Classical.not_not.1 hc
  apply RunSem.lend T_ok (Gate_ok a b c (by omega) (by omega) (by omega)) (fun _ => ⟨rfl, rfl⟩)
  all_goals repeat' (first | assumption | exact sd (by first | omega | (simp only []; omega) | (simp only [List.length_append, List.length_cons, List.length_nil, List.length_take, List.length_drop, List.length_map, List.length_range]; omega)) | exact sp (fun h => by simp [PathHolds] at h; omega) | exact sd rfl | exact sd ⟨rfl, by decide⟩ | exact sd trivial | exact Bin.x rfl | (apply Run.nilStop rfl; apply RunSem.eqNil T_ok) | refine Run.storeStop rfl ?_ | (apply Run.mapStop; apply RunSem.mapSet T_ok) | (apply Run.newMapStop; apply RunSem.newMap T_ok) | (apply Run.sliceStop; apply RunSem.litI T_ok) | (apply AList.sliceStop; apply AListSem.litI T_ok) | apply Run.condP | apply Sx.Ends.by () | (apply Run.drawStop; refine RunSem.drawBy (id := 16) T_ok mix 33 (by kernel_rfl) ?_) | (apply Run.drawStop; refine RunSem.drawBy (id := 21) T_ok mix 22 (by kernel_rfl) ?_) | (apply Run.drawStop; refine RunSem.drawBy (id := 23) T_ok mix 22 (by kernel_rfl) ?_) | constructor | intro _)
  · rename_i hne
    rw [gateB_err hne]
    rfl
  · rename_i he hl
    exact absurd (by rw [(gateB_gated (Classical.not_not.1 he)).len]) hl
  · rename_i v _ he _
    have hg := gateB_gated (Classical.not_not.1 he)
    have hlen := hg.len
    have hwl := hg.wlen
    generalize (gateB a b c).1 = r at hg hlen
    refine RunSem.loopK T_ok [1, 3, 5] (fun i : Nat => [(7, [], iv i)]) (fun _ => []) (fun i => i ≤ r.length) (fun i => r.length - i) 0 (by omega) (by repeat' constructor) (by repeat' constructor) (by repeat' constructor) ?_
    dsimp only [List.cons_append, List.nil_append]
    intro i hi
    repeat' (first | assumption | exact sd (by first | omega | (simp only []; omega) | (simp only [List.length_append, List.length_cons, List.length_nil, List.length_take, List.length_drop, List.length_map, List.length_range]; omega)) | exact sp (fun h => by simp [PathHolds] at h; omega) | exact sd rfl | exact sd ⟨rfl, by decide⟩ | exact sd trivial | exact Bin.x rfl | (apply Run.nilStop rfl; apply RunSem.eqNil T_ok) | refine Run.storeStop rfl ?_ | (apply Run.mapStop; apply RunSem.mapSet T_ok) | (apply Run.newMapStop; apply RunSem.newMap T_ok) | (apply Run.sliceStop; apply RunSem.litI T_ok) | (apply AList.sliceStop; apply AListSem.litI T_ok) | apply Run.condP | apply Sx.Ends.by () | (apply Run.drawStop; refine RunSem.drawBy (id := 16) T_ok mix 33 (by kernel_rfl) ?_) | (apply Run.drawStop; refine RunSem.drawBy (id := 21) T_ok mix 22 (by kernel_rfl) ?_) | (apply Run.drawStop; refine RunSem.drawBy (id := 23) T_ok mix 22 (by kernel_rfl) ?_) | constructor | intro _)
    · rename_i hlt
      refine RunSem.loopK T_ok [1, 3, 5, 7] (fun k : Nat => [(8, [], iv k)]) (fun _ => []) (fun k => k ≤ i) (fun k => i - k) 0 (by omega) (by repeat' constructor) (by repeat' constructor) (by repeat' constructor) ?_
      dsimp only [List.cons_append, List.nil_append]
      intro k hk
      have hm : k < i → meets1 a r i k = false := fun h => hg.meet (by omega) (by omega) (by omega)
      repeat' (first | assumption | exact sd (by first | omega | (simp only []; omega) | (simp only [List.length_append, List.length_cons, List.length_nil, List.length_take, List.length_drop, List.length_map, List.length_range]; omega)) | exact sp (fun h => by simp [PathHolds] at h; omega) | exact sd rfl | exact sd ⟨rfl, by decide⟩ | exact sd trivial | exact Bin.x rfl | (apply Run.nilStop rfl; apply RunSem.eqNil T_ok) | refine Run.storeStop rfl ?_ | (apply Run.mapStop; apply RunSem.mapSet T_ok) | (apply Run.newMapStop; apply RunSem.newMap T_ok) | (apply Run.sliceStop; apply RunSem.litI T_ok) | (apply AList.sliceStop; apply AListSem.litI T_ok) | apply Run.condP | apply Sx.Ends.by () | (apply Run.drawStop; refine RunSem.drawBy (id := 16) T_ok mix 33 (by kernel_rfl) ?_) | (apply Run.drawStop; refine RunSem.drawBy (id := 21) T_ok mix 22 (by kernel_rfl) ?_) | (apply Run.drawStop; refine RunSem.drawBy (id := 23) T_ok mix 22 (by kernel_rfl) ?_) | constructor | intro _)
      · rename_i h1 h2
        have := hm (by omega)
        rw [meets1, decide_eq_false_iff_not] at this
        exact absurd h2 this
      · apply AgainK.mk (k + 1)
        case' h4 => repeat' constructor
        case' h3 => repeat' constructor
        case' h1 => first | omega | (dsimp only; omega)
        omega
      · refine RunSem.loopK T_ok [1, 3, 5, 7] (fun k : Nat => [(9, [], iv k)]) (fun _ => []) (fun k => k ≤ c.length) (fun k => c.length - k) 0 (by omega) (by repeat' constructor) (by repeat' constructor) (by repeat' constructor) ?_
        dsimp only [List.cons_append, List.nil_append]
        intro k hk
        have hbl : k < c.length → r.getD i 0 ≠ a.getD i 0 → r.getD i 0 ≠ c.getD k 0 := fun h1 h2 e => hg.bl_ok (by omega) h2 (by rw [e]; exact List.mem_of_mem_take (getD_mem_take (k := c.length) h1 (by omega)))
        repeat' (first | assumption | exact sd (by first | omega | (simp only []; omega) | (simp only [List.length_append, List.length_cons, List.length_nil, List.length_take, List.length_drop, List.length_map, List.length_range]; omega)) | exact sp (fun h => by simp [PathHolds] at h; omega) | exact sd rfl | exact sd ⟨rfl, by decide⟩ | exact sd trivial | exact Bin.x rfl | (apply Run.nilStop rfl; apply RunSem.eqNil T_ok) | refine Run.storeStop rfl ?_ | (apply Run.mapStop; apply RunSem.mapSet T_ok) | (apply Run.newMapStop; apply RunSem.newMap T_ok) | (apply Run.sliceStop; apply RunSem.litI T_ok) | (apply AList.sliceStop; apply AListSem.litI T_ok) | apply Run.condP | apply Sx.Ends.by () | (apply Run.drawStop; refine RunSem.drawBy (id := 16) T_ok mix 33 (by kernel_rfl) ?_) | (apply Run.drawStop; refine RunSem.drawBy (id := 21) T_ok mix 22 (by kernel_rfl) ?_) | (apply Run.drawStop; refine RunSem.drawBy (id := 23) T_ok mix 22 (by kernel_rfl) ?_) | constructor | intro _)
        · rename_i h1 h2
          exact absurd h2.1 (hbl (by omega) h2.2)
        · apply AgainK.mk (k + 1)
          case' h4 => repeat' constructor
          case' h3 => repeat' constructor
          case' h1 => first | omega | (dsimp only; omega)
          omega
        · rename_i h1 h2
          rcases hg.of i (by omega) with e | e
          · exact absurd e h2.2
          · exact absurd e h2.1
        · apply AgainK.mk (i + 1)
          case' h4 => repeat' constructor
          case' h3 => repeat' constructor
          case' h1 => first | omega | (dsimp only; omega)
          omega
    · apply RunSem.lend T_ok (Clash_ok a r (by omega)) (fun _ => ⟨rfl, rfl⟩)
      all_goals repeat' (first | assumption | exact sd (by first | omega | (simp only []; omega) | (simp only [List.length_append, List.length_cons, List.length_nil, List.length_take, List.length_drop, List.length_map, List.length_range]; omega)) | exact sp (fun h => by simp [PathHolds] at h; omega) | exact sd rfl | exact sd ⟨rfl, by decide⟩ | exact sd trivial | exact Bin.x rfl | (apply Run.nilStop rfl; apply RunSem.eqNil T_ok) | refine Run.storeStop rfl ?_ | (apply Run.mapStop; apply RunSem.mapSet T_ok) | (apply Run.newMapStop; apply RunSem.newMap T_ok) | (apply Run.sliceStop; apply RunSem.litI T_ok) | (apply AList.sliceStop; apply AListSem.litI T_ok) | apply Run.condP | apply Sx.Ends.by () | (apply Run.drawStop; refine RunSem.drawBy (id := 16) T_ok mix 33 (by kernel_rfl) ?_) | (apply Run.drawStop; refine RunSem.drawBy (id := 21) T_ok mix 22 (by kernel_rfl) ?_) | (apply Run.drawStop; refine RunSem.drawBy (id := 23) T_ok mix 22 (by kernel_rfl) ?_) | constructor | intro _)
      rw [hg.clash]
      rfl
theorem GateFree_ok : Sat Try.prog 5 [.g [DI a, DI b, DI c]] [] (isV (.bool true)) := by
  refine Sat.of T_ok Try.func5 Try.call5 rfl rfl rfl ?_
  repeat' (first | assumption | exact sd (by first | omega | (simp only []; omega) | (simp only [List.length_append, List.length_cons, List.length_nil, List.length_take, List.length_drop, List.length_map, List.length_range]; omega)) | exact sp (fun h => by simp [PathHolds] at h; omega) | exact sd rfl | exact sd ⟨rfl, by decide⟩ | exact sd trivial | exact Bin.x rfl | (apply Run.nilStop rfl; apply RunSem.eqNil T_ok) | refine Run.storeStop rfl ?_ | (apply Run.mapStop; apply RunSem.mapSet T_ok) | (apply Run.newMapStop; apply RunSem.newMap T_ok) | (apply Run.sliceStop; apply RunSem.litI T_ok) | (apply AList.sliceStop; apply AListSem.litI T_ok) | apply Run.condP | apply Sx.Ends.by () | (apply Run.drawStop; refine RunSem.drawBy (id := 15) T_ok mix 33 (by kernel_rfl) ?_) | (apply Run.drawStop; refine RunSem.drawBy (id := 19) T_ok mix 15 (by kernel_rfl) ?_) | (apply Run.drawStop; refine RunSem.drawBy (id := 20) T_ok mix 13 (by kernel_rfl) ?_) | constructor | intro _)
  apply RunSem.lend T_ok awake_ok (fun _ => ⟨rfl, rfl⟩)
  all_goals repeat' (first | assumption | exact sd (by first | omega | (simp only []; omega) | (simp only [List.length_append, List.length_cons, List.length_nil, List.length_take, List.length_drop, List.length_map, List.length_range]; omega)) | exact sp (fun h => by simp [PathHolds] at h; omega) | exact sd rfl | exact sd ⟨rfl, by decide⟩ | exact sd trivial | exact Bin.x rfl | (apply Run.nilStop rfl; apply RunSem.eqNil T_ok) | refine Run.storeStop rfl ?_ | (apply Run.mapStop; apply RunSem.mapSet T_ok) | (apply Run.newMapStop; apply RunSem.newMap T_ok) | (apply Run.sliceStop; apply RunSem.litI T_ok) | (apply AList.sliceStop; apply AListSem.litI T_ok) | apply Run.condP | apply Sx.Ends.by () | (apply Run.drawStop; refine RunSem.drawBy (id := 15) T_ok mix 33 (by kernel_rfl) ?_) | (apply Run.drawStop; refine RunSem.drawBy (id := 19) T_ok mix 15 (by kernel_rfl) ?_) | (apply Run.drawStop; refine RunSem.drawBy (id := 20) T_ok mix 13 (by kernel_rfl) ?_) | constructor | intro _)
  apply RunSem.lend T_ok (light_ok a b c) (fun _ => ⟨rfl, rfl⟩)
  all_goals repeat' (first | assumption | exact sd (by first | omega | (simp only []; omega) | (simp only [List.length_append, List.length_cons, List.length_nil, List.length_take, List.length_drop, List.length_map, List.length_range]; omega)) | exact sp (fun h => by simp [PathHolds] at h; omega) | exact sd rfl | exact sd ⟨rfl, by decide⟩ | exact sd trivial | exact Bin.x rfl | (apply Run.nilStop rfl; apply RunSem.eqNil T_ok) | refine Run.storeStop rfl ?_ | (apply Run.mapStop; apply RunSem.mapSet T_ok) | (apply Run.newMapStop; apply RunSem.newMap T_ok) | (apply Run.sliceStop; apply RunSem.litI T_ok) | (apply AList.sliceStop; apply AListSem.litI T_ok) | apply Run.condP | apply Sx.Ends.by () | (apply Run.drawStop; refine RunSem.drawBy (id := 15) T_ok mix 33 (by kernel_rfl) ?_) | (apply Run.drawStop; refine RunSem.drawBy (id := 19) T_ok mix 15 (by kernel_rfl) ?_) | (apply Run.drawStop; refine RunSem.drawBy (id := 20) T_ok mix 13 (by kernel_rfl) ?_) | constructor | intro _)
  rename_i hc
  have hc' := Classical.not_not.1 hc
  apply RunSem.lend T_ok (Gate_ok a b c (by omega) (by omega) (by omega)) (fun _ => ⟨rfl, rfl⟩)
  all_goals repeat' (first | assumption | exact sd (by first | omega | (simp only []; omega) | (simp only [List.length_append, List.length_cons, List.length_nil, List.length_take, List.length_drop, List.length_map, List.length_range]; omega)) | exact sp (fun h => by simp [PathHolds] at h; omega) | exact sd rfl | exact sd ⟨rfl, by decide⟩ | exact sd trivial | exact Bin.x rfl | (apply Run.nilStop rfl; apply RunSem.eqNil T_ok) | refine Run.storeStop rfl ?_ | (apply Run.mapStop; apply RunSem.mapSet T_ok) | (apply Run.newMapStop; apply RunSem.newMap T_ok) | (apply Run.sliceStop; apply RunSem.litI T_ok) | (apply AList.sliceStop; apply AListSem.litI T_ok) | apply Run.condP | apply Sx.Ends.by () | (apply Run.drawStop; refine RunSem.drawBy (id := 15) T_ok mix 33 (by kernel_rfl) ?_) | (apply Run.drawStop; refine RunSem.drawBy (id := 19) T_ok mix 15 (by kernel_rfl) ?_) | (apply Run.drawStop; refine RunSem.drawBy (id := 20) T_ok mix 13 (by kernel_rfl) ?_) | constructor | intro _)
  rename_i v _ he
  have hg := gateB_gated (Classical.not_not.1 he)
  have hlen := hg.len
  have hwl := hg.wlen
  generalize (gateB a b c).1 = r at hg hlen
  refine RunSem.loopK T_ok [1, 3, 5] (fun i : Nat => [(7, [], iv i)]) (fun _ => []) (fun i => i ≤ r.length) (fun i => r.length - i) 0 (by omega) (by repeat' constructor) (by repeat' constructor) (by repeat' constructor) ?_
  dsimp only [List.cons_append, List.nil_append]
  intro i hi
  repeat' (first | assumption | exact sd (by first | omega | (simp only []; omega) | (simp only [List.length_append, List.length_cons, List.length_nil, List.length_take, List.length_drop, List.length_map, List.length_range]; omega)) | exact sp (fun h => by simp [PathHolds] at h; omega) | exact sd rfl | exact sd ⟨rfl, by decide⟩ | exact sd trivial | exact Bin.x rfl | (apply Run.nilStop rfl; apply RunSem.eqNil T_ok) | refine Run.storeStop rfl ?_ | (apply Run.mapStop; apply RunSem.mapSet T_ok) | (apply Run.newMapStop; apply RunSem.newMap T_ok) | (apply Run.sliceStop; apply RunSem.litI T_ok) | (apply AList.sliceStop; apply AListSem.litI T_ok) | apply Run.condP | apply Sx.Ends.by () | (apply Run.drawStop; refine RunSem.drawBy (id := 15) T_ok mix 33 (by kernel_rfl) ?_) | (apply Run.drawStop; refine RunSem.drawBy (id := 19) T_ok mix 15 (by kernel_rfl) ?_) | (apply Run.drawStop; refine RunSem.drawBy (id := 20) T_ok mix 13 (by kernel_rfl) ?_) | constructor | intro _)
  · rename_i hlt
    refine RunSem.loopK T_ok [1, 3, 5, 7] (fun x : Nat × Bool => [(9, [], iv x.1), (8, [], bv x.2)]) (fun _ => []) (fun x => x.1 ≤ r.length ∧ (x.2 = true → ∀ k, k < x.1 → a.getD k 0 ≠ b.getD i 0 ∧ (k ≠ i → b.getD k 0 ≠ b.getD i 0))) (fun x => r.length - x.1) (0, true) ⟨by omega, fun _ k h => absurd h (by dsimp only; omega)⟩ (by repeat' constructor) (by repeat' constructor) (by repeat' constructor) ?_
    dsimp only [List.cons_append, List.nil_append]
    rintro ⟨k, fr⟩ ⟨hk, hfr⟩
    try dsimp only at *
    repeat' (first | assumption | exact sd (by first | omega | (simp only []; omega) | (simp only [List.length_append, List.length_cons, List.length_nil, List.length_take, List.length_drop, List.length_map, List.length_range]; omega)) | exact sp (fun h => by simp [PathHolds] at h; omega) | exact sd rfl | exact sd ⟨rfl, by decide⟩ | exact sd trivial | exact Bin.x rfl | (apply Run.nilStop rfl; apply RunSem.eqNil T_ok) | refine Run.storeStop rfl ?_ | (apply Run.mapStop; apply RunSem.mapSet T_ok) | (apply Run.newMapStop; apply RunSem.newMap T_ok) | (apply Run.sliceStop; apply RunSem.litI T_ok) | (apply AList.sliceStop; apply AListSem.litI T_ok) | apply Run.condP | apply Sx.Ends.by () | (apply Run.drawStop; refine RunSem.drawBy (id := 15) T_ok mix 33 (by kernel_rfl) ?_) | (apply Run.drawStop; refine RunSem.drawBy (id := 19) T_ok mix 15 (by kernel_rfl) ?_) | (apply Run.drawStop; refine RunSem.drawBy (id := 20) T_ok mix 13 (by kernel_rfl) ?_) | constructor | intro _)
    · rename_i hk2
      apply AgainK.mk ((k + 1, fr && (a.getD k 0 != b.getD i 0) && (decide (k = i) || (b.getD k 0 != b.getD i 0))))
      case' h4 => repeat' constructor
      case' h3 => repeat' constructor
      case' h1 => first | omega | (dsimp only; omega)
      · congr 2
        rw [Bool.eq_iff_iff]; simp
        omega
      · refine ⟨by dsimp only; omega, fun h => ?_⟩
        simp [-List.getD_eq_getElem?_getD] at h
        intro j hj
        rcases Nat.lt_succ_iff_lt_or_eq.1 hj with h' | h'
        · exact hfr h.1.1 j h'
        · subst h'
          exact ⟨h.1.2, fun hne => h.2.resolve_left hne⟩
    · rename_i hk2
      have hke : k = r.length := by omega
      subst hke
      refine RunSem.loopK T_ok [1, 3, 5, 7] (fun x : Nat × Bool => [(10, [], iv x.1), (8, [], bv x.2)]) (fun _ => []) (fun x => x.1 ≤ c.length ∧ (x.2 = true → fr = true ∧ b.getD i 0 ∉ c.take x.1)) (fun x => c.length - x.1) (0, fr) ⟨by omega, fun h => ⟨h, by simp⟩⟩ (by repeat' constructor) (by repeat' constructor) (by repeat' constructor) ?_
      dsimp only [List.cons_append, List.nil_append]
      rintro ⟨k, fr2⟩ ⟨hk, hfr2⟩
      try dsimp only at *
      repeat' (first | assumption | exact sd (by first | omega | (simp only []; omega) | (simp only [List.length_append, List.length_cons, List.length_nil, List.length_take, List.length_drop, List.length_map, List.length_range]; omega)) | exact sp (fun h => by simp [PathHolds] at h; omega) | exact sd rfl | exact sd ⟨rfl, by decide⟩ | exact sd trivial | exact Bin.x rfl | (apply Run.nilStop rfl; apply RunSem.eqNil T_ok) | refine Run.storeStop rfl ?_ | (apply Run.mapStop; apply RunSem.mapSet T_ok) | (apply Run.newMapStop; apply RunSem.newMap T_ok) | (apply Run.sliceStop; apply RunSem.litI T_ok) | (apply AList.sliceStop; apply AListSem.litI T_ok) | apply Run.condP | apply Sx.Ends.by () | (apply Run.drawStop; refine RunSem.drawBy (id := 15) T_ok mix 33 (by kernel_rfl) ?_) | (apply Run.drawStop; refine RunSem.drawBy (id := 19) T_ok mix 15 (by kernel_rfl) ?_) | (apply Run.drawStop; refine RunSem.drawBy (id := 20) T_ok mix 13 (by kernel_rfl) ?_) | constructor | intro _)
      · rename_i hk3
        apply AgainK.mk ((k + 1, fr2 && (c.getD k 0 != b.getD i 0)))
        case' h4 => repeat' constructor
        case' h3 => repeat' constructor
        case' h1 => first | omega | (dsimp only; omega)
        refine ⟨by dsimp only; omega, fun h => ?_⟩
        simp [-List.getD_eq_getElem?_getD] at h
        refine ⟨(hfr2 h.1).1, fun hm => ?_⟩
        rw [List.take_add_one, List.getElem?_eq_getElem (by omega)] at hm
        rcases List.mem_append.1 hm with hm | hm
        · exact (hfr2 h.1).2 hm
        · refine h.2 ?_
          rw [List.getD, List.getElem?_eq_getElem (by omega)]
          exact (List.mem_singleton.1 hm).symm
      · rename_i hk3 hbad
        have hke : k = c.length := by omega
        subst hke
        rw [List.take_length] at hfr2
        have h2 := hfr2 hbad.1
        have h3 := hfr h2.1
        rw [hlen] at h3
        exact absurd (hg.free i (by omega) (fun k hk => (h3 k hk).1) (fun k hk hki => (h3 k hk).2 hki) h2.2) hbad.2
      · apply AgainK.mk (i + 1)
        case' h4 => repeat' constructor
        case' h3 => repeat' constructor
        case' h1 => first | omega | (dsimp only; omega)
        omega
  · have hL := Gate_ok a r c (by omega) (by omega) (by omega)
    rw [hg.again] at hL
    apply RunSem.lend T_ok hL (fun _ => ⟨rfl, rfl⟩)
    all_goals repeat' (first | assumption | exact sd (by first | omega | (simp only []; omega) | (simp only [List.length_append, List.length_cons, List.length_nil, List.length_take, List.length_drop, List.length_map, List.length_range]; omega)) | exact sp (fun h => by simp [PathHolds] at h; omega) | exact sd rfl | exact sd ⟨rfl, by decide⟩ | exact sd trivial | exact Bin.x rfl | (apply Run.nilStop rfl; apply RunSem.eqNil T_ok) | refine Run.storeStop rfl ?_ | (apply Run.mapStop; apply RunSem.mapSet T_ok) | (apply Run.newMapStop; apply RunSem.newMap T_ok) | (apply Run.sliceStop; apply RunSem.litI T_ok) | (apply AList.sliceStop; apply AListSem.litI T_ok) | apply Run.condP | apply Sx.Ends.by () | (apply Run.drawStop; refine RunSem.drawBy (id := 15) T_ok mix 33 (by kernel_rfl) ?_) | (apply Run.drawStop; refine RunSem.drawBy (id := 19) T_ok mix 15 (by kernel_rfl) ?_) | (apply Run.drawStop; refine RunSem.drawBy (id := 20) T_ok mix 13 (by kernel_rfl) ?_) | constructor | intro _)
    apply RunSem.lend T_ok (Ints_ok r r (by omega)) (fun _ => ⟨rfl, rfl⟩)
    all_goals repeat' (first | assumption | exact sd (by first | omega | (simp only []; omega) | (simp only [List.length_append, List.length_cons, List.length_nil, List.length_take, List.length_drop, List.length_map, List.length_range]; omega)) | exact sp (fun h => by simp [PathHolds] at h; omega) | exact sd rfl | exact sd ⟨rfl, by decide⟩ | exact sd trivial | exact Bin.x rfl | (apply Run.nilStop rfl; apply RunSem.eqNil T_ok) | refine Run.storeStop rfl ?_ | (apply Run.mapStop; apply RunSem.mapSet T_ok) | (apply Run.newMapStop; apply RunSem.newMap T_ok) | (apply Run.sliceStop; apply RunSem.litI T_ok) | (apply AList.sliceStop; apply AListSem.litI T_ok) | apply Run.condP | apply Sx.Ends.by () | (apply Run.drawStop; refine RunSem.drawBy (id := 15) T_ok mix 33 (by kernel_rfl) ?_) | (apply Run.drawStop; refine RunSem.drawBy (id := 19) T_ok mix 15 (by kernel_rfl) ?_) | (apply Run.drawStop; refine RunSem.drawBy (id := 20) T_ok mix 13 (by kernel_rfl) ?_) | constructor | intro _)
    simp
end
end Go.Proofs.Ytlhcklmaikfjcaa
