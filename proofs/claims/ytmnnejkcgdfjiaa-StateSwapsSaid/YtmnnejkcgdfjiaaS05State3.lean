import Derived.Test.YtmnnejkcgdfjiaaS05State1
import Derived.Test.YtmnnejkcgdfjiaaSxUState3
set_option linter.all false
set_option maxHeartbeats 4000000
set_option maxRecDepth 100000
set_option linter.all false
namespace Go.Proofs.Ytmnnejkcgdfjiaa
open Go.Sx
attribute [local irreducible] RunSem AListSem AgainK Again Side Sx.Ends IntKind.wrap SatV AgainR DSem MJ
attribute [local irreducible] floorB goesB rightG arrow isLetter findI findN
theorem within_ok (n m : Int) : Sat Try.prog 26 [iv n, iv m] [] (isV (.bool (decide (0 ≤ n ∧ n ≤ m)))) := by
  refine Sat.of T_ok Try.func26 Try.call26 rfl rfl rfl ?_
  repeat' (first | assumption | exact fun h : ¬ True => absurd trivial h | exact fun h : False => h.elim | exact sd (by first | omega | (simp only []; omega) | (simp only [List.length_append, List.length_cons, List.length_nil, List.length_take, List.length_drop, List.length_map, List.length_range, List.length_set]; omega)) | exact sp (fun h => by simp [PathHolds] at h; omega) | exact sp (fun h => by simp [PathHolds, -List.getD_eq_getElem?_getD] at h; omega) | exact sd rfl | exact sd ⟨rfl, by decide⟩ | exact sd trivial | (show Nat.beq _ _ = true; rfl) | (apply Run.nilStop rfl; apply RunSem.eqNil T_ok) | refine Run.storeStop rfl ?_ | (apply Run.mapStop; apply RunSem.mapSet T_ok) | (apply Run.newMapStop; apply RunSem.newMap T_ok) | (apply Run.sliceStop; apply RunSem.litI T_ok; rotate_left; rfl; rfl; rfl) | (apply AList.sliceStop; apply AListSem.litI T_ok; rotate_left; rfl; rfl; rfl) | (apply Run.semStop; apply RunSem.rangeStr T_ok) | (apply Run.semStop; apply RunSem.nextStr T_ok) | apply Run.condP | apply Sx.Ends.by () | constructor | intro _)
  congr 1
  rw [Bool.eq_iff_iff]
  simp
theorem robots_ok (g : Gr) (l : List Rb) (h : l.length < 4611686018427387904) : Sat Try.prog 27 [gA g, DR l] [] (isV (.bool (robotsP g l))) := by
  refine Sat.of T_ok Try.func27 Try.call27 rfl rfl rfl ?_
  repeat' (first | assumption | exact fun h : ¬ True => absurd trivial h | exact fun h : False => h.elim | exact sd (by first | omega | (simp only []; omega) | (simp only [List.length_append, List.length_cons, List.length_nil, List.length_take, List.length_drop, List.length_map, List.length_range, List.length_set]; omega)) | exact sp (fun h => by simp [PathHolds] at h; omega) | exact sp (fun h => by simp [PathHolds, -List.getD_eq_getElem?_getD] at h; omega) | exact sd rfl | exact sd ⟨rfl, by decide⟩ | exact sd trivial | (show Nat.beq _ _ = true; rfl) | (apply Run.nilStop rfl; apply RunSem.eqNil T_ok) | refine Run.storeStop rfl ?_ | (apply Run.mapStop; apply RunSem.mapSet T_ok) | (apply Run.newMapStop; apply RunSem.newMap T_ok) | (apply Run.sliceStop; apply RunSem.litI T_ok; rotate_left; rfl; rfl; rfl) | (apply AList.sliceStop; apply AListSem.litI T_ok; rotate_left; rfl; rfl; rfl) | (apply Run.semStop; apply RunSem.rangeStr T_ok) | (apply Run.semStop; apply RunSem.nextStr T_ok) | apply Run.condP | apply Sx.Ends.by () | constructor | intro _)
  rename_i b r
  refine RunSem.loopK T_ok [1, 2, 5, 9, 10] (fun k : Nat => [(11, [], iv k)]) (fun k => [.mp r true (kInt .i64) false 1 encBo (setG ((l.map Rb.cell).take k))]) (fun k => k ≤ l.length ∧ ∀ i, i < k → robP g l i = true) (fun k => l.length - k) 0 ⟨by omega, by omega⟩ (by repeat' constructor) (by repeat' first | assumption | exact tab_age _ _ _ | constructor) (by repeat' first | assumption | exact tab_age _ _ _ | constructor) ?_
  dsimp only [List.cons_append, List.nil_append]
  rintro k ⟨hk, hs⟩
  have hF := Floor_ok g (l.getD k dR).cell
  have hW := within_ok (l.getD k dR).bat 1000
  have hH := within_ok (l.getD k dR).hold 1000
  repeat' (first | assumption | exact fun h : ¬ True => absurd trivial h | exact fun h : False => h.elim | exact sd (by first | omega | (simp only []; omega) | (simp only [List.length_append, List.length_cons, List.length_nil, List.length_take, List.length_drop, List.length_map, List.length_range, List.length_set]; omega)) | exact sp (fun h => by simp [PathHolds] at h; omega) | exact sp (fun h => by simp [PathHolds, -List.getD_eq_getElem?_getD] at h; omega) | exact sd rfl | exact sd ⟨rfl, by decide⟩ | exact sd trivial | (show Nat.beq _ _ = true; rfl) | exact Bin.x rfl | (apply Run.nilStop rfl; apply RunSem.eqNil T_ok) | refine Run.storeStop rfl ?_ | (apply Run.mapStop; apply RunSem.mapSet T_ok) | (apply Run.newMapStop; apply RunSem.newMap T_ok) | (apply Run.sliceStop; apply RunSem.litI T_ok; rotate_left; rfl; rfl; rfl) | (apply AList.sliceStop; apply AListSem.litI T_ok; rotate_left; rfl; rfl; rfl) | (apply Run.semStop; apply RunSem.rangeStr T_ok) | (apply Run.semStop; apply RunSem.nextStr T_ok) | apply Run.condP | apply Sx.Ends.by () | constructor | intro _)
  first | apply RunSem.lend T_ok hF (fun _ => ⟨rfl, rfl⟩) | apply RunSem.callG T_ok (lend := true) (isV_fun hF) (fun _ => rfl) rfl | apply AListSem.call T_ok (lend := true) (isV_fun hF) (fun _ => rfl) rfl | apply AListSem.callG T_ok (lend := true) (isV_fun hF) (fun _ => rfl) rfl
  all_goals repeat' (first | assumption | exact fun h : ¬ True => absurd trivial h | exact fun h : False => h.elim | exact sd (by first | omega | (simp only []; omega) | (simp only [List.length_append, List.length_cons, List.length_nil, List.length_take, List.length_drop, List.length_map, List.length_range, List.length_set]; omega)) | exact sp (fun h => by simp [PathHolds] at h; omega) | exact sp (fun h => by simp [PathHolds, -List.getD_eq_getElem?_getD] at h; omega) | exact sd rfl | exact sd ⟨rfl, by decide⟩ | exact sd trivial | (show Nat.beq _ _ = true; rfl) | exact Bin.x rfl | (apply Run.nilStop rfl; apply RunSem.eqNil T_ok) | refine Run.storeStop rfl ?_ | (apply Run.mapStop; apply RunSem.mapSet T_ok) | (apply Run.newMapStop; apply RunSem.newMap T_ok) | (apply Run.sliceStop; apply RunSem.litI T_ok; rotate_left; rfl; rfl; rfl) | (apply AList.sliceStop; apply AListSem.litI T_ok; rotate_left; rfl; rfl; rfl) | (apply Run.semStop; apply RunSem.rangeStr T_ok) | (apply Run.semStop; apply RunSem.nextStr T_ok) | apply Run.condP | apply Sx.Ends.by () | constructor | intro _)
  first | apply RunSem.lend T_ok hW (fun _ => ⟨rfl, rfl⟩) | apply RunSem.callG T_ok (lend := true) (isV_fun hW) (fun _ => rfl) rfl | apply AListSem.call T_ok (lend := true) (isV_fun hW) (fun _ => rfl) rfl | apply AListSem.callG T_ok (lend := true) (isV_fun hW) (fun _ => rfl) rfl
  all_goals repeat' (first | assumption | exact fun h : ¬ True => absurd trivial h | exact fun h : False => h.elim | exact sd (by first | omega | (simp only []; omega) | (simp only [List.length_append, List.length_cons, List.length_nil, List.length_take, List.length_drop, List.length_map, List.length_range, List.length_set]; omega)) | exact sp (fun h => by simp [PathHolds] at h; omega) | exact sp (fun h => by simp [PathHolds, -List.getD_eq_getElem?_getD] at h; omega) | exact sd rfl | exact sd ⟨rfl, by decide⟩ | exact sd trivial | (show Nat.beq _ _ = true; rfl) | exact Bin.x rfl | (apply Run.nilStop rfl; apply RunSem.eqNil T_ok) | refine Run.storeStop rfl ?_ | (apply Run.mapStop; apply RunSem.mapSet T_ok) | (apply Run.newMapStop; apply RunSem.newMap T_ok) | (apply Run.sliceStop; apply RunSem.litI T_ok; rotate_left; rfl; rfl; rfl) | (apply AList.sliceStop; apply AListSem.litI T_ok; rotate_left; rfl; rfl; rfl) | (apply Run.semStop; apply RunSem.rangeStr T_ok) | (apply Run.semStop; apply RunSem.nextStr T_ok) | apply Run.condP | apply Sx.Ends.by () | constructor | intro _)
  first | apply RunSem.lend T_ok hH (fun _ => ⟨rfl, rfl⟩) | apply RunSem.callG T_ok (lend := true) (isV_fun hH) (fun _ => rfl) rfl | apply AListSem.call T_ok (lend := true) (isV_fun hH) (fun _ => rfl) rfl | apply AListSem.callG T_ok (lend := true) (isV_fun hH) (fun _ => rfl) rfl
  all_goals repeat' (first | assumption | exact fun h : ¬ True => absurd trivial h | exact fun h : False => h.elim | exact sd (by first | omega | (simp only []; omega) | (simp only [List.length_append, List.length_cons, List.length_nil, List.length_take, List.length_drop, List.length_map, List.length_range, List.length_set]; omega)) | exact sp (fun h => by simp [PathHolds] at h; omega) | exact sp (fun h => by simp [PathHolds, -List.getD_eq_getElem?_getD] at h; omega) | exact sd rfl | exact sd ⟨rfl, by decide⟩ | exact sd trivial | (show Nat.beq _ _ = true; rfl) | exact Bin.x rfl | (apply Run.nilStop rfl; apply RunSem.eqNil T_ok) | refine Run.storeStop rfl ?_ | (apply Run.mapStop; apply RunSem.mapSet T_ok) | (apply Run.newMapStop; apply RunSem.newMap T_ok) | (apply Run.sliceStop; apply RunSem.litI T_ok; rotate_left; rfl; rfl; rfl) | (apply AList.sliceStop; apply AListSem.litI T_ok; rotate_left; rfl; rfl; rfl) | (apply Run.semStop; apply RunSem.rangeStr T_ok) | (apply Run.semStop; apply RunSem.nextStr T_ok) | apply Run.condP | apply Sx.Ends.by () | constructor | intro _)
  · rename_i hlt _ _ _ hbad
    rw [seen_mem] at hbad
    have : robP g l k = false := by
      unfold robP
      rw [earlier_cells (by omega)]
      rcases hbad with ((h1 | h1) | h1) | h1
      · simp [h1, -List.getD_eq_getElem?_getD]
      · simp [h1, -List.getD_eq_getElem?_getD]
      · rw [decide_eq_false (show ¬ (0 ≤ (l.getD k dR).bat ∧ (l.getD k dR).bat ≤ 1000 ∧ 0 ≤ (l.getD k dR).hold ∧ (l.getD k dR).hold ≤ 1000) by omega)]
        simp
      · rw [decide_eq_false (show ¬ (0 ≤ (l.getD k dR).bat ∧ (l.getD k dR).bat ≤ 1000 ∧ 0 ≤ (l.getD k dR).hold ∧ (l.getD k dR).hold ≤ 1000) by omega)]
        simp
    rw [robotsP, all_range_no (by omega) this]
    rfl
  · rename_i hlt _ _ _ hgood
    rw [seen_mem] at hgood
    apply AgainK.mk (k + 1)
    case' h4 => (try simp only [List.append_nil]); repeat' (first | exact tab_age _ _ _ | constructor)
    case' h3 => repeat' constructor
    case' h1 => first | omega | (dsimp only; omega)
    · rw [take_snocD (l.map Rb.cell) (by simp; omega) 0, cells_get (by omega), setG_snoc]
    · refine ⟨by omega, fun i hi => ?_⟩
      rcases Nat.lt_succ_iff_lt_or_eq.1 hi with h' | h'
      · exact hs i h'
      · subst h'
        unfold robP
        rw [earlier_cells (by omega)]
        have h1 : floorB g (l.getD i dR).cell = true := Classical.byContradiction fun e => hgood (.inl (.inl (.inl e)))
        have h2 : ¬ (l.getD i dR).cell ∈ (l.map Rb.cell).take i := fun e => hgood (.inl (.inl (.inr e)))
        rw [h1, decide_eq_true (show 0 ≤ (l.getD i dR).bat ∧ (l.getD i dR).bat ≤ 1000 ∧ 0 ≤ (l.getD i dR).hold ∧ (l.getD i dR).hold ≤ 1000 by omega), decide_eq_false h2]
        rfl
  · rename_i hge
    rw [robotsP, all_range_yes (n := l.length) (fun i hi => hs i (by omega)), Bool.true_and]
    congr 1
    rw [Bool.eq_iff_iff]
    simp only [decide_eq_true_eq]
    omega
theorem tasks_ok (g : Gr) (l : List Tk) (h : l.length < 4611686018427387904) (hid : ∀ i, -9223372036854775808 ≤ (l.getD i dT).id ∧ (l.getD i dT).id ≤ 9223372036854775807) : Sat Try.prog 28 [gA g, DT l] [] (isV (.bool (tasksP g l))) := by
  refine Sat.of T_ok Try.func28 Try.call28 rfl rfl rfl ?_
  repeat' (first | assumption | exact fun h : ¬ True => absurd trivial h | exact fun h : False => h.elim | exact sd (by first | omega | (simp only []; omega) | (simp only [List.length_append, List.length_cons, List.length_nil, List.length_take, List.length_drop, List.length_map, List.length_range, List.length_set]; omega)) | exact sp (fun h => by simp [PathHolds] at h; omega) | exact sp (fun h => by simp [PathHolds, -List.getD_eq_getElem?_getD] at h; omega) | exact sd rfl | exact sd ⟨rfl, by decide⟩ | exact sd trivial | (show Nat.beq _ _ = true; rfl) | (apply Run.nilStop rfl; apply RunSem.eqNil T_ok) | refine Run.storeStop rfl ?_ | (apply Run.mapStop; apply RunSem.mapSet T_ok) | (apply Run.newMapStop; apply RunSem.newMap T_ok) | (apply Run.sliceStop; apply RunSem.litI T_ok; rotate_left; rfl; rfl; rfl) | (apply AList.sliceStop; apply AListSem.litI T_ok; rotate_left; rfl; rfl; rfl) | (apply Run.semStop; apply RunSem.rangeStr T_ok) | (apply Run.semStop; apply RunSem.nextStr T_ok) | apply Run.condP | apply Sx.Ends.by () | constructor | intro _)
  rename_i b r
  refine RunSem.loopK T_ok [1, 2, 5, 9, 10] (fun k : Nat => [(11, [], iv k)]) (fun k => [.mp r true (kInt .i64) false 1 encBo (setG ((l.map Tk.id).take k))]) (fun k => k ≤ l.length ∧ ∀ i, i < k → tskP g l i = true) (fun k => l.length - k) 0 ⟨by omega, by omega⟩ (by repeat' constructor) (by repeat' first | assumption | exact tab_age _ _ _ | constructor) (by repeat' first | assumption | exact tab_age _ _ _ | constructor) ?_
  dsimp only [List.cons_append, List.nil_append]
  rintro k ⟨hk, hs⟩
  have hF := Floor_ok g (l.getD k dT).fr
  have hT := Floor_ok g (l.getD k dT).to
  have hidk := hid k
  have hbadT : k < l.length → tskP g l k = false → tasksP g l = false := fun h1 h2 => by rw [tasksP, all_range_no h1 h2]; rfl
  have hend : ¬ (k : Int) < l.length → (∀ i, i < k → tskP g l i = true) → tasksP g l = decide ((l.length : Int) ≤ 1000) := fun hge hs => by
    rw [tasksP, all_range_yes (n := l.length) (fun i hi => hs i (by omega)), Bool.true_and]
    rw [Bool.eq_iff_iff]
    simp only [decide_eq_true_eq]
    omega
  by_cases hmin : (l.getD k dT).id = -9223372036854775808
  · have hwr : IntKind.i64.wrap ((l.getD k dT).id - 1) = 9223372036854775807 := by rw [hmin, IntKind.wrap_i64]; omega
    have hW := within_ok (IntKind.i64.wrap ((l.getD k dT).id - 1)) 2147483646
    rw [decide_eq_false (by omega)] at hW
    have hbad : k < l.length → tskP g l k = false := fun _ => by
      unfold tskP
      rw [decide_eq_false (show ¬ (1 ≤ (l.getD k dT).id ∧ (l.getD k dT).id ≤ 2147483647) by omega)]
      rfl
    repeat' (first | assumption | exact fun h : ¬ True => absurd trivial h | exact fun h : False => h.elim | exact sd (by first | omega | (simp only []; omega) | (simp only [List.length_append, List.length_cons, List.length_nil, List.length_take, List.length_drop, List.length_map, List.length_range, List.length_set]; omega)) | exact sp (fun h => by simp [PathHolds] at h; omega) | exact sp (fun h => by simp [PathHolds, -List.getD_eq_getElem?_getD] at h; omega) | exact sd rfl | exact sd ⟨rfl, by decide⟩ | exact sd trivial | (show Nat.beq _ _ = true; rfl) | (apply Run.nilStop rfl; apply RunSem.eqNil T_ok) | refine Run.storeStop rfl ?_ | (apply Run.mapStop; apply RunSem.mapSet T_ok) | (apply Run.newMapStop; apply RunSem.newMap T_ok) | (apply Run.sliceStop; apply RunSem.litI T_ok; rotate_left; rfl; rfl; rfl) | (apply AList.sliceStop; apply AListSem.litI T_ok; rotate_left; rfl; rfl; rfl) | (apply Run.semStop; apply RunSem.rangeStr T_ok) | (apply Run.semStop; apply RunSem.nextStr T_ok) | apply Run.condP | apply Sx.Ends.by () | constructor | intro _)
    first | apply RunSem.lend T_ok hW (fun _ => ⟨rfl, rfl⟩) | apply RunSem.callG T_ok (lend := true) (isV_fun hW) (fun _ => rfl) rfl | apply AListSem.call T_ok (lend := true) (isV_fun hW) (fun _ => rfl) rfl | apply AListSem.callG T_ok (lend := true) (isV_fun hW) (fun _ => rfl) rfl
    all_goals repeat' (first | assumption | exact fun h : ¬ True => absurd trivial h | exact fun h : False => h.elim | exact sd (by first | omega | (simp only []; omega) | (simp only [List.length_append, List.length_cons, List.length_nil, List.length_take, List.length_drop, List.length_map, List.length_range, List.length_set]; omega)) | exact sp (fun h => by simp [PathHolds] at h; omega) | exact sp (fun h => by simp [PathHolds, -List.getD_eq_getElem?_getD] at h; omega) | exact sd rfl | exact sd ⟨rfl, by decide⟩ | exact sd trivial | (show Nat.beq _ _ = true; rfl) | exact Bin.x rfl | (apply Run.nilStop rfl; apply RunSem.eqNil T_ok) | refine Run.storeStop rfl ?_ | (apply Run.mapStop; apply RunSem.mapSet T_ok) | (apply Run.newMapStop; apply RunSem.newMap T_ok) | (apply Run.sliceStop; apply RunSem.litI T_ok; rotate_left; rfl; rfl; rfl) | (apply AList.sliceStop; apply AListSem.litI T_ok; rotate_left; rfl; rfl; rfl) | (apply Run.semStop; apply RunSem.rangeStr T_ok) | (apply Run.semStop; apply RunSem.nextStr T_ok) | apply Run.condP | apply Sx.Ends.by () | constructor | intro _)
    first | apply RunSem.lend T_ok hF (fun _ => ⟨rfl, rfl⟩) | apply RunSem.callG T_ok (lend := true) (isV_fun hF) (fun _ => rfl) rfl | apply AListSem.call T_ok (lend := true) (isV_fun hF) (fun _ => rfl) rfl | apply AListSem.callG T_ok (lend := true) (isV_fun hF) (fun _ => rfl) rfl
    all_goals repeat' (first | assumption | exact fun h : ¬ True => absurd trivial h | exact fun h : False => h.elim | exact sd (by first | omega | (simp only []; omega) | (simp only [List.length_append, List.length_cons, List.length_nil, List.length_take, List.length_drop, List.length_map, List.length_range, List.length_set]; omega)) | exact sp (fun h => by simp [PathHolds] at h; omega) | exact sp (fun h => by simp [PathHolds, -List.getD_eq_getElem?_getD] at h; omega) | exact sd rfl | exact sd ⟨rfl, by decide⟩ | exact sd trivial | (show Nat.beq _ _ = true; rfl) | exact Bin.x rfl | (apply Run.nilStop rfl; apply RunSem.eqNil T_ok) | refine Run.storeStop rfl ?_ | (apply Run.mapStop; apply RunSem.mapSet T_ok) | (apply Run.newMapStop; apply RunSem.newMap T_ok) | (apply Run.sliceStop; apply RunSem.litI T_ok; rotate_left; rfl; rfl; rfl) | (apply AList.sliceStop; apply AListSem.litI T_ok; rotate_left; rfl; rfl; rfl) | (apply Run.semStop; apply RunSem.rangeStr T_ok) | (apply Run.semStop; apply RunSem.nextStr T_ok) | apply Run.condP | apply Sx.Ends.by () | constructor | intro _)
    first | apply RunSem.lend T_ok hT (fun _ => ⟨rfl, rfl⟩) | apply RunSem.callG T_ok (lend := true) (isV_fun hT) (fun _ => rfl) rfl | apply AListSem.call T_ok (lend := true) (isV_fun hT) (fun _ => rfl) rfl | apply AListSem.callG T_ok (lend := true) (isV_fun hT) (fun _ => rfl) rfl
    all_goals repeat' (first | assumption | exact fun h : ¬ True => absurd trivial h | exact fun h : False => h.elim | exact sd (by first | omega | (simp only []; omega) | (simp only [List.length_append, List.length_cons, List.length_nil, List.length_take, List.length_drop, List.length_map, List.length_range, List.length_set]; omega)) | exact sp (fun h => by simp [PathHolds] at h; omega) | exact sp (fun h => by simp [PathHolds, -List.getD_eq_getElem?_getD] at h; omega) | exact sd rfl | exact sd ⟨rfl, by decide⟩ | exact sd trivial | (show Nat.beq _ _ = true; rfl) | exact Bin.x rfl | (apply Run.nilStop rfl; apply RunSem.eqNil T_ok) | refine Run.storeStop rfl ?_ | (apply Run.mapStop; apply RunSem.mapSet T_ok) | (apply Run.newMapStop; apply RunSem.newMap T_ok) | (apply Run.sliceStop; apply RunSem.litI T_ok; rotate_left; rfl; rfl; rfl) | (apply AList.sliceStop; apply AListSem.litI T_ok; rotate_left; rfl; rfl; rfl) | (apply Run.semStop; apply RunSem.rangeStr T_ok) | (apply Run.semStop; apply RunSem.nextStr T_ok) | apply Run.condP | apply Sx.Ends.by () | constructor | intro _)
    · rw [hbadT (by omega) (hbad (by omega))]
    · rename_i hge
      rw [hend hge hs]
  · have hW := within_ok ((l.getD k dT).id - 1) 2147483646
    repeat' (first | assumption | exact fun h : ¬ True => absurd trivial h | exact fun h : False => h.elim | exact sd (by first | omega | (simp only []; omega) | (simp only [List.length_append, List.length_cons, List.length_nil, List.length_take, List.length_drop, List.length_map, List.length_range, List.length_set]; omega)) | exact sp (fun h => by simp [PathHolds] at h; omega) | exact sp (fun h => by simp [PathHolds, -List.getD_eq_getElem?_getD] at h; omega) | exact sd rfl | exact sd ⟨rfl, by decide⟩ | exact sd trivial | (show Nat.beq _ _ = true; rfl) | exact Bin.x rfl | (apply Run.nilStop rfl; apply RunSem.eqNil T_ok) | refine Run.storeStop rfl ?_ | (apply Run.mapStop; apply RunSem.mapSet T_ok) | (apply Run.newMapStop; apply RunSem.newMap T_ok) | (apply Run.sliceStop; apply RunSem.litI T_ok; rotate_left; rfl; rfl; rfl) | (apply AList.sliceStop; apply AListSem.litI T_ok; rotate_left; rfl; rfl; rfl) | (apply Run.semStop; apply RunSem.rangeStr T_ok) | (apply Run.semStop; apply RunSem.nextStr T_ok) | apply Run.condP | apply Sx.Ends.by () | constructor | intro _)
    first | apply RunSem.lend T_ok hW (fun _ => ⟨rfl, rfl⟩) | apply RunSem.callG T_ok (lend := true) (isV_fun hW) (fun _ => rfl) rfl | apply AListSem.call T_ok (lend := true) (isV_fun hW) (fun _ => rfl) rfl | apply AListSem.callG T_ok (lend := true) (isV_fun hW) (fun _ => rfl) rfl
    all_goals repeat' (first | assumption | exact fun h : ¬ True => absurd trivial h | exact fun h : False => h.elim | exact sd (by first | omega | (simp only []; omega) | (simp only [List.length_append, List.length_cons, List.length_nil, List.length_take, List.length_drop, List.length_map, List.length_range, List.length_set]; omega)) | exact sp (fun h => by simp [PathHolds] at h; omega) | exact sp (fun h => by simp [PathHolds, -List.getD_eq_getElem?_getD] at h; omega) | exact sd rfl | exact sd ⟨rfl, by decide⟩ | exact sd trivial | (show Nat.beq _ _ = true; rfl) | exact Bin.x rfl | (apply Run.nilStop rfl; apply RunSem.eqNil T_ok) | refine Run.storeStop rfl ?_ | (apply Run.mapStop; apply RunSem.mapSet T_ok) | (apply Run.newMapStop; apply RunSem.newMap T_ok) | (apply Run.sliceStop; apply RunSem.litI T_ok; rotate_left; rfl; rfl; rfl) | (apply AList.sliceStop; apply AListSem.litI T_ok; rotate_left; rfl; rfl; rfl) | (apply Run.semStop; apply RunSem.rangeStr T_ok) | (apply Run.semStop; apply RunSem.nextStr T_ok) | apply Run.condP | apply Sx.Ends.by () | constructor | intro _)
    first | apply RunSem.lend T_ok hF (fun _ => ⟨rfl, rfl⟩) | apply RunSem.callG T_ok (lend := true) (isV_fun hF) (fun _ => rfl) rfl | apply AListSem.call T_ok (lend := true) (isV_fun hF) (fun _ => rfl) rfl | apply AListSem.callG T_ok (lend := true) (isV_fun hF) (fun _ => rfl) rfl
    all_goals repeat' (first | assumption | exact fun h : ¬ True => absurd trivial h | exact fun h : False => h.elim | exact sd (by first | omega | (simp only []; omega) | (simp only [List.length_append, List.length_cons, List.length_nil, List.length_take, List.length_drop, List.length_map, List.length_range, List.length_set]; omega)) | exact sp (fun h => by simp [PathHolds] at h; omega) | exact sp (fun h => by simp [PathHolds, -List.getD_eq_getElem?_getD] at h; omega) | exact sd rfl | exact sd ⟨rfl, by decide⟩ | exact sd trivial | (show Nat.beq _ _ = true; rfl) | exact Bin.x rfl | (apply Run.nilStop rfl; apply RunSem.eqNil T_ok) | refine Run.storeStop rfl ?_ | (apply Run.mapStop; apply RunSem.mapSet T_ok) | (apply Run.newMapStop; apply RunSem.newMap T_ok) | (apply Run.sliceStop; apply RunSem.litI T_ok; rotate_left; rfl; rfl; rfl) | (apply AList.sliceStop; apply AListSem.litI T_ok; rotate_left; rfl; rfl; rfl) | (apply Run.semStop; apply RunSem.rangeStr T_ok) | (apply Run.semStop; apply RunSem.nextStr T_ok) | apply Run.condP | apply Sx.Ends.by () | constructor | intro _)
    first | apply RunSem.lend T_ok hT (fun _ => ⟨rfl, rfl⟩) | apply RunSem.callG T_ok (lend := true) (isV_fun hT) (fun _ => rfl) rfl | apply AListSem.call T_ok (lend := true) (isV_fun hT) (fun _ => rfl) rfl | apply AListSem.callG T_ok (lend := true) (isV_fun hT) (fun _ => rfl) rfl
    all_goals repeat' (first | assumption | exact fun h : ¬ True => absurd trivial h | exact fun h : False => h.elim | exact sd (by first | omega | (simp only []; omega) | (simp only [List.length_append, List.length_cons, List.length_nil, List.length_take, List.length_drop, List.length_map, List.length_range, List.length_set]; omega)) | exact sp (fun h => by simp [PathHolds] at h; omega) | exact sp (fun h => by simp [PathHolds, -List.getD_eq_getElem?_getD] at h; omega) | exact sd rfl | exact sd ⟨rfl, by decide⟩ | exact sd trivial | (show Nat.beq _ _ = true; rfl) | exact Bin.x rfl | (apply Run.nilStop rfl; apply RunSem.eqNil T_ok) | refine Run.storeStop rfl ?_ | (apply Run.mapStop; apply RunSem.mapSet T_ok) | (apply Run.newMapStop; apply RunSem.newMap T_ok) | (apply Run.sliceStop; apply RunSem.litI T_ok; rotate_left; rfl; rfl; rfl) | (apply AList.sliceStop; apply AListSem.litI T_ok; rotate_left; rfl; rfl; rfl) | (apply Run.semStop; apply RunSem.rangeStr T_ok) | (apply Run.semStop; apply RunSem.nextStr T_ok) | apply Run.condP | apply Sx.Ends.by () | constructor | intro _)
    · rename_i hlt _ _ _ hbad
      rw [seen_mem] at hbad
      have : tskP g l k = false := by
        unfold tskP
        rw [earlier_ids (by omega)]
        rcases hbad with (((h1 | h1) | h1) | h1) | h1
        · rw [decide_eq_false (show ¬ (1 ≤ (l.getD k dT).id ∧ (l.getD k dT).id ≤ 2147483647) by omega)]
          rfl
        · simp [h1, -List.getD_eq_getElem?_getD]
        · simp [h1, -List.getD_eq_getElem?_getD]
        · simp [h1, -List.getD_eq_getElem?_getD]
        · simp [h1, -List.getD_eq_getElem?_getD]
      rw [hbadT (by omega) this]
    · rename_i hlt _ _ _ hgood
      rw [seen_mem] at hgood
      apply AgainK.mk (k + 1)
      case' h4 => (try simp only [List.append_nil]); repeat' (first | exact tab_age _ _ _ | constructor)
      case' h3 => repeat' constructor
      case' h1 => first | omega | (dsimp only; omega)
      · rw [take_snocD (l.map Tk.id) (by simp; omega) 0, ids_get (by omega), setG_snoc]
      · refine ⟨by omega, fun i hi => ?_⟩
        rcases Nat.lt_succ_iff_lt_or_eq.1 hi with h' | h'
        · exact hs i h'
        · subst h'
          unfold tskP
          rw [earlier_ids (by omega)]
          have h2 : ¬ (l.getD i dT).id ∈ (l.map Tk.id).take i := fun e => hgood (.inl (.inl (.inl (.inr e))))
          have h3 : floorB g (l.getD i dT).fr = true := Classical.byContradiction fun e => hgood (.inl (.inl (.inr e)))
          have h4 : floorB g (l.getD i dT).to = true := Classical.byContradiction fun e => hgood (.inl (.inr e))
          have h5 : ¬ (l.getD i dT).fr = (l.getD i dT).to := fun e => hgood (.inr e)
          rw [decide_eq_true (show 1 ≤ (l.getD i dT).id ∧ (l.getD i dT).id ≤ 2147483647 by omega), decide_eq_false h2, h3, h4, decide_eq_true h5]
          rfl
    · rename_i hge
      rw [hend hge hs]
theorem wants_ok (r : Rb) : Sat Try.prog 42 [.g [iv r.cell, iv r.mode, iv r.task, iv r.bat, iv r.hold]] [] (isV (.int .i64 (wantsI r))) := by
  refine Sat.of T_ok Try.func42 Try.call42 rfl rfl rfl ?_
  repeat' (first | assumption | exact fun h : ¬ True => absurd trivial h | exact fun h : False => h.elim | exact sd (by first | omega | (simp only []; omega) | (simp only [List.length_append, List.length_cons, List.length_nil, List.length_take, List.length_drop, List.length_map, List.length_range, List.length_set]; omega)) | exact sp (fun h => by simp [PathHolds] at h; omega) | exact sp (fun h => by simp [PathHolds, -List.getD_eq_getElem?_getD] at h; omega) | exact sd rfl | exact sd ⟨rfl, by decide⟩ | exact sd trivial | (show Nat.beq _ _ = true; rfl) | (apply Run.nilStop rfl; apply RunSem.eqNil T_ok) | refine Run.storeStop rfl ?_ | (apply Run.mapStop; apply RunSem.mapSet T_ok) | (apply Run.newMapStop; apply RunSem.newMap T_ok) | (apply Run.sliceStop; apply RunSem.litI T_ok; rotate_left; rfl; rfl; rfl) | (apply AList.sliceStop; apply AListSem.litI T_ok; rotate_left; rfl; rfl; rfl) | (apply Run.semStop; apply RunSem.rangeStr T_ok) | (apply Run.semStop; apply RunSem.nextStr T_ok) | apply Run.condP | apply Sx.Ends.by () | constructor | intro _)
  · rename_i h; rw [wantsI, if_pos h]
  · rename_i h h1; rw [wantsI, if_neg h, if_pos h1]
  · rename_i h h1 h2 h3; rw [wantsI, if_neg h, if_neg h1, if_pos ⟨h2, h3⟩]
  · rename_i h h1 h2 h3; rw [wantsI, if_neg h, if_neg h1, if_neg (fun e => h3 e.2)]
  · rename_i h h1 h2; rw [wantsI, if_neg h, if_neg h1, if_neg (fun e => h2 e.1)]
end Go.Proofs.Ytmnnejkcgdfjiaa
