import Derived.Test.YtmnnejkcgdfjiaaS05Grid1
set_option linter.all false
set_option maxHeartbeats 4000000
set_option maxRecDepth 100000
set_option linter.all false
namespace Go.Proofs.Ytmnnejkcgdfjiaa
open Go.Sx
attribute [local irreducible] RunSem AListSem AgainK Again Side Sx.Ends IntKind.wrap SatV AgainR DSem MJ
attribute [local irreducible] floorB goesB rightG arrow isLetter
theorem refRight_ok (g : Gr) : Sat Try.prog 8 [gA g] [] (isV (.bool (rightG g))) := by
  have hp : 1 ≤ g.W → 1 ≤ g.H → g.W ≤ 256 → g.H ≤ 256 → 1 ≤ g.W * g.H ∧ g.W * g.H ≤ 65536 := sides_mul
  refine Sat.of T_ok Try.func8 Try.call8 rfl rfl rfl ?_
  repeat' (first | assumption | exact fun h : ¬ True => absurd trivial h | exact fun h : False => h.elim | exact sd (by first | omega | (simp only []; omega) | (simp only [List.length_append, List.length_cons, List.length_nil, List.length_take, List.length_drop, List.length_map, List.length_range, List.length_set]; omega)) | exact sp (fun h => by simp [PathHolds] at h; omega) | exact sp (fun h => by simp [PathHolds, -List.getD_eq_getElem?_getD] at h; omega) | exact sd rfl | exact sd ⟨rfl, by decide⟩ | exact sd trivial | (show Nat.beq _ _ = true; rfl) | exact Bin.x rfl | (apply Run.nilStop rfl; apply RunSem.eqNil T_ok) | refine Run.storeStop rfl ?_ | (apply Run.mapStop; apply RunSem.mapSet T_ok) | (apply Run.newMapStop; apply RunSem.newMap T_ok) | (apply Run.sliceStop; apply RunSem.litI T_ok; rotate_left; rfl; rfl; rfl) | (apply AList.sliceStop; apply AListSem.litI T_ok; rotate_left; rfl; rfl; rfl) | (apply Run.semStop; apply RunSem.rangeStr T_ok) | (apply Run.semStop; apply RunSem.nextStr T_ok) | apply Run.condP | apply Sx.Ends.by () | constructor | intro _)
  · rename_i b h
    rw [rightG_no (fun h' => by omega)]
  rename_i b hc
  have hR := rightG_yes (g := g) (by omega)
  have hsz : (g.C.size : Int) ≤ 65536 := by omega
  refine RunSem.loopK T_ok [1, 2] (fun k : Nat => [(3, [], iv k)]) (fun _ => []) (fun k => k ≤ g.C.size ∧ ∀ i, i < k → isLetter (g.at i) = true) (fun k => g.C.size - k) 0 ⟨by omega, by simp⟩ (by repeat' constructor) (by repeat' first | assumption | exact tab_age _ _ _ | constructor) (by repeat' first | assumption | exact tab_age _ _ _ | constructor) ?_
  dsimp only [List.cons_append, List.nil_append]
  rintro k ⟨hk, hs⟩
  repeat' (first | assumption | exact fun h : ¬ True => absurd trivial h | exact fun h : False => h.elim | exact sd (by first | omega | (simp only []; omega) | (simp only [List.length_append, List.length_cons, List.length_nil, List.length_take, List.length_drop, List.length_map, List.length_range, List.length_set]; omega)) | exact sp (fun h => by simp [PathHolds] at h; omega) | exact sp (fun h => by simp [PathHolds, -List.getD_eq_getElem?_getD] at h; omega) | exact sd rfl | exact sd ⟨rfl, by decide⟩ | exact sd trivial | (show Nat.beq _ _ = true; rfl) | exact Bin.x rfl | (apply Run.nilStop rfl; apply RunSem.eqNil T_ok) | refine Run.storeStop rfl ?_ | (apply Run.mapStop; apply RunSem.mapSet T_ok) | (apply Run.newMapStop; apply RunSem.newMap T_ok) | (apply Run.sliceStop; apply RunSem.litI T_ok; rotate_left; rfl; rfl; rfl) | (apply AList.sliceStop; apply AListSem.litI T_ok; rotate_left; rfl; rfl; rfl) | (apply Run.semStop; apply RunSem.rangeStr T_ok) | (apply Run.semStop; apply RunSem.nextStr T_ok) | apply Run.condP | apply Sx.Ends.by () | constructor | intro _)
  · rename_i hlt
    have hlt' : k < g.C.size := by omega
    first | apply RunSem.lend T_ok (letter_ok (g.at k)) (fun _ => ⟨rfl, rfl⟩) | apply RunSem.callG T_ok (lend := true) (isV_fun (letter_ok (g.at k))) (fun _ => rfl) rfl | apply AListSem.call T_ok (lend := true) (isV_fun (letter_ok (g.at k))) (fun _ => rfl) rfl | apply AListSem.callG T_ok (lend := true) (isV_fun (letter_ok (g.at k))) (fun _ => rfl) rfl
    all_goals repeat' (first | assumption | exact fun h : ¬ True => absurd trivial h | exact fun h : False => h.elim | exact sd (by first | omega | (simp only []; omega) | (simp only [List.length_append, List.length_cons, List.length_nil, List.length_take, List.length_drop, List.length_map, List.length_range, List.length_set]; omega)) | exact sp (fun h => by simp [PathHolds] at h; omega) | exact sp (fun h => by simp [PathHolds, -List.getD_eq_getElem?_getD] at h; omega) | exact sd rfl | exact sd ⟨rfl, by decide⟩ | exact sd trivial | (show Nat.beq _ _ = true; rfl) | exact Bin.x rfl | (apply Run.nilStop rfl; apply RunSem.eqNil T_ok) | refine Run.storeStop rfl ?_ | (apply Run.mapStop; apply RunSem.mapSet T_ok) | (apply Run.newMapStop; apply RunSem.newMap T_ok) | (apply Run.sliceStop; apply RunSem.litI T_ok; rotate_left; rfl; rfl; rfl) | (apply AList.sliceStop; apply AListSem.litI T_ok; rotate_left; rfl; rfl; rfl) | (apply Run.semStop; apply RunSem.rangeStr T_ok) | (apply Run.semStop; apply RunSem.nextStr T_ok) | apply Run.condP | apply Sx.Ends.by () | constructor | intro _)
    · rename_i hl
      rw [hR, all_no hlt' (by simpa using hl)]
    · rename_i hl
      apply AgainK.mk (k + 1)
      case' h4 => (try simp only [List.append_nil]); repeat' (first | exact tab_age _ _ _ | constructor)
      case' h3 => repeat' constructor
      case' h1 => first | omega | (dsimp only; omega)
      refine ⟨by omega, fun i hi => ?_⟩
      rcases Nat.lt_succ_iff_lt_or_eq.1 hi with h' | h'
      · exact hs i h'
      · subst h'; simpa using hl
  · rename_i hge
    rw [hR, all_yes (fun i hi => hs i (by omega))]
end Go.Proofs.Ytmnnejkcgdfjiaa
