import Derived.Test.YtlhcklmaikfjcaaS08Gate3
set_option linter.all false
set_option linter.all false
namespace Go.Proofs.Ytlhcklmaikfjcaa
open Go.Sx
attribute [local irreducible] RunSem AListSem AgainK Again Side Sx.Ends IntKind.wrap
theorem in_ok (l : List Int) (n : Int) (h : l.length < 4611686018427387904) : Sat Try.prog 17 [DI l, iv n] [] (isV (.bool (decide (n ∈ l)))) := by
  refine Sat.of T_ok Try.func17 Try.call17 rfl rfl rfl ?_
  repeat' (first | assumption | exact sd (by first | omega | (simp only []; omega) | (simp only [List.length_append, List.length_cons, List.length_nil, List.length_take, List.length_drop, List.length_map, List.length_range]; omega)) | exact sp (fun h => by simp [PathHolds] at h; omega) | exact sd rfl | exact sd ⟨rfl, by decide⟩ | exact sd trivial | exact Bin.x rfl | (apply Run.nilStop rfl; apply RunSem.eqNil T_ok) | refine Run.storeStop rfl ?_ | (apply Run.mapStop; apply RunSem.mapSet T_ok) | (apply Run.newMapStop; apply RunSem.newMap T_ok) | (apply Run.sliceStop; apply RunSem.litI T_ok) | (apply AList.sliceStop; apply AListSem.litI T_ok) | apply Run.condP | apply Sx.Ends.by () | constructor | intro _)
  refine RunSem.loopK T_ok [0, 1] (fun k : Nat => [(5, [], iv k)]) (fun _ => []) (fun k => k ≤ l.length ∧ n ∉ l.take k) (fun k => l.length - k) 0 ⟨by omega, by simp⟩ (by repeat' constructor) (by repeat' constructor) (by repeat' constructor) ?_
  dsimp only [List.cons_append, List.nil_append]
  rintro k ⟨hk, hn⟩
  repeat' (first | assumption | exact sd (by first | omega | (simp only []; omega) | (simp only [List.length_append, List.length_cons, List.length_nil, List.length_take, List.length_drop, List.length_map, List.length_range]; omega)) | exact sp (fun h => by simp [PathHolds] at h; omega) | exact sd rfl | exact sd ⟨rfl, by decide⟩ | exact sd trivial | exact Bin.x rfl | (apply Run.nilStop rfl; apply RunSem.eqNil T_ok) | refine Run.storeStop rfl ?_ | (apply Run.mapStop; apply RunSem.mapSet T_ok) | (apply Run.newMapStop; apply RunSem.newMap T_ok) | (apply Run.sliceStop; apply RunSem.litI T_ok) | (apply AList.sliceStop; apply AListSem.litI T_ok) | apply Run.condP | apply Sx.Ends.by () | constructor | intro _)
  · rename_i hlt he
    have : n ∈ l := by
      rw [← he]
      exact List.mem_of_mem_take (getD_mem_take (k := l.length) (by omega) (by omega))
    simp [this]
  · rename_i hlt he
    apply AgainK.mk (k + 1)
    case' h4 => repeat' constructor
    case' h3 => repeat' constructor
    case' h1 => first | omega | (dsimp only; omega)
    refine ⟨by omega, fun hm => ?_⟩
    rw [List.take_add_one, List.getElem?_eq_getElem (by omega)] at hm
    rw [List.getD, List.getElem?_eq_getElem (by omega)] at he
    rcases List.mem_append.1 hm with h1 | h1
    · exact hn h1
    · exact he (List.mem_singleton.1 h1).symm
  · rename_i hlt
    have : k = l.length := by omega
    rw [this, List.take_length] at hn
    simp [hn]
theorem refkept_ok (c w bl : List Int) (i : Nat) (hc : c.length ≤ 1000000000) (hl : c.length = w.length) (hi : i < c.length) (hb : bl.length ≤ 1000000000) :
    Sat Try.prog 18 [DI c, DI w, DI bl, iv i] [] (isV (.bool (kept1 c bl w i))) := by
  refine Sat.of T_ok Try.func18 Try.call18 rfl rfl rfl ?_
  repeat' (first | assumption | exact sd (by first | omega | (simp only []; omega) | (simp only [List.length_append, List.length_cons, List.length_nil, List.length_take, List.length_drop, List.length_map, List.length_range]; omega)) | exact sp (fun h => by simp [PathHolds] at h; omega) | exact sd rfl | exact sd ⟨rfl, by decide⟩ | exact sd trivial | exact Bin.x rfl | (apply Run.nilStop rfl; apply RunSem.eqNil T_ok) | refine Run.storeStop rfl ?_ | (apply Run.mapStop; apply RunSem.mapSet T_ok) | (apply Run.newMapStop; apply RunSem.newMap T_ok) | (apply Run.sliceStop; apply RunSem.litI T_ok) | (apply AList.sliceStop; apply AListSem.litI T_ok) | apply Run.condP | apply Sx.Ends.by () | (apply Run.drawStop; refine RunSem.drawBy (id := 1) T_ok mix 9 (by kernel_rfl) ?_) | (apply Run.drawStop; refine RunSem.drawBy (id := 9) T_ok mix 20 (by kernel_rfl) ?_) | (apply Run.drawStop; refine RunSem.drawBy (id := 11) T_ok mix 25 (by kernel_rfl) ?_) | (apply Run.drawStop; refine RunSem.drawBy (id := 13) T_ok mix 20 (by kernel_rfl) ?_) | constructor | intro _)
  · rename_i he
    simp [-List.getD_eq_getElem?_getD, kept1, he]
  · rename_i he
    first | apply RunSem.lend T_ok (in_ok bl (w.getD i 0) (by omega)) (fun _ => ⟨rfl, rfl⟩) | apply RunSem.callG T_ok (lend := true) (isV_fun (in_ok bl (w.getD i 0) (by omega))) (fun _ => rfl) | apply AListSem.call T_ok (lend := true) (isV_fun (in_ok bl (w.getD i 0) (by omega))) (fun _ => rfl) | apply AListSem.callG T_ok (lend := true) (isV_fun (in_ok bl (w.getD i 0) (by omega))) (fun _ => rfl)
    all_goals repeat' (first | assumption | exact sd (by first | omega | (simp only []; omega) | (simp only [List.length_append, List.length_cons, List.length_nil, List.length_take, List.length_drop, List.length_map, List.length_range]; omega)) | exact sp (fun h => by simp [PathHolds] at h; omega) | exact sd rfl | exact sd ⟨rfl, by decide⟩ | exact sd trivial | exact Bin.x rfl | (apply Run.nilStop rfl; apply RunSem.eqNil T_ok) | refine Run.storeStop rfl ?_ | (apply Run.mapStop; apply RunSem.mapSet T_ok) | (apply Run.newMapStop; apply RunSem.newMap T_ok) | (apply Run.sliceStop; apply RunSem.litI T_ok) | (apply AList.sliceStop; apply AListSem.litI T_ok) | apply Run.condP | apply Sx.Ends.by () | (apply Run.drawStop; refine RunSem.drawBy (id := 1) T_ok mix 9 (by kernel_rfl) ?_) | (apply Run.drawStop; refine RunSem.drawBy (id := 9) T_ok mix 20 (by kernel_rfl) ?_) | (apply Run.drawStop; refine RunSem.drawBy (id := 11) T_ok mix 25 (by kernel_rfl) ?_) | (apply Run.drawStop; refine RunSem.drawBy (id := 13) T_ok mix 20 (by kernel_rfl) ?_) | constructor | intro _)
    · rename_i _ hbl
      have hd : decide (w.getD i 0 ≠ c.getD i 0) = true := by simpa using he
      simp only [kept1, hd, hbl, decide_true, Bool.true_or, Bool.and_self]
    · rename_i _ hbl
      have hd : decide (w.getD i 0 ≠ c.getD i 0) = true := by simpa using he
      have hk : kept1 c bl w i = (List.range c.length).any (against c w i) := by simp only [kept1, hd, hbl, decide_false, Bool.false_or, Bool.true_and]
      rw [hk]
      refine RunSem.loopK T_ok [0, 1, 3] (fun k : Nat => [(9, [], iv k)]) (fun _ => []) (fun k => k ≤ c.length ∧ (List.range k).any (against c w i) = false) (fun k => c.length - k) 0 ⟨by omega, by simp⟩ (by repeat' constructor) (by repeat' constructor) (by repeat' constructor) ?_
      dsimp only [List.cons_append, List.nil_append]
      rintro k ⟨hkl, hno⟩
      have hex : k < c.length → against c w i k = true → (List.range c.length).any (against c w i) = true := fun h1 h2 => List.any_eq_true.2 ⟨k, by simpa using h1, h2⟩
      have hnx : against c w i k = false → (List.range (k + 1)).any (against c w i) = false := fun h => by rw [List.range_succ, List.any_append, hno, List.any_cons, h]; rfl
      repeat' (first | assumption | exact sd (by first | omega | (simp only []; omega) | (simp only [List.length_append, List.length_cons, List.length_nil, List.length_take, List.length_drop, List.length_map, List.length_range]; omega)) | exact sp (fun h => by simp [PathHolds] at h; omega) | exact sd rfl | exact sd ⟨rfl, by decide⟩ | exact sd trivial | exact Bin.x rfl | (apply Run.nilStop rfl; apply RunSem.eqNil T_ok) | refine Run.storeStop rfl ?_ | (apply Run.mapStop; apply RunSem.mapSet T_ok) | (apply Run.newMapStop; apply RunSem.newMap T_ok) | (apply Run.sliceStop; apply RunSem.litI T_ok) | (apply AList.sliceStop; apply AListSem.litI T_ok) | apply Run.condP | apply Sx.Ends.by () | (apply Run.drawStop; refine RunSem.drawBy (id := 1) T_ok mix 9 (by kernel_rfl) ?_) | (apply Run.drawStop; refine RunSem.drawBy (id := 9) T_ok mix 20 (by kernel_rfl) ?_) | (apply Run.drawStop; refine RunSem.drawBy (id := 11) T_ok mix 25 (by kernel_rfl) ?_) | (apply Run.drawStop; refine RunSem.drawBy (id := 13) T_ok mix 20 (by kernel_rfl) ?_) | constructor | intro _)
      · rename_i h1 h2
        apply AgainK.mk (k + 1)
        case' h4 => repeat' constructor
        case' h3 => repeat' constructor
        case' h1 => first | omega | (dsimp only; omega)
        refine ⟨by omega, hnx ?_⟩
        rw [against, decide_eq_false_iff_not]
        exact fun h => h.1 (by omega)
      · rename_i h1 h2 h3
        rw [hex (by omega) (by rw [against, decide_eq_true_eq]; exact ⟨by omega, .inl h3⟩)]
      · rename_i h1 h2 h3 h4
        rw [hex (by omega) (by rw [against, decide_eq_true_eq]; exact ⟨by omega, .inr (.inl ⟨h4.1.1, h4.1.2, by omega⟩)⟩)]
      · rename_i h1 h2 h3 h4 h5
        rw [hex (by omega) (by rw [against, decide_eq_true_eq]; exact ⟨by omega, .inr (.inr h5)⟩)]
      · rename_i h1 h2 h3 h4 h5
        apply AgainK.mk (k + 1)
        case' h4 => repeat' constructor
        case' h3 => repeat' constructor
        case' h1 => first | omega | (dsimp only; omega)
        refine ⟨by omega, hnx ?_⟩
        rw [against, decide_eq_false_iff_not]
        rintro ⟨_, h | h | h⟩
        · exact h3 h
        · exact h4 ⟨⟨h.1, h.2.1⟩, by omega⟩
        · exact h5 h
      · rename_i h1
        have : k = c.length := by omega
        subst this
        rw [hno]
end Go.Proofs.Ytlhcklmaikfjcaa
