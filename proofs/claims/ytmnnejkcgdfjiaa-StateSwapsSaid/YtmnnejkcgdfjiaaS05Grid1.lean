import Derived.Test.YtmnnejkcgdfjiaaS05Grid0
set_option linter.all false
set_option maxHeartbeats 4000000
set_option maxRecDepth 100000
set_option linter.all false
namespace Go.Proofs.Ytmnnejkcgdfjiaa
open Go.Sx
attribute [local irreducible] RunSem AListSem AgainK Again Side Sx.Ends IntKind.wrap SatV AgainR DSem MJ
attribute [local irreducible] floorB goesB rightG arrow isLetter
abbrev lettersL : List UInt8 := [46, 35, 83, 67, 62, 60, 94, 118]
theorem letter_ok (c : UInt8) : Sat Try.prog 20 [.v (.int .u8 (c.toNat : Int))] [] (isV (.bool (isLetter c))) := by
  refine Sat.of T_ok Try.func20 Try.call20 rfl rfl rfl ?_
  repeat' (first | assumption | exact fun h : ¬ True => absurd trivial h | exact fun h : False => h.elim | exact sd (by first | omega | (simp only []; omega) | (simp only [List.length_append, List.length_cons, List.length_nil, List.length_take, List.length_drop, List.length_map, List.length_range, List.length_set]; omega)) | exact sp (fun h => by simp [PathHolds] at h; omega) | exact sp (fun h => by simp [PathHolds, -List.getD_eq_getElem?_getD] at h; omega) | exact sd rfl | exact sd ⟨rfl, by decide⟩ | exact sd trivial | (show Nat.beq _ _ = true; rfl) | exact Bin.x rfl | (apply Run.nilStop rfl; apply RunSem.eqNil T_ok) | refine Run.storeStop rfl ?_ | (apply Run.mapStop; apply RunSem.mapSet T_ok) | (apply Run.newMapStop; apply RunSem.newMap T_ok) | (apply Run.sliceStop; apply RunSem.litI T_ok; rotate_left; rfl; rfl; rfl) | (apply AList.sliceStop; apply AListSem.litI T_ok; rotate_left; rfl; rfl; rfl) | (apply Run.semStop; apply RunSem.rangeStr T_ok) | (apply Run.semStop; apply RunSem.nextStr T_ok) | apply Run.condP | apply Sx.Ends.by () | constructor | intro _)
  refine RunSem.loopK T_ok [0, 3] (fun k : Nat => [(4, [], iv k)]) (fun _ => []) (fun k => k ≤ 8 ∧ ∀ i, i < k → lettersL.getD i 0 ≠ c) (fun k => 8 - k) 0 ⟨by omega, by simp⟩ (by repeat' constructor) (by repeat' first | assumption | exact tab_age _ _ _ | constructor) (by repeat' first | assumption | exact tab_age _ _ _ | constructor) ?_
  dsimp only [List.cons_append, List.nil_append]
  rintro k ⟨hk, hs⟩
  repeat' (first | assumption | exact fun h : ¬ True => absurd trivial h | exact fun h : False => h.elim | exact sd (by first | omega | (simp only []; omega) | (simp only [List.length_append, List.length_cons, List.length_nil, List.length_take, List.length_drop, List.length_map, List.length_range, List.length_set]; omega)) | exact sp (fun h => by simp [PathHolds] at h; omega) | exact sp (fun h => by simp [PathHolds, -List.getD_eq_getElem?_getD] at h; omega) | exact sd rfl | exact sd ⟨rfl, by decide⟩ | exact sd trivial | (show Nat.beq _ _ = true; rfl) | exact Bin.x rfl | (apply Run.nilStop rfl; apply RunSem.eqNil T_ok) | refine Run.storeStop rfl ?_ | (apply Run.mapStop; apply RunSem.mapSet T_ok) | (apply Run.newMapStop; apply RunSem.newMap T_ok) | (apply Run.sliceStop; apply RunSem.litI T_ok; rotate_left; rfl; rfl; rfl) | (apply AList.sliceStop; apply AListSem.litI T_ok; rotate_left; rfl; rfl; rfl) | (apply Run.semStop; apply RunSem.rangeStr T_ok) | (apply Run.semStop; apply RunSem.nextStr T_ok) | apply Run.condP | apply Sx.Ends.by () | constructor | intro _)
  · rename_i hlt he
    have hk8 : k < 8 := by
      have : ((k : Int) < 8) := hlt
      omega
    have : c = lettersL.getD k 0 := UInt8.toNat_inj.1 (Int.ofNat.inj he.symm)
    rw [show isLetter c = true by unfold isLetter; simp only [decide_eq_true_eq]; rw [this]; have : ∀ k, k < 8 → lettersL.getD k 0 ∈ lettersL := by decide +kernel
                                  exact this k hk8]
  · rename_i hlt hne
    have hk8 : k < 8 := by
      have : ((k : Int) < 8) := hlt
      omega
    apply AgainK.mk (k + 1)
    case' h4 => (try simp only [List.append_nil]); repeat' (first | exact tab_age _ _ _ | constructor)
    case' h3 => repeat' constructor
    case' h1 => first | omega | (dsimp only; omega)
    refine ⟨by omega, fun i hi => ?_⟩
    rcases Nat.lt_succ_iff_lt_or_eq.1 hi with h' | h'
    · exact hs i h'
    · subst h'; exact fun h => hne (by simpa [-List.getD_eq_getElem?_getD] using congrArg (fun u => (UInt8.toNat u : Int)) h)
  · rename_i hge
    obtain rfl : k = 8 := by
      have : ¬ ((k : Int) < 8) := hge
      omega
    rw [show isLetter c = false by
      unfold isLetter
      simp only [decide_eq_false_iff_not]
      intro h
      obtain ⟨i, hi, e⟩ := List.getElem_of_mem h
      refine hs i hi ?_
      rw [List.getD, List.getElem?_eq_getElem hi]
      exact e]
theorem refGoes_ok (g : Gr) (hg : GrOk g) (c way : Int) : Sat Try.prog 52 [gA g, iv c, iv way] [] (Gives (ι := Unit) (fun _ => .t [iv ((goesB g c way).getD 0), bv (goesB g c way).isSome]) (fun _ => []) (fun _ => True)) := by
  have hF := refFloor_ok g c
  cases hf : floorB g c with
  | false =>
    have hG : goesB g c way = none := by unfold goesB; rw [if_pos (.inl hf)]
    rw [hG]
    rw [hf] at hF
    refine Sat.of T_ok Try.func52 Try.call52 rfl rfl rfl ?_
    repeat' (first | assumption | exact fun h : ¬ True => absurd trivial h | exact fun h : False => h.elim | exact sd (by first | omega | (simp only []; omega) | (simp only [List.length_append, List.length_cons, List.length_nil, List.length_take, List.length_drop, List.length_map, List.length_range, List.length_set]; omega)) | exact sp (fun h => by simp [PathHolds] at h; omega) | exact sp (fun h => by simp [PathHolds, -List.getD_eq_getElem?_getD] at h; omega) | exact sd rfl | exact sd ⟨rfl, by decide⟩ | exact sd trivial | (show Nat.beq _ _ = true; rfl) | exact Bin.x rfl | (apply Run.nilStop rfl; apply RunSem.eqNil T_ok) | refine Run.storeStop rfl ?_ | (apply Run.mapStop; apply RunSem.mapSet T_ok) | (apply Run.newMapStop; apply RunSem.newMap T_ok) | (apply Run.sliceStop; apply RunSem.litI T_ok; rotate_left; rfl; rfl; rfl) | (apply AList.sliceStop; apply AListSem.litI T_ok; rotate_left; rfl; rfl; rfl) | (apply Run.semStop; apply RunSem.rangeStr T_ok) | (apply Run.semStop; apply RunSem.nextStr T_ok) | apply Run.condP | apply Sx.Ends.by () | (apply Run.drawStop; refine RunSem.drawBy (id := 8) T_ok mix 10 (by kernel_rfl) ?_) | (apply Run.drawStop; refine RunSem.drawBy (id := 9) T_ok mix 10 (by kernel_rfl) ?_) | constructor | intro _)
    apply RunSem.lend T_ok hF (fun _ => ⟨rfl, rfl⟩)
    all_goals repeat' (first | assumption | exact fun h : ¬ True => absurd trivial h | exact fun h : False => h.elim | exact sd (by first | omega | (simp only []; omega) | (simp only [List.length_append, List.length_cons, List.length_nil, List.length_take, List.length_drop, List.length_map, List.length_range, List.length_set]; omega)) | exact sp (fun h => by simp [PathHolds] at h; omega) | exact sp (fun h => by simp [PathHolds, -List.getD_eq_getElem?_getD] at h; omega) | exact sd rfl | exact sd ⟨rfl, by decide⟩ | exact sd trivial | (show Nat.beq _ _ = true; rfl) | exact Bin.x rfl | (apply Run.nilStop rfl; apply RunSem.eqNil T_ok) | refine Run.storeStop rfl ?_ | (apply Run.mapStop; apply RunSem.mapSet T_ok) | (apply Run.newMapStop; apply RunSem.newMap T_ok) | (apply Run.sliceStop; apply RunSem.litI T_ok; rotate_left; rfl; rfl; rfl) | (apply AList.sliceStop; apply AListSem.litI T_ok; rotate_left; rfl; rfl; rfl) | (apply Run.semStop; apply RunSem.rangeStr T_ok) | (apply Run.semStop; apply RunSem.nextStr T_ok) | apply Run.condP | apply Sx.Ends.by () | (apply Run.drawStop; refine RunSem.drawBy (id := 8) T_ok mix 10 (by kernel_rfl) ?_) | (apply Run.drawStop; refine RunSem.drawBy (id := 9) T_ok mix 10 (by kernel_rfl) ?_) | constructor | intro _)
  | true =>
    have hlt := floorB_lt hf
    rw [hf] at hF
    have hsz := hg.size
    have hdm := divmod_facts hlt.1 hg.w
    have hh := hg.h
    have hw2 := hg.w
    by_cases hw : 0 ≤ way ∧ way ≤ 4
    · by_cases h0 : way = 0
      · subst h0
        rw [goes_stay hg hf]
        refine Sat.of T_ok Try.func52 Try.call52 rfl rfl rfl ?_
        repeat' (first | assumption | exact fun h : ¬ True => absurd trivial h | exact fun h : False => h.elim | exact sd (by first | omega | (simp only []; omega) | (simp only [List.length_append, List.length_cons, List.length_nil, List.length_take, List.length_drop, List.length_map, List.length_range, List.length_set]; omega)) | exact sp (fun h => by simp [PathHolds] at h; omega) | exact sp (fun h => by simp [PathHolds, -List.getD_eq_getElem?_getD] at h; omega) | exact sd rfl | exact sd ⟨rfl, by decide⟩ | exact sd trivial | (show Nat.beq _ _ = true; rfl) | exact Bin.x rfl | (apply Run.nilStop rfl; apply RunSem.eqNil T_ok) | refine Run.storeStop rfl ?_ | (apply Run.mapStop; apply RunSem.mapSet T_ok) | (apply Run.newMapStop; apply RunSem.newMap T_ok) | (apply Run.sliceStop; apply RunSem.litI T_ok; rotate_left; rfl; rfl; rfl) | (apply AList.sliceStop; apply AListSem.litI T_ok; rotate_left; rfl; rfl; rfl) | (apply Run.semStop; apply RunSem.rangeStr T_ok) | (apply Run.semStop; apply RunSem.nextStr T_ok) | apply Run.condP | apply Sx.Ends.by () | (apply Run.drawStop; refine RunSem.drawBy (id := 8) T_ok mix 10 (by kernel_rfl) ?_) | (apply Run.drawStop; refine RunSem.drawBy (id := 9) T_ok mix 10 (by kernel_rfl) ?_) | constructor | intro _)
        apply RunSem.lend T_ok hF (fun _ => ⟨rfl, rfl⟩)
        all_goals repeat' (first | assumption | exact fun h : ¬ True => absurd trivial h | exact fun h : False => h.elim | exact sd (by first | omega | (simp only []; omega) | (simp only [List.length_append, List.length_cons, List.length_nil, List.length_take, List.length_drop, List.length_map, List.length_range, List.length_set]; omega)) | exact sp (fun h => by simp [PathHolds] at h; omega) | exact sp (fun h => by simp [PathHolds, -List.getD_eq_getElem?_getD] at h; omega) | exact sd rfl | exact sd ⟨rfl, by decide⟩ | exact sd trivial | (show Nat.beq _ _ = true; rfl) | exact Bin.x rfl | (apply Run.nilStop rfl; apply RunSem.eqNil T_ok) | refine Run.storeStop rfl ?_ | (apply Run.mapStop; apply RunSem.mapSet T_ok) | (apply Run.newMapStop; apply RunSem.newMap T_ok) | (apply Run.sliceStop; apply RunSem.litI T_ok; rotate_left; rfl; rfl; rfl) | (apply AList.sliceStop; apply AListSem.litI T_ok; rotate_left; rfl; rfl; rfl) | (apply Run.semStop; apply RunSem.rangeStr T_ok) | (apply Run.semStop; apply RunSem.nextStr T_ok) | apply Run.condP | apply Sx.Ends.by () | (apply Run.drawStop; refine RunSem.drawBy (id := 8) T_ok mix 10 (by kernel_rfl) ?_) | (apply Run.drawStop; refine RunSem.drawBy (id := 9) T_ok mix 10 (by kernel_rfl) ?_) | constructor | intro _)
        all_goals (exfalso; omega)
      · obtain ⟨ex, ey, hx1, hx2, hy1, hy2, hp1, hp2⟩ := step_facts hg hf hw
        change c % g.W + ([0, 0, 1, 0, -1] : List Int).getD way.toNat 0 = _ at ex
        change c / g.W + ([0, -1, 0, 1, 0] : List Int).getD way.toNat 0 = _ at ey
        have hp3 : (c / g.W + [0, -1, 0, 1, 0].getD way.toNat 0) * g.W = goY g c way * g.W := by rw [ey]
        refine Sat.of T_ok Try.func52 Try.call52 rfl rfl rfl ?_
        repeat' (first | assumption | exact fun h : ¬ True => absurd trivial h | exact fun h : False => h.elim | exact sd (by first | omega | (simp only []; omega) | (simp only [List.length_append, List.length_cons, List.length_nil, List.length_take, List.length_drop, List.length_map, List.length_range, List.length_set]; omega)) | exact sp (fun h => by simp [PathHolds] at h; omega) | exact sp (fun h => by simp [PathHolds, -List.getD_eq_getElem?_getD] at h; omega) | exact sd rfl | exact sd ⟨rfl, by decide⟩ | exact sd trivial | (show Nat.beq _ _ = true; rfl) | exact Bin.x rfl | (apply Run.nilStop rfl; apply RunSem.eqNil T_ok) | refine Run.storeStop rfl ?_ | (apply Run.mapStop; apply RunSem.mapSet T_ok) | (apply Run.newMapStop; apply RunSem.newMap T_ok) | (apply Run.sliceStop; apply RunSem.litI T_ok; rotate_left; rfl; rfl; rfl) | (apply AList.sliceStop; apply AListSem.litI T_ok; rotate_left; rfl; rfl; rfl) | (apply Run.semStop; apply RunSem.rangeStr T_ok) | (apply Run.semStop; apply RunSem.nextStr T_ok) | apply Run.condP | apply Sx.Ends.by () | (apply Run.drawStop; refine RunSem.drawBy (id := 8) T_ok mix 10 (by kernel_rfl) ?_) | (apply Run.drawStop; refine RunSem.drawBy (id := 9) T_ok mix 10 (by kernel_rfl) ?_) | constructor | intro _)
        apply RunSem.lend T_ok hF (fun _ => ⟨rfl, rfl⟩)
        all_goals repeat' (first | assumption | exact fun h : ¬ True => absurd trivial h | exact fun h : False => h.elim | exact sd (by first | omega | (simp only []; omega) | (simp only [List.length_append, List.length_cons, List.length_nil, List.length_take, List.length_drop, List.length_map, List.length_range, List.length_set]; omega)) | exact sp (fun h => by simp [PathHolds] at h; omega) | exact sp (fun h => by simp [PathHolds, -List.getD_eq_getElem?_getD] at h; omega) | exact sd rfl | exact sd ⟨rfl, by decide⟩ | exact sd trivial | (show Nat.beq _ _ = true; rfl) | exact Bin.x rfl | (apply Run.nilStop rfl; apply RunSem.eqNil T_ok) | refine Run.storeStop rfl ?_ | (apply Run.mapStop; apply RunSem.mapSet T_ok) | (apply Run.newMapStop; apply RunSem.newMap T_ok) | (apply Run.sliceStop; apply RunSem.litI T_ok; rotate_left; rfl; rfl; rfl) | (apply AList.sliceStop; apply AListSem.litI T_ok; rotate_left; rfl; rfl; rfl) | (apply Run.semStop; apply RunSem.rangeStr T_ok) | (apply Run.semStop; apply RunSem.nextStr T_ok) | apply Run.condP | apply Sx.Ends.by () | (apply Run.drawStop; refine RunSem.drawBy (id := 8) T_ok mix 10 (by kernel_rfl) ?_) | (apply Run.drawStop; refine RunSem.drawBy (id := 9) T_ok mix 10 (by kernel_rfl) ?_) | constructor | intro _)
        · omega
        · omega
        · omega
        · omega
        · rename_i h; rw [goesB_arrow ((arrow_bad h0).1 h)]; rfl
        · rename_i h; rw [goesB_arrow ((arrow_bad h0).1 h)]; rfl
        rename_i har
        first | apply RunSem.lend T_ok (refFloor_ok g ((c / g.W + ([0, -1, 0, 1, 0] : List Int).getD way.toNat 0) * g.W + (c % g.W + ([0, 0, 1, 0, -1] : List Int).getD way.toNat 0))) (fun _ => ⟨rfl, rfl⟩) | apply RunSem.callG T_ok (lend := true) (isV_fun (refFloor_ok g ((c / g.W + ([0, -1, 0, 1, 0] : List Int).getD way.toNat 0) * g.W + (c % g.W + ([0, 0, 1, 0, -1] : List Int).getD way.toNat 0)))) (fun _ => rfl) rfl | apply AListSem.call T_ok (lend := true) (isV_fun (refFloor_ok g ((c / g.W + ([0, -1, 0, 1, 0] : List Int).getD way.toNat 0) * g.W + (c % g.W + ([0, 0, 1, 0, -1] : List Int).getD way.toNat 0)))) (fun _ => rfl) rfl | apply AListSem.callG T_ok (lend := true) (isV_fun (refFloor_ok g ((c / g.W + ([0, -1, 0, 1, 0] : List Int).getD way.toNat 0) * g.W + (c % g.W + ([0, 0, 1, 0, -1] : List Int).getD way.toNat 0)))) (fun _ => rfl) rfl
        all_goals repeat' (first | assumption | exact fun h : ¬ True => absurd trivial h | exact fun h : False => h.elim | exact sd (by first | omega | (simp only []; omega) | (simp only [List.length_append, List.length_cons, List.length_nil, List.length_take, List.length_drop, List.length_map, List.length_range, List.length_set]; omega)) | exact sp (fun h => by simp [PathHolds] at h; omega) | exact sp (fun h => by simp [PathHolds, -List.getD_eq_getElem?_getD] at h; omega) | exact sd rfl | exact sd ⟨rfl, by decide⟩ | exact sd trivial | (show Nat.beq _ _ = true; rfl) | exact Bin.x rfl | (apply Run.nilStop rfl; apply RunSem.eqNil T_ok) | refine Run.storeStop rfl ?_ | (apply Run.mapStop; apply RunSem.mapSet T_ok) | (apply Run.newMapStop; apply RunSem.newMap T_ok) | (apply Run.sliceStop; apply RunSem.litI T_ok; rotate_left; rfl; rfl; rfl) | (apply AList.sliceStop; apply AListSem.litI T_ok; rotate_left; rfl; rfl; rfl) | (apply Run.semStop; apply RunSem.rangeStr T_ok) | (apply Run.semStop; apply RunSem.nextStr T_ok) | apply Run.condP | apply Sx.Ends.by () | (apply Run.drawStop; refine RunSem.drawBy (id := 8) T_ok mix 10 (by kernel_rfl) ?_) | (apply Run.drawStop; refine RunSem.drawBy (id := 9) T_ok mix 10 (by kernel_rfl) ?_) | constructor | intro _)
        · rename_i h; rw [ex, ey] at h; rw [ref_out hg hf hw h0 har h]; rfl
        · rename_i h; rw [ex, ey] at h; rw [ref_out hg hf hw h0 har h]; rfl
        · rename_i h; rw [ex, ey] at h; rw [ref_in hf hw h0 har h, ex, ey]; rfl
        · rename_i h; rw [ex, ey] at h; rw [ref_in hf hw h0 har h]; rfl
    · have hG : goesB g c way = none := by unfold goesB; rw [if_pos (by omega)]
      rw [hG]
      refine Sat.of T_ok Try.func52 Try.call52 rfl rfl rfl ?_
      repeat' (first | assumption | exact fun h : ¬ True => absurd trivial h | exact fun h : False => h.elim | exact sd (by first | omega | (simp only []; omega) | (simp only [List.length_append, List.length_cons, List.length_nil, List.length_take, List.length_drop, List.length_map, List.length_range, List.length_set]; omega)) | exact sp (fun h => by simp [PathHolds] at h; omega) | exact sp (fun h => by simp [PathHolds, -List.getD_eq_getElem?_getD] at h; omega) | exact sd rfl | exact sd ⟨rfl, by decide⟩ | exact sd trivial | (show Nat.beq _ _ = true; rfl) | exact Bin.x rfl | (apply Run.nilStop rfl; apply RunSem.eqNil T_ok) | refine Run.storeStop rfl ?_ | (apply Run.mapStop; apply RunSem.mapSet T_ok) | (apply Run.newMapStop; apply RunSem.newMap T_ok) | (apply Run.sliceStop; apply RunSem.litI T_ok; rotate_left; rfl; rfl; rfl) | (apply AList.sliceStop; apply AListSem.litI T_ok; rotate_left; rfl; rfl; rfl) | (apply Run.semStop; apply RunSem.rangeStr T_ok) | (apply Run.semStop; apply RunSem.nextStr T_ok) | apply Run.condP | apply Sx.Ends.by () | (apply Run.drawStop; refine RunSem.drawBy (id := 8) T_ok mix 10 (by kernel_rfl) ?_) | (apply Run.drawStop; refine RunSem.drawBy (id := 9) T_ok mix 10 (by kernel_rfl) ?_) | constructor | intro _)
      apply RunSem.lend T_ok hF (fun _ => ⟨rfl, rfl⟩)
      all_goals repeat' (first | assumption | exact fun h : ¬ True => absurd trivial h | exact fun h : False => h.elim | exact sd (by first | omega | (simp only []; omega) | (simp only [List.length_append, List.length_cons, List.length_nil, List.length_take, List.length_drop, List.length_map, List.length_range, List.length_set]; omega)) | exact sp (fun h => by simp [PathHolds] at h; omega) | exact sp (fun h => by simp [PathHolds, -List.getD_eq_getElem?_getD] at h; omega) | exact sd rfl | exact sd ⟨rfl, by decide⟩ | exact sd trivial | (show Nat.beq _ _ = true; rfl) | exact Bin.x rfl | (apply Run.nilStop rfl; apply RunSem.eqNil T_ok) | refine Run.storeStop rfl ?_ | (apply Run.mapStop; apply RunSem.mapSet T_ok) | (apply Run.newMapStop; apply RunSem.newMap T_ok) | (apply Run.sliceStop; apply RunSem.litI T_ok; rotate_left; rfl; rfl; rfl) | (apply AList.sliceStop; apply AListSem.litI T_ok; rotate_left; rfl; rfl; rfl) | (apply Run.semStop; apply RunSem.rangeStr T_ok) | (apply Run.semStop; apply RunSem.nextStr T_ok) | apply Run.condP | apply Sx.Ends.by () | (apply Run.drawStop; refine RunSem.drawBy (id := 8) T_ok mix 10 (by kernel_rfl) ?_) | (apply Run.drawStop; refine RunSem.drawBy (id := 9) T_ok mix 10 (by kernel_rfl) ?_) | constructor | intro _)
      all_goals (exfalso; omega)
end Go.Proofs.Ytmnnejkcgdfjiaa
