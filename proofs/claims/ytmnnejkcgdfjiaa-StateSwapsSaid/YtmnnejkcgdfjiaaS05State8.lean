import Derived.Test.YtmnnejkcgdfjiaaS05State5
set_option linter.all false
set_option maxHeartbeats 4000000
set_option maxRecDepth 100000
set_option linter.all false
namespace Go.Proofs.Ytmnnejkcgdfjiaa
open Go.Sx
attribute [local irreducible] RunSem AListSem AgainK Again Side Sx.Ends IntKind.wrap SatV AgainR DSem MJ
attribute [local irreducible] floorB goesB rightG arrow isLetter findI findN nearG ofL
theorem refGoal_ok (g : Gr) (hg : GrOk g) (s : St) (i : Int) (hn : g.C.size ≤ 1099511627776) (hR : s.R.length < 4611686018427387904) (hK : s.K.length < 4611686018427387904) (hB : s.B.length < 4611686018427387904)
    (hF : ∀ i, i < s.R.length → ¬ stays (s.R.getD i dR) → (s.R.getD i dR).mode ≠ 3 → 0 ≤ findI s.K (s.R.getD i dR).task) : Sat Try.prog 17 [gA g, sA s, iv i] [] (Gives (ι := Unit) (fun _ => .t [iv (goalS g s i).1, bv (goalS g s i).2]) (fun _ => []) (fun _ => True)) := by
  by_cases hr : i < 0 ∨ (s.R.length : Int) ≤ i
  · have hgl : goalS g s i = (0, false) := by rw [goalS, if_pos hr]
    rw [hgl]
    clear hF
    refine Sat.of T_ok Try.func17 Try.call17 rfl rfl rfl ?_
    repeat' (first | assumption | exact fun h : ¬ True => absurd trivial h | exact fun h : False => h.elim | exact sd (by first | omega | (simp only []; omega) | (simp only [List.length_append, List.length_cons, List.length_nil, List.length_take, List.length_drop, List.length_map, List.length_range, List.length_set]; omega)) | exact sp (fun h => by simp [PathHolds] at h; omega) | exact sp (fun h => by simp [PathHolds, -List.getD_eq_getElem?_getD] at h; omega) | exact sd rfl | exact sd ⟨rfl, by decide⟩ | exact sd trivial | (show Nat.beq _ _ = true; rfl) | (apply Run.nilStop rfl; apply RunSem.eqNil T_ok) | refine Run.storeStop rfl ?_ | (apply Run.mapStop; apply RunSem.mapSet T_ok) | (apply Run.newMapStop; apply RunSem.newMap T_ok) | (apply Run.sliceStop; apply RunSem.litI T_ok; rotate_left; rfl; rfl; rfl) | (apply AList.sliceStop; apply AListSem.litI T_ok; rotate_left; rfl; rfl; rfl) | (apply Run.semStop; apply RunSem.rangeStr T_ok) | (apply Run.semStop; apply RunSem.nextStr T_ok) | apply Run.condP | apply Sx.Ends.by () | (apply Run.drawStop; apply RunSem.drawW (id := 7) T_ok mix [(.fl, 0), (.fl, 1), (.fl, 2), (.fl, 3), (.fl, 5), (.fl, 6), (.mn, 4), (.mn, 7), (.fl, 8), (.fl, 9), (.fl, 10), (.mn, 11), (.mn, 12)] [] (by kernel_rfl) (by rfl)) | (apply Run.drawStop; apply RunSem.drawW (id := 11) T_ok mix [(.fl, 0), (.fl, 1), (.fl, 2), (.fl, 3), (.fl, 4), (.mn, 5), (.fl, 6), (.fl, 7), (.al, 8), (.mn, 9)] [AI.box 8 11 _] (by kernel_rfl) (by rfl)) | (apply MJ.none T_ok) | (apply MJ.some T_ok) | (apply DSem.nilW T_ok) | (apply DSem.flI T_ok; rfl; rotate_left; rfl; rfl; rfl) | (apply DSem.flW T_ok; rfl; rfl) | (apply DSem.flG T_ok; rfl; rfl) | (apply DSem.mnW T_ok; rfl) | (apply DSem.alW T_ok) | (apply FlW.q; rfl; rfl) | (apply FlW.g; rfl; rfl) | (apply FlW.l; rfl; rotate_left; rfl; rfl; rfl; rfl) | constructor | intro _)
    all_goals (exfalso; omega)
  obtain ⟨j, rfl⟩ := Int.eq_ofNat_of_zero_le (show 0 ≤ i by omega)
  have hj : j < s.R.length := by omega
  have hF := hF j hj
  have hgl : goalS g s (j : Int) = if stays (s.R.getD j dR) then (0, false) else
      if (s.R.getD j dR).mode = 3 then (if (nearG g s.B (s.R.getD j dR).cell (ofL g 67)).2 < 0 then (0, false) else ((nearG g s.B (s.R.getD j dR).cell (ofL g 67)).1, true)) else
      if (s.R.getD j dR).mode = 1 then ((s.K.getD (findI s.K (s.R.getD j dR).task).toNat dT).fr, true) else ((s.K.getD (findI s.K (s.R.getD j dR).task).toNat dT).to, true) := by
    rw [goalS, if_neg hr]
    rfl
  rw [hgl]
  clear hgl
  replace hF := Hid.mk hF
  replace hr := Hid.mk hr
  by_cases hst : stays (s.R.getD j dR)
  · rw [if_pos hst]
    unfold stays at hst
    replace hst := Hid.mk hst
    clear hF hR hK hB hn
    refine Sat.of T_ok Try.func17 Try.call17 rfl rfl rfl ?_
    repeat' (first | assumption | exact fun h : ¬ True => absurd trivial h | exact fun h : False => h.elim | exact sd (by first | omega | (simp only []; omega) | (simp only [List.length_append, List.length_cons, List.length_nil, List.length_take, List.length_drop, List.length_map, List.length_range, List.length_set]; omega)) | exact sp (fun h => by simp [PathHolds] at h; omega) | exact sp (fun h => by simp [PathHolds, -List.getD_eq_getElem?_getD] at h; omega) | exact sd rfl | exact sd ⟨rfl, by decide⟩ | exact sd trivial | (show Nat.beq _ _ = true; rfl) | (apply Run.nilStop rfl; apply RunSem.eqNil T_ok) | refine Run.storeStop rfl ?_ | (apply Run.mapStop; apply RunSem.mapSet T_ok) | (apply Run.newMapStop; apply RunSem.newMap T_ok) | (apply Run.sliceStop; apply RunSem.litI T_ok; rotate_left; rfl; rfl; rfl) | (apply AList.sliceStop; apply AListSem.litI T_ok; rotate_left; rfl; rfl; rfl) | (apply Run.semStop; apply RunSem.rangeStr T_ok) | (apply Run.semStop; apply RunSem.nextStr T_ok) | apply Run.condP | apply Sx.Ends.by () | (apply Run.drawStop; apply RunSem.drawW (id := 7) T_ok mix [(.fl, 0), (.fl, 1), (.fl, 2), (.fl, 3), (.fl, 5), (.fl, 6), (.mn, 4), (.mn, 7), (.fl, 8), (.fl, 9), (.fl, 10), (.mn, 11), (.mn, 12)] [] (by kernel_rfl) (by rfl)) | (apply Run.drawStop; apply RunSem.drawW (id := 11) T_ok mix [(.fl, 0), (.fl, 1), (.fl, 2), (.fl, 3), (.fl, 4), (.mn, 5), (.fl, 6), (.fl, 7), (.al, 8), (.mn, 9)] [AI.box 8 11 _] (by kernel_rfl) (by rfl)) | (apply MJ.none T_ok) | (apply MJ.some T_ok) | (apply DSem.nilW T_ok) | (apply DSem.flI T_ok; rfl; rotate_left; rfl; rfl; rfl) | (apply DSem.flW T_ok; rfl; rfl) | (apply DSem.flG T_ok; rfl; rfl) | (apply DSem.mnW T_ok; rfl) | (apply DSem.alW T_ok) | (apply FlW.q; rfl; rfl) | (apply FlW.g; rfl; rfl) | (apply FlW.l; rfl; rotate_left; rfl; rfl; rfl; rfl) | constructor | intro _)
    all_goals (have hst := hst.out; exfalso; omega)
  · rw [if_neg hst]
    replace hF := Hid.mk (hF.out hst)
    unfold stays at hst
    replace hst := Hid.mk hst
    by_cases h3 : (s.R.getD j dR).mode = 3
    · rw [if_pos h3]
      have hOf := refOf_ok g 67 hn
      have hol : (ofL g 67).length ≤ g.C.size := ofL_len g 67
      have hNr := refNearest_ok g hg (s.R.getD j dR).cell (ofL g 67) s.B (by omega) hB
      replace h3 := Hid.mk h3
      clear hF hR hK hB
      refine Sat.of T_ok Try.func17 Try.call17 rfl rfl rfl ?_
      repeat' (first | assumption | exact fun h : ¬ True => absurd trivial h | exact fun h : False => h.elim | exact sd (by first | omega | (simp only []; omega) | (simp only [List.length_append, List.length_cons, List.length_nil, List.length_take, List.length_drop, List.length_map, List.length_range, List.length_set]; omega)) | exact sp (fun h => by simp [PathHolds] at h; omega) | exact sp (fun h => by simp [PathHolds, -List.getD_eq_getElem?_getD] at h; omega) | exact sd rfl | exact sd ⟨rfl, by decide⟩ | exact sd trivial | (show Nat.beq _ _ = true; rfl) | (apply Run.nilStop rfl; apply RunSem.eqNil T_ok) | refine Run.storeStop rfl ?_ | (apply Run.mapStop; apply RunSem.mapSet T_ok) | (apply Run.newMapStop; apply RunSem.newMap T_ok) | (apply Run.sliceStop; apply RunSem.litI T_ok; rotate_left; rfl; rfl; rfl) | (apply AList.sliceStop; apply AListSem.litI T_ok; rotate_left; rfl; rfl; rfl) | (apply Run.semStop; apply RunSem.rangeStr T_ok) | (apply Run.semStop; apply RunSem.nextStr T_ok) | apply Run.condP | apply Sx.Ends.by () | (apply Run.drawStop; apply RunSem.drawW (id := 7) T_ok mix [(.fl, 0), (.fl, 1), (.fl, 2), (.fl, 3), (.fl, 5), (.fl, 6), (.mn, 4), (.mn, 7), (.fl, 8), (.fl, 9), (.fl, 10), (.mn, 11), (.mn, 12)] [] (by kernel_rfl) (by rfl)) | (apply Run.drawStop; apply RunSem.drawW (id := 11) T_ok mix [(.fl, 0), (.fl, 1), (.fl, 2), (.fl, 3), (.fl, 4), (.mn, 5), (.fl, 6), (.fl, 7), (.al, 8), (.mn, 9)] [AI.box 8 11 _] (by kernel_rfl) (by rfl)) | (apply MJ.none T_ok) | (apply MJ.some T_ok) | (apply DSem.nilW T_ok) | (apply DSem.flI T_ok; rfl; rotate_left; rfl; rfl; rfl) | (apply DSem.flW T_ok; rfl; rfl) | (apply DSem.flG T_ok; rfl; rfl) | (apply DSem.mnW T_ok; rfl) | (apply DSem.alW T_ok) | (apply FlW.q; rfl; rfl) | (apply FlW.g; rfl; rfl) | (apply FlW.l; rfl; rotate_left; rfl; rfl; rfl; rfl) | constructor | intro _)
      · exfalso; omega
      · exfalso; omega
      · have hst := hst.out; exfalso; omega
      · have hst := hst.out; exfalso; omega
      · apply RunSem.lend T_ok hOf (fun _ => ⟨rfl, rfl⟩)
        all_goals repeat' (first | assumption | exact fun h : ¬ True => absurd trivial h | exact fun h : False => h.elim | exact sd (by first | omega | (simp only []; omega) | (simp only [List.length_append, List.length_cons, List.length_nil, List.length_take, List.length_drop, List.length_map, List.length_range, List.length_set]; omega)) | exact sp (fun h => by simp [PathHolds] at h; omega) | exact sp (fun h => by simp [PathHolds, -List.getD_eq_getElem?_getD] at h; omega) | exact sd rfl | exact sd ⟨rfl, by decide⟩ | exact sd trivial | (show Nat.beq _ _ = true; rfl) | exact Bin.x rfl | (apply Run.nilStop rfl; apply RunSem.eqNil T_ok) | refine Run.storeStop rfl ?_ | (apply Run.mapStop; apply RunSem.mapSet T_ok) | (apply Run.newMapStop; apply RunSem.newMap T_ok) | (apply Run.sliceStop; apply RunSem.litI T_ok; rotate_left; rfl; rfl; rfl) | (apply AList.sliceStop; apply AListSem.litI T_ok; rotate_left; rfl; rfl; rfl) | (apply Run.semStop; apply RunSem.rangeStr T_ok) | (apply Run.semStop; apply RunSem.nextStr T_ok) | apply Run.condP | apply Sx.Ends.by () | (apply Run.drawStop; apply RunSem.drawW (id := 7) T_ok mix [(.fl, 0), (.fl, 1), (.fl, 2), (.fl, 3), (.fl, 5), (.fl, 6), (.mn, 4), (.mn, 7), (.fl, 8), (.fl, 9), (.fl, 10), (.mn, 11), (.mn, 12)] [] (by kernel_rfl) (by rfl)) | (apply Run.drawStop; apply RunSem.drawW (id := 11) T_ok mix [(.fl, 0), (.fl, 1), (.fl, 2), (.fl, 3), (.fl, 4), (.mn, 5), (.fl, 6), (.fl, 7), (.al, 8), (.mn, 9)] [AI.box 8 11 _] (by kernel_rfl) (by rfl)) | (apply MJ.none T_ok) | (apply MJ.some T_ok) | (apply DSem.nilW T_ok) | (apply DSem.flI T_ok; rfl; rotate_left; rfl; rfl; rfl) | (apply DSem.flW T_ok; rfl; rfl) | (apply DSem.flG T_ok; rfl; rfl) | (apply DSem.mnW T_ok; rfl) | (apply DSem.alW T_ok) | (apply FlW.q; rfl; rfl) | (apply FlW.g; rfl; rfl) | (apply FlW.l; rfl; rotate_left; rfl; rfl; rfl; rfl) | constructor | intro _)
        apply RunSem.lend T_ok hNr (fun _ => ⟨rfl, rfl⟩)
        all_goals repeat' (first | assumption | exact fun h : ¬ True => absurd trivial h | exact fun h : False => h.elim | exact sd (by first | omega | (simp only []; omega) | (simp only [List.length_append, List.length_cons, List.length_nil, List.length_take, List.length_drop, List.length_map, List.length_range, List.length_set]; omega)) | exact sp (fun h => by simp [PathHolds] at h; omega) | exact sp (fun h => by simp [PathHolds, -List.getD_eq_getElem?_getD] at h; omega) | exact sd rfl | exact sd ⟨rfl, by decide⟩ | exact sd trivial | (show Nat.beq _ _ = true; rfl) | exact Bin.x rfl | (apply Run.nilStop rfl; apply RunSem.eqNil T_ok) | refine Run.storeStop rfl ?_ | (apply Run.mapStop; apply RunSem.mapSet T_ok) | (apply Run.newMapStop; apply RunSem.newMap T_ok) | (apply Run.sliceStop; apply RunSem.litI T_ok; rotate_left; rfl; rfl; rfl) | (apply AList.sliceStop; apply AListSem.litI T_ok; rotate_left; rfl; rfl; rfl) | (apply Run.semStop; apply RunSem.rangeStr T_ok) | (apply Run.semStop; apply RunSem.nextStr T_ok) | apply Run.condP | apply Sx.Ends.by () | (apply Run.drawStop; apply RunSem.drawW (id := 7) T_ok mix [(.fl, 0), (.fl, 1), (.fl, 2), (.fl, 3), (.fl, 5), (.fl, 6), (.mn, 4), (.mn, 7), (.fl, 8), (.fl, 9), (.fl, 10), (.mn, 11), (.mn, 12)] [] (by kernel_rfl) (by rfl)) | (apply Run.drawStop; apply RunSem.drawW (id := 11) T_ok mix [(.fl, 0), (.fl, 1), (.fl, 2), (.fl, 3), (.fl, 4), (.mn, 5), (.fl, 6), (.fl, 7), (.al, 8), (.mn, 9)] [AI.box 8 11 _] (by kernel_rfl) (by rfl)) | (apply MJ.none T_ok) | (apply MJ.some T_ok) | (apply DSem.nilW T_ok) | (apply DSem.flI T_ok; rfl; rotate_left; rfl; rfl; rfl) | (apply DSem.flW T_ok; rfl; rfl) | (apply DSem.flG T_ok; rfl; rfl) | (apply DSem.mnW T_ok; rfl) | (apply DSem.alW T_ok) | (apply FlW.q; rfl; rfl) | (apply FlW.g; rfl; rfl) | (apply FlW.l; rfl; rotate_left; rfl; rfl; rfl; rfl) | constructor | intro _)
        · rename_i h; rw [if_pos h]
        · rename_i h; rw [if_pos h]
        · rename_i h; rw [if_neg h]
        · rename_i h; rw [if_neg h]
      all_goals (have h3 := h3.out; exfalso; omega)
    · rw [if_neg h3]
      have hF := hF.out h3
      have hFd := refFind_ok s (s.R.getD j dR).task hK
      have hfr := findI_ge s.K (s.R.getD j dR).task
      replace h3 := Hid.mk h3
      clear hR hK hB hn
      refine Sat.of T_ok Try.func17 Try.call17 rfl rfl rfl ?_
      repeat' (first | assumption | exact fun h : ¬ True => absurd trivial h | exact fun h : False => h.elim | exact sd (by first | omega | (simp only []; omega) | (simp only [List.length_append, List.length_cons, List.length_nil, List.length_take, List.length_drop, List.length_map, List.length_range, List.length_set]; omega)) | exact sp (fun h => by simp [PathHolds] at h; omega) | exact sp (fun h => by simp [PathHolds, -List.getD_eq_getElem?_getD] at h; omega) | exact sd rfl | exact sd ⟨rfl, by decide⟩ | exact sd trivial | (show Nat.beq _ _ = true; rfl) | (apply Run.nilStop rfl; apply RunSem.eqNil T_ok) | refine Run.storeStop rfl ?_ | (apply Run.mapStop; apply RunSem.mapSet T_ok) | (apply Run.newMapStop; apply RunSem.newMap T_ok) | (apply Run.sliceStop; apply RunSem.litI T_ok; rotate_left; rfl; rfl; rfl) | (apply AList.sliceStop; apply AListSem.litI T_ok; rotate_left; rfl; rfl; rfl) | (apply Run.semStop; apply RunSem.rangeStr T_ok) | (apply Run.semStop; apply RunSem.nextStr T_ok) | apply Run.condP | apply Sx.Ends.by () | (apply Run.drawStop; apply RunSem.drawW (id := 7) T_ok mix [(.fl, 0), (.fl, 1), (.fl, 2), (.fl, 3), (.fl, 5), (.fl, 6), (.mn, 4), (.mn, 7), (.fl, 8), (.fl, 9), (.fl, 10), (.mn, 11), (.mn, 12)] [] (by kernel_rfl) (by rfl)) | (apply Run.drawStop; apply RunSem.drawW (id := 11) T_ok mix [(.fl, 0), (.fl, 1), (.fl, 2), (.fl, 3), (.fl, 4), (.mn, 5), (.fl, 6), (.fl, 7), (.al, 8), (.mn, 9)] [AI.box 8 11 _] (by kernel_rfl) (by rfl)) | (apply MJ.none T_ok) | (apply MJ.some T_ok) | (apply DSem.nilW T_ok) | (apply DSem.flI T_ok; rfl; rotate_left; rfl; rfl; rfl) | (apply DSem.flW T_ok; rfl; rfl) | (apply DSem.flG T_ok; rfl; rfl) | (apply DSem.mnW T_ok; rfl) | (apply DSem.alW T_ok) | (apply FlW.q; rfl; rfl) | (apply FlW.g; rfl; rfl) | (apply FlW.l; rfl; rotate_left; rfl; rfl; rfl; rfl) | constructor | intro _)
      · exfalso; omega
      · exfalso; omega
      · have hst := hst.out; exfalso; omega
      · have hst := hst.out; exfalso; omega
      · have h3 := h3.out; exfalso; omega
      · apply RunSem.lend T_ok hFd (fun _ => ⟨rfl, rfl⟩)
        all_goals repeat' (first | assumption | exact fun h : ¬ True => absurd trivial h | exact fun h : False => h.elim | exact sd (by first | omega | (simp only []; omega) | (simp only [List.length_append, List.length_cons, List.length_nil, List.length_take, List.length_drop, List.length_map, List.length_range, List.length_set]; omega)) | exact sp (fun h => by simp [PathHolds] at h; omega) | exact sp (fun h => by simp [PathHolds, -List.getD_eq_getElem?_getD] at h; omega) | exact sd rfl | exact sd ⟨rfl, by decide⟩ | exact sd trivial | (show Nat.beq _ _ = true; rfl) | exact Bin.x rfl | (apply Run.nilStop rfl; apply RunSem.eqNil T_ok) | refine Run.storeStop rfl ?_ | (apply Run.mapStop; apply RunSem.mapSet T_ok) | (apply Run.newMapStop; apply RunSem.newMap T_ok) | (apply Run.sliceStop; apply RunSem.litI T_ok; rotate_left; rfl; rfl; rfl) | (apply AList.sliceStop; apply AListSem.litI T_ok; rotate_left; rfl; rfl; rfl) | (apply Run.semStop; apply RunSem.rangeStr T_ok) | (apply Run.semStop; apply RunSem.nextStr T_ok) | apply Run.condP | apply Sx.Ends.by () | (apply Run.drawStop; apply RunSem.drawW (id := 7) T_ok mix [(.fl, 0), (.fl, 1), (.fl, 2), (.fl, 3), (.fl, 5), (.fl, 6), (.mn, 4), (.mn, 7), (.fl, 8), (.fl, 9), (.fl, 10), (.mn, 11), (.mn, 12)] [] (by kernel_rfl) (by rfl)) | (apply Run.drawStop; apply RunSem.drawW (id := 11) T_ok mix [(.fl, 0), (.fl, 1), (.fl, 2), (.fl, 3), (.fl, 4), (.mn, 5), (.fl, 6), (.fl, 7), (.al, 8), (.mn, 9)] [AI.box 8 11 _] (by kernel_rfl) (by rfl)) | (apply MJ.none T_ok) | (apply MJ.some T_ok) | (apply DSem.nilW T_ok) | (apply DSem.flI T_ok; rfl; rotate_left; rfl; rfl; rfl) | (apply DSem.flW T_ok; rfl; rfl) | (apply DSem.flG T_ok; rfl; rfl) | (apply DSem.mnW T_ok; rfl) | (apply DSem.alW T_ok) | (apply FlW.q; rfl; rfl) | (apply FlW.g; rfl; rfl) | (apply FlW.l; rfl; rotate_left; rfl; rfl; rfl; rfl) | constructor | intro _)
        · rename_i h; rw [if_pos h]
        · rename_i h; rw [if_pos h]
        · rename_i h; rw [if_neg h]
        · rename_i h; rw [if_neg h]
end Go.Proofs.Ytmnnejkcgdfjiaa
