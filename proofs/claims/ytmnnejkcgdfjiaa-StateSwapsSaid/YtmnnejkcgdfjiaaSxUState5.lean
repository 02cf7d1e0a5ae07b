/- Layer 5: new states may be; robots that change cells. -/
import Derived.Test.YtmnnejkcgdfjiaaSxUState4
set_option linter.all false
namespace Go.Sx
theorem right_robot {g : Gr} {s : St} (h : rightS g s = true) {i : Nat} (hi : i < s.R.length) : robotB g s i = true := by
  unfold rightS at h
  rw [Bool.and_eq_true, Bool.and_eq_true] at h
  exact List.all_eq_true.1 h.2.1 i (List.mem_range.2 hi)
theorem right_goes {g : Gr} {s : St} (h : rightS g s = true) : ∀ i, i < s.R.length → ¬ stays (s.R.getD i dR) → (s.R.getD i dR).mode ≠ 3 → 0 ≤ findI s.K (s.R.getD i dR).task := by
  intro i hi h1 h2
  have hr := right_robot h hi
  unfold robotB at hr
  rw [Bool.and_eq_true, Bool.and_eq_true, Bool.and_eq_true] at hr
  have hm := hr.2.2.2
  unfold modeB at hm
  split at hm
  · rename_i hc
    exfalso
    apply h1
    unfold stays
    rcases hc with e | e | e
    · exact .inl e
    · exact absurd e h2
    · exact .inr (.inl e.1)
  · exact (of_decide_eq_true hm).2.1
theorem newAt_none {g : Gr} {cells : List Int} {i : Nat} (h : newAt g cells i = none) : floorB g (cells.getD i 0) = true ∧ cells.getD i 0 ∉ cells.take i := by
  unfold newAt at h
  split at h
  · cases h
  · rename_i h1
    split at h
    · cases h
    · rename_i h2
      exact ⟨by simpa using h1, h2⟩
theorem newE_zero {g : Gr} {cells : List Int} (h : newE g cells = 0) : cells.length ≤ 1024 ∧ ∀ i, i < cells.length → newAt g cells i = none := by
  unfold newE at h
  split at h
  · cases h
  · rename_i hl
    refine ⟨by omega, fun i hi => ?_⟩
    cases hf : (List.range cells.length).findSome? (newAt g cells) with
    | none => exact List.findSome?_eq_none_iff.1 hf i (List.mem_range.2 hi)
    | some x =>
      rw [hf] at h
      have hx : x = 0 := h
      obtain ⟨k, _, h2⟩ := List.exists_of_findSome?_eq_some hf
      unfold newAt at h2
      split at h2
      · simp only [Option.some.injEq] at h2; omega
      · split at h2
        · simp only [Option.some.injEq] at h2; omega
        · cases h2
theorem new_get (cells : List Int) {i : Nat} (h : i < cells.length) : (cells.map newRb).getD i dR = newRb (cells.getD i 0) := by simp [List.getD, h]
theorem new_right {g : Gr} {cells : List Int} (h : newE g cells = 0) : rightS g ⟨0, newR g cells, [], []⟩ = true := by
  obtain ⟨h1, h2⟩ := newE_zero h
  rw [newR_ok h]
  unfold rightS
  rw [Bool.and_eq_true, Bool.and_eq_true]
  refine ⟨decide_eq_true ⟨Int.le_refl 0, (show (0 : Int) ≤ 2147483647 by decide), by simpa using h1, (show 0 ≤ 1000 by decide)⟩, ?_, rfl⟩
  rw [List.all_eq_true]
  intro i hi
  have hi' : i < cells.length := by simpa using List.mem_range.1 hi
  obtain ⟨a1, a2⟩ := newAt_none (h2 i hi')
  have e : (cells.map newRb).getD i dR = newRb (cells.getD i 0) := new_get cells hi'
  unfold robotB modeB
  show (floorB g ((cells.map newRb).getD i dR).cell && (decide (0 ≤ ((cells.map newRb).getD i dR).bat ∧ ((cells.map newRb).getD i dR).bat ≤ 1000 ∧ 0 ≤ ((cells.map newRb).getD i dR).hold ∧ ((cells.map newRb).getD i dR).hold ≤ 1000) && ((List.range i).all (fun k => decide (((cells.map newRb).getD k dR).cell ≠ ((cells.map newRb).getD i dR).cell)) && if ((cells.map newRb).getD i dR).mode = 0 ∨ ((cells.map newRb).getD i dR).mode = 3 ∨ (((cells.map newRb).getD i dR).mode = 4 ∧ ((cells.map newRb).getD i dR).task = 0) then decide (((cells.map newRb).getD i dR).task = 0) else _))) = true
  rw [e, if_pos (.inl rfl)]
  have e2 : (List.range i).all (fun k => decide (((cells.map newRb).getD k dR).cell ≠ (newRb (cells.getD i 0)).cell)) = true := by
    rw [List.all_eq_true]
    intro k hk
    have hk' := List.mem_range.1 hk
    rw [new_get cells (show k < cells.length by omega)]
    exact decide_eq_true fun he => a2 ((mem_take_iff (by omega) _).2 ⟨k, hk', he⟩)
  rw [e2]
  show (floorB g (cells.getD i 0) && _) = true
  rw [a1]
  rfl
/-! ### Robots that change cells -/
def distC (n : Nat) (c : Nat → Int) : Bool := (List.range n).all fun i => (List.range i).all fun k => decide (c k ≠ c i)
theorem distC_iff {n : Nat} {c : Nat → Int} : distC n c = true ↔ ∀ i k, k < i → i < n → c k ≠ c i := by
  unfold distC
  simp only [List.all_eq_true, List.mem_range, decide_eq_true_eq]
  exact ⟨fun h i k hk hi => h i hi k hk, fun h i hi k hk => h i k hk hi⟩
theorem right_recell {g : Gr} {s : St} {R' : List Rb} (h : rightS g s = true) (hl : R'.length = s.R.length)
    (hs : ∀ k, (R'.getD k dR).mode = (s.R.getD k dR).mode ∧ (R'.getD k dR).task = (s.R.getD k dR).task ∧ (R'.getD k dR).bat = (s.R.getD k dR).bat ∧ (R'.getD k dR).hold = (s.R.getD k dR).hold)
    (hf : ∀ k, k < s.R.length → floorB g (R'.getD k dR).cell = true) : rightS g ⟨s.tick, R', s.K, s.B⟩ = distC s.R.length (fun k => (R'.getD k dR).cell) := by
  have hr := fun i hi => right_robot h (i := i) hi
  unfold rightS at h ⊢
  rw [Bool.and_eq_true, Bool.and_eq_true, Bool.and_eq_true] at h
  obtain ⟨h1, h2, h3, h4⟩ := h
  have e1 : (List.range R'.length).all (robotB g ⟨s.tick, R', s.K, s.B⟩) = distC s.R.length (fun k => (R'.getD k dR).cell) := by
    rw [hl]
    apply all_congr
    intro i hi
    have hri := hr i hi
    unfold robotB at hri ⊢
    rw [Bool.and_eq_true, Bool.and_eq_true, Bool.and_eq_true] at hri
    obtain ⟨r1, r2, r3, r4⟩ := hri
    obtain ⟨s1, s2, s3, s4⟩ := hs i
    have em : modeB ⟨s.tick, R', s.K, s.B⟩ i = modeB s i := by
      unfold modeB
      show (if (R'.getD i dR).mode = 0 ∨ (R'.getD i dR).mode = 3 ∨ ((R'.getD i dR).mode = 4 ∧ (R'.getD i dR).task = 0) then decide ((R'.getD i dR).task = 0) else decide (((R'.getD i dR).mode = 1 ∨ (R'.getD i dR).mode = 2 ∨ (R'.getD i dR).mode = 4) ∧ 0 ≤ findI s.K (R'.getD i dR).task ∧ (s.t (findI s.K (R'.getD i dR).task).toNat).st = (if (R'.getD i dR).mode = 1 then 2 else 3) ∧ (s.t (findI s.K (R'.getD i dR).task).toNat).rb = i)) = _
      rw [s1, s2]
    rw [em, r4]
    show (floorB g (R'.getD i dR).cell && (decide (0 ≤ (R'.getD i dR).bat ∧ (R'.getD i dR).bat ≤ 1000 ∧ 0 ≤ (R'.getD i dR).hold ∧ (R'.getD i dR).hold ≤ 1000) && (_ && true))) = _
    rw [hf i hi, s3, s4, decide_eq_true (of_decide_eq_true r2)]
    simp
  have e2 : (List.range s.K.length).all (taskB g ⟨s.tick, R', s.K, s.B⟩) = (List.range s.K.length).all (taskB g s) := by
    apply all_congr
    intro i _
    unfold taskB
    show (decide (1 ≤ (s.t i).id ∧ (s.t i).id ≤ 2147483647 ∧ findI s.K (s.t i).id = i) && (floorB g (s.t i).fr && (floorB g (s.t i).to && (decide ((s.t i).fr ≠ (s.t i).to) &&
    if (s.t i).st = 1 then decide ((s.t i).rb = -1)
    else decide (0 ≤ (s.t i).rb ∧ (s.t i).rb < R'.length) && if (s.t i).st = 2 ∨ (s.t i).st = 3 then decide ((R'.getD (s.t i).rb.toNat dR).task = (s.t i).id) else decide ((s.t i).st = 4))))) = _
    rw [hl, (hs _).2.1]
  have e3 : decide (0 ≤ s.tick ∧ s.tick ≤ 2147483647 ∧ R'.length ≤ 1024 ∧ s.K.length ≤ 1000) = true := by rw [hl]; exact h1
  have e4 : (List.range s.B.length).all (blockB g ⟨s.tick, R', s.K, s.B⟩) = true := h4
  show (decide (0 ≤ s.tick ∧ s.tick ≤ 2147483647 ∧ R'.length ≤ 1024 ∧ s.K.length ≤ 1000) && ((List.range R'.length).all (robotB g ⟨s.tick, R', s.K, s.B⟩) && ((List.range s.K.length).all (taskB g ⟨s.tick, R', s.K, s.B⟩) && (List.range s.B.length).all (blockB g ⟨s.tick, R', s.K, s.B⟩)))) = _
  rw [e1, e2, e3, e4, h3]
  simp
def cellTo (R : List Rb) (i : Nat) (c : Int) : List Rb := R.set i ⟨c, (R.getD i dR).mode, (R.getD i dR).task, (R.getD i dR).bat, (R.getD i dR).hold⟩
theorem cellTo_len (R : List Rb) (i : Nat) (c : Int) : (cellTo R i c).length = R.length := by simp [cellTo]
theorem getD_set (R : List Rb) {i : Nat} (k : Nat) (x : Rb) (hi : i < R.length) : (R.set i x).getD k dR = if k = i then x else R.getD k dR := by
  simp only [List.getD, List.getElem?_set]
  by_cases e : i = k
  · subst e; simp [hi]
  · rw [if_neg e, if_neg (fun h => e h.symm)]
theorem cellTo_get (R : List Rb) {i : Nat} (c : Int) (hi : i < R.length) (k : Nat) : (((cellTo R i c).getD k dR).mode = (R.getD k dR).mode ∧ ((cellTo R i c).getD k dR).task = (R.getD k dR).task ∧ ((cellTo R i c).getD k dR).bat = (R.getD k dR).bat ∧ ((cellTo R i c).getD k dR).hold = (R.getD k dR).hold) ∧ ((cellTo R i c).getD k dR).cell = if k = i then c else (R.getD k dR).cell := by
  unfold cellTo
  rw [getD_set R k _ hi]
  by_cases e : k = i
  · subst e; simp
  · simp [e]
theorem right_floor {g : Gr} {s : St} (h : rightS g s = true) {i : Nat} (hi : i < s.R.length) : floorB g (s.R.getD i dR).cell = true := by
  have := right_robot h hi
  unfold robotB at this
  rw [Bool.and_eq_true] at this
  exact this.1
theorem right_dist {g : Gr} {s : St} (h : rightS g s = true) : ∀ i k, i < s.R.length → k < s.R.length → i ≠ k → (s.R.getD i dR).cell ≠ (s.R.getD k dR).cell := by
  have hh : ∀ i k, k < i → i < s.R.length → (s.R.getD k dR).cell ≠ (s.R.getD i dR).cell := by
    intro i k hk hi
    have := right_robot h hi
    unfold robotB at this
    rw [Bool.and_eq_true, Bool.and_eq_true, Bool.and_eq_true] at this
    exact of_decide_eq_true (List.all_eq_true.1 this.2.2.1 k (List.mem_range.2 hk))
  intro i k hi hk hne
  rcases Nat.lt_or_ge i k with h' | h'
  · exact hh k i h' hk
  · exact fun e => hh i k (by omega) hi e.symm
theorem right_swap {g : Gr} {s : St} (h : rightS g s = true) {i j : Nat} (hi : i < s.R.length) (hj : j < s.R.length) :
    rightS g ⟨s.tick, cellTo (cellTo s.R i (s.R.getD j dR).cell) j (s.R.getD i dR).cell, s.K, s.B⟩ = true := by
  have hg1 := cellTo_get s.R (s.R.getD j dR).cell hi
  have hg2 := cellTo_get (cellTo s.R i (s.R.getD j dR).cell) (s.R.getD i dR).cell (i := j) (by rw [cellTo_len]; exact hj)
  have hc : ∀ k, ((cellTo (cellTo s.R i (s.R.getD j dR).cell) j (s.R.getD i dR).cell).getD k dR).cell = (s.R.getD (if k = j then i else if k = i then j else k) dR).cell := by
    intro k
    rw [(hg2 k).2, (hg1 k).2]
    split
    · rfl
    · split <;> rfl
  rw [right_recell h (by rw [cellTo_len, cellTo_len]) (fun k => ⟨(hg2 k).1.1.trans (hg1 k).1.1, (hg2 k).1.2.1.trans (hg1 k).1.2.1, (hg2 k).1.2.2.1.trans (hg1 k).1.2.2.1, (hg2 k).1.2.2.2.trans (hg1 k).1.2.2.2⟩) (fun k hk => by
    rw [hc]
    apply right_floor h
    split
    · exact hi
    · split
      · exact hj
      · exact hk)]
  rw [distC_iff]
  intro m k hk hm
  simp only [hc]
  apply right_dist h
  · split
    · exact hi
    · split <;> omega
  · split
    · exact hi
    · split <;> omega
  · split <;> split <;> (try split) <;> (try split) <;> omega
theorem right_onto {g : Gr} {s : St} (h : rightS g s = true) {i j : Nat} (hi : i < s.R.length) (hj : j < s.R.length) :
    rightS g ⟨s.tick, cellTo s.R i (s.R.getD j dR).cell, s.K, s.B⟩ = decide (i = j) := by
  have hg1 := cellTo_get s.R (s.R.getD j dR).cell hi
  rw [right_recell h (by rw [cellTo_len]) (fun k => (hg1 k).1) (fun k hk => by
    rw [(hg1 k).2]
    split
    · exact right_floor h hj
    · exact right_floor h hk)]
  rw [Bool.eq_iff_iff, decide_eq_true_eq, distC_iff]
  constructor
  · intro hd
    apply Classical.byContradiction
    intro hne
    rcases Nat.lt_or_ge i j with h' | h'
    · apply hd j i h' hj
      rw [(hg1 j).2, (hg1 i).2, if_pos rfl, if_neg (fun e => hne e.symm)]
    · apply hd i j (by omega) hi
      rw [(hg1 j).2, (hg1 i).2, if_pos rfl, if_neg (fun e => hne e.symm)]
  · rintro rfl m k hk hm
    have hc : ∀ k, ((cellTo s.R i (s.R.getD i dR).cell).getD k dR).cell = (s.R.getD k dR).cell := by
      intro k
      rw [(hg1 k).2]
      split
      · rename_i e; rw [e]
      · rfl
    simp only [hc]
    exact right_dist h k m (by omega) hm (by omega)
end Go.Sx
namespace Go.Sx
theorem newR_len (g : Gr) (cells : List Int) : (newR g cells).length ≤ cells.length := by
  unfold newR
  split <;> simp
end Go.Sx
