/- Layer 10: what wakes the laws. -/
import Derived.Test.YtncflfhmdncabaaSxUDisp
set_option linter.all false
namespace Go.Sx
def g10 : Gr := ⟨6, 1, ⟨#[46, 46, 46, 46, 46, 46]⟩⟩
theorem g10_ok : GrOk g10 := rightG_ok (by decide +kernel)
def s10 : St := ⟨0, [⟨0, 0, 0, 500, 0⟩, ⟨5, 0, 0, 500, 0⟩, ⟨4, 0, 0, 9, 0⟩], [⟨8, 3, 1, 1, -1⟩], []⟩
theorem f10 : fieldL g10 3 [] = [3, 2, 1, 0, 1, 2] := fieldL_of (by decide +kernel)
theorem far10a : farG g10 [] 0 3 = 3 := by unfold farG; rw [f10]; decide +kernel
theorem far10b : farG g10 [] 5 3 = 2 := by unfold farG; rw [f10]; decide +kernel
theorem c10a : costI g10 s10 3 0 = 3 := by unfold costI; rw [if_pos (by decide)]; exact far10a
theorem c10b : costI g10 s10 3 1 = 2 := by unfold costI; rw [if_pos (by decide)]; exact far10b
theorem c10c : costI g10 s10 3 2 = -1 := by unfold costI; rw [if_neg (by decide)]
theorem m10a : minI (costI g10 s10 3) 1 = 0 := by rw [minI, c10a]; rfl
theorem m10b : minI (costI g10 s10 3) 2 = 1 := by rw [minI, m10a, c10b]; simp only [Int.toNat_zero, c10a]; decide
theorem m10c : minI (costI g10 s10 3) 3 = 1 := by rw [minI, m10b, c10c]; decide
theorem b10 : bestI g10 s10 0 = 1 := by
  unfold bestI
  rw [if_pos (by decide)]
  exact m10c
theorem d10 : dispK g10 s10 1 = (⟨0, [⟨0, 0, 0, 500, 0⟩, ⟨5, 1, 8, 500, 0⟩, ⟨4, 0, 0, 9, 0⟩], [⟨8, 3, 1, 2, 1⟩], []⟩, [(0, 1)]) := disp_yes (g := g10) (s := s10) (n := 0) (k := 1) (R := s10.R) (K := s10.K) (l := []) rfl b10
theorem S10 : dispS g10 s10 = ⟨0, [⟨0, 0, 0, 500, 0⟩, ⟨5, 1, 8, 500, 0⟩, ⟨4, 3, 0, 9, 0⟩], [⟨8, 3, 1, 2, 1⟩], []⟩ := by
  unfold dispS
  rw [show s10.K.length = 1 from rfl, d10]
  rfl
theorem L10 : dispL g10 s10 = [(0, 1)] := by
  unfold dispL
  rw [show s10.K.length = 1 from rfl, d10]
theorem I10 : Idl g10 s10 := by
  refine ⟨fun i hi => ?_, fun i hi h => ?_⟩
  · have : i = 0 ∨ i = 1 ∨ i = 2 := by simp [s10] at hi; omega
    rcases this with rfl | rfl | rfl <;> decide +kernel
  · have : i = 0 ∨ i = 1 ∨ i = 2 := by simp [s10] at hi; omega
    rcases this with rfl | rfl | rfl <;> rfl
/-! ### States that may be -/
theorem right_get {g : Gr} {s : St} (h : rightS g s = true) : (0 ≤ s.tick ∧ s.tick ≤ 2147483647 ∧ s.R.length ≤ 1024 ∧ s.K.length ≤ 1000) ∧ (∀ i, i < s.R.length → robotB g s i = true) ∧ (∀ i, i < s.K.length → taskB g s i = true) ∧ ∀ i, i < s.B.length → blockB g s i = true := by
  unfold rightS at h
  simp only [Bool.and_eq_true, decide_eq_true_eq, List.all_eq_true, List.mem_range] at h
  exact ⟨h.1, h.2.1, h.2.2.1, h.2.2.2⟩
theorem right_of {g : Gr} {s : St} (h : (0 ≤ s.tick ∧ s.tick ≤ 2147483647 ∧ s.R.length ≤ 1024 ∧ s.K.length ≤ 1000) ∧ (∀ i, i < s.R.length → robotB g s i = true) ∧ (∀ i, i < s.K.length → taskB g s i = true) ∧ ∀ i, i < s.B.length → blockB g s i = true) : rightS g s = true := by
  unfold rightS
  simp only [Bool.and_eq_true, decide_eq_true_eq, List.all_eq_true, List.mem_range]
  exact ⟨h.1, h.2.1, h.2.2.1, h.2.2.2⟩
theorem robot_get {g : Gr} {s : St} {i : Nat} (h : robotB g s i = true) : floorB g (s.r i).cell = true ∧ (0 ≤ (s.r i).bat ∧ (s.r i).bat ≤ 1000 ∧ 0 ≤ (s.r i).hold ∧ (s.r i).hold ≤ 1000) ∧ (∀ k, k < i → (s.r k).cell ≠ (s.r i).cell) ∧ modeB s i = true := by
  unfold robotB at h
  rw [Bool.and_eq_true, Bool.and_eq_true, Bool.and_eq_true, decide_eq_true_eq, List.all_eq_true] at h
  refine ⟨h.1, h.2.1, fun k hk => ?_, h.2.2.2⟩
  have := h.2.2.1 k (List.mem_range.2 hk)
  exact of_decide_eq_true this
theorem robot_of {g : Gr} {s : St} {i : Nat} (h : floorB g (s.r i).cell = true ∧ (0 ≤ (s.r i).bat ∧ (s.r i).bat ≤ 1000 ∧ 0 ≤ (s.r i).hold ∧ (s.r i).hold ≤ 1000) ∧ (∀ k, k < i → (s.r k).cell ≠ (s.r i).cell) ∧ modeB s i = true) : robotB g s i = true := by
  unfold robotB
  rw [Bool.and_eq_true, Bool.and_eq_true, Bool.and_eq_true, decide_eq_true_eq, List.all_eq_true]
  exact ⟨h.1, h.2.1, fun k hk => decide_eq_true (h.2.2.1 k (List.mem_range.1 hk)), h.2.2.2⟩
theorem mode_idle {s : St} {i : Nat} (h : modeB s i = true) (h0 : (s.r i).mode = 0) : (s.r i).task = 0 := by
  unfold modeB at h
  rw [if_pos (.inl h0)] at h
  exact of_decide_eq_true h
theorem right_idl {g : Gr} {s : St} (h : rightS g s = true) : Idl g s := by
  have h1 := (right_get h).2.1
  exact ⟨fun i hi => (robot_get (h1 i hi)).1, fun i hi h0 => mode_idle (robot_get (h1 i hi)).2.2.2 h0⟩
theorem dispS_eq (g : Gr) (s : St) : ∃ R K, dispS g s = ⟨s.tick, R, K, s.B⟩ ∧ R.length = s.R.length ∧ K.length = s.K.length := by
  have h := disp_giv g s s.K.length (Nat.le_refl _)
  refine ⟨(dispS g s).R, (dispS g s).K, ?_, ?_, ?_⟩
  · unfold dispS chargeS
    simp only [h.tick, h.B]
  · unfold dispS chargeS
    simp [h.lenR]
  · unfold dispS chargeS
    exact h.lenK
theorem dispL_len (g : Gr) (s : St) : (dispL g s).length ≤ s.K.length := disp_len g s _
end Go.Sx
