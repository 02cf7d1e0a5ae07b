/- Layer 5: the state that the laws begin with. -/
import Derived.Test.YtmnnejkcgdfjiaaSxUState3
set_option linter.all false
namespace Go.Sx
def g5 : Gr := ⟨3, 1, ⟨#[46, 46, 67]⟩⟩
theorem g5_ok : GrOk g5 := rightG_ok (by decide +kernel)
theorem e5a : newE g5 [0, 2] = 0 := by decide +kernel
theorem e5b : newE g5 [0, 0] = 6 := by decide +kernel
theorem r5a : newR g5 [0, 2] = [⟨0, 0, 0, 1000, 0⟩, ⟨2, 0, 0, 1000, 0⟩] := by decide +kernel
theorem r5b : newR g5 [0, 0] = [] := by decide +kernel
abbrev s5 : St := ⟨0, [⟨0, 0, 0, 1000, 0⟩, ⟨2, 0, 0, 1000, 0⟩], [], []⟩
abbrev w5 : St := ⟨0, [⟨0, 1, 7, 1000, 0⟩, ⟨2, 0, 0, 1000, 0⟩], [], []⟩
abbrev t5 : St := ⟨0, [⟨0, 1, 7, 1000, 0⟩, ⟨2, 0, 0, 1000, 0⟩], [⟨7, 1, 2, 2, 0⟩], []⟩
theorem right5s : rightS g5 s5 = true := by decide +kernel
theorem right5w : rightS g5 w5 = false := by decide +kernel
theorem right5t : rightS g5 t5 = true := by decide +kernel
theorem goal5 : goalS g5 t5 0 = (1, true) := by
  rw [goalS, if_neg (by decide)]
  show (if stays _ then _ else _) = _
  rw [if_neg (by unfold stays; decide)]
  decide +kernel
theorem find5t : findI t5.K 7 = 0 := by decide +kernel
theorem find5s : findI s5.K 7 = -1 := by decide +kernel
theorem same5s : decide (s5 = s5) = true := by decide +kernel
theorem same5t : decide (s5 = t5) = false := by decide +kernel
theorem goes5 : ∀ i, i < t5.R.length → ¬ stays (t5.R.getD i dR) → (t5.R.getD i dR).mode ≠ 3 → 0 ≤ findI t5.K (t5.R.getD i dR).task := by
  intro i hi h1 _
  match i, hi with
  | 0, _ => decide +kernel
  | 1, _ => exact absurd (.inl rfl) h1
theorem ids5 (i : Nat) : -9223372036854775808 ≤ (t5.K.getD i dT).id ∧ (t5.K.getD i dT).id ≤ 9223372036854775807 := by
  match i with
  | 0 => decide
  | i + 1 => simp [dT]
end Go.Sx
