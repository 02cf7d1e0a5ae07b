/- Layer 12: what wakes the laws. -/
import Derived.Test.YtngjjedlpjbdoaaSxUMoves2
set_option linter.all false
namespace Go.Sx
abbrev g12 : Gr := ⟨3, 2, ⟨#[46, 46, 46, 46, 46, 46]⟩⟩
theorem g12_ok : GrOk g12 := rightG_ok (by decide +kernel)
theorem m12a : waysM g12 [0, 4] [1, 4] = some [2, 0] := by decide +kernel
theorem m12b : walkM g12 [0, 4] [[2, 0], [3, 2]] = some [[0, 4], [1, 4], [4, 5]] := by decide +kernel
theorem m12c : nearL g12 [0, 1, 5, 4] = [(0, 1), (1, 3), (2, 3)] := by decide +kernel
theorem m12d : goM g12 [0] [1] = none := by decide +kernel
theorem wE_none : wE none = 1 := rfl
theorem wE_some (l : List (List Int)) : wE (some l) = 0 := rfl
theorem wL_none : wL none = [] := rfl
theorem wL_some (l : List (List Int)) : wL (some l) = l := rfl
theorem oL_len {q : Int → Int → Option Int} (xs ys : List Int) : (oL (allM q xs ys)).length ≤ xs.length := by
  cases h : allM q xs ys with
  | none => simp [oL]
  | some l => have := (allM_len h).1; simp [oL]; omega
theorem walkM_all {g : Gr} {n : Nat} : ∀ {l : List (List Int)} {c : List Int} {o : List (List Int)}, walkM g c l = some o → c.length ≤ n → ∀ x ∈ o, x.length ≤ n
  | [], c, o, h, hc => by
    simp [walkM] at h
    subst h
    simpa using hc
  | w :: l, c, o, h, hc => by
    simp only [walkM] at h
    split at h
    · rename_i m hm
      rw [Option.map_eq_some_iff] at h
      obtain ⟨a, h1, rfl⟩ := h
      have := (allM_len hm).1
      intro x hx
      rcases List.mem_cons.1 hx with rfl | hx
      · exact hc
      · exact walkM_all h1 (by omega) x hx
    · cases h
theorem wL_facts {g : Gr} {l : List (List Int)} {c : List Int} : (wL (walkM g c l)).length ≤ l.length + 1 ∧ ∀ x ∈ wL (walkM g c l), x.length ≤ c.length := by
  cases h : walkM g c l with
  | none => simp [wL]
  | some o =>
    have := (walkM_ne h).1
    exact ⟨by simp [wL]; omega, walkM_all h (Nat.le_refl _)⟩
theorem nearL_len {g : Gr} {l : List Int} : (nearL g l).length ≤ l.length * l.length := pairsP_le _ _ _
end Go.Sx
