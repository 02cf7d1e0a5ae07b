/- Layer 2: what the laws ask. -/
import Derived.Test.YtojfchnfhmccaaaSxUFrame2
set_option linter.all false
namespace Go.Sx
theorem fr2a : scanB (frameB [97, 98, 99] ++ frameB []) = ([[97, 98, 99], []], 13, 0) := by
  have h := scanB_frames (l := [[97, 98, 99], []]) (by decide)
  have e : framesB [[97, 98, 99], []] = frameB [97, 98, 99] ++ frameB [] := by simp [framesB]
  rw [e] at h
  rw [h, List.length_append, frameB_len, frameB_len]
  simp only [List.length_cons, List.length_nil]
  rw [putN_lt (by omega), putN_lt (by omega)]
  rfl
theorem fr2b : (frameB []).length = 5 := by
  rw [frameB_len]
  simp only [List.length_nil]
  rw [putN_lt (by omega)]
  rfl
theorem fr2c : checkN [49, 50, 51, 52, 53, 54, 55, 56, 57] = 3421780262 := by decide +kernel
theorem scanGo_len (b : List UInt8) : ∀ (f at_ : Nat) (out : List (List UInt8)), at_ ≤ b.length → out.flatten.length + out.length ≤ at_ → (scanGo b f at_ out).1.flatten.length + (scanGo b f at_ out).1.length ≤ b.length
  | 0, at_, out, h1, h2 => by rw [scanGo]; simp only; omega
  | f + 1, at_, out, h1, h2 => by
    rw [scanGo]
    split
    · simp only; omega
    · split
      · rename_i h3 h4
        have hf := frameAt_facts h4
        exact scanGo_len b f _ _ hf.2.1 (by simp only [List.flatten_append, List.flatten_cons, List.flatten_nil, List.append_nil, List.length_append, List.length_cons, List.length_nil]; omega)
      · simp only; omega
theorem mem_flat {l : List (List UInt8)} {x : List UInt8} (h : x ∈ l) : x.length ≤ l.flatten.length := by
  induction l with
  | nil => cases h
  | cons y l ih =>
    rw [List.flatten_cons, List.length_append]
    rcases List.mem_cons.1 h with rfl | h
    · omega
    · have := ih h
      omega
theorem scanB_len (b : List UInt8) : (scanB b).1.length ≤ b.length ∧ ∀ x ∈ (scanB b).1, x.length ≤ b.length := by
  have h := scanGo_len b b.length 0 [] (by omega) (by simp)
  have e : scanGo b b.length 0 [] = scanB b := rfl
  rw [e] at h
  refine ⟨by omega, fun x hx => ?_⟩
  have := mem_flat hx
  omega
theorem frameB_sum (l : List (List UInt8)) (h : ∀ x ∈ l, x.length ≤ 1000000) : (framesB l).length ≤ l.flatten.length + 14 * l.length := by
  induction l with
  | nil => simp [framesB]
  | cons x l ih =>
    have h1 := (frameB_bounds x (by have := h x (by simp); omega)).2
    have h2 := ih (fun y hy => h y (by simp [hy]))
    rw [framesB_cons, List.length_append, List.flatten_cons, List.length_append, List.length_cons]
    omega
theorem framesB_take {l : List (List UInt8)} {k : Nat} (h : k < l.length) : framesB (l.take (k + 1)) = framesB (l.take k) ++ frameB (l.getD k []) := by
  have : l.take (k + 1) = l.take k ++ [l.getD k []] := by
    rw [List.take_add_one, List.getD, List.getElem?_eq_getElem h]; rfl
  rw [this, framesB_append]
  simp [framesB]
end Go.Sx
