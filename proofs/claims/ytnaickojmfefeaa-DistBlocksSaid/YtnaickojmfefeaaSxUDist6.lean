/- Layer 4: what is blocked more; there and on from there. -/
import Derived.Test.YtnaickojmfefeaaSxUDist5
set_option linter.all false
namespace Go.Sx
theorem more_le {g : Gr} {to : Int} {bl bl' l l' : List Int} (hs : ∀ x, x ∈ bl → x ∈ bl') (h : FieldOk g to bl l) (h' : FieldOk g to bl' l') : ∀ (n : Nat) (c : Int), InG g c → D l' c = n → 0 ≤ D l c ∧ D l c ≤ n := by
  intro n
  induction n with
  | zero =>
    intro c hc hd
    have := h'.only c hc (by simpa using hd)
    subst this
    rw [h.zero]
    simp
  | succ n ih =>
    intro c hc hd
    obtain ⟨way, x, w1, w2, hg, hb, hx⟩ := h'.back c hc (by omega)
    have := ih x (goesB_in hg).2 (by omega)
    have := h.near c way x w1 w2 hg (fun hm => hb (hs x hm)) this.1
    omega
theorem far_more {g : Gr} {bl bl' : List Int} {c to : Int} (hs : ∀ x, x ∈ bl → x ∈ bl') (hp : FieldP g to bl) (hp' : FieldP g to bl') (h0 : 0 ≤ farG g bl' c to) : 0 ≤ farG g bl c to ∧ farG g bl c to ≤ farG g bl' c to := by
  unfold farG at h0 ⊢
  by_cases hf : floorB g to = true ∧ floorB g c = true
  · rw [if_pos hf] at h0
    rw [if_pos hf, if_pos hf]
    have := more_le hs (hp hf.1) (hp' hf.1) (D (fieldL g to bl') c).toNat c (floorB_lt hf.2) (by omega)
    omega
  · rw [if_neg hf] at h0
    omega
theorem on_le {g : Gr} {b c : Int} {bl l k : List Int} (h : FieldOk g b bl l) (h' : FieldOk g c bl k) (hb : 0 ≤ D k b) : ∀ (n : Nat) (a : Int), InG g a → D l a = n → 0 ≤ D k a ∧ D k a ≤ n + D k b := by
  intro n
  induction n with
  | zero =>
    intro a ha hd
    have := h.only a ha (by simpa using hd)
    subst this
    exact ⟨hb, by omega⟩
  | succ n ih =>
    intro a ha hd
    obtain ⟨way, x, w1, w2, hg, hx, hxd⟩ := h.back a ha (by omega)
    have := ih x (goesB_in hg).2 (by omega)
    have := h'.near a way x w1 w2 hg hx this.1
    omega
theorem far_on {g : Gr} {bl : List Int} {a b c : Int} (hp : FieldP g b bl) (hp' : FieldP g c bl) (h1 : 0 ≤ farG g bl a b) (h2 : 0 ≤ farG g bl b c) : 0 ≤ farG g bl a c ∧ farG g bl a c ≤ farG g bl a b + farG g bl b c := by
  unfold farG at h1 h2 ⊢
  by_cases hf : floorB g b = true ∧ floorB g a = true
  · by_cases hf' : floorB g c = true ∧ floorB g b = true
    · rw [if_pos hf] at h1
      rw [if_pos hf'] at h2
      rw [if_pos hf, if_pos hf', if_pos ⟨hf'.1, hf.2⟩]
      have := on_le (hp hf.1) (hp' hf'.1) h2 (D (fieldL g b bl) a).toNat a (floorB_lt hf.2) (by omega)
      omega
    · rw [if_neg hf'] at h2
      omega
  · rw [if_neg hf] at h1
    omega
end Go.Sx
