/- Layer 2: bits that are turned. -/
import Derived.Test.YtojfchnfhmccaaaSxUFrame3
set_option linter.all false
namespace Go.Sx
theorem framesB_one (b : List UInt8) : framesB [b] = frameB b := by simp [framesB]
/-- A frame's bytes and its check, of which so many bits were gone through. -/
def BurstI (b : List UInt8) (a t0 i t : Nat) (s : Bool) (c : List UInt8) : Prop :=
  ∃ m', c = putN b.length ++ m' ∧ m'.length = b.length + 4 ∧ numB m' = numB (b ++ fourB (checkN b)) ^^^ (2 ^ a * (t0 % 2 ^ (min i (8 * (b.length + 4) - a)))) ∧ t = t0 / 2 ^ i ∧
    s = decide (t0 % 2 ^ (min i (8 * (b.length + 4) - a)) ≠ 0) ∧ (s = false → m' = b ++ fourB (checkN b))
theorem BurstI.start (b : List UInt8) (a t0 : Nat) : BurstI b a t0 0 t0 false (frameB b) :=
  ⟨b ++ fourB (checkN b), rfl, by simp [fourB_len], by simp [Nat.mod_one], by simp, by simp [Nat.mod_one], fun _ => rfl⟩
theorem BurstI.len {b : List UInt8} {a t0 i t : Nat} {s : Bool} {c : List UInt8} (h : BurstI b a t0 i t s c) : c.length = (putN b.length).length + b.length + 4 := by
  obtain ⟨m', rfl, h2, _⟩ := h
  rw [List.length_append, h2]
  omega
theorem BurstI.lt {b : List UInt8} {a t0 i t : Nat} {s : Bool} {c : List UInt8} (h : BurstI b a t0 i t s c) (ht : t0 < 4294967296) : t < 4294967296 := by
  obtain ⟨m', _, _, _, h4, _⟩ := h
  rw [h4]
  exact Nat.lt_of_le_of_lt (Nat.div_le_self _ _) ht
theorem BurstI.keep {b : List UInt8} {a t0 i t : Nat} {s : Bool} {c : List UInt8} (h : BurstI b a t0 i t s c) (hn : t % 2 = 0 ∨ 8 * (b.length + 4) ≤ a + i) : BurstI b a t0 (i + 1) (t / 2) s c := by
  obtain ⟨m', h1, h2, h3, h4, h5, h6⟩ := h
  have e : t0 % 2 ^ (min (i + 1) (8 * (b.length + 4) - a)) = t0 % 2 ^ (min i (8 * (b.length + 4) - a)) := by
    rcases Nat.lt_or_ge (a + i) (8 * (b.length + 4)) with hi | hi
    · have h0 : t % 2 = 0 := by omega
      rw [Nat.min_eq_left (by omega), Nat.min_eq_left (by omega), Nat.mod_pow_succ, ← h4, h0]
      simp
    · rw [Nat.min_eq_right (by omega), Nat.min_eq_right (by omega)]
  refine ⟨m', h1, h2, by rw [e]; exact h3, by rw [h4, Nat.div_div_eq_div_mul, Nat.pow_succ], by rw [e]; exact h5, h6⟩
theorem pow8 (k : Nat) : 2 ^ (8 * (k / 8)) * 2 ^ (k % 8) = 2 ^ k := by
  rw [← Nat.pow_add]
  congr 1
  omega
theorem BurstI.flip {b : List UInt8} {a t0 i t : Nat} {s : Bool} {c : List UInt8} (h : BurstI b a t0 i t s c) (ht : t % 2 = 1) (hk : a + i < 8 * (b.length + 4)) :
    BurstI b a t0 (i + 1) (t / 2) true (c.set ((putN b.length).length + (a + i) / 8) (c.getD ((putN b.length).length + (a + i) / 8) 0 ^^^ UInt8.ofNat (2 ^ ((a + i) % 8)))) := by
  obtain ⟨m', h1, h2, h3, h4, h5, h6⟩ := h
  have hmin : min i (8 * (b.length + 4) - a) = i := Nat.min_eq_left (by omega)
  have hmin' : min (i + 1) (8 * (b.length + 4) - a) = i + 1 := Nat.min_eq_left (by omega)
  rw [hmin] at h3 h5
  have e1 : t0 % 2 ^ (i + 1) = t0 % 2 ^ i + 2 ^ i := by rw [Nat.mod_pow_succ, ← h4, ht, Nat.mul_one]
  have hlt : t0 % 2 ^ i < 2 ^ i := Nat.mod_lt _ (Nat.two_pow_pos i)
  have hj : (a + i) / 8 < m'.length := by omega
  have hp : (UInt8.ofNat (2 ^ ((a + i) % 8))).toNat = 2 ^ ((a + i) % 8) := by
    have h8 : (a + i) % 8 ≤ 7 := by omega
    have := Nat.pow_le_pow_right (n := 2) (by omega) h8
    simp
    omega
  refine ⟨m'.set ((a + i) / 8) (m'.getD ((a + i) / 8) 0 ^^^ UInt8.ofNat (2 ^ ((a + i) % 8))), ?_, by rw [List.length_set, h2], ?_, by rw [h4, Nat.div_div_eq_div_mul, Nat.pow_succ], ?_, fun h => by cases h⟩
  · subst h1
    rw [List.set_append_right _ _ (by omega), Nat.add_sub_cancel_left]
    congr 2
    rw [List.getD, List.getD, List.getElem?_append_right (by omega), Nat.add_sub_cancel_left]
  · rw [hmin', e1, numB_set hj, hp, pow8, h3, Nat.xor_assoc, Nat.pow_add]
    congr 1
    have e2 : t0 % 2 ^ i + 2 ^ i = t0 % 2 ^ i ^^^ (2 ^ i * 1) := by rw [xor_add_of_lt hlt, Nat.mul_one]
    rw [e2, Nat.mul_one]
    have := Nat.shiftLeft_xor_distrib (a := t0 % 2 ^ i) (b := 2 ^ i) (i := a)
    simp only [Nat.shiftLeft_eq] at this
    rw [Nat.mul_comm (2 ^ a) (2 ^ i), Nat.mul_comm (2 ^ a), Nat.mul_comm (2 ^ a), this]
  · rw [hmin', e1]
    have := Nat.two_pow_pos i
    simp
theorem BurstI.same {b : List UInt8} {a t0 i t : Nat} {c : List UInt8} (h : BurstI b a t0 i t false c) : c = frameB b := by
  obtain ⟨m', h1, _, _, _, _, h6⟩ := h
  rw [h1, h6 rfl]
  rfl
/-- Where bits were turned: the frame is not whole. -/
theorem BurstI.bad {b : List UInt8} {a t0 t : Nat} {c : List UInt8} (h : BurstI b a t0 32 t true c) (hb : b.length ≤ 1000000) (ha : a < 8 * (b.length + 4)) (post : List UInt8) :
    scanB (c ++ post) = ([], 0, if post = [] then 1 else 2) := by
  obtain ⟨m', h1, h2, h3, h4, h5, _⟩ := h
  have hne : t0 % 2 ^ (min 32 (8 * (b.length + 4) - a)) ≠ 0 := of_decide_eq_true h5.symm
  have hlt : t0 % 2 ^ (min 32 (8 * (b.length + 4) - a)) < 4294967296 := by
    have h7 := Nat.mod_lt t0 (Nat.two_pow_pos (min 32 (8 * (b.length + 4) - a)))
    have h8 := Nat.pow_le_pow_right (n := 2) (by omega) (Nat.min_le_left 32 (8 * (b.length + 4) - a))
    omega
  have hl1 : (m'.take b.length).length = b.length := by rw [List.length_take]; omega
  have hl2 : (m'.drop b.length).length = 4 := by rw [List.length_drop]; omega
  have hm : m' = m'.take b.length ++ m'.drop b.length := (List.take_append_drop _ _).symm
  have hck : ¬ fourB (checkN (m'.take b.length)) = m'.drop b.length := by
    intro hc
    exact burst (m := b ++ fourB (checkN b)) (m' := m') (b' := m'.take b.length) (at_ := a) b rfl (by rw [hc]; exact hm) hl1 (by rw [List.length_append, fourB_len]; omega) h3 hlt hne
  have hf := frameAt_put [] (m'.take b.length) (m'.drop b.length) post (by omega) hl2
  rw [if_neg hck, hl1] at hf
  have hcc : c ++ post = [] ++ (putN b.length ++ (m'.take b.length ++ (m'.drop b.length ++ post))) := by
    rw [h1, List.nil_append, List.append_assoc, ← List.append_assoc (m'.take b.length), ← hm]
  have hpos := putN_pos b.length
  have hlen : 0 < (c ++ post).length := by rw [h1]; simp only [List.length_append]; omega
  rw [List.length_nil, ← hcc] at hf
  obtain ⟨f, hf2⟩ : ∃ f, (c ++ post).length = f + 1 := ⟨(c ++ post).length - 1, by omega⟩
  by_cases hp : post = []
  · rw [if_pos hp] at hf
    rw [scanB, hf2, scanGo_no hlen (by rw [hf]; decide), hf, if_pos hp]
  · rw [if_neg hp] at hf
    rw [scanB, hf2, scanGo_no hlen (by rw [hf]; decide), hf, if_neg hp]
end Go.Sx
