/- Layer 1: numbers as bytes. -/
import Derived.Test.YtojfchnfhmccaaaSxUGrid
set_option linter.all false
namespace Go.Sx
def putN (n : Nat) : List UInt8 := if n < 128 then [UInt8.ofNat n] else UInt8.ofNat (n % 128 + 128) :: putN (n / 128)
  termination_by n
  decreasing_by omega
theorem putN_lt {n : Nat} (h : n < 128) : putN n = [UInt8.ofNat n] := by rw [putN, if_pos h]
theorem putN_ge {n : Nat} (h : 128 ≤ n) : putN n = UInt8.ofNat (n % 128 + 128) :: putN (n / 128) := by rw [putN, if_neg (by omega)]
theorem putN_len (n : Nat) : n < 18446744073709551616 → (putN n).length ≤ 10 := by
  have h : ∀ (k n : Nat), n < 128 ^ k → 0 < k → (putN n).length ≤ k := by
    intro k
    induction k with
    | zero => intro n _ h; omega
    | succ k ih =>
      intro n hn _
      rcases Nat.lt_or_ge n 128 with h | h
      · rw [putN_lt h]; simp
      · rw [putN_ge h]
        have hk : 0 < k := by
          rcases Nat.eq_zero_or_pos k with h0 | h0
          · subst h0; omega
          · exact h0
        have := ih (n / 128) (by rw [Nat.pow_succ] at hn; omega) hk
        simp; omega
  exact fun hn => h 10 n (by omega) (by omega)
/-- All numbers' bytes. -/
def putL (l : List Nat) : List UInt8 := l.flatMap putN
theorem putL_len (l : List Nat) (h : ∀ x ∈ l, x < 18446744073709551616) : (putL l).length ≤ 10 * l.length := by
  induction l with
  | nil => simp [putL]
  | cons x l ih =>
    have h1 := putN_len x (h x (by simp))
    have h2 := ih (fun y hy => h y (by simp [hy]))
    simp only [putL, List.flatMap_cons, List.length_append, List.length_cons] at h2 ⊢
    omega
theorem putL_take (l : List Nat) (k : Nat) (h : k < l.length) : putL (l.take (k + 1)) = putL (l.take k) ++ putN (l.getD k 0) := by
  have : l.take (k + 1) = l.take k ++ [l.getD k 0] := by
    rw [List.take_add_one, List.getD, List.getElem?_eq_getElem h]; simp
  rw [this]
  simp [putL]
def encU (x : Nat) (_ : Nat) : DV := .v (.int .u64 (x : Int))
theorem divPow (x m : Nat) : (x / 128 ^ m) / 128 = x / 128 ^ (m + 1) := by rw [Nat.pow_succ, Nat.div_div_eq_div_mul]
def zigN (n : Int) : Nat := if 0 ≤ n then (2 * n).toNat else (-2 * n - 1).toNat
def zagN (x : Nat) : Int := if x % 2 = 0 then ((x / 2 : Nat) : Int) else -((x / 2 : Nat) : Int) - 1
theorem zigN_lt (n : Int) (h : -9223372036854775808 ≤ n ∧ n ≤ 9223372036854775807) : zigN n < 18446744073709551616 := by unfold zigN; split <;> omega
theorem zag_zig (n : Int) : zagN (zigN n) = n := by unfold zagN zigN; split <;> split <;> omega
/-- The number that stands at a list's begin: the number, how many bytes, why there is none. -/
def takeGo : List UInt8 → Nat → Nat → Nat × Nat × Nat
  | [], _, _ => (0, 0, 2)
  | x :: r, i, n => if (0 < i ∧ x.toNat = 0) ∨ (i = 9 ∧ 1 < x.toNat) then (0, 0, 3) else
    if x.toNat < 128 then (n + x.toNat % 128 * 128 ^ i, i + 1, 0) else takeGo r (i + 1) (n + x.toNat % 128 * 128 ^ i)
theorem takeGo_take : ∀ (r : List UInt8) (i n : Nat), i ≤ 9 → takeGo (r.take (10 - i)) i n = takeGo r i n
  | [], i, n, h => by simp
  | x :: r, i, n, h => by
    rw [show 10 - i = (9 - i) + 1 by omega, List.take_succ_cons, takeGo, takeGo]
    by_cases h9 : i = 9
    · subst h9
      split
      · rfl
      · split
        · rfl
        · omega
    · rw [show 9 - i = 10 - (i + 1) by omega, takeGo_take r (i + 1) _ (by omega)]
def takeB (b : List UInt8) (at_ : Int) : Nat × Int × Int :=
  if at_ < 0 ∨ (b.length : Int) < at_ then (0, 0, 1) else
    let p := takeGo (b.drop at_.toNat) 0 0
    (p.1, if p.2.2 = 0 then at_ + p.2.1 else 0, p.2.2)
theorem pow128 (k : Nat) : 128 ^ k = 2 ^ (7 * k) := by rw [Nat.pow_mul]
theorem pow_le9 {k : Nat} (h : k ≤ 9) : 128 ^ k ≤ 9223372036854775808 := Nat.le_trans (Nat.pow_le_pow_right (by omega) h) (by decide)
theorem digit_lt {k n x : Nat} (hk : k ≤ 9) (hn : n < 128 ^ k) (hx : k = 9 → x ≤ 1) : x % 128 * 128 ^ k < 18446744073709551616 ∧ n + x % 128 * 128 ^ k < 18446744073709551616 := by
  rcases Nat.lt_or_ge k 9 with h | h
  · have h1 : 128 ^ k ≤ 72057594037927936 := Nat.le_trans (Nat.pow_le_pow_right (by omega) (show k ≤ 8 by omega)) (by decide)
    have h2 : x % 128 * 128 ^ k ≤ 127 * 128 ^ k := Nat.mul_le_mul_right _ (by omega)
    omega
  · have : k = 9 := by omega
    subst this
    have := hx rfl
    have h2 : x % 128 * 128 ^ 9 ≤ 1 * 128 ^ 9 := Nat.mul_le_mul_right _ (by omega)
    have h3 : (128 : Nat) ^ 9 = 9223372036854775808 := by decide
    omega
theorem step_lt {k n x : Nat} (hn : n < 128 ^ k) : n + x % 128 * 128 ^ k < 128 ^ (k + 1) := by
  have h2 : x % 128 * 128 ^ k ≤ 127 * 128 ^ k := Nat.mul_le_mul_right _ (by omega)
  rw [Nat.pow_succ]
  omega
theorem pow128_cast (k : Nat) : ((128 ^ k : Nat) : Int) = 2 ^ (7 * k) := by rw [pow128]; simp
theorem step_val {k n x : Nat} (hk : k ≤ 9) (hx8 : x < 256) (hn : n < 128 ^ k) (hx : k = 9 → x ≤ 1) :
    IntKind.u64.wrap ((BitVec.ofInt IntKind.u64.bits (n : Int) ||| BitVec.ofInt IntKind.u64.bits (IntKind.u64.wrap (IntKind.u64.wrap (IntKind.u8.wrap ((BitVec.ofInt IntKind.u8.bits (x : Int) &&& BitVec.ofInt IntKind.u8.bits 127).toNat : Int)) *
      2 ^ min (IntKind.i64.wrap (7 * (k : Int))).toNat IntKind.u64.bits))).toNat : Int) = ((n + x % 128 * 128 ^ k : Nat) : Int) := by
  have hd := digit_lt hk hn hx
  have h9 := pow_le9 hk
  rw [show (127 : Int) = ((127 : Nat) : Int) from rfl, and8 _ _ hx8 (by omega), and127 _ hx8]
  have e1 : IntKind.u64.wrap ((x % 128 : Nat) : Int) = ((x % 128 : Nat) : Int) := wu64 (by omega)
  have e2 : IntKind.i64.wrap (7 * (k : Int)) = ((7 * k : Nat) : Int) := by rw [wi64 (by omega)]; omega
  have e3 : min (7 * k) IntKind.u64.bits = 7 * k := by show min (7 * k) 64 = 7 * k; omega
  rw [e1, e2, Int.toNat_natCast, e3, ← pow128_cast, ← Int.natCast_mul]
  have e4 : IntKind.u64.wrap ((x % 128 * 128 ^ k : Nat) : Int) = ((x % 128 * 128 ^ k : Nat) : Int) := wu64 (by omega)
  rw [e4, or64 _ _ (by omega) hd.1]
  congr 1
  rw [Nat.or_comm, pow128, ← Nat.shiftLeft_eq, ← Nat.shiftLeft_add_eq_or_of_lt (by rw [← pow128]; exact hn), Nat.add_comm]
theorem takeGo_step {r : List UInt8} {k n : Nat} (hk : k < r.length) : takeGo (r.drop k) k n =
    if (0 < k ∧ (r.getD k 0).toNat = 0) ∨ (k = 9 ∧ 1 < (r.getD k 0).toNat) then (0, 0, 3) else
    if (r.getD k 0).toNat < 128 then (n + (r.getD k 0).toNat % 128 * 128 ^ k, k + 1, 0) else takeGo (r.drop (k + 1)) (k + 1) (n + (r.getD k 0).toNat % 128 * 128 ^ k) := by
  rw [List.drop_eq_getElem_cons hk, takeGo, List.getD, List.getElem?_eq_getElem hk]
  rfl
theorem cond_take {k x : Nat} {b : Bool} (h : (decide ((k : Int) > 0) && (x : Int) == 0 || (k : Int) == 9 && decide ((x : Int) > 1)) = b) : ((0 < k ∧ x = 0) ∨ (k = 9 ∧ 1 < x)) ↔ b = true := by
  subst h
  simp
  omega
theorem drop_get (b : List UInt8) (a k : Nat) : (b.drop a).getD k 0 = b.getD (a + k) 0 := by simp [List.getD]
theorem step_val' {k n x : Nat} (hk : k ≤ 9) (hn : n < 128 ^ k) (hx : k = 9 → x ≤ 1) :
    IntKind.u64.wrap ((n : Int) + IntKind.u64.wrap (IntKind.u64.wrap ((x : Int).tmod 128) * ((128 ^ k : Nat) : Int))) = ((n + x % 128 * 128 ^ k : Nat) : Int) := by
  have hd := digit_lt hk hn hx
  have e0 : (x : Int).tmod 128 = ((x % 128 : Nat) : Int) := rfl
  have e1 : IntKind.u64.wrap ((x % 128 : Nat) : Int) = ((x % 128 : Nat) : Int) := wu64 (by omega)
  have e4 : IntKind.u64.wrap ((x % 128 * 128 ^ k : Nat) : Int) = ((x % 128 * 128 ^ k : Nat) : Int) := wu64 (by omega)
  rw [e0, e1, ← Int.natCast_mul, e4, ← Int.natCast_add]
  exact wu64 (by omega)
theorem takeGo_facts : ∀ (r : List UInt8) (i n : Nat), i ≤ 9 → n < 128 ^ i → (takeGo r i n).1 < 18446744073709551616 ∧ ((takeGo r i n).2.2 = 0 → i < (takeGo r i n).2.1 ∧ (takeGo r i n).2.1 ≤ 10 ∧ (takeGo r i n).2.1 ≤ i + r.length) ∧ (takeGo r i n).2.2 ≤ 3
  | [], i, n, h, hn => by simp [takeGo]
  | x :: r, i, n, h, hn => by
    rw [takeGo]
    split
    · simp
    · rename_i h1
      have hx : i = 9 → x.toNat ≤ 1 := by omega
      have hd := (digit_lt h hn hx).2
      split
      · simp only [List.length_cons]; exact ⟨hd, fun _ => by omega, by omega⟩
      · rename_i h2
        have := takeGo_facts r (i + 1) (n + x.toNat % 128 * 128 ^ i) (by omega) (step_lt hn)
        simp only [List.length_cons]
        exact ⟨this.1, fun h => by have := this.2.1 h; omega, this.2.2⟩
theorem takeB_facts (b : List UInt8) (at_ : Int) : (takeB b at_).1 < 18446744073709551616 ∧ ((takeB b at_).2.2 = 0 → 0 ≤ at_ ∧ at_ < (takeB b at_).2.1 ∧ (takeB b at_).2.1 ≤ b.length ∧ (takeB b at_).2.1 ≤ at_ + 10) ∧ ((takeB b at_).2.2 ≠ 0 → (takeB b at_).1 = 0 ∧ (takeB b at_).2.1 = 0 → True) ∧ 0 ≤ (takeB b at_).2.2 ∧ (takeB b at_).2.2 ≤ 3 ∧ 0 ≤ (takeB b at_).2.1 := by
  unfold takeB
  split
  · simp
  · rename_i h
    have := takeGo_facts (b.drop at_.toNat) 0 0 (by omega) (by omega)
    simp only [List.length_drop] at this
    refine ⟨this.1, fun h0 => ?_, fun _ _ => trivial, by simp, by simp; omega, ?_⟩
    · have h1 : (takeGo (b.drop at_.toNat) 0 0).2.2 = 0 := by simpa using h0
      have := this.2.1 h1
      simp only [if_pos h1]
      omega
    · simp only
      split <;> omega
theorem takeGo_put (post : List UInt8) : ∀ (x i n : Nat), x * 128 ^ i < 18446744073709551616 → i ≤ 9 → (0 < i → x ≠ 0) → takeGo (putN x ++ post) i n = (n + x * 128 ^ i, i + (putN x).length, 0) := by
  intro x
  induction x using Nat.strongRecOn with
  | _ x ih =>
  intro i n hx hi h0
  have h9 : i = 9 → x ≤ 1 := by
    intro h
    subst h
    have h3 : (128 : Nat) ^ 9 = 9223372036854775808 := by decide
    omega
  rcases Nat.lt_or_ge x 128 with h | h
  · have e : (UInt8.ofNat x).toNat = x := by simp; omega
    rw [putN_lt h, List.singleton_append, takeGo, e, if_neg (by omega), if_pos h, Nat.mod_eq_of_lt h]
    simp
  · have e : (UInt8.ofNat (x % 128 + 128)).toNat = x % 128 + 128 := by simp; omega
    rw [putN_ge h, List.cons_append, takeGo, e, if_neg (by omega), if_neg (by omega)]
    have hm : x / 128 * 128 ^ (i + 1) ≤ x * 128 ^ i := by
      rw [Nat.pow_succ, Nat.mul_comm (128 ^ i), ← Nat.mul_assoc]
      exact Nat.mul_le_mul_right _ (by omega)
    rw [ih (x / 128) (by omega) (i + 1) _ (by omega) (by omega) (by omega)]
    have e2 : (x % 128 + 128) % 128 = x % 128 := by omega
    have e3 : x % 128 * 128 ^ i + x / 128 * 128 ^ (i + 1) = x * 128 ^ i := by
      rw [Nat.pow_succ, Nat.mul_comm (128 ^ i), ← Nat.mul_assoc, ← Nat.add_mul]
      congr 1
      omega
    rw [e2, Nat.add_assoc, e3]
    simp
    omega
theorem takeB_put (pre post : List UInt8) (x : Nat) (hx : x < 18446744073709551616) : takeB (pre ++ (putN x ++ post)) (pre.length : Int) = (x, ((pre.length + (putN x).length : Nat) : Int), 0) := by
  rw [takeB, if_neg (by simp; omega), Int.toNat_natCast, List.drop_left, takeGo_put post x 0 0 (by omega) (by omega) (by omega)]
  simp
theorem putN_pos (n : Nat) : 0 < (putN n).length := by rw [putN]; split <;> simp
def textB (b : List UInt8) (at_ : Int) : List UInt8 × Int × Int :=
  let p := takeB b at_
  if p.2.2 ≠ 0 then ([], 0, p.2.2) else if (b.length : Int) - p.2.1 < p.1 then ([], 0, 2) else ((b.take (p.2.1.toNat + p.1)).drop p.2.1.toNat, p.2.1 + p.1, 0)
/-- Numbers that stand one behind the other. -/
theorem textB_put (pre : List UInt8) (s : List UInt8) (hs : s.length < 18446744073709551616) : textB (pre ++ (putN s.length ++ s)) (pre.length : Int) = (s, ((pre ++ (putN s.length ++ s)).length : Int), 0) := by
  rw [textB, takeB_put pre s s.length hs]
  simp only [ne_eq, not_true_eq_false, if_false, List.length_append, Int.toNat_natCast]
  rw [if_neg (by omega), ← List.append_assoc, List.take_of_length_le (by simp; omega), ← List.length_append, List.drop_left]
  simp
  omega
def manyGo (b : List UInt8) (most : Nat) : Nat → Int → List Int → List Int × Int × Int
  | 0, p, out => (out, p, 0)
  | m + 1, p, out => if (takeB b p).2.2 ≠ 0 then ([], 0, (takeB b p).2.2) else if min most 2147483647 < (takeB b p).1 then ([], 0, 4) else manyGo b most m (takeB b p).2.1 (out ++ [((takeB b p).1 : Int)])
def manyB (b : List UInt8) (p many : Int) (most : Nat) : List Int × Int × Int :=
  if p < 0 ∨ (b.length : Int) < p ∨ many < 0 ∨ 100000 < many then ([], 0, 1) else manyGo b most many.toNat p []
theorem manyGo_step (b : List UInt8) (most m : Nat) (p : Int) (out : List Int) : manyGo b most (m + 1) p out = if (takeB b p).2.2 ≠ 0 then ([], 0, (takeB b p).2.2) else if min most 2147483647 < (takeB b p).1 then ([], 0, 4) else manyGo b most m (takeB b p).2.1 (out ++ [((takeB b p).1 : Int)]) := rfl

end Go.Sx
