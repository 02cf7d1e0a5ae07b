/- Layer 2: checks and frames. -/
import Derived.Test.YtojfchnfhmccaaaSxUVarint
set_option linter.all false
namespace Go.Sx
/-- One bit of a check. -/
def crc1 (c : Nat) : Nat := if c % 2 = 1 then c / 2 ^^^ 3988292384 else c / 2
def crcN : Nat → Nat → Nat
  | 0, c => c
  | n + 1, c => crcN n (crc1 c)
theorem crcN_succ (n c : Nat) : crcN (n + 1) c = crcN n (crc1 c) := rfl
theorem crcN_zero (c : Nat) : crcN 0 c = c := rfl
def crc8 (c : Nat) : Nat := crcN 8 c
def crcGo (c : Nat) : List UInt8 → Nat
  | [] => c
  | x :: r => crcGo (crc8 (c ^^^ x.toNat)) r
theorem crcGo_nil (c : Nat) : crcGo c [] = c := rfl
theorem crcGo_cons (c : Nat) (x : UInt8) (r : List UInt8) : crcGo c (x :: r) = crcGo (crc8 (c ^^^ x.toNat)) r := rfl
def checkN (b : List UInt8) : Nat := 4294967295 - crcGo 4294967295 b
def fourB (c : Nat) : List UInt8 := [UInt8.ofNat c, UInt8.ofNat (c / 256), UInt8.ofNat (c / 65536), UInt8.ofNat (c / 16777216)]
def frameB (b : List UInt8) : List UInt8 := putN b.length ++ (b ++ fourB (checkN b))

theorem crcN_add (m n c : Nat) : crcN (m + n) c = crcN n (crcN m c) := by
  induction m generalizing c with
  | zero => rw [Nat.zero_add]; rfl
  | succ m ih => rw [Nat.succ_add]; exact ih _
theorem xor_lt32 {a b : Nat} (ha : a < 4294967296) (hb : b < 4294967296) : a ^^^ b < 4294967296 := Nat.xor_lt_two_pow (n := 32) ha hb
theorem crc1_lt {c : Nat} (h : c < 4294967296) : crc1 c < 4294967296 := by
  unfold crc1
  split
  · exact xor_lt32 (by omega) (by omega)
  · omega
theorem crcN_lt {c : Nat} (n : Nat) (h : c < 4294967296) : crcN n c < 4294967296 := by
  induction n generalizing c with
  | zero => exact h
  | succ n ih => exact ih (crc1_lt h)
theorem xor_div2 (a b : Nat) : (a ^^^ b) / 2 = a / 2 ^^^ b / 2 := by
  have := Nat.shiftRight_xor_distrib (a := a) (b := b) (i := 1)
  simpa [Nat.shiftRight_eq_div_pow] using this
theorem xor_mod2 (a b : Nat) : (a ^^^ b) % 2 = (a % 2 + b % 2) % 2 := by
  have := Nat.xor_mod_two_pow (a := a) (b := b) (n := 1)
  rw [Nat.pow_one] at this
  rw [this]
  rcases Nat.mod_two_eq_zero_or_one a with h | h <;> rcases Nat.mod_two_eq_zero_or_one b with h' | h' <;> rw [h, h'] <;> rfl
theorem crc1_xor (a b : Nat) : crc1 (a ^^^ b) = crc1 a ^^^ crc1 b := by
  unfold crc1
  rw [xor_mod2, xor_div2]
  rcases Nat.mod_two_eq_zero_or_one a with h | h <;> rcases Nat.mod_two_eq_zero_or_one b with h' | h' <;> rw [h, h']
  · rfl
  · show (a / 2 ^^^ b / 2) ^^^ 3988292384 = a / 2 ^^^ (b / 2 ^^^ 3988292384)
    rw [Nat.xor_assoc]
  · show (a / 2 ^^^ b / 2) ^^^ 3988292384 = (a / 2 ^^^ 3988292384) ^^^ b / 2
    rw [Nat.xor_assoc, Nat.xor_assoc, Nat.xor_comm (b / 2)]
  · show a / 2 ^^^ b / 2 = (a / 2 ^^^ 3988292384) ^^^ (b / 2 ^^^ 3988292384)
    rw [Nat.xor_assoc, ← Nat.xor_assoc 3988292384, Nat.xor_comm 3988292384, Nat.xor_assoc (b / 2), Nat.xor_self, Nat.xor_zero]
theorem crcN_xor (n a b : Nat) : crcN n (a ^^^ b) = crcN n a ^^^ crcN n b := by
  induction n generalizing a b with
  | zero => rfl
  | succ n ih => show crcN n _ = crcN n _ ^^^ crcN n _; rw [crc1_xor, ih]
theorem crc1_even (a : Nat) : crc1 (2 * a) = a := by
  unfold crc1
  rw [if_neg (by omega)]
  omega
theorem crcN_shift (n k a : Nat) : crcN (n + k) (2 ^ n * a) = crcN k a := by
  induction n with
  | zero => rw [Nat.zero_add, Nat.pow_zero, Nat.one_mul]
  | succ n ih =>
    rw [show n + 1 + k = (n + k) + 1 by omega]
    show crcN (n + k) (crc1 _) = _
    rw [Nat.pow_succ, Nat.mul_comm (2 ^ n) 2, Nat.mul_assoc, crc1_even, ih]
theorem xor_add_of_lt {n a b : Nat} (h : a < 2 ^ n) : a ^^^ (2 ^ n * b) = a + 2 ^ n * b := by
  have h1 : (2 ^ n * b) ^^^ a = 2 ^ n * b + a := by
    apply Nat.eq_of_testBit_eq
    intro i
    rw [Nat.testBit_xor, Nat.testBit_two_pow_mul_add b h, Nat.testBit_two_pow_mul]
    by_cases hi : i < n
    · have : ¬ n ≤ i := by omega
      simp [hi, this]
    · have hi' : n ≤ i := by omega
      have : a.testBit i = false := Nat.testBit_lt_two_pow (Nat.lt_of_lt_of_le h (Nat.pow_le_pow_right (by omega) hi'))
      simp [hi, hi', this]
  rw [Nat.xor_comm, h1, Nat.add_comm]
/-- A step of eight bits by a table of bytes. -/
theorem crc8_table (c x : Nat) : crc8 (c ^^^ x) = crc8 ((c % 256) ^^^ x) ^^^ c / 256 := by
  have hc : c = (c % 256) ^^^ (2 ^ 8 * (c / 256)) := by
    rw [xor_add_of_lt (by omega)]
    omega
  have h2 : crcN 8 (2 ^ 8 * (c / 256)) = c / 256 := by
    have := crcN_shift 8 0 (c / 256)
    rwa [Nat.add_zero] at this
  unfold crc8
  have e : c ^^^ x = ((c % 256) ^^^ x) ^^^ (2 ^ 8 * (c / 256)) := by
    rw [Nat.xor_assoc, Nat.xor_comm x, ← Nat.xor_assoc, ← hc]
  rw [e, crcN_xor, h2]
theorem crcGo_lt {c : Nat} (b : List UInt8) (h : c < 4294967296) : crcGo c b < 4294967296 := by
  induction b generalizing c with
  | nil => exact h
  | cons x r ih =>
    have hx := UInt8.toNat_lt x
    exact ih (crcN_lt 8 (xor_lt32 h (by omega)))
theorem checkN_lt (b : List UInt8) : checkN b < 4294967296 := by unfold checkN; omega
/-- Bytes as a number. -/
def numB : List UInt8 → Nat
  | [] => 0
  | x :: r => x.toNat + 256 * numB r
theorem numB_cons (x : UInt8) (r : List UInt8) : numB (x :: r) = x.toNat ^^^ (2 ^ 8 * numB r) := by
  rw [xor_add_of_lt (UInt8.toNat_lt x), numB]
theorem crcGo_num (c : Nat) (b : List UInt8) : crcGo c b = crcN (8 * b.length) (c ^^^ numB b) := by
  induction b generalizing c with
  | nil => show c = crcN 0 (c ^^^ 0); rw [Nat.xor_zero]; rfl
  | cons x r ih =>
    have hx := UInt8.toNat_lt x
    have e := numB_cons x r
    have e3 : crcN 8 (2 ^ 8 * numB r) = numB r := by
      have := crcN_shift 8 0 (numB r)
      rwa [Nat.add_zero] at this
    have e4 : 8 * (x :: r).length = 8 + 8 * r.length := by rw [List.length_cons]; omega
    rw [crcGo_cons, ih, e4, crcN_add 8 (8 * r.length) (c ^^^ numB (x :: r)), e, ← Nat.xor_assoc, crcN_xor 8 (c ^^^ x.toNat) (2 ^ 8 * numB r), e3, crc8]
theorem crc1_ne {c : Nat} (h : c < 4294967296) (h0 : c ≠ 0) : crc1 c ≠ 0 := by
  unfold crc1
  split
  · intro e
    have : c / 2 = 3988292384 := by
      have := congrArg (· ^^^ 3988292384) e
      simpa [Nat.xor_assoc, Nat.xor_self] using this
    omega
  · omega
theorem crcN_ne {c : Nat} (n : Nat) (h : c < 4294967296) (h0 : c ≠ 0) : crcN n c ≠ 0 := by
  induction n generalizing c with
  | zero => exact h0
  | succ n ih => exact ih (crc1_lt h) (crc1_ne h h0)
theorem crcGo_append (c : Nat) (a b : List UInt8) : crcGo c (a ++ b) = crcGo (crcGo c a) b := by
  induction a generalizing c with
  | nil => rfl
  | cons x r ih => exact ih _
theorem numB_four {c : Nat} (h : c < 4294967296) : numB (fourB c) = c := by
  simp only [fourB, numB, UInt8.toNat_ofNat']
  omega
theorem numB_append (a b : List UInt8) : numB (a ++ b) = numB a + 2 ^ (8 * a.length) * numB b := by
  induction a with
  | nil => simp [numB]
  | cons x r ih =>
    rw [List.cons_append, numB, ih, numB, List.length_cons, show 8 * (r.length + 1) = 8 + 8 * r.length by omega, Nat.pow_add, Nat.mul_add, ← Nat.mul_assoc, Nat.add_assoc]
theorem numB_lt (a : List UInt8) : numB a < 2 ^ (8 * a.length) := by
  induction a with
  | nil => simp [numB]
  | cons x r ih =>
    have hx := UInt8.toNat_lt x
    rw [numB, List.length_cons, show 8 * (r.length + 1) = 8 + 8 * r.length by omega, Nat.pow_add]
    omega
theorem compl32 {c : Nat} (h : c < 4294967296) : 4294967295 - c = c ^^^ 4294967295 := by
  have e : c + (4294967295 - c) = 4294967295 := by omega
  apply Nat.eq_of_testBit_eq
  intro i
  rw [Nat.testBit_xor, show (4294967295 : Nat) = 2 ^ 32 - 1 from rfl, Nat.testBit_two_pow_sub_one]
  have := Nat.testBit_two_pow_sub_succ (n := 32) (x := c) (by simpa using h) i
  rw [show 2 ^ 32 - 1 - c = 2 ^ 32 - (c + 1) by omega, this]
  by_cases hi : i < 32
  · simp [hi]
  · have : c.testBit i = false := Nat.testBit_lt_two_pow (Nat.lt_of_lt_of_le h (Nat.pow_le_pow_right (n := 2) (by omega) (show 32 ≤ i by omega)))
    simp [hi, this]
/-- Behind its own check a check is always the same. -/
theorem crcGo_own (b : List UInt8) : crcGo 4294967295 (b ++ fourB (checkN b)) = crcN 32 4294967295 := by
  have h := crcGo_lt b (c := 4294967295) (by omega)
  rw [crcGo_append, crcGo_num, numB_four (checkN_lt b), checkN, compl32 h, ← Nat.xor_assoc, Nat.xor_self, Nat.zero_xor]
  rfl
/-- Bytes of which at most 32 bits, one behind the other, are turned, have another check. -/
theorem burst {m m' : List UInt8} {b' : List UInt8} {at_ t : Nat} (b : List UInt8) (hm : m = b ++ fourB (checkN b)) (hm' : m' = b' ++ fourB (checkN b')) (hl : b'.length = b.length) (ha : at_ ≤ 8 * m.length)
    (hn : numB m' = numB m ^^^ (2 ^ at_ * t)) (ht : t < 4294967296) (h0 : t ≠ 0) : False := by
  have e1 := crcGo_own b
  have e2 := crcGo_own b'
  rw [← hm] at e1
  rw [← hm'] at e2
  have el : m'.length = m.length := by rw [hm, hm', List.length_append, List.length_append, hl]; rfl
  rw [crcGo_num, el, hn, ← Nat.xor_assoc, crcN_xor, ← crcGo_num, e1] at e2
  have : crcN (8 * m.length) (2 ^ at_ * t) = 0 := by
    have := congrArg (crcN 32 4294967295 ^^^ ·) e2
    simpa [← Nat.xor_assoc, Nat.xor_self] using this
  rw [show 8 * m.length = at_ + (8 * m.length - at_) by omega, crcN_shift] at this
  exact crcN_ne _ ht h0 this
theorem numB_set {l : List UInt8} {j : Nat} {y : UInt8} (hj : j < l.length) : numB (l.set j (l.getD j 0 ^^^ y)) = numB l ^^^ (2 ^ (8 * j) * y.toNat) := by
  induction l generalizing j with
  | nil => simp at hj
  | cons x r ih =>
    have hx := UInt8.toNat_lt x
    cases j with
    | zero =>
      have e1 := numB_cons x r
      have hxy := UInt8.toNat_lt (x ^^^ y)
      have e2 := numB_cons (x ^^^ y) r
      show numB ((x ^^^ y) :: r) = _
      rw [e2, e1, UInt8.toNat_xor, Nat.mul_zero, Nat.pow_zero, Nat.one_mul, Nat.xor_assoc, Nat.xor_assoc, Nat.xor_comm y.toNat]
    | succ j =>
      have e1 := numB_cons x r
      have e2 := numB_cons x (r.set j (r.getD j 0 ^^^ y))
      show numB (x :: r.set j (r.getD j 0 ^^^ y)) = _
      rw [e2, ih (by simpa using hj), e1, Nat.mul_comm (2 ^ 8), ← Nat.shiftLeft_eq, Nat.shiftLeft_xor_distrib, Nat.shiftLeft_eq, Nat.shiftLeft_eq, show 8 * (j + 1) = 8 * j + 8 by omega, Nat.pow_add, Nat.xor_assoc, Nat.mul_comm (numB r)]
      congr 2
      rw [Nat.mul_assoc, Nat.mul_assoc, Nat.mul_comm y.toNat]
end Go.Sx
namespace Go.Sx
theorem ofInt32N (a : Nat) (h : a < 4294967296) : (BitVec.ofInt 32 (a : Int)).toNat = a := by rw [BitVec.toNat_ofInt]; omega
theorem xor32 (a b : Nat) (ha : a < 4294967296) (hb : b < 4294967296) : IntKind.u32.wrap ((BitVec.ofInt IntKind.u32.bits (a : Int) ^^^ BitVec.ofInt IntKind.u32.bits (b : Int)).toNat : Int) = ((a ^^^ b : Nat) : Int) := by
  show IntKind.u32.wrap ((BitVec.ofInt 32 (a : Int) ^^^ BitVec.ofInt 32 (b : Int)).toNat : Int) = _
  have := xor_lt32 ha hb
  rw [BitVec.toNat_xor, ofInt32N _ ha, ofInt32N _ hb]
  exact wu32 (by omega)
theorem and32 (a b : Nat) (ha : a < 4294967296) (hb : b < 4294967296) : IntKind.u32.wrap ((BitVec.ofInt IntKind.u32.bits (a : Int) &&& BitVec.ofInt IntKind.u32.bits (b : Int)).toNat : Int) = ((a &&& b : Nat) : Int) := by
  show IntKind.u32.wrap ((BitVec.ofInt 32 (a : Int) &&& BitVec.ofInt 32 (b : Int)).toNat : Int) = _
  have : a &&& b ≤ a := Nat.and_le_left
  rw [BitVec.toNat_and, ofInt32N _ ha, ofInt32N _ hb]
  exact wu32 (by omega)
theorem xor8N (a b : Nat) (ha : a < 256) (hb : b < 256) : IntKind.u8.wrap ((BitVec.ofInt IntKind.u8.bits (a : Int) ^^^ BitVec.ofInt IntKind.u8.bits (b : Int)).toNat : Int) = ((a ^^^ b : Nat) : Int) := by
  show IntKind.u8.wrap ((BitVec.ofInt 8 (a : Int) ^^^ BitVec.ofInt 8 (b : Int)).toNat : Int) = _
  have : a ^^^ b < 2 ^ 8 := Nat.xor_lt_two_pow (by omega) (by omega)
  rw [BitVec.toNat_xor, BitVec.toNat_ofInt, BitVec.toNat_ofInt, show ((a : Int) % ((2 ^ 8 : Nat) : Int)).toNat = a by omega, show ((b : Int) % ((2 ^ 8 : Nat) : Int)).toNat = b by omega]
  exact wu8 (by omega)
/-- A step of the table's laying, as the program takes it. -/
theorem crc1_prog (c : Nat) (h : c < 4294967296) :
    IntKind.u32.wrap ((BitVec.ofInt IntKind.u32.bits ((c : Int).fdiv (2 ^ min (Int.toNat 1) IntKind.u32.bits)) ^^^
      BitVec.ofInt IntKind.u32.bits (IntKind.u32.wrap ((BitVec.ofInt IntKind.u32.bits 3988292384 &&& BitVec.ofInt IntKind.u32.bits (IntKind.u32.wrap (0 - IntKind.u32.wrap ((BitVec.ofInt IntKind.u32.bits (c : Int) &&& BitVec.ofInt IntKind.u32.bits 1).toNat : Int)))).toNat : Int))).toNat : Int) = ((crc1 c : Nat) : Int) := by
  have e1 : (2 : Int) ^ min (Int.toNat 1) IntKind.u32.bits = ((2 : Nat) : Int) := rfl
  have e2 : IntKind.u32.wrap ((BitVec.ofInt IntKind.u32.bits (c : Int) &&& BitVec.ofInt IntKind.u32.bits 1).toNat : Int) = ((c % 2 : Nat) : Int) := by
    have := and32 c 1 h (by omega)
    rw [Nat.and_one_is_mod] at this
    exact this
  rw [e1, fdivN, e2]
  unfold crc1
  rcases Nat.mod_two_eq_zero_or_one c with h2 | h2
  · have e3 : IntKind.u32.wrap (0 - ((0 : Nat) : Int)) = ((0 : Nat) : Int) := wu32 (x := 0) (by omega)
    have e4 := and32 3988292384 0 (by omega) (by omega)
    rw [Nat.and_zero] at e4
    rw [h2, e3, show (3988292384 : Int) = ((3988292384 : Nat) : Int) from rfl, e4, xor32 _ _ (by omega) (by omega), Nat.xor_zero, if_neg (by omega)]
  · have e3 : IntKind.u32.wrap (0 - ((1 : Nat) : Int)) = ((4294967295 : Nat) : Int) := by rw [IntKind.wrap_u32']; omega
    have e4 := and32 3988292384 4294967295 (by omega) (by omega)
    rw [show (3988292384 : Nat) &&& 4294967295 = 3988292384 by decide] at e4
    rw [h2, e3, show (3988292384 : Int) = ((3988292384 : Nat) : Int) from rfl, e4, xor32 _ _ (by omega) (by omega), if_pos rfl]
theorem not32 (c : Nat) (h : c < 4294967296) : IntKind.u32.wrap ((BitVec.ofInt IntKind.u32.bits (if IntKind.u32.signed then -1 else IntKind.u32.max) ^^^ BitVec.ofInt IntKind.u32.bits (c : Int)).toNat : Int) = ((4294967295 - c : Nat) : Int) := by
  rw [compl32 h, Nat.xor_comm]
  exact xor32 4294967295 c (by omega) h
theorem low8 (c : Nat) : IntKind.u8.wrap (c : Int) = ((c % 256 : Nat) : Int) := u8w c
end Go.Sx
namespace Go.Sx
theorem u8_range (x : Int) : 0 ≤ IntKind.u8.wrap x ∧ IntKind.u8.wrap x < ((256 : Nat) : Int) := by rw [IntKind.wrap_u8']; omega
theorem crc8_lt {c : Nat} (h : c < 4294967296) : crc8 c < 4294967296 := crcN_lt 8 h
/-- A step of a check by the table, as the program takes it. -/
theorem crcT_prog (c : Nat) (h : c < 4294967296) (x : UInt8) (f : Nat → Int) (hf : ∀ i, i < 256 → f i = ((crc8 i : Nat) : Int)) :
    IntKind.u32.wrap ((BitVec.ofInt IntKind.u32.bits (f (IntKind.u8.wrap ((BitVec.ofInt IntKind.u8.bits (IntKind.u8.wrap (c : Int)) ^^^ BitVec.ofInt IntKind.u8.bits (x.toNat : Int)).toNat : Int)).toNat) ^^^
      BitVec.ofInt IntKind.u32.bits ((c : Int).fdiv (2 ^ min (Int.toNat 8) IntKind.u32.bits))).toNat : Int) = ((crc8 (c ^^^ x.toNat) : Nat) : Int) := by
  have hx := UInt8.toNat_lt x
  have hlt : (c % 256) ^^^ x.toNat < 2 ^ 8 := Nat.xor_lt_two_pow (by omega) (by omega)
  have e1 : (2 : Int) ^ min (Int.toNat 8) IntKind.u32.bits = ((256 : Nat) : Int) := rfl
  have h8 : crc8 ((c % 256) ^^^ x.toNat) < 4294967296 := crcN_lt 8 (by omega)
  have e2 : IntKind.u8.wrap ((BitVec.ofInt IntKind.u8.bits (IntKind.u8.wrap (c : Int)) ^^^ BitVec.ofInt IntKind.u8.bits (x.toNat : Int)).toNat : Int) = (((c % 256) ^^^ x.toNat : Nat) : Int) := by
    rw [show IntKind.u8.wrap (c : Int) = ((c % 256 : Nat) : Int) from u8w c]
    exact xor8N _ _ (by omega) (by omega)
  rw [e1, fdivN, e2, Int.toNat_natCast, hf _ (by omega), xor32 _ _ h8 (by omega), crc8_table c x.toNat]
end Go.Sx
