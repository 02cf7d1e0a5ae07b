import Derived.Test.YtndjnchalihleaaSxP3
set_option linter.all false
namespace Go.Proofs.Ytndjnchalihleaa
open Go.Sx
attribute [local irreducible] RunSem AListSem Again Side IntKind.wrap

/-- The number that stands at a list's begin: the number, how many bytes, why there is none. -/
def takeGo : List UInt8 → Nat → Nat → Nat × Nat × Nat
  | [], _, _ => (0, 0, 2)
  | x :: r, i, n => if (0 < i ∧ x.toNat = 0) ∨ (i = 9 ∧ 1 < x.toNat) then (0, 0, 3) else
    if x.toNat < 128 then (n + x.toNat % 128 * 128 ^ i, i + 1, 0) else takeGo r (i + 1) (n + x.toNat % 128 * 128 ^ i)
theorem takeGo_take : ∀ (r : List UInt8) (i n : Nat), i ≤ 9 → takeGo (r.take (10 - i)) i n = takeGo r i n
  | [], i, n, h => by simp
  | x :: r, i, n, h => by
    rw [show 10 - i = (9 - i) + 1 by omega, List.take_succ_cons, takeGo, takeGo]
    by_cases h9 : i = 9
    · subst h9
      split
      · rfl
      · split
        · rfl
        · omega
    · rw [show 9 - i = 10 - (i + 1) by omega, takeGo_take r (i + 1) _ (by omega)]
def takeB (b : List UInt8) (at_ : Int) : Nat × Int × Int :=
  if at_ < 0 ∨ (b.length : Int) < at_ then (0, 0, 1) else
    let p := takeGo (b.drop at_.toNat) 0 0
    (p.1, if p.2.2 = 0 then at_ + p.2.1 else 0, p.2.2)

def isT (p : Nat × Int × Int) : AV → Sto → Prop := Gives (ι := Unit) (fun _ => .t [.v (.int .u64 p.1), .v (.int .i64 p.2.1), .v (.int .i64 p.2.2)]) (fun _ => []) (fun _ => True)

theorem pow128 (k : Nat) : 128 ^ k = 2 ^ (7 * k) := by rw [Nat.pow_mul]
theorem pow_le9 {k : Nat} (h : k ≤ 9) : 128 ^ k ≤ 9223372036854775808 := Nat.le_trans (Nat.pow_le_pow_right (by omega) h) (by decide)
theorem digit_lt {k n x : Nat} (hk : k ≤ 9) (hn : n < 128 ^ k) (hx : k = 9 → x ≤ 1) : x % 128 * 128 ^ k < 18446744073709551616 ∧ n + x % 128 * 128 ^ k < 18446744073709551616 := by
  rcases Nat.lt_or_ge k 9 with h | h
  · have h1 : 128 ^ k ≤ 72057594037927936 := Nat.le_trans (Nat.pow_le_pow_right (by omega) (show k ≤ 8 by omega)) (by decide)
    have h2 : x % 128 * 128 ^ k ≤ 127 * 128 ^ k := Nat.mul_le_mul_right _ (by omega)
    omega
  · have : k = 9 := by omega
    subst this
    have := hx rfl
    have h2 : x % 128 * 128 ^ 9 ≤ 1 * 128 ^ 9 := Nat.mul_le_mul_right _ (by omega)
    have h3 : (128 : Nat) ^ 9 = 9223372036854775808 := by decide
    omega
theorem step_lt {k n x : Nat} (hn : n < 128 ^ k) : n + x % 128 * 128 ^ k < 128 ^ (k + 1) := by
  have h2 : x % 128 * 128 ^ k ≤ 127 * 128 ^ k := Nat.mul_le_mul_right _ (by omega)
  rw [Nat.pow_succ]
  omega
theorem pow128_cast (k : Nat) : ((128 ^ k : Nat) : Int) = 2 ^ (7 * k) := by rw [pow128]; simp
theorem step_val {k n x : Nat} (hk : k ≤ 9) (hx8 : x < 256) (hn : n < 128 ^ k) (hx : k = 9 → x ≤ 1) :
    IntKind.u64.wrap ((BitVec.ofInt IntKind.u64.bits (n : Int) ||| BitVec.ofInt IntKind.u64.bits (IntKind.u64.wrap (IntKind.u64.wrap (IntKind.u8.wrap ((BitVec.ofInt IntKind.u8.bits (x : Int) &&& BitVec.ofInt IntKind.u8.bits 127).toNat : Int)) *
      2 ^ min (IntKind.i64.wrap (7 * (k : Int))).toNat IntKind.u64.bits))).toNat : Int) = ((n + x % 128 * 128 ^ k : Nat) : Int) := by
  have hd := digit_lt hk hn hx
  have h9 := pow_le9 hk
  rw [show (127 : Int) = ((127 : Nat) : Int) from rfl, and8 _ _ hx8 (by omega), and127 _ hx8]
  have e1 : IntKind.u64.wrap ((x % 128 : Nat) : Int) = ((x % 128 : Nat) : Int) := wu64 (by omega)
  have e2 : IntKind.i64.wrap (7 * (k : Int)) = ((7 * k : Nat) : Int) := by rw [wi64 (by omega)]; omega
  have e3 : min (7 * k) IntKind.u64.bits = 7 * k := by show min (7 * k) 64 = 7 * k; omega
  rw [e1, e2, Int.toNat_natCast, e3, ← pow128_cast, ← Int.natCast_mul]
  have e4 : IntKind.u64.wrap ((x % 128 * 128 ^ k : Nat) : Int) = ((x % 128 * 128 ^ k : Nat) : Int) := wu64 (by omega)
  rw [e4, or64 _ _ (by omega) hd.1]
  congr 1
  rw [Nat.or_comm, pow128, ← Nat.shiftLeft_eq, ← Nat.shiftLeft_add_eq_or_of_lt (by rw [← pow128]; exact hn), Nat.add_comm]
theorem takeGo_step {r : List UInt8} {k n : Nat} (hk : k < r.length) : takeGo (r.drop k) k n =
    if (0 < k ∧ (r.getD k 0).toNat = 0) ∨ (k = 9 ∧ 1 < (r.getD k 0).toNat) then (0, 0, 3) else
    if (r.getD k 0).toNat < 128 then (n + (r.getD k 0).toNat % 128 * 128 ^ k, k + 1, 0) else takeGo (r.drop (k + 1)) (k + 1) (n + (r.getD k 0).toNat % 128 * 128 ^ k) := by
  rw [List.drop_eq_getElem_cons hk, takeGo, List.getD, List.getElem?_eq_getElem hk]
  rfl
theorem cond_take {k x : Nat} {b : Bool} (h : (decide ((k : Int) > 0) && (x : Int) == 0 || (k : Int) == 9 && decide ((x : Int) > 1)) = b) : ((0 < k ∧ x = 0) ∨ (k = 9 ∧ 1 < x)) ↔ b = true := by
  subst h
  simp
  omega

theorem Take_ok (b : List UInt8) (at_ : Int) (hb : b.length < 4611686018427387904) (hat : -9223372036854775808 ≤ at_ ∧ at_ ≤ 9223372036854775807) : Sat Try.prog 17 [.d false 1 encB 0 b, .v (.int .i64 at_)] [] (isT (takeB b at_)) := by
  refine Sat.of T_ok Try.func17 Try.call17 rfl rfl rfl ?_
  repeat' (first | constructor | intro _)
  all_goals try (first | exact sd rfl | exact sd ⟨rfl, by decide⟩)
  · rename_i hc
    have hc' : at_ < 0 ∨ (b.length : Int) < at_ := by simpa using hc
    simp [wrapRes, takeB, if_pos hc']
  · rename_i hc
    have hc' : ¬ (at_ < 0 ∨ (b.length : Int) < at_) := by simpa using hc
    rw [wi64 (by omega)]
    exact sd (by omega)
  · rename_i hc
    have hc' : ¬ (at_ < 0 ∨ (b.length : Int) < at_) := by simpa using hc
    have hT : takeB b at_ = ((takeGo (b.drop at_.toNat) 0 0).1, if (takeGo (b.drop at_.toNat) 0 0).2.2 = 0 then at_ + (takeGo (b.drop at_.toNat) 0 0).2.1 else 0, ((takeGo (b.drop at_.toNat) 0 0).2.2 : Int)) := by rw [takeB, if_neg hc']
    have e1 : IntKind.i64.wrap (at_ + 10) = at_ + 10 := wi64 (by omega)
    have e2 : List.drop at_.toNat (List.take (min (b.length : Int) (IntKind.i64.wrap (at_ + 10))).toNat b) = (b.drop at_.toNat).take 10 := by
      rw [e1, List.drop_take]
      by_cases h : (b.length : Int) ≤ at_ + 10
      · rw [List.take_of_length_le (by simp; omega), List.take_of_length_le (by simp; omega)]
      · congr 1; omega
    rw [e2]
    generalize hr : (b.drop at_.toNat).take 10 = r
    have hrl : r.length ≤ 10 := by rw [← hr]; simp; omega
    rw [← takeGo_take _ 0 0 (by omega), hr] at hT
    refine RunSem.loop T_ok (env0 := [(1, [], .v (.int .i64 at_)), (25, [], .d false 1 encB 0 r), (26, [], .v (.int .i64 r.length)), (27, [], .v (.int .i64 ((0 : Nat) : Int))), (7, [], .v (.int .u64 ((0 : Nat) : Int)))]) (sto0 := [])
      (fun m env sto => ∃ (k n : Nat), m = r.length - k ∧ k ≤ 9 ∧ k ≤ r.length ∧ n < 128 ^ k ∧ takeGo (r.drop k) k n = takeGo r 0 0 ∧
        env = [(1, [], .v (.int .i64 at_)), (25, [], .d false 1 encB 0 r), (26, [], .v (.int .i64 r.length)), (27, [], .v (.int .i64 k)), (7, [], .v (.int .u64 n))] ∧ sto = []) r.length ⟨0, 0, rfl, by omega, by omega, by omega, rfl, rfl, rfl⟩ ?_ ?_ ?_
    · repeat' constructor
    · repeat' constructor
    · rintro m env sto ⟨k, n, rfl, hk9, hk, hn, hg, rfl, rfl⟩
      repeat' (first | constructor | intro _)
      all_goals try (first | exact sd rfl | exact sd ⟨rfl, by decide⟩)
      · rename_i hlt
        exact sd (by simp at hlt; omega)
      · rename_i hlt hbad
        have hlt' : k < r.length := by simp at hlt; omega
        have hbad' := (cond_take hbad).2 rfl
        simp only [Int.toNat_natCast] at hbad'
        have e := takeGo_step (n := n) hlt'
        rw [if_pos hbad', hg] at e
        simp [wrapRes, hT, e]
      · exact sd (by rw [wi64 (by omega)]; omega)
      · rename_i hlt hbad hend
        have hlt' : k < r.length := by simp at hlt; omega
        have hbad' : ¬ _ := fun h => Bool.false_ne_true ((cond_take hbad).1 h)
        simp only [Int.toNat_natCast] at hbad' hend ⊢
        have hend' : (r.getD k 0).toNat < 128 := by have : ((r.getD k 0).toNat : Int) < 128 := by simpa using hend
                                                    omega
        have e := takeGo_step (n := n) hlt'
        rw [if_neg hbad', if_pos hend', hg] at e
        rw [step_val hk9 (UInt8.toNat_lt _) hn (by omega)]
        have e3 : IntKind.i64.wrap (IntKind.i64.wrap (at_ + k) + 1) = at_ + ((k + 1 : Nat) : Int) := by
          rw [wi64 (x := at_ + k) (by omega), wi64 (by omega)]; omega
        rw [e3]
        simp [wrapRes, hT, e]
      · rename_i hlt hbad hend
        have hlt' : k < r.length := by simp at hlt; omega
        have hbad' : ¬ _ := fun h => Bool.false_ne_true ((cond_take hbad).1 h)
        simp only [Int.toNat_natCast] at hbad' hend ⊢
        have hend' : ¬ (r.getD k 0).toNat < 128 := by have : ¬ ((r.getD k 0).toNat : Int) < 128 := by simpa using hend
                                                      omega
        have e := takeGo_step (n := n) hlt'
        rw [if_neg hbad', if_neg hend', hg] at e
        refine Again.mk (r.length - (k + 1)) (by omega) ⟨k + 1, n + (r.getD k 0).toNat % 128 * 128 ^ k, rfl, by omega, by omega, step_lt hn, e.symm, rfl, rfl⟩ ?_ ?_
        all_goals repeat' constructor
        · rw [wi64 (by omega)]; rfl
        · rw [step_val hk9 (UInt8.toNat_lt _) hn (by omega)]
      · rename_i hlt
        have hlt' : r.length = k := by simp at hlt; omega
        have e : takeGo (r.drop k) k n = (0, 0, 2) := by rw [← hlt', List.drop_length]; rfl
        rw [hg] at e
        simp [wrapRes, hT, e]
end Go.Proofs.Ytndjnchalihleaa
