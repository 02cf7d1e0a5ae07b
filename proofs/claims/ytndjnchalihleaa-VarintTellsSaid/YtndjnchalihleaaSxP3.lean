import Derived.Test.YtndjnchalihleaaSxP2
set_option linter.all false
namespace Go.Proofs.Ytndjnchalihleaa
open Go.Sx
attribute [local irreducible] RunSem AListSem Again Side IntKind.wrap

theorem Bytes_ok (s : ByteArray) (h : s.size < 4611686018427387904) (hs : s.size ≤ 1099511627776) : Sat Try.prog 11 [.v (.string s)] [] (bytesAre (putN s.size ++ s.data.toList)) := by
  have h0 := putN_len s.size (by omega)
  refine Sat.of T_ok Try.func11 Try.call11 rfl rfl rfl ?_
  repeat' (first | constructor | intro _)
  all_goals try (first | exact sd rfl | exact sd ⟨rfl, by decide⟩)
  apply RunSem.lit T_ok encU 0 [s.size]
  all_goals repeat' (first | constructor | intro _)
  all_goals try (first | exact sd rfl | exact sd ⟨rfl, by decide⟩)
  · rw [wu64 (by omega)]; rfl
  · apply RunSem.lend T_ok (Put_ok [s.size] (by simp; omega) (by simp)) (fun v => ⟨rfl, rfl⟩)
    all_goals repeat' (first | constructor | intro _)
    all_goals try (first | exact sd rfl | exact sd ⟨rfl, by decide⟩)
    · exact sd (by
        have : s.data.toList.length = s.size := rfl
        simp only [putL, List.flatMap_cons, List.flatMap_nil, List.append_nil]
        rw [this]
        show _ * 1 ≤ _
        omega)
    · simp [putL]

theorem refBytes_ok (s : ByteArray) (hs : s.size ≤ 1099511627776) : Sat Try.prog 12 [.v (.string s)] [] (bytesAre (putN s.size ++ s.data.toList)) := by
  have h0 := putN_len s.size (by omega)
  refine Sat.of T_ok Try.func12 Try.call12 rfl rfl rfl ?_
  repeat' (first | constructor | intro _)
  rw [wu64 (by omega)]
  apply RunSem.call T_ok (refPut_ok s.size (by omega))
  all_goals repeat' (first | constructor | intro _)
  · exact sd (by
      have : s.data.toList.length = s.size := rfl
      rw [this]
      show _ * 1 ≤ _
      omega)

def zigN (n : Int) : Nat := if 0 ≤ n then (2 * n).toNat else (-2 * n - 1).toNat
def zagN (x : Nat) : Int := if x % 2 = 0 then ((x / 2 : Nat) : Int) else -((x / 2 : Nat) : Int) - 1
theorem zigN_lt (n : Int) (h : -9223372036854775808 ≤ n ∧ n ≤ 9223372036854775807) : zigN n < 18446744073709551616 := by unfold zigN; split <;> omega
theorem zag_zig (n : Int) : zagN (zigN n) = n := by unfold zagN zigN; split <;> split <;> omega

theorem refZig_ok (n : Int) (h : -9223372036854775808 ≤ n ∧ n ≤ 9223372036854775807) : Sat Try.prog 14 [.v (.int .i64 n)] [] (isV (.int .u64 (zigN n))) := by
  refine Sat.of T_ok Try.func14 Try.call14 rfl rfl rfl ?_
  repeat' (first | constructor | intro _)
  all_goals try (first | exact sd rfl | exact sd ⟨rfl, by decide⟩)
  · rename_i hn
    have hn' : 0 ≤ n := by simpa using hn
    simp only [wrapRes, zigN, if_pos hn', IntKind.wrap_u64]
    congr 2
    omega
  · rename_i hn
    have hn' : ¬ 0 ≤ n := by simpa using hn
    simp only [wrapRes, zigN, if_neg hn', IntKind.wrap_u64, IntKind.wrap_i64]
    congr 2
    omega
theorem refZag_ok (n : Nat) (h : n < 18446744073709551616) : Sat Try.prog 16 [.v (.int .u64 (n : Int))] [] (isV (.int .i64 (zagN n))) := by
  refine Sat.of T_ok Try.func16 Try.call16 rfl rfl rfl ?_
  have e1 : (n : Int).tdiv 2 = ((n / 2 : Nat) : Int) := rfl
  have e2 : (n : Int).tmod 2 = ((n % 2 : Nat) : Int) := rfl
  repeat' (first | constructor | intro _)
  all_goals try (first | exact sd rfl | exact sd ⟨rfl, by decide⟩)
  · rename_i hn
    have hn' : n % 2 = 0 := by have : (n : Int).tmod 2 = 0 := by simpa using hn
                               omega
    refine vEq ?_
    rw [e1, zagN, if_pos hn']
    simp only [IntKind.wrap_u64, IntKind.wrap_i64]
    omega
  · rename_i hn
    have hn' : ¬ n % 2 = 0 := by have : ¬ (n : Int).tmod 2 = 0 := by simpa using hn
                                 omega
    refine vEq ?_
    rw [e1, zagN, if_neg hn']
    simp only [IntKind.wrap_u64, IntKind.wrap_i64]
    omega

theorem Zig_ok (n : Int) (h : -9223372036854775808 ≤ n ∧ n ≤ 9223372036854775807) : Sat Try.prog 13 [.v (.int .i64 n)] [] (isV (.int .u64 (zigN n))) := by
  refine Sat.of T_ok Try.func13 Try.call13 rfl rfl rfl ?_
  repeat' (first | constructor | intro _)
  all_goals try (first | exact sd rfl | exact sd ⟨rfl, by decide⟩)
  · exact sd (by decide)
  · exact sd (by decide)
  · have e1 : (2 : Int) ^ min (Int.toNat 1) IntKind.u64.bits = 2 := rfl
    have e2 : (2 : Int) ^ min (Int.toNat 63) IntKind.i64.bits = 9223372036854775808 := rfl
    have e3 : IntKind.u64.bits = 64 := rfl
    rw [e1, e2, Int.fdiv_eq_ediv_of_nonneg _ (by omega)]
    refine vEq ?_
    rw [e3]
    rcases Int.lt_or_le n 0 with hn | hn
    · have e4 : IntKind.u64.wrap (n / 9223372036854775808) = 18446744073709551615 := by rw [IntKind.wrap_u64]; omega
      rw [e4, xor64_ones _ _ ones_max, BitVec.toNat_ofInt, zigN, if_neg (by omega)]
      simp only [IntKind.wrap_u64]
      omega
    · have e4 : IntKind.u64.wrap (n / 9223372036854775808) = 0 := by rw [IntKind.wrap_u64]; omega
      rw [e4, xor64_zero, BitVec.toNat_ofInt, zigN, if_pos hn]
      simp only [IntKind.wrap_u64]
      omega
theorem Zag_ok (n : Nat) (h : n < 18446744073709551616) : Sat Try.prog 15 [.v (.int .u64 (n : Int))] [] (isV (.int .i64 (zagN n))) := by
  refine Sat.of T_ok Try.func15 Try.call15 rfl rfl rfl ?_
  repeat' (first | constructor | intro _)
  all_goals try (first | exact sd rfl | exact sd ⟨rfl, by decide⟩)
  · exact sd (by decide)
  · have e1 : (2 : Int) ^ min (Int.toNat 1) IntKind.u64.bits = ((2 : Nat) : Int) := rfl
    have e3 : IntKind.u64.bits = 64 := rfl
    have e5 : IntKind.i64.bits = 64 := rfl
    rw [e1, fdivN, e3, e5, and64_one n h]
    refine vEq ?_
    have e6 : IntKind.i64.wrap ((n / 2 : Nat) : Int) = ((n / 2 : Nat) : Int) := wi64 (by omega)
    have e7 : (BitVec.ofInt 64 ((n / 2 : Nat) : Int)).toNat = n / 2 := by rw [ofInt64N _ (by omega)]; rfl
    rw [e6]
    rcases Nat.mod_two_eq_zero_or_one n with hn | hn
    · have e4 : IntKind.i64.wrap (0 - IntKind.i64.wrap (IntKind.u64.wrap ((n % 2 : Nat) : Int))) = 0 := by
        rw [hn, show IntKind.u64.wrap ((0 : Nat) : Int) = 0 from wu64 (by omega), show IntKind.i64.wrap 0 = 0 from wi64 (by omega)]
        exact wi64 (by omega)
      rw [e4, xor64_zero, e7, e6, zagN, if_pos hn]
    · have e4 : IntKind.i64.wrap (0 - IntKind.i64.wrap (IntKind.u64.wrap ((n % 2 : Nat) : Int))) = -1 := by
        rw [hn, show IntKind.u64.wrap ((1 : Nat) : Int) = 1 from wu64 (by omega), show IntKind.i64.wrap 1 = 1 from wi64 (by omega)]
        exact wi64 (by omega)
      rw [e4, xor64_ones _ _ ones_neg, e7, zagN, if_neg (by omega), IntKind.wrap_i64]
      have : ((18446744073709551615 - n / 2 : Nat) : Int) = 18446744073709551615 - ((n / 2 : Nat) : Int) := by omega
      rw [this]
      have hx : 0 ≤ ((n / 2 : Nat) : Int) ∧ ((n / 2 : Nat) : Int) ≤ 9223372036854775807 := by omega
      generalize ((n / 2 : Nat) : Int) = x at hx ⊢
      omega
end Go.Proofs.Ytndjnchalihleaa
