import Derived.Test.YtndjnchalihleaaSxTab1
set_option linter.all false
namespace Go.Proofs.Ytndjnchalihleaa
open Go.Sx
attribute [local irreducible] RunSem AListSem Again Side IntKind.wrap
theorem mix : Try.prog.follows .mixedOrders = true := by kernel_rfl

def putN (n : Nat) : List UInt8 := if n < 128 then [UInt8.ofNat n] else UInt8.ofNat (n % 128 + 128) :: putN (n / 128)
  termination_by n
  decreasing_by omega

theorem putN_lt {n : Nat} (h : n < 128) : putN n = [UInt8.ofNat n] := by rw [putN, if_pos h]
theorem putN_ge {n : Nat} (h : 128 ≤ n) : putN n = UInt8.ofNat (n % 128 + 128) :: putN (n / 128) := by rw [putN, if_neg (by omega)]

def bytesAre (l : List UInt8) : AV → Sto → Prop := Gives (fun v => .o v) (fun v => [.row v true 5 1 encB 0 l]) (fun _ => True)

theorem putN_len (n : Nat) : n < 18446744073709551616 → (putN n).length ≤ 10 := by
  have h : ∀ (k n : Nat), n < 128 ^ k → 0 < k → (putN n).length ≤ k := by
    intro k
    induction k with
    | zero => intro n _ h; omega
    | succ k ih =>
      intro n hn _
      rcases Nat.lt_or_ge n 128 with h | h
      · rw [putN_lt h]; simp
      · rw [putN_ge h]
        have hk : 0 < k := by
          rcases Nat.eq_zero_or_pos k with h0 | h0
          · subst h0; omega
          · exact h0
        have := ih (n / 128) (by rw [Nat.pow_succ] at hn; omega) hk
        simp; omega
  exact fun hn => h 10 n (by omega) (by omega)

theorem refPut_ok (n : Nat) (h : n < 18446744073709551616) : Sat Try.prog 24 [.v (.int .u64 (n : Int))] [] (bytesAre (putN n)) := by
  induction n using Nat.strongRecOn with
  | _ n ih =>
  refine Sat.of T_ok Try.func24 Try.call24 rfl rfl rfl ?_
  repeat' (first | constructor | intro _)
  all_goals try (first | exact sd rfl | exact sd ⟨rfl, by decide⟩)
  · rename_i hn
    have hn' : n < 128 := by have : (n : Int) < 128 := by simpa using hn
                             omega
    apply RunSem.lit T_ok encB 0 [UInt8.ofNat n]
    all_goals repeat' (first | constructor | intro _)
    · simp [litL, encB, b8]
    · exact (putN_lt hn').symm
  · rename_i hn
    have hn' : 128 ≤ n := by have : ¬ (n : Int) < 128 := by simpa using hn
                             omega
    have e1 : (n : Int).tmod 128 = ((n % 128 : Nat) : Int) := by rw [Int.tmod_eq_emod_of_nonneg (by omega)]; omega
    have e2 : (n : Int).tdiv 128 = ((n / 128 : Nat) : Int) := by rw [Int.tdiv_eq_ediv_of_nonneg (by omega)]; omega
    apply RunSem.lit T_ok encB 0 [UInt8.ofNat (n % 128 + 128)]
    all_goals repeat' (first | constructor | intro _)
    all_goals try (first | exact sd rfl | exact sd ⟨rfl, by decide⟩)
    · rw [e1, wu8 (x := ((n % 128 : Nat) : Int)) (by omega)]
      simp [litL, encB, IntKind.wrap_u8']
    · rw [e2, wu64 (by omega)]
      apply RunSem.call T_ok (ih (n / 128) (by omega) (by omega))
      all_goals repeat' (first | constructor | intro _)
      · have := putN_len (n / 128) (by omega)
        exact sd (by simp; omega)
      · rw [putN_ge hn']; rfl
end Go.Proofs.Ytndjnchalihleaa
