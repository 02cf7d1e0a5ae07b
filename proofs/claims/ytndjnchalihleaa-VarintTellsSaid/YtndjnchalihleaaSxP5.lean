import Derived.Test.YtndjnchalihleaaSxP4
set_option linter.all false
namespace Go.Proofs.Ytndjnchalihleaa
open Go.Sx
attribute [local irreducible] RunSem AListSem Again Side IntKind.wrap

theorem drop_get (b : List UInt8) (a k : Nat) : (b.drop a).getD k 0 = b.getD (a + k) 0 := by simp [List.getD]

theorem step_val' {k n x : Nat} (hk : k ≤ 9) (hn : n < 128 ^ k) (hx : k = 9 → x ≤ 1) :
    IntKind.u64.wrap ((n : Int) + IntKind.u64.wrap (IntKind.u64.wrap ((x : Int).tmod 128) * ((128 ^ k : Nat) : Int))) = ((n + x % 128 * 128 ^ k : Nat) : Int) := by
  have hd := digit_lt hk hn hx
  have e0 : (x : Int).tmod 128 = ((x % 128 : Nat) : Int) := rfl
  have e1 : IntKind.u64.wrap ((x % 128 : Nat) : Int) = ((x % 128 : Nat) : Int) := wu64 (by omega)
  have e4 : IntKind.u64.wrap ((x % 128 * 128 ^ k : Nat) : Int) = ((x % 128 * 128 ^ k : Nat) : Int) := wu64 (by omega)
  rw [e0, e1, ← Int.natCast_mul, e4, ← Int.natCast_add]
  exact wu64 (by omega)

theorem refTake_ok (b : List UInt8) (at_ : Int) (hb : b.length < 4611686018427387904) (hat : -9223372036854775808 ≤ at_ ∧ at_ ≤ 9223372036854775807) : Sat Try.prog 19 [.d false 1 encB 0 b, .v (.int .i64 at_)] [] (isT (takeB b at_)) := by
  refine Sat.of T_ok Try.func19 Try.call19 rfl rfl rfl ?_
  repeat' (first | constructor | intro _)
  all_goals try (first | exact sd rfl | exact sd ⟨rfl, by decide⟩)
  · rename_i hc
    have hc' : at_ < 0 ∨ (b.length : Int) < at_ := by simpa using hc
    simp [wrapRes, takeB, if_pos hc']
  · rename_i hc
    have hc' : ¬ (at_ < 0 ∨ (b.length : Int) < at_) := by simpa using hc
    have hT : takeB b at_ = ((takeGo (b.drop at_.toNat) 0 0).1, if (takeGo (b.drop at_.toNat) 0 0).2.2 = 0 then at_ + (takeGo (b.drop at_.toNat) 0 0).2.1 else 0, ((takeGo (b.drop at_.toNat) 0 0).2.2 : Int)) := by rw [takeB, if_neg hc']
    obtain ⟨p, rfl⟩ := Int.eq_ofNat_of_zero_le (show 0 ≤ at_ by omega)
    have hp : p ≤ b.length := by omega
    rw [Int.toNat_natCast] at hT
    generalize hr : b.drop p = r at hT
    have hrl : r.length = b.length - p := by rw [← hr]; simp
    refine RunSem.loop T_ok (env0 := [(0, [], .d false 1 encB 0 b), (1, [], .v (.int .i64 (p : Int))), (9, [], .v (.int .i64 ((0 : Nat) : Int))), (8, [], .v (.int .u64 ((128 ^ 0 : Nat) : Int))), (7, [], .v (.int .u64 ((0 : Nat) : Int)))]) (sto0 := [])
      (fun m env sto => ∃ (k n : Nat), m = r.length - k ∧ k ≤ 9 ∧ k ≤ r.length ∧ n < 128 ^ k ∧ takeGo (r.drop k) k n = takeGo r 0 0 ∧
        env = [(0, [], .d false 1 encB 0 b), (1, [], .v (.int .i64 (p : Int))), (9, [], .v (.int .i64 k)), (8, [], .v (.int .u64 ((128 ^ k : Nat) : Int))), (7, [], .v (.int .u64 n))] ∧ sto = []) r.length ⟨0, 0, rfl, by omega, by omega, by omega, rfl, rfl, rfl⟩ ?_ ?_ ?_
    · repeat' constructor
    · repeat' constructor
    · rintro m env sto ⟨k, n, rfl, hk9, hk, hn, hg, rfl, rfl⟩
      have hw : IntKind.i64.wrap ((p : Int) + (k : Int)) = ((p + k : Nat) : Int) := by rw [wi64 (by omega)]; omega
      have hget := drop_get b p k
      rw [hr] at hget
      repeat' (first | constructor | intro _)
      all_goals try (first | exact sd rfl | exact sd ⟨rfl, by decide⟩)
      · rename_i hlt
        rw [hw] at hlt ⊢
        exact sd (by simp at hlt; omega)
      · rename_i hlt hbad
        rw [hw] at hlt hbad
        have hlt' : k < r.length := by simp at hlt; omega
        have hbad' := (cond_take hbad).2 rfl
        simp only [Int.toNat_natCast, ← hget] at hbad'
        have e := takeGo_step (n := n) hlt'
        rw [if_pos hbad', hg] at e
        simp [wrapRes, hT, e]
      · rename_i hlt hbad hend
        rw [hw] at hlt hbad hend ⊢
        have hlt' : k < r.length := by simp at hlt; omega
        have hbad' : ¬ _ := fun h => Bool.false_ne_true ((cond_take hbad).1 h)
        simp only [Int.toNat_natCast, ← hget] at hbad' hend ⊢
        have hend' : (r.getD k 0).toNat < 128 := by have : ((r.getD k 0).toNat : Int) < 128 := by simpa using hend
                                                    omega
        have e := takeGo_step (n := n) hlt'
        rw [if_neg hbad', if_pos hend', hg] at e
        rw [step_val' hk9 hn (by omega)]
        have e3 : IntKind.i64.wrap (((p + k : Nat) : Int) + 1) = (p : Int) + ((k + 1 : Nat) : Int) := by
          rw [wi64 (by omega)]; omega
        rw [e3]
        simp [wrapRes, hT, e]
      · rename_i hlt hbad hend
        rw [hw] at hlt hbad hend
        have hlt' : k < r.length := by simp at hlt; omega
        have hbad' : ¬ _ := fun h => Bool.false_ne_true ((cond_take hbad).1 h)
        simp only [Int.toNat_natCast, ← hget] at hbad' hend
        have hend' : ¬ (r.getD k 0).toNat < 128 := by have : ¬ ((r.getD k 0).toNat : Int) < 128 := by simpa using hend
                                                      omega
        have e := takeGo_step (n := n) hlt'
        rw [if_neg hbad', if_neg hend', hg] at e
        refine Again.mk (r.length - (k + 1)) (by omega) ⟨k + 1, n + (r.getD k 0).toNat % 128 * 128 ^ k, rfl, by omega, by omega, step_lt hn, e.symm, rfl, rfl⟩ ?_ ?_
        all_goals repeat' constructor
        · rw [wi64 (by omega)]; rfl
        · have h9 := pow_le9 (show k + 1 ≤ 9 by omega)
          rw [Nat.pow_succ] at h9 ⊢
          rw [wu64 (by omega)]; rfl
        · rw [hw, Int.toNat_natCast, ← hget, step_val' hk9 hn (by omega)]
      · rename_i hlt
        rw [hw] at hlt
        have hlt' : r.length = k := by simp at hlt; omega
        have e : takeGo (r.drop k) k n = (0, 0, 2) := by rw [← hlt', List.drop_length]; rfl
        rw [hg] at e
        simp [wrapRes, hT, e]

theorem takeGo_facts : ∀ (r : List UInt8) (i n : Nat), i ≤ 9 → n < 128 ^ i → (takeGo r i n).1 < 18446744073709551616 ∧ ((takeGo r i n).2.2 = 0 → i < (takeGo r i n).2.1 ∧ (takeGo r i n).2.1 ≤ 10 ∧ (takeGo r i n).2.1 ≤ i + r.length) ∧ (takeGo r i n).2.2 ≤ 3
  | [], i, n, h, hn => by simp [takeGo]
  | x :: r, i, n, h, hn => by
    rw [takeGo]
    split
    · simp
    · rename_i h1
      have hx : i = 9 → x.toNat ≤ 1 := by omega
      have hd := (digit_lt h hn hx).2
      split
      · simp only [List.length_cons]; exact ⟨hd, fun _ => by omega, by omega⟩
      · rename_i h2
        have := takeGo_facts r (i + 1) (n + x.toNat % 128 * 128 ^ i) (by omega) (step_lt hn)
        simp only [List.length_cons]
        exact ⟨this.1, fun h => by have := this.2.1 h; omega, this.2.2⟩
theorem takeB_facts (b : List UInt8) (at_ : Int) : (takeB b at_).1 < 18446744073709551616 ∧ ((takeB b at_).2.2 = 0 → 0 ≤ at_ ∧ at_ < (takeB b at_).2.1 ∧ (takeB b at_).2.1 ≤ b.length ∧ (takeB b at_).2.1 ≤ at_ + 10) ∧ ((takeB b at_).2.2 ≠ 0 → (takeB b at_).1 = 0 ∧ (takeB b at_).2.1 = 0 → True) ∧ 0 ≤ (takeB b at_).2.2 ∧ (takeB b at_).2.2 ≤ 3 ∧ 0 ≤ (takeB b at_).2.1 := by
  unfold takeB
  split
  · simp
  · rename_i h
    have := takeGo_facts (b.drop at_.toNat) 0 0 (by omega) (by omega)
    simp only [List.length_drop] at this
    refine ⟨this.1, fun h0 => ?_, fun _ _ => trivial, by simp, by simp; omega, ?_⟩
    · have h1 : (takeGo (b.drop at_.toNat) 0 0).2.2 = 0 := by simpa using h0
      have := this.2.1 h1
      simp only [if_pos h1]
      omega
    · simp only
      split <;> omega
end Go.Proofs.Ytndjnchalihleaa
