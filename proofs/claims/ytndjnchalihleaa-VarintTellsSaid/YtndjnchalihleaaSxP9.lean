import Derived.Test.YtndjnchalihleaaSxP8
set_option linter.all false
namespace Go.Proofs.Ytndjnchalihleaa
open Go.Sx
attribute [local irreducible] RunSem AListSem Again Side IntKind.wrap

theorem takeGo_err : ∀ (r : List UInt8) (i n : Nat), (takeGo r i n).2.2 ≠ 0 → (takeGo r i n).1 = 0 ∧ ((takeGo r i n).2.2 = 2 ∨ (takeGo r i n).2.2 = 3)
  | [], i, n, h => by simp [takeGo]
  | x :: r, i, n, h => by
    rw [takeGo] at h ⊢
    split
    · simp
    · rename_i h1
      rw [if_neg h1] at h
      split
      · rename_i h2
        rw [if_pos h2] at h
        exact absurd rfl h
      · rename_i h2
        rw [if_neg h2] at h
        exact takeGo_err r _ _ h
theorem takeB_err (b : List UInt8) (p : Int) (hp : 0 ≤ p ∧ p ≤ b.length) (h : (takeB b p).2.2 ≠ 0) : (takeB b p).1 = 0 ∧ (takeB b p).2.1 = 0 ∧ ((takeB b p).2.2 = 2 ∨ (takeB b p).2.2 = 3) := by
  have hn : ¬ (p < 0 ∨ (b.length : Int) < p) := by omega
  rw [takeB, if_neg hn] at h ⊢
  have h' : (takeGo (b.drop p.toNat) 0 0).2.2 ≠ 0 := by simpa using h
  have := takeGo_err _ _ _ h'
  simp only [if_neg h']
  refine ⟨this.1, trivial, ?_⟩
  omega
theorem takeGo_inv : ∀ (r : List UInt8) (i n : Nat), i ≤ 9 → (takeGo r i n).2.2 = 0 → ∃ y, (takeGo r i n).1 = n + y * 128 ^ i ∧ (takeGo r i n).2.1 = i + (putN y).length ∧ r.take (putN y).length = putN y ∧ (0 < i → y ≠ 0)
  | [], i, n, h, he => by simp [takeGo] at he
  | x :: r, i, n, h, he => by
    have hx := UInt8.toNat_lt x
    rw [takeGo] at he ⊢
    split
    · rename_i h1
      rw [if_pos h1] at he
      simp at he
    · rename_i h1
      rw [if_neg h1] at he
      split
      · rename_i h2
        refine ⟨x.toNat, ?_, ?_, ?_, fun h => by omega⟩
        · rw [Nat.mod_eq_of_lt h2]
        · rw [putN_lt h2]; rfl
        · rw [putN_lt h2]; simp
      · rename_i h2
        rw [if_neg h2] at he
        obtain ⟨y, e1, e2, e3, e4⟩ := takeGo_inv r (i + 1) _ (by omega) he
        have hy := e4 (by omega)
        have hp : putN (x.toNat % 128 + 128 * y) = x :: putN y := by
          rw [putN_ge (by omega)]
          have a1 : (x.toNat % 128 + 128 * y) % 128 + 128 = x.toNat := by omega
          have a2 : (x.toNat % 128 + 128 * y) / 128 = y := by omega
          rw [a1, a2]
          simp
        refine ⟨x.toNat % 128 + 128 * y, ?_, ?_, ?_, fun _ => by omega⟩
        · rw [e1, Nat.add_mul, Nat.pow_succ, Nat.add_assoc]
          congr 2
          rw [Nat.mul_comm 128 y, Nat.mul_assoc, Nat.mul_comm 128]
        · rw [e2, hp, List.length_cons]; omega
        · rw [hp, List.length_cons, List.take_succ_cons, e3]
theorem takeB_inv (b : List UInt8) (p : Int) (h : (takeB b p).2.2 = 0) : (b.take (takeB b p).2.1.toNat).drop p.toNat = putN (takeB b p).1 := by
  have hp : ¬ (p < 0 ∨ (b.length : Int) < p) := by
    intro hp
    rw [takeB, if_pos hp] at h
    simp at h
  rw [takeB, if_neg hp] at h ⊢
  have h' : (takeGo (b.drop p.toNat) 0 0).2.2 = 0 := by simpa using h
  obtain ⟨y, e1, e2, e3, _⟩ := takeGo_inv _ _ _ (by omega) h'
  simp only [if_pos h']
  rw [e1, e2]
  have : (p + ((0 + (putN y).length : Nat) : Int)).toNat = p.toNat + (putN y).length := by omega
  rw [this, ← List.take_drop, e3]
  simp

theorem One_ok (b : List UInt8) (at_ : Int) (hat : -9223372036854775808 ≤ at_ ∧ at_ ≤ 9223372036854775807) : Sat Try.prog 5 [.d false 1 encB 0 b, .v (.int .i64 at_)] [] (isV (.bool true)) := by
  obtain ⟨h1, h2, -, h4, h5, h6⟩ := takeB_facts b at_
  refine Sat.of T_ok Try.func5 Try.call5 rfl rfl rfl ?_
  repeat' (first | constructor | intro _)
  all_goals try (first | exact sd rfl | exact sd ⟨rfl, by decide⟩)
  apply RunSem.lend T_ok awake_ok (fun v => ⟨rfl, rfl⟩)
  all_goals repeat' (first | constructor | intro _)
  all_goals try (first | exact sd rfl | exact sd ⟨rfl, by decide⟩)
  rename_i hc
  have hc' : b.length ≤ 400 ∧ 0 ≤ at_ ∧ at_ ≤ b.length := by simp at hc; omega
  apply RunSem.lend T_ok (Take_ok b at_ (by omega) hat) (fun v => ⟨rfl, rfl⟩)
  all_goals repeat' (first | constructor | intro _)
  all_goals try (first | exact sd rfl | exact sd ⟨rfl, by decide⟩)
  · rename_i he
    have he' : (takeB b at_).2.2 ≠ 0 := by simpa using he
    obtain ⟨e1, e2, e3⟩ := takeB_err b at_ hc'.2 he'
    refine congrArg (fun b => AV.v (.bool b)) ?_
    rw [e1, e2]
    simp [e3]
  · rename_i he hbad
    have he' : (takeB b at_).2.2 = 0 := by simpa using he
    have h2' := h2 he'
    exfalso
    rw [wi64 (by omega)] at hbad
    simp at hbad
    omega
  · rename_i he hbad
    have he' : (takeB b at_).2.2 = 0 := by simpa using he
    have h2' := h2 he'
    have hinv := takeB_inv b at_ he'
    have hpl : putL [(takeB b at_).1] = putN (takeB b at_).1 := by simp [putL]
    have hlen := putN_len (takeB b at_).1 h1
    have hS : Fun1 Try.prog 8 [.d false 1 encB 0 (putL [(takeB b at_).1]), .d false 1 encB 0 ((b.take (takeB b at_).2.1.toNat).drop at_.toNat)] (.v (.bool true)) := by
      have := isV_fun (Same_ok (putN (takeB b at_).1) (putN (takeB b at_).1) (by omega))
      rw [hinv, hpl]
      simpa using this
    refine RunSem.drawBy T_ok mix 9 (by kernel_rfl) ?_
    repeat' (first | constructor | intro _)
    all_goals try (first | exact sd rfl | exact sd (by omega) | exact sd ⟨rfl, by decide⟩)
    apply AListSem.lit T_ok encU 0 [(takeB b at_).1]
    all_goals repeat' (first | constructor | intro _)
    all_goals try (first | exact sd rfl | exact sd (by omega) | exact sd ⟨rfl, by decide⟩)
    apply AListSem.call T_ok (lend := true) (Sat.freeze (Put_ok [(takeB b at_).1] (by simpa using h1) (by simp))) (fun _ => rfl)
    all_goals repeat' (first | constructor | intro _)
    all_goals try (first | exact sd rfl | exact sd (by omega) | exact sd ⟨rfl, by decide⟩)
    apply AListSem.call T_ok (lend := true) hS (fun _ => rfl)
    all_goals repeat' (first | constructor | intro _)
    all_goals try (first | exact sd rfl | exact sd (by omega) | exact sd ⟨rfl, by decide⟩)
end Go.Proofs.Ytndjnchalihleaa
