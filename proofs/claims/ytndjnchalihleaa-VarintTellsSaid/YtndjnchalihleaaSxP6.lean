import Derived.Test.YtndjnchalihleaaSxP5
set_option linter.all false
namespace Go.Proofs.Ytndjnchalihleaa
open Go.Sx
attribute [local irreducible] RunSem AListSem Again Side IntKind.wrap

def textB (b : List UInt8) (at_ : Int) : List UInt8 × Int × Int :=
  let p := takeB b at_
  if p.2.2 ≠ 0 then ([], 0, p.2.2) else if (b.length : Int) - p.2.1 < p.1 then ([], 0, 2) else ((b.take (p.2.1.toNat + p.1)).drop p.2.1.toNat, p.2.1 + p.1, 0)
def isS (p : List UInt8 × Int × Int) : AV → Sto → Prop := Gives (ι := Unit) (fun _ => .t [.v (.string ⟨p.1.toArray⟩), .v (.int .i64 p.2.1), .v (.int .i64 p.2.2)]) (fun _ => []) (fun _ => True)

theorem Text_ok (b : List UInt8) (at_ : Int) (hb : b.length < 4611686018427387904) (hat : -9223372036854775808 ≤ at_ ∧ at_ ≤ 9223372036854775807) : Sat Try.prog 18 [.d false 1 encB 0 b, .v (.int .i64 at_)] [] (isS (textB b at_)) := by
  obtain ⟨h1, h2, -, h4, h5, h6⟩ := takeB_facts b at_
  refine Sat.of T_ok Try.func18 Try.call18 rfl rfl rfl ?_
  repeat' (first | constructor | intro _)
  all_goals try (first | exact sd rfl | exact sd ⟨rfl, by decide⟩)
  apply RunSem.call T_ok (Take_ok b at_ hb hat)
  all_goals repeat' (first | constructor | intro _)
  all_goals try (first | exact sd rfl | exact sd ⟨rfl, by decide⟩)
  · rename_i he
    have he' : (takeB b at_).2.2 ≠ 0 := by simpa using he
    simp [wrapRes, textB, if_pos he']
  · rename_i he hr
    have he' : ¬ (takeB b at_).2.2 ≠ 0 := by simpa using he
    have h2' := h2 (by simpa using he')
    rw [wi64 (by omega), wu64 (by omega)] at hr
    have hr' : (b.length : Int) - (takeB b at_).2.1 < (takeB b at_).1 := by simpa using hr
    simp only [textB, if_neg he', if_pos hr']
    rfl
  · rename_i he hr
    have he' : ¬ (takeB b at_).2.2 ≠ 0 := by simpa using he
    have h2' := h2 (by simpa using he')
    rw [wi64 (by omega), wu64 (by omega)] at hr
    have hr' : ¬ (b.length : Int) - (takeB b at_).2.1 < (takeB b at_).1 := by simpa using hr
    rw [wi64 (x := ((takeB b at_).1 : Int)) (by omega), wi64 (by omega)]
    exact sd (by omega)
  · rename_i he hr
    have he' : ¬ (takeB b at_).2.2 ≠ 0 := by simpa using he
    have h2' := h2 (by simpa using he')
    rw [wi64 (by omega), wu64 (by omega)] at hr
    have hr' : ¬ (b.length : Int) - (takeB b at_).2.1 < (takeB b at_).1 := by simpa using hr
    have e1 : ((takeB b at_).2.1 + ((takeB b at_).1 : Int)).toNat = (takeB b at_).2.1.toNat + (takeB b at_).1 := by omega
    rw [wi64 (x := ((takeB b at_).1 : Int)) (by omega), wi64 (by omega), e1]
    simp only [textB, if_neg he', if_neg hr']
    rfl
theorem refText_ok (b : List UInt8) (at_ : Int) (hb : b.length < 4611686018427387904) (hat : -9223372036854775808 ≤ at_ ∧ at_ ≤ 9223372036854775807) : Sat Try.prog 22 [.d false 1 encB 0 b, .v (.int .i64 at_)] [] (isS (textB b at_)) := by
  obtain ⟨h1, h2, -, h4, h5, h6⟩ := takeB_facts b at_
  refine Sat.of T_ok Try.func22 Try.call22 rfl rfl rfl ?_
  repeat' (first | constructor | intro _)
  all_goals try (first | exact sd rfl | exact sd ⟨rfl, by decide⟩)
  apply RunSem.call T_ok (refTake_ok b at_ hb hat)
  all_goals repeat' (first | constructor | intro _)
  all_goals try (first | exact sd rfl | exact sd ⟨rfl, by decide⟩)
  · rename_i he
    have he' : (takeB b at_).2.2 ≠ 0 := by simpa using he
    simp [wrapRes, textB, if_pos he']
  · rename_i he hr
    have he' : ¬ (takeB b at_).2.2 ≠ 0 := by simpa using he
    have h2' := h2 (by simpa using he')
    rw [wi64 (by omega), wu64 (by omega)] at hr
    have hr' : (b.length : Int) - (takeB b at_).2.1 < (takeB b at_).1 := by simpa using hr
    simp only [textB, if_neg he', if_pos hr']
    rfl
  · rename_i he hr
    have he' : ¬ (takeB b at_).2.2 ≠ 0 := by simpa using he
    have h2' := h2 (by simpa using he')
    rw [wi64 (by omega), wu64 (by omega)] at hr
    have hr' : ¬ (b.length : Int) - (takeB b at_).2.1 < (takeB b at_).1 := by simpa using hr
    rw [wi64 (x := ((takeB b at_).1 : Int)) (by omega), wi64 (by omega)]
    exact sd (by omega)
  · rename_i he hr
    have he' : ¬ (takeB b at_).2.2 ≠ 0 := by simpa using he
    have h2' := h2 (by simpa using he')
    rw [wi64 (by omega), wu64 (by omega)] at hr
    have hr' : ¬ (b.length : Int) - (takeB b at_).2.1 < (takeB b at_).1 := by simpa using hr
    have e1 : ((takeB b at_).2.1 + ((takeB b at_).1 : Int)).toNat = (takeB b at_).2.1.toNat + (takeB b at_).1 := by omega
    rw [wi64 (x := ((takeB b at_).1 : Int)) (by omega), wi64 (by omega), e1]
    simp only [textB, if_neg he', if_neg hr']
    rfl

/-- Numbers that stand one behind the other. -/
def manyGo (b : List UInt8) (most : Nat) : Nat → Int → List Int → List Int × Int × Int
  | 0, p, out => (out, p, 0)
  | m + 1, p, out => if (takeB b p).2.2 ≠ 0 then ([], 0, (takeB b p).2.2) else if min most 2147483647 < (takeB b p).1 then ([], 0, 4) else manyGo b most m (takeB b p).2.1 (out ++ [((takeB b p).1 : Int)])
def manyB (b : List UInt8) (p many : Int) (most : Nat) : List Int × Int × Int :=
  if p < 0 ∨ (b.length : Int) < p ∨ many < 0 ∨ 100000 < many then ([], 0, 1) else manyGo b most many.toNat p []

def isM (p : List Int × Int × Int) : AV → Sto → Prop := Gives (ι := Option Value)
  (fun | none => .t [.v (.slice none 0 0), .v (.int .i64 p.2.1), .v (.int .i64 p.2.2)] | some v => .t [.o v, .v (.int .i64 p.2.1), .v (.int .i64 p.2.2)])
  (fun | none => [] | some v => [.row v true 3 1 (encI .i64) 0 p.1]) (fun | none => p.1 = [] | some _ => True)

theorem manyGo_step (b : List UInt8) (most m : Nat) (p : Int) (out : List Int) : manyGo b most (m + 1) p out = if (takeB b p).2.2 ≠ 0 then ([], 0, (takeB b p).2.2) else if min most 2147483647 < (takeB b p).1 then ([], 0, 4) else manyGo b most m (takeB b p).2.1 (out ++ [((takeB b p).1 : Int)]) := rfl

section
attribute [local irreducible] Sx.Ends
theorem Many_ok (b : List UInt8) (at_ many : Int) (most : Nat) (hb : b.length < 4611686018427387904) (hat : -9223372036854775808 ≤ at_ ∧ at_ ≤ 9223372036854775807) (hmost : most < 18446744073709551616) :
    Sat Try.prog 20 [.d false 1 encB 0 b, .v (.int .i64 at_), .v (.int .i64 many), .v (.int .u64 (most : Int))] [] (isM (manyB b at_ many most)) := by
  refine Sat.of T_ok Try.func20 Try.call20 rfl rfl rfl ?_
  repeat' (first | constructor | intro _)
  all_goals try (first | exact sd rfl | exact sd ⟨rfl, by decide⟩)
  · rename_i hc
    have hc' : at_ < 0 ∨ (b.length : Int) < at_ ∨ many < 0 ∨ 100000 < many := by simp at hc; omega
    apply Sx.Ends.by none
    all_goals repeat' (first | constructor | intro _)
    · simp [wrapRes, manyB, if_pos hc']
    · simp [manyB, if_pos hc']
  · rename_i hc
    have hc' : ¬ (at_ < 0 ∨ (b.length : Int) < at_ ∨ many < 0 ∨ 100000 < many) := by simp at hc; omega
    have hM : manyB b at_ many most = manyGo b most many.toNat at_ [] := by rw [manyB, if_neg hc']
    obtain ⟨m, rfl⟩ := Int.eq_ofNat_of_zero_le (show 0 ≤ many by omega)
    rw [Int.toNat_natCast] at hM
    refine RunSem.loop T_ok (env0 := [(0, [], .d false 1 encB 0 b), (1, [], .v (.int .i64 at_)), (3, [], .v (.int .u64 (most : Int))), (11, [], .o (.slice none 0 0)), (31, [], .v (.int .i64 (m : Int))), (32, [], .v (.int .i64 ((0 : Nat) : Int)))]) (sto0 := [.row (.slice none 0 0) true 3 1 (encI .i64) 0 []])
      (fun q env sto => ∃ (k : Nat) (p : Int) (out : List Int) (v : Value), q = m - k ∧ k ≤ m ∧ (0 ≤ p ∧ p ≤ b.length) ∧ out.length = k ∧ manyGo b most (m - k) p out = manyGo b most m at_ [] ∧
        env = [(0, [], .d false 1 encB 0 b), (1, [], .v (.int .i64 p)), (3, [], .v (.int .u64 (most : Int))), (11, [], .o v), (31, [], .v (.int .i64 (m : Int))), (32, [], .v (.int .i64 k))] ∧ sto = [.row v true 3 1 (encI .i64) 0 out]) m
      ⟨0, at_, [], .slice none 0 0, rfl, by omega, by omega, rfl, rfl, rfl, rfl⟩ ?_ ?_ ?_
    · repeat' constructor
    · repeat' constructor
    · rintro q env sto ⟨k, p, out, v, rfl, hk, hp, hol, hg, rfl, rfl⟩
      obtain ⟨h1, h2, -, h4, h5, h6⟩ := takeB_facts b p
      repeat' (first | constructor | intro _)
      all_goals try (first | exact sd rfl | exact sd ⟨rfl, by decide⟩)
      · rename_i hlt
        have hlt' : k < m := by simp at hlt; omega
        have e := manyGo_step b most (m - (k + 1)) p out
        rw [show m - (k + 1) + 1 = m - k by omega, hg, ← hM] at e
        apply RunSem.call T_ok (Take_ok b p hb (by omega))
        all_goals repeat' (first | constructor | intro _)
        all_goals try (first | exact sd rfl | exact sd ⟨rfl, by decide⟩)
        · rename_i he
          have he' : (takeB b p).2.2 ≠ 0 := by simpa using he
          rw [if_pos he'] at e
          apply Sx.Ends.by none
          all_goals repeat' (first | constructor | intro _)
          · simp [wrapRes, e]
          · simp [e]
        · rename_i he hr
          have he' : ¬ (takeB b p).2.2 ≠ 0 := by simpa using he
          have hr' : min most 2147483647 < (takeB b p).1 := by
            have : ((takeB b p).1 : Int) > min (most : Int) 2147483647 := by simpa using hr
            omega
          rw [if_neg he', if_pos hr'] at e
          apply Sx.Ends.by none
          all_goals repeat' (first | constructor | intro _)
          · simp [wrapRes, e]
          · simp [e]
        · rename_i he hr
          have he' : ¬ (takeB b p).2.2 ≠ 0 := by simpa using he
          have hr' : ¬ min most 2147483647 < (takeB b p).1 := by
            have : ¬ ((takeB b p).1 : Int) > min (most : Int) 2147483647 := by simpa using hr
            omega
          rw [if_neg he', if_neg hr'] at e
          apply RunSem.lit T_ok (encI .i64) 0 [((takeB b p).1 : Int)]
          all_goals repeat' (first | constructor | intro _)
          all_goals try (first | exact sd rfl | exact sd ⟨rfl, by decide⟩)
          · rw [wi64 (by omega)]; rfl
          · exact sd (by show _ * 8 ≤ _; simp; omega)
          · rename_i v2
            have h2' := h2 (by simpa using he')
            refine Again.mk (m - (k + 1)) (by omega) ⟨k + 1, (takeB b p).2.1, out ++ [((takeB b p).1 : Int)], v2, rfl, by omega, by omega, by simp; omega, by rw [← hM]; exact e.symm, rfl, rfl⟩ ?_ ?_
            all_goals repeat' constructor
            rw [wi64 (by omega)]; rfl
      · rename_i hlt
        have hlt' : k = m := by simp at hlt; omega
        rw [hlt', Nat.sub_self, ← hM] at hg
        have hg' : manyB b at_ m most = (out, p, 0) := hg.symm
        apply Sx.Ends.by (some v)
        all_goals repeat' (first | constructor | intro _)
        · simp [wrapRes, hg']
        · rw [hg']
theorem refMany_ok (b : List UInt8) (at_ many : Int) (most : Nat) (hb : b.length < 4611686018427387904) (hat : -9223372036854775808 ≤ at_ ∧ at_ ≤ 9223372036854775807) (hmost : most < 18446744073709551616) :
    Sat Try.prog 21 [.d false 1 encB 0 b, .v (.int .i64 at_), .v (.int .i64 many), .v (.int .u64 (most : Int))] [] (isM (manyB b at_ many most)) := by
  refine Sat.of T_ok Try.func21 Try.call21 rfl rfl rfl ?_
  repeat' (first | constructor | intro _)
  all_goals try (first | exact sd rfl | exact sd ⟨rfl, by decide⟩)
  · rename_i hc
    have hc' : at_ < 0 ∨ (b.length : Int) < at_ ∨ many < 0 ∨ 100000 < many := by simp at hc; omega
    apply Sx.Ends.by none
    all_goals repeat' (first | constructor | intro _)
    · simp [wrapRes, manyB, if_pos hc']
    · simp [manyB, if_pos hc']
  · rename_i hc
    have hc' : ¬ (at_ < 0 ∨ (b.length : Int) < at_ ∨ many < 0 ∨ 100000 < many) := by simp at hc; omega
    have hM : manyB b at_ many most = manyGo b most many.toNat at_ [] := by rw [manyB, if_neg hc']
    obtain ⟨m, rfl⟩ := Int.eq_ofNat_of_zero_le (show 0 ≤ many by omega)
    rw [Int.toNat_natCast] at hM
    refine RunSem.loop T_ok (env0 := [(0, [], .d false 1 encB 0 b), (1, [], .v (.int .i64 at_)), (3, [], .v (.int .u64 (most : Int))), (11, [], .o (.slice none 0 0)), (2, [], .v (.int .i64 (m : Int))), (12, [], .v (.int .i64 ((0 : Nat) : Int)))]) (sto0 := [.row (.slice none 0 0) true 3 1 (encI .i64) 0 []])
      (fun q env sto => ∃ (k : Nat) (p : Int) (out : List Int) (v : Value), q = m - k ∧ k ≤ m ∧ (0 ≤ p ∧ p ≤ b.length) ∧ out.length = k ∧ manyGo b most (m - k) p out = manyGo b most m at_ [] ∧
        env = [(0, [], .d false 1 encB 0 b), (1, [], .v (.int .i64 p)), (3, [], .v (.int .u64 (most : Int))), (11, [], .o v), (2, [], .v (.int .i64 (m : Int))), (12, [], .v (.int .i64 k))] ∧ sto = [.row v true 3 1 (encI .i64) 0 out]) m
      ⟨0, at_, [], .slice none 0 0, rfl, by omega, by omega, rfl, rfl, rfl, rfl⟩ ?_ ?_ ?_
    · repeat' constructor
    · repeat' constructor
    · rintro q env sto ⟨k, p, out, v, rfl, hk, hp, hol, hg, rfl, rfl⟩
      obtain ⟨h1, h2, -, h4, h5, h6⟩ := takeB_facts b p
      repeat' (first | constructor | intro _)
      all_goals try (first | exact sd rfl | exact sd ⟨rfl, by decide⟩)
      · rename_i hlt
        have hlt' : k < m := by simp at hlt; omega
        have e := manyGo_step b most (m - (k + 1)) p out
        rw [show m - (k + 1) + 1 = m - k by omega, hg, ← hM] at e
        apply RunSem.call T_ok (refTake_ok b p hb (by omega))
        all_goals repeat' (first | constructor | intro _)
        all_goals try (first | exact sd rfl | exact sd ⟨rfl, by decide⟩)
        · rename_i he
          have he' : (takeB b p).2.2 ≠ 0 := by simpa using he
          rw [if_pos he'] at e
          apply Sx.Ends.by none
          all_goals repeat' (first | constructor | intro _)
          · simp [wrapRes, e]
          · simp [e]
        · rename_i he hr
          have he' : ¬ (takeB b p).2.2 ≠ 0 := by simpa using he
          have hr' : min most 2147483647 < (takeB b p).1 := by
            simp at hr
            omega
          rw [if_neg he', if_pos hr'] at e
          apply Sx.Ends.by none
          all_goals repeat' (first | constructor | intro _)
          · simp [wrapRes, e]
          · simp [e]
        · rename_i he hr
          have he' : ¬ (takeB b p).2.2 ≠ 0 := by simpa using he
          have hr' : ¬ min most 2147483647 < (takeB b p).1 := by
            simp at hr
            omega
          rw [if_neg he', if_neg hr'] at e
          apply RunSem.lit T_ok (encI .i64) 0 [((takeB b p).1 : Int)]
          all_goals repeat' (first | constructor | intro _)
          all_goals try (first | exact sd rfl | exact sd ⟨rfl, by decide⟩)
          · rw [wi64 (by omega)]; rfl
          · exact sd (by show _ * 8 ≤ _; simp; omega)
          · rename_i v2
            have h2' := h2 (by simpa using he')
            refine Again.mk (m - (k + 1)) (by omega) ⟨k + 1, (takeB b p).2.1, out ++ [((takeB b p).1 : Int)], v2, rfl, by omega, by omega, by simp; omega, by rw [← hM]; exact e.symm, rfl, rfl⟩ ?_ ?_
            all_goals repeat' constructor
            rw [wi64 (by omega)]; rfl
      · rename_i hlt
        have hlt' : k = m := by simp at hlt; omega
        rw [hlt', Nat.sub_self, ← hM] at hg
        have hg' : manyB b at_ m most = (out, p, 0) := hg.symm
        apply Sx.Ends.by (some v)
        all_goals repeat' (first | constructor | intro _)
        · simp [wrapRes, hg']
        · rw [hg']
end
end Go.Proofs.Ytndjnchalihleaa
