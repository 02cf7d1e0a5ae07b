import Derived.Test.YtndjnchalihleaaSxP1
set_option linter.all false
namespace Go.Proofs.Ytndjnchalihleaa
open Go.Sx
attribute [local irreducible] RunSem AListSem Again Side IntKind.wrap

def isV (v : Value) : AV → Sto → Prop := Gives (ι := Unit) (fun _ => .v v) (fun _ => []) (fun _ => True)

theorem Same_ok (a b : List UInt8) (h : a.length < 4611686018427387904) : Sat Try.prog 8 [.d false 1 encB 0 a, .d false 1 encB 0 b] [] (isV (.bool (decide (a = b)))) := by
  refine Sat.of T_ok Try.func8 Try.call8 rfl rfl rfl ?_
  repeat' (first | constructor | intro _)
  all_goals try (first | exact sd rfl | exact sd ⟨rfl, by decide⟩)
  · rename_i hl
    have : a ≠ b := fun e => by simp [e] at hl
    simp [wrapRes, this]
  · rename_i hl
    have hl' : a.length = b.length := by simp at hl; omega
    refine RunSem.loop T_ok (env0 := [(0, [], .d false 1 encB 0 a), (1, [], .d false 1 encB 0 b), (5, [], .v (.int .i64 ((0 : Nat) : Int)))]) (sto0 := []) (fun n env sto => ∃ k : Nat, n = a.length - k ∧ k ≤ a.length ∧ (∀ i, i < k → a.getD i 0 = b.getD i 0) ∧
      env = [(0, [], .d false 1 encB 0 a), (1, [], .d false 1 encB 0 b), (5, [], .v (.int .i64 k))] ∧ sto = []) a.length ⟨0, by simp, by omega, by simp, rfl, rfl⟩ ?_ ?_ ?_
    · repeat' constructor
    · repeat' constructor
    · rintro n env sto ⟨k, rfl, hk, hs, rfl, rfl⟩
      repeat' (first | constructor | intro _)
      all_goals try (first | exact sd rfl | exact sd ⟨rfl, by decide⟩)
      · rename_i hlt
        have hlt' : k < a.length := by simp at hlt; omega
        refine RunSem.drawBy T_ok mix 9 (by kernel_rfl) ?_
        repeat' (first | constructor | intro _)
        all_goals try (first | exact sd rfl | exact sd (by omega) | exact sd ⟨rfl, by decide⟩)
        · rename_i hne
          have : a ≠ b := fun e => by simp [e] at hne
          simp [wrapRes, this]
        · rename_i hne
          have he : a.getD k 0 = b.getD k 0 := by
            have := hne
            simp only [Int.toNat_natCast] at this
            simp [bne] at this
            exact UInt8.toNat_inj.1 (by simp only [List.getD_eq_getElem?_getD]; omega)
          refine Again.mk (a.length - (k + 1)) (by omega) ⟨k + 1, rfl, by omega, fun i hi => ?_, rfl, rfl⟩ ?_ ?_
          · rcases Nat.lt_succ_iff_lt_or_eq.1 hi with h' | h'
            · exact hs i h'
            · rw [h']; exact he
          all_goals repeat' constructor
          rw [wi64 (by omega)]; rfl
      · rename_i hlt
        have hlt' : k = a.length := by simp at hlt; omega
        have : a = b := List.ext_getElem hl' (fun i h1 h2 => by have := hs i (by omega); simpa [List.getD, h1, h2] using this)
        simp [wrapRes, this]

theorem Ints_ok (a b : List Int) (h : a.length < 4611686018427387904) : Sat Try.prog 23 [.d false 1 (encI .i64) 0 a, .d false 1 (encI .i64) 0 b] [] (isV (.bool (decide (a = b)))) := by
  refine Sat.of T_ok Try.func23 Try.call23 rfl rfl rfl ?_
  repeat' (first | constructor | intro _)
  all_goals try (first | exact sd rfl | exact sd ⟨rfl, by decide⟩)
  · rename_i hl
    have : a ≠ b := fun e => by simp [e] at hl
    simp [wrapRes, this]
  · rename_i hl
    have hl' : a.length = b.length := by simp at hl; omega
    refine RunSem.loop T_ok (env0 := [(0, [], .d false 1 (encI .i64) 0 a), (1, [], .d false 1 (encI .i64) 0 b), (5, [], .v (.int .i64 ((0 : Nat) : Int)))]) (sto0 := []) (fun n env sto => ∃ k : Nat, n = a.length - k ∧ k ≤ a.length ∧ (∀ i, i < k → a.getD i 0 = b.getD i 0) ∧
      env = [(0, [], .d false 1 (encI .i64) 0 a), (1, [], .d false 1 (encI .i64) 0 b), (5, [], .v (.int .i64 k))] ∧ sto = []) a.length ⟨0, by simp, by omega, by simp, rfl, rfl⟩ ?_ ?_ ?_
    · repeat' constructor
    · repeat' constructor
    · rintro n env sto ⟨k, rfl, hk, hs, rfl, rfl⟩
      repeat' (first | constructor | intro _)
      all_goals try (first | exact sd rfl | exact sd ⟨rfl, by decide⟩)
      · rename_i hlt
        have hlt' : k < a.length := by simp at hlt; omega
        refine RunSem.drawBy T_ok mix 9 (by kernel_rfl) ?_
        repeat' (first | constructor | intro _)
        all_goals try (first | exact sd rfl | exact sd (by omega) | exact sd ⟨rfl, by decide⟩)
        · rename_i hne
          have : a ≠ b := fun e => by simp [e] at hne
          simp [wrapRes, this]
        · rename_i hne
          have he : a.getD k 0 = b.getD k 0 := by
            have := hne
            simp only [Int.toNat_natCast] at this
            simpa [bne] using this
          refine Again.mk (a.length - (k + 1)) (by omega) ⟨k + 1, rfl, by omega, fun i hi => ?_, rfl, rfl⟩ ?_ ?_
          · rcases Nat.lt_succ_iff_lt_or_eq.1 hi with h' | h'
            · exact hs i h'
            · rw [h']; exact he
          all_goals repeat' constructor
          rw [wi64 (by omega)]; rfl
      · rename_i hlt
        have hlt' : k = a.length := by simp at hlt; omega
        have : a = b := List.ext_getElem hl' (fun i h1 h2 => by have := hs i (by omega); simpa [List.getD, h1, h2] using this)
        simp [wrapRes, this]

/-- All numbers' bytes. -/
def putL (l : List Nat) : List UInt8 := l.flatMap putN
theorem putL_len (l : List Nat) (h : ∀ x ∈ l, x < 18446744073709551616) : (putL l).length ≤ 10 * l.length := by
  induction l with
  | nil => simp [putL]
  | cons x l ih =>
    have h1 := putN_len x (h x (by simp))
    have h2 := ih (fun y hy => h y (by simp [hy]))
    simp only [putL, List.flatMap_cons, List.length_append, List.length_cons] at h2 ⊢
    omega
theorem putL_take (l : List Nat) (k : Nat) (h : k < l.length) : putL (l.take (k + 1)) = putL (l.take k) ++ putN (l.getD k 0) := by
  have : l.take (k + 1) = l.take k ++ [l.getD k 0] := by
    rw [List.take_add_one, List.getD, List.getElem?_eq_getElem h]; simp
  rw [this]
  simp [putL]
def encU (x : Nat) (_ : Nat) : DV := .v (.int .u64 (x : Int))

theorem refAll_ok (l : List Nat) (hl : ∀ x ∈ l, x < 18446744073709551616) (h : l.length < 1099511627776) : Sat Try.prog 10 [.d false 1 encU 0 l] [] (bytesAre (putL l)) := by
  have hg : ∀ k, l.getD k 0 < 18446744073709551616 := by
    intro k
    rcases Nat.lt_or_ge k l.length with h | h
    · rw [List.getD, List.getElem?_eq_getElem h]; exact hl _ (List.getElem_mem _)
    · rw [List.getD, List.getElem?_eq_none h]; decide
  refine Sat.of T_ok Try.func10 Try.call10 rfl rfl rfl ?_
  repeat' (first | constructor | intro _)
  all_goals try (first | exact sd rfl | exact sd ⟨rfl, by decide⟩)
  refine RunSem.loop T_ok (env0 := [(0, [], .d false 1 encU 0 l), (3, [], .o (.slice none 0 0)), (4, [], .v (.int .i64 ((0 : Nat) : Int)))]) (sto0 := [.row (.slice none 0 0) true 5 1 encB 0 []])
    (fun n env sto => ∃ (k : Nat) (v : Value), n = l.length - k ∧ k ≤ l.length ∧
      env = [(0, [], .d false 1 encU 0 l), (3, [], .o v), (4, [], .v (.int .i64 k))] ∧ sto = [.row v true 5 1 encB 0 (putL (l.take k))]) l.length ⟨0, .slice none 0 0, by simp, by omega, rfl, rfl⟩ ?_ ?_ ?_
  · repeat' constructor
  · repeat' constructor
  · rintro n env sto ⟨k, v, rfl, hk, rfl, rfl⟩
    repeat' (first | constructor | intro _)
    all_goals try (first | exact sd rfl | exact sd (by omega) | exact sd ⟨rfl, by decide⟩)
    · rename_i hlt
      have hlt' : k < l.length := by simp at hlt; omega
      exact sd (by omega)
    · rename_i hlt
      have hlt' : k < l.length := by simp at hlt; omega
      apply RunSem.call T_ok (refPut_ok (l.getD k 0) (hg k))
      all_goals repeat' (first | constructor | intro _)
      all_goals try (first | exact sd rfl | exact sd (by omega) | exact sd ⟨rfl, by decide⟩)
      · have h1 := putL_len (l.take k) (fun x hx => hl x (List.mem_of_mem_take hx))
        have h2 := putN_len (l.getD k 0) (hg k)
        exact sd (by simp at h1 h2 ⊢; omega)
      · rename_i v2
        refine Again.mk (l.length - (k + 1)) (by omega) ⟨k + 1, v2, rfl, by omega, rfl, rfl⟩ ?_ ?_
        all_goals repeat' constructor
        · rw [wi64 (by omega)]; rfl
        · exact (putL_take l k hlt').symm
    · rename_i hlt
      have hlt' : k = l.length := by simp at hlt; omega
      rw [hlt', List.take_length]

theorem divPow (x m : Nat) : (x / 128 ^ m) / 128 = x / 128 ^ (m + 1) := by rw [Nat.pow_succ, Nat.div_div_eq_div_mul]

theorem Put_ok (l : List Nat) (hl : ∀ x ∈ l, x < 18446744073709551616) (h : l.length < 1099511627776) : Sat Try.prog 9 [.d false 1 encU 0 l] [] (bytesAre (putL l)) := by
  have hg : ∀ k, l.getD k 0 < 18446744073709551616 := by
    intro k
    rcases Nat.lt_or_ge k l.length with h | h
    · rw [List.getD, List.getElem?_eq_getElem h]; exact hl _ (List.getElem_mem _)
    · rw [List.getD, List.getElem?_eq_none h]; decide
  refine Sat.of T_ok Try.func9 Try.call9 rfl rfl rfl ?_
  repeat' (first | constructor | intro _)
  all_goals try (first | exact sd rfl | exact sd ⟨rfl, by decide⟩)
  refine RunSem.loop T_ok (env0 := [(6, [], .d false 1 encU 0 l), (7, [], .v (.int .i64 l.length)), (3, [], .o (.slice none 0 0)), (8, [], .v (.int .i64 ((0 : Nat) : Int)))]) (sto0 := [.row (.slice none 0 0) true 5 1 encB 0 []])
    (fun n env sto => ∃ (k : Nat) (v : Value), n = l.length - k ∧ k ≤ l.length ∧
      env = [(6, [], .d false 1 encU 0 l), (7, [], .v (.int .i64 l.length)), (3, [], .o v), (8, [], .v (.int .i64 k))] ∧ sto = [.row v true 5 1 encB 0 (putL (l.take k))]) l.length ⟨0, .slice none 0 0, by simp, by omega, rfl, rfl⟩ ?_ ?_ ?_
  · repeat' constructor
  · repeat' constructor
  · rintro n env sto ⟨k, v, rfl, hk, rfl, rfl⟩
    repeat' (first | constructor | intro _)
    all_goals try (first | exact sd rfl | exact sd (by omega) | exact sd ⟨rfl, by decide⟩)
    · rename_i hlt
      have hlt' : k < l.length := by simp at hlt; omega
      exact sd (by omega)
    · rename_i hlt
      have hlt' : k < l.length := by simp at hlt; omega
      have hb1 := putL_len (l.take k) (fun x hx => hl x (List.mem_of_mem_take hx))
      have hbase : (putL (l.take k)).length ≤ 10995116277760 := by simp at hb1; omega
      refine RunSem.loop T_ok (env0 := [(6, [], .d false 1 encU 0 l), (7, [], .v (.int .i64 l.length)), (3, [], .o v), (8, [], .v (.int .i64 k)), (5, [], .v (.int .u64 (l.getD k 0)))]) (sto0 := [.row v true 5 1 encB 0 (putL (l.take k))])
        (fun n env sto => ∃ (x : Nat) (v : Value) (done : List UInt8), n = x ∧ x < 18446744073709551616 ∧ done ++ putN x = putN (l.getD k 0) ∧ 
          env = [(6, [], .d false 1 encU 0 l), (7, [], .v (.int .i64 l.length)), (3, [], .o v), (8, [], .v (.int .i64 k)), (5, [], .v (.int .u64 x))] ∧ sto = [.row v true 5 1 encB 0 (putL (l.take k) ++ done)]) (l.getD k 0) ⟨l.getD k 0, v, [], rfl, hg k, by simp, rfl, by simp⟩ ?_ ?_ ?_
      · repeat' constructor
      · repeat' constructor
      · rintro n env sto ⟨x, v', dn, rfl, hx, hdn, rfl, rfl⟩
        have hlen := putN_len (l.getD k 0) (hg k)
        rw [← hdn] at hlen
        simp only [List.length_append] at hlen
        repeat' (first | constructor | intro _)
        all_goals try (first | exact sd rfl | exact sd (by omega) | exact sd ⟨rfl, by decide⟩)
        · rename_i hge
          have hge' : 128 ≤ n := by have : (n : Int) ≥ 128 := by simpa using hge
                                    omega
          apply RunSem.lit T_ok encB 0 [UInt8.ofNat (n % 128 + 128)]
          all_goals repeat' (first | constructor | intro _)
          all_goals try (first | exact sd rfl | exact sd (by omega) | exact sd ⟨rfl, by decide⟩)
          · rw [u8w n, show (128 : Int) = ((128 : Nat) : Int) from rfl, or8 _ _ (by omega) (by omega), or128 _ (by omega)]
            simp [litL, encB]
            omega
          · exact sd (by simp; omega)
          · rename_i v2
            refine Again.mk (n / 128) (by omega) ⟨n / 128, v2, dn ++ [UInt8.ofNat (n % 128 + 128)], rfl, by omega, by rw [← hdn, putN_ge hge']; simp, rfl, rfl⟩ ?_ ?_
            all_goals repeat' constructor
            · exact congrArg _ (fdivN n 128)
            · simp
        · rename_i hge
          have hge' : n < 128 := by have : ¬ (n : Int) ≥ 128 := by simpa using hge
                                    omega
          apply RunSem.lit T_ok encB 0 [UInt8.ofNat n]
          all_goals repeat' (first | constructor | intro _)
          all_goals try (first | exact sd rfl | exact sd (by omega) | exact sd ⟨rfl, by decide⟩)
          · simp [litL, encB, b8]
          · exact sd (by simp; omega)
          · rename_i v2
            refine Again.mk (l.length - (k + 1)) (by omega) ⟨k + 1, v2, rfl, by omega, rfl, rfl⟩ ?_ ?_
            all_goals repeat' constructor
            · rw [wi64 (by omega)]; rfl
            · rw [putL_take l k hlt', ← hdn, putN_lt hge']; simp
    · rename_i hlt
      have hlt' : k = l.length := by simp at hlt; omega
      rw [hlt', List.take_length]
end Go.Proofs.Ytndjnchalihleaa
