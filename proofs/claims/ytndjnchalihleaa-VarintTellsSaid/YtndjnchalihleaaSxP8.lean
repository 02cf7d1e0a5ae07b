import Derived.Test.YtndjnchalihleaaSxP7
set_option linter.all false
namespace Go.Proofs.Ytndjnchalihleaa
open Go.Sx
attribute [local irreducible] RunSem AListSem Again Side IntKind.wrap

theorem takeGo_put (post : List UInt8) : ∀ (x i n : Nat), x * 128 ^ i < 18446744073709551616 → i ≤ 9 → (0 < i → x ≠ 0) → takeGo (putN x ++ post) i n = (n + x * 128 ^ i, i + (putN x).length, 0) := by
  intro x
  induction x using Nat.strongRecOn with
  | _ x ih =>
  intro i n hx hi h0
  have h9 : i = 9 → x ≤ 1 := by
    intro h
    subst h
    have h3 : (128 : Nat) ^ 9 = 9223372036854775808 := by decide
    omega
  rcases Nat.lt_or_ge x 128 with h | h
  · have e : (UInt8.ofNat x).toNat = x := by simp; omega
    rw [putN_lt h, List.singleton_append, takeGo, e, if_neg (by omega), if_pos h, Nat.mod_eq_of_lt h]
    simp
  · have e : (UInt8.ofNat (x % 128 + 128)).toNat = x % 128 + 128 := by simp; omega
    rw [putN_ge h, List.cons_append, takeGo, e, if_neg (by omega), if_neg (by omega)]
    have hm : x / 128 * 128 ^ (i + 1) ≤ x * 128 ^ i := by
      rw [Nat.pow_succ, Nat.mul_comm (128 ^ i), ← Nat.mul_assoc]
      exact Nat.mul_le_mul_right _ (by omega)
    rw [ih (x / 128) (by omega) (i + 1) _ (by omega) (by omega) (by omega)]
    have e2 : (x % 128 + 128) % 128 = x % 128 := by omega
    have e3 : x % 128 * 128 ^ i + x / 128 * 128 ^ (i + 1) = x * 128 ^ i := by
      rw [Nat.pow_succ, Nat.mul_comm (128 ^ i), ← Nat.mul_assoc, ← Nat.add_mul]
      congr 1
      omega
    rw [e2, Nat.add_assoc, e3]
    simp
    omega
theorem takeB_put (pre post : List UInt8) (x : Nat) (hx : x < 18446744073709551616) : takeB (pre ++ (putN x ++ post)) (pre.length : Int) = (x, ((pre.length + (putN x).length : Nat) : Int), 0) := by
  rw [takeB, if_neg (by simp; omega), Int.toNat_natCast, List.drop_left, takeGo_put post x 0 0 (by omega) (by omega) (by omega)]
  simp
theorem textB_put (pre : List UInt8) (s : List UInt8) (hs : s.length < 18446744073709551616) : textB (pre ++ (putN s.length ++ s)) (pre.length : Int) = (s, ((pre ++ (putN s.length ++ s)).length : Int), 0) := by
  rw [textB, takeB_put pre s s.length hs]
  simp only [ne_eq, not_true_eq_false, if_false, List.length_append, Int.toNat_natCast]
  rw [if_neg (by omega), ← List.append_assoc, List.take_of_length_le (by simp; omega), ← List.length_append, List.drop_left]
  simp
  omega

theorem putN_pos (n : Nat) : 0 < (putN n).length := by rw [putN]; split <;> simp
theorem map_getD (l : List Int) (k : Nat) (h : k < l.length) : (l.map zigN).getD k 0 = zigN (l.getD k 0) := by simp [List.getD, h]

theorem Back_ok (l : List Int) (hl : ∀ x ∈ l, -9223372036854775808 ≤ x ∧ x ≤ 9223372036854775807) (s : ByteArray) : Sat Try.prog 4 [.d false 1 (encI .i64) 0 l, .v (.string s)] [] (isV (.bool true)) := by
  have hg : ∀ k, -9223372036854775808 ≤ l.getD k 0 ∧ l.getD k 0 ≤ 9223372036854775807 := by
    intro k
    rcases Nat.lt_or_ge k l.length with h | h
    · rw [List.getD, List.getElem?_eq_getElem h]; exact hl _ (List.getElem_mem _)
    · rw [List.getD, List.getElem?_eq_none h]; decide
  have hz : ∀ x ∈ l.map zigN, x < 18446744073709551616 := by
    intro x hx
    obtain ⟨n, hn, rfl⟩ := List.mem_map.1 hx
    exact zigN_lt n (hl n hn)
  refine Sat.of T_ok Try.func4 Try.call4 rfl rfl rfl ?_
  repeat' (first | constructor | intro _)
  all_goals try (first | exact sd rfl | exact sd ⟨rfl, by decide⟩)
  apply RunSem.lend T_ok awake_ok (fun v => ⟨rfl, rfl⟩)
  all_goals repeat' (first | constructor | intro _)
  all_goals try (first | exact sd rfl | exact sd ⟨rfl, by decide⟩)
  rename_i hc
  have hc' : l.length ≤ 100 ∧ s.size ≤ 1000 := by simp at hc; omega
  refine RunSem.loop T_ok (env0 := [(0, [], .d false 1 (encI .i64) 0 l), (1, [], .v (.string s)), (5, [], .v (.bool true)), (6, [], .o (.slice none 0 0)), (7, [], .v (.int .i64 ((0 : Nat) : Int)))]) (sto0 := [.row (.slice none 0 0) true 5 1 encB 0 []])
    (fun n env sto => ∃ (k : Nat) (v : Value), n = l.length - k ∧ k ≤ l.length ∧
      env = [(0, [], .d false 1 (encI .i64) 0 l), (1, [], .v (.string s)), (5, [], .v (.bool true)), (6, [], .o v), (7, [], .v (.int .i64 k))] ∧ sto = [.row v true 5 1 encB 0 (putL ((l.map zigN).take k))]) l.length ⟨0, .slice none 0 0, by simp, by omega, rfl, rfl⟩ ?_ ?_ ?_
  · repeat' constructor
  · repeat' constructor
  · rintro n env sto ⟨k, v, rfl, hk, rfl, rfl⟩
    repeat' (first | constructor | intro _)
    all_goals try (first | exact sd rfl | exact sd ⟨rfl, by decide⟩)
    · rename_i hlt
      exact sd (by simp at hlt; omega)
    · rename_i hlt
      have hlt' : k < l.length := by simp at hlt; omega
      apply RunSem.lend T_ok (Zig_ok (l.getD k 0) (hg k)) (fun v => ⟨rfl, rfl⟩)
      all_goals repeat' (first | constructor | intro _)
      all_goals try (first | exact sd rfl | exact sd ⟨rfl, by decide⟩)
      apply RunSem.lit T_ok encU 0 [zigN (l.getD k 0)]
      all_goals repeat' (first | constructor | intro _)
      all_goals try (first | exact sd rfl | exact sd ⟨rfl, by decide⟩)
      apply RunSem.lend T_ok (Put_ok [zigN (l.getD k 0)] (by simpa using zigN_lt _ (hg k)) (by simp)) (fun v => ⟨rfl, rfl⟩)
      all_goals repeat' (first | constructor | intro _)
      all_goals try (first | exact sd rfl | exact sd ⟨rfl, by decide⟩)
      · have h1 := putL_len ((l.map zigN).take k) (fun x hx => hz x (List.mem_of_mem_take hx))
        have h2 := putN_len (zigN (l.getD k 0)) (zigN_lt _ (hg k))
        have h3 : ((l.map zigN).take k).length = k := by simp; omega
        have h4 : (putL [zigN (l.getD k 0)]).length = (putN (zigN (l.getD k 0))).length := by simp [putL]
        rw [h3] at h1
        rw [h4]
        exact sd (by show _ * 1 ≤ _; omega)
      · rename_i v2
        refine Again.mk (l.length - (k + 1)) (by omega) ⟨k + 1, v2, rfl, by omega, rfl, rfl⟩ ?_ ?_
        all_goals repeat' constructor
        · rw [wi64 (by omega)]; rfl
        · rw [putL_take _ _ (by simpa using hlt'), map_getD l k hlt']; simp [putL]
    · rename_i hlt
      have hlt' : k = l.length := by simp at hlt; omega
      have hall : (l.map zigN).take k = l.map zigN := by rw [hlt']; exact List.take_of_length_le (by simp)
      rw [hall]
      have hb1 := putL_len (l.map zigN) hz
      rw [List.length_map] at hb1
      have hb2 := putN_len s.size (by omega)
      have hsz : s.data.toList.length = s.size := rfl
      apply RunSem.lend T_ok (Bytes_ok s (by omega) (by omega)) (fun v => ⟨rfl, rfl⟩)
      all_goals repeat' (first | constructor | intro _)
      all_goals try (first | exact sd rfl | exact sd ⟨rfl, by decide⟩)
      · exact sd (by show _ * 1 ≤ _; rw [List.length_append]; omega)
      generalize hB : putL (l.map zigN) ++ (putN s.size ++ s.data.toList) = B
      have hBl : B.length ≤ 1000 + 10 + 1000 := by rw [← hB]; simp only [List.length_append]; omega
      rename_i v2
      refine RunSem.loop T_ok (env0 := [(0, [], .d false 1 (encI .i64) 0 l), (1, [], .v (.string s)), (5, [], .v (.bool true)), (6, [], .o v2), (8, [], .v (.int .i64 ((putL ((l.map zigN).take 0)).length : Int))), (9, [], .v (.int .i64 ((0 : Nat) : Int)))]) (sto0 := [.row v2 true 5 1 encB 0 B])
        (fun n env sto => ∃ (k : Nat), n = l.length - k ∧ k ≤ l.length ∧
          env = [(0, [], .d false 1 (encI .i64) 0 l), (1, [], .v (.string s)), (5, [], .v (.bool true)), (6, [], .o v2), (8, [], .v (.int .i64 ((putL ((l.map zigN).take k)).length : Int))), (9, [], .v (.int .i64 k))] ∧ sto = [.row v2 true 5 1 encB 0 B]) l.length ⟨0, by simp, by omega, rfl, rfl⟩ ?_ ?_ ?_
      · repeat' constructor
      · repeat' constructor
      · clear hlt' hlt hall hk
        rintro n env sto ⟨k, rfl, hk, rfl, rfl⟩
        repeat' (first | constructor | intro _)
        all_goals try (first | exact sd rfl | exact sd ⟨rfl, by decide⟩)
        · rename_i hlt
          have hlt' : k < l.length := by simp at hlt; omega
          have hle : (putL ((l.map zigN).take k)).length ≤ 1000 := by
            have h1 := putL_len ((l.map zigN).take k) (fun x hx => hz x (List.mem_of_mem_take hx))
            have h3 : ((l.map zigN).take k).length = k := by simp; omega
            omega
          have hT : takeB B ((putL ((l.map zigN).take k)).length : Int) = (zigN (l.getD k 0), ((putL ((l.map zigN).take (k + 1))).length : Int), 0) := by
            have h1 : l.map zigN = (l.map zigN).take k ++ (zigN (l.getD k 0) :: (l.map zigN).drop (k + 1)) := by
              have := List.take_append_drop k (l.map zigN)
              rw [List.drop_eq_getElem_cons (by simpa using hlt')] at this
              rw [← map_getD l k hlt', List.getD, List.getElem?_eq_getElem (by simpa using hlt')]
              exact this.symm
            have h2 : B = putL ((l.map zigN).take k) ++ (putN (zigN (l.getD k 0)) ++ (putL ((l.map zigN).drop (k + 1)) ++ (putN s.size ++ s.data.toList))) := by
              rw [← hB]
              conv => lhs; rw [h1]
              simp [putL, List.append_assoc]
            rw [h2, takeB_put _ _ _ (zigN_lt _ (hg k)), putL_take _ _ (by simpa using hlt'), map_getD l k hlt', List.length_append]
          have hgt : (putL ((l.map zigN).take k)).length < (putL ((l.map zigN).take (k + 1))).length := by
            rw [putL_take _ _ (by simpa using hlt'), List.length_append]
            have := putN_pos ((l.map zigN).getD k 0)
            omega
          have hC := Take_ok B ((putL ((l.map zigN).take k)).length : Int) (by omega) (by omega)
          rw [hT] at hC
          apply RunSem.lend T_ok hC (fun v => ⟨rfl, rfl⟩)
          all_goals repeat' (first | constructor | intro _)
          all_goals try (first | exact sd rfl | exact sd ⟨rfl, by decide⟩)
          refine RunSem.drawBy T_ok mix 16 (by kernel_rfl) ?_
          repeat' (first | constructor | intro _)
          all_goals try (first | exact sd rfl | exact sd ⟨rfl, by decide⟩)
          apply AListSem.callG T_ok (lend := false) (isV_fun (Zag_ok (zigN (l.getD k 0)) (zigN_lt _ (hg k)))) (fun h => by cases h)
          all_goals repeat' (first | constructor | intro _)
          all_goals try (first | exact sd rfl | exact sd ⟨rfl, by decide⟩)
          all_goals try (first | exact sd (by omega))
          · rename_i hbad
            exfalso
            simp [zag_zig] at hbad
            omega
          · refine Again.mk (l.length - (k + 1)) (by omega) ⟨k + 1, rfl, by omega, rfl, rfl⟩ ?_ ?_
            all_goals repeat' constructor
            rw [wi64 (by omega)]; rfl
        · rename_i hlt
          have hlt' : k = l.length := by simp at hlt; omega
          have hall : (l.map zigN).take k = l.map zigN := by rw [hlt']; exact List.take_of_length_le (by simp)
          rw [hall]
          have hT : textB B ((putL (l.map zigN)).length : Int) = (s.data.toList, (B.length : Int), 0) := by
            have := textB_put (putL (l.map zigN)) s.data.toList (by omega)
            rw [hsz, hB] at this
            exact this
          have hC := Text_ok B ((putL (l.map zigN)).length : Int) (by omega) (by omega)
          rw [hT] at hC
          apply RunSem.lend T_ok hC (fun v => ⟨rfl, rfl⟩)
          all_goals repeat' (first | constructor | intro _)
          all_goals try (first | exact sd rfl | exact sd trivial | exact sd ⟨rfl, by decide⟩)
          refine congrArg (fun b => AV.v (.bool b)) ?_
          simp
end Go.Proofs.Ytndjnchalihleaa
