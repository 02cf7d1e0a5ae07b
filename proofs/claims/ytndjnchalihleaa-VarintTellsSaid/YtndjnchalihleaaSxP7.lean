import Derived.Test.YtndjnchalihleaaSxP6
set_option linter.all false
namespace Go.Proofs.Ytndjnchalihleaa
open Go.Sx
attribute [local irreducible] RunSem AListSem Again Side IntKind.wrap

theorem isV_fun {f : FuncId} {args : List AV} {v : Value} (h : Sat Try.prog f args [] (isV v)) : Fun1 Try.prog f args (.v v) := Fun1.of h rfl
theorem putL_awake : putL [300, 5] = [172, 2, 5] := by
  simp only [putL, List.flatMap_cons, List.flatMap_nil, List.append_nil]
  rw [putN_ge (by omega), putN_lt (by omega), putN_lt (by omega)]
  rfl
theorem takeB_awake : takeB [172, 2, 5] 0 = (300, 2, 0) := by decide
theorem bytes_awake : putN 2 ++ [97, 98] = [2, 97, 98] := by rw [putN_lt (by omega)]; rfl
theorem textB_awake : textB [2, 97, 98] 0 = ([97, 98], 3, 0) := by decide

theorem Put_awake : Sat Try.prog 9 [.d false 1 encU 0 [300, 5]] [] (bytesAre [172, 2, 5]) := by rw [← putL_awake]; exact Put_ok _ (by simp) (by simp)
theorem Take_awake : Sat Try.prog 17 [.d false 1 encB 0 [172, 2, 5], .v (.int .i64 0)] [] (isT (300, 2, 0)) := by rw [← takeB_awake]; exact Take_ok _ _ (by simp) (by omega)
theorem Bytes_awake : Sat Try.prog 11 [.v (.string ⟨#[97, 98]⟩)] [] (bytesAre [2, 97, 98]) := by rw [← bytes_awake]; exact Bytes_ok ⟨#[97, 98]⟩ (by decide) (by decide)
theorem Text_awake : Sat Try.prog 18 [.d false 1 encB 0 [2, 97, 98], .v (.int .i64 0)] [] (isS ([97, 98], 3, 0)) := by rw [← textB_awake]; exact Text_ok _ _ (by simp) (by omega)

theorem awake_ok : Sat Try.prog 7 [] [] (isV (.bool true)) := by
  refine Sat.of T_ok Try.func7 Try.call7 rfl rfl rfl ?_
  repeat' (first | constructor | intro _)
  all_goals try (first | exact sd rfl | exact sd ⟨rfl, by decide⟩)
  apply RunSem.lit T_ok encU 0 [300, 5]
  all_goals repeat' (first | constructor | intro _)
  all_goals try (first | exact sd rfl | exact sd ⟨rfl, by decide⟩)
  apply RunSem.lend T_ok Put_awake (fun v => ⟨rfl, rfl⟩)
  all_goals repeat' (first | constructor | intro _)
  all_goals try (first | exact sd rfl | exact sd ⟨rfl, by decide⟩)
  apply RunSem.lend T_ok Take_awake (fun v => ⟨rfl, rfl⟩)
  all_goals repeat' (first | constructor | intro _)
  all_goals try (first | exact sd rfl | exact sd ⟨rfl, by decide⟩)
  apply RunSem.lend T_ok Bytes_awake (fun v => ⟨rfl, rfl⟩)
  all_goals repeat' (first | constructor | intro _)
  all_goals try (first | exact sd rfl | exact sd ⟨rfl, by decide⟩)
  apply RunSem.lend T_ok Text_awake (fun v => ⟨rfl, rfl⟩)
  all_goals repeat' (first | constructor | intro _)
  all_goals try (first | exact sd rfl | exact sd ⟨rfl, by decide⟩ | exact sd (by decide))
  apply RunSem.callG T_ok (lend := false) (isV_fun (Zig_ok (-3) (by omega))) (fun h => by cases h)
  all_goals repeat' (first | constructor | intro _)
  all_goals try (first | exact sd rfl | exact sd ⟨rfl, by decide⟩ | exact sd (by decide))
  apply RunSem.callG T_ok (lend := false) (isV_fun (Zag_ok 5 (by omega))) (fun h => by cases h)
  all_goals repeat' (first | constructor | intro _)
  all_goals try (first | exact sd rfl | exact sd ⟨rfl, by decide⟩ | exact sd (by decide))
  exact congrArg (fun b => AV.v (.bool b)) (by simp [zigN, zagN])

theorem Puts_ok (l : List Nat) (hl : ∀ x ∈ l, x < 18446744073709551616) (n : Int) (hn : -9223372036854775808 ≤ n ∧ n ≤ 9223372036854775807) (s : ByteArray) : Sat Try.prog 3 [.d false 1 encU 0 l, .v (.int .i64 n), .v (.string s)] [] (isV (.bool true)) := by
  refine Sat.of T_ok Try.func3 Try.call3 rfl rfl rfl ?_
  repeat' (first | constructor | intro _)
  all_goals try (first | exact sd rfl | exact sd ⟨rfl, by decide⟩)
  apply RunSem.lend T_ok awake_ok (fun v => ⟨rfl, rfl⟩)
  all_goals repeat' (first | constructor | intro _)
  all_goals try (first | exact sd rfl | exact sd ⟨rfl, by decide⟩)
  rename_i hc
  have hc' : l.length ≤ 100 ∧ s.size ≤ 1000 := by simp at hc; omega
  apply RunSem.lend T_ok (Put_ok l hl (by omega)) (fun v => ⟨rfl, rfl⟩)
  all_goals repeat' (first | constructor | intro _)
  all_goals try (first | exact sd rfl | exact sd ⟨rfl, by decide⟩)
  apply RunSem.lend T_ok (refAll_ok l hl (by omega)) (fun v => ⟨rfl, rfl⟩)
  all_goals repeat' (first | constructor | intro _)
  all_goals try (first | exact sd rfl | exact sd ⟨rfl, by decide⟩)
  have hlen := putL_len l hl
  apply RunSem.lend T_ok (Same_ok (putL l) (putL l) (by omega)) (fun v => ⟨rfl, rfl⟩)
  all_goals repeat' (first | constructor | intro _)
  all_goals try (first | exact sd rfl | exact sd ⟨rfl, by decide⟩)
  apply RunSem.lend T_ok (Bytes_ok s (by omega) (by omega)) (fun v => ⟨rfl, rfl⟩)
  all_goals repeat' (first | constructor | intro _)
  all_goals try (first | exact sd rfl | exact sd ⟨rfl, by decide⟩)
  apply RunSem.lend T_ok (refBytes_ok s (by omega)) (fun v => ⟨rfl, rfl⟩)
  all_goals repeat' (first | constructor | intro _)
  all_goals try (first | exact sd rfl | exact sd ⟨rfl, by decide⟩)
  have hlen2 : (putN s.size ++ s.data.toList).length < 4611686018427387904 := by
    have h1 := putN_len s.size (by omega)
    have h2 : s.data.toList.length = s.size := rfl
    rw [List.length_append]; omega
  apply RunSem.lend T_ok (Same_ok _ (putN s.size ++ s.data.toList) hlen2) (fun v => ⟨rfl, rfl⟩)
  all_goals repeat' (first | constructor | intro _)
  all_goals try (first | exact sd rfl | exact sd ⟨rfl, by decide⟩)
  apply RunSem.callG T_ok (lend := false) (isV_fun (Zig_ok n hn)) (fun h => by cases h)
  all_goals repeat' (first | constructor | intro _)
  all_goals try (first | exact sd rfl | exact sd ⟨rfl, by decide⟩ | exact sd (by decide))
  apply RunSem.callG T_ok (lend := false) (isV_fun (refZig_ok n hn)) (fun h => by cases h)
  all_goals repeat' (first | constructor | intro _)
  all_goals try (first | exact sd rfl | exact sd ⟨rfl, by decide⟩ | exact sd (by decide))
  have hu : IntKind.u64.wrap n = ((n % 18446744073709551616).toNat : Int) := by rw [IntKind.wrap_u64]; omega
  rw [hu]
  apply RunSem.callG T_ok (lend := false) (isV_fun (Zag_ok (n % 18446744073709551616).toNat (by omega))) (fun h => by cases h)
  all_goals repeat' (first | constructor | intro _)
  all_goals try (first | exact sd rfl | exact sd ⟨rfl, by decide⟩ | exact sd (by decide))
  apply RunSem.callG T_ok (lend := false) (isV_fun (refZag_ok (n % 18446744073709551616).toNat (by omega))) (fun h => by cases h)
  all_goals repeat' (first | constructor | intro _)
  all_goals try (first | exact sd rfl | exact sd ⟨rfl, by decide⟩ | exact sd (by decide))
  refine congrArg (fun b => AV.v (.bool b)) ?_
  simp
end Go.Proofs.Ytndjnchalihleaa
