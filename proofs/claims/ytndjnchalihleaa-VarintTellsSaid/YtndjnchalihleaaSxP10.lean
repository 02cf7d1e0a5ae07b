import Derived.Test.YtndjnchalihleaaSxP9
set_option linter.all false
namespace Go.Proofs.Ytndjnchalihleaa
open Go.Sx
attribute [local irreducible] RunSem AListSem Again Side IntKind.wrap

theorem manyGo_len (b : List UInt8) (most : Nat) : ∀ (m : Nat) (p : Int) (out : List Int), (manyGo b most m p out).1.length ≤ out.length + m
  | 0, p, out => by simp [manyGo]
  | m + 1, p, out => by
    rw [manyGo_step]
    split
    · simp
    · split
      · simp
      · have := manyGo_len b most m (takeB b p).2.1 (out ++ [((takeB b p).1 : Int)])
        simp at this
        omega
theorem manyB_len (b : List UInt8) (p many : Int) (most : Nat) : (manyB b p many most).1.length ≤ 100000 := by
  rw [manyB]
  split
  · simp
  · have := manyGo_len b most many.toNat p []
    simp at this
    omega

theorem Tells_ok (b : List UInt8) (p m : Int) (hp : -9223372036854775808 ≤ p ∧ p ≤ 9223372036854775807) (most : Nat) (hmost : most < 18446744073709551616) :
    Sat Try.prog 6 [.d false 1 encB 0 b, .g [.v (.int .i64 p), .v (.int .i64 m)], .v (.int .u64 (most : Int))] [] (isV (.bool true)) := by
  refine Sat.of T_ok Try.func6 Try.call6 rfl rfl rfl ?_
  repeat' (first | constructor | intro _)
  all_goals try (first | exact sd rfl | exact sd ⟨rfl, by decide⟩ | exact sd (by decide))
  apply RunSem.lend T_ok awake_ok (fun v => ⟨rfl, rfl⟩)
  all_goals repeat' (first | constructor | intro _)
  all_goals try (first | exact sd rfl | exact sd ⟨rfl, by decide⟩ | exact sd (by decide))
  rename_i hc
  have hc' : b.length ≤ 400 := by simp at hc; omega
  apply RunSem.lend T_ok (Take_ok b p (by omega) hp) (fun v => ⟨rfl, rfl⟩)
  all_goals repeat' (first | constructor | intro _)
  all_goals try (first | exact sd rfl | exact sd ⟨rfl, by decide⟩ | exact sd (by decide))
  apply RunSem.lend T_ok (refTake_ok b p (by omega) hp) (fun v => ⟨rfl, rfl⟩)
  all_goals repeat' (first | constructor | intro _)
  all_goals try (first | exact sd rfl | exact sd ⟨rfl, by decide⟩ | exact sd (by decide))
  apply RunSem.lend T_ok (Many_ok b p m most (by omega) hp hmost) (fun x => by cases x <;> exact ⟨rfl, rfl⟩)
  case hd => rfl
  case hf => exact .func _
  case ha => repeat' constructor
  case hfull => rfl
  case ht => exact .nil _
  case hp => repeat' constructor
  rintro (_ | v1) hx1
  all_goals repeat' (first | constructor | intro _)
  all_goals try (first | exact sd rfl | exact sd ⟨rfl, by decide⟩ | exact sd (by decide))
  all_goals (
    apply RunSem.lend T_ok (refMany_ok b p m most (by omega) hp hmost) (fun x => by cases x <;> exact ⟨rfl, rfl⟩)
    case hd => rfl
    case hf => exact .func _
    case ha => repeat' constructor
    case hfull => rfl
    case ht => exact .nil _
    case hp => repeat' constructor)
  all_goals rintro (_ | v2) hx2
  all_goals repeat' (first | constructor | intro _)
  all_goals try (first | exact sd rfl | exact sd ⟨rfl, by decide⟩ | exact sd (by decide))
  all_goals apply RunSem.lend T_ok (Text_ok b p (by omega) hp) (fun v => ⟨rfl, rfl⟩)
  all_goals repeat' (first | constructor | intro _)
  all_goals try (first | exact sd rfl | exact sd ⟨rfl, by decide⟩ | exact sd (by decide))
  all_goals apply RunSem.lend T_ok (refText_ok b p (by omega) hp) (fun v => ⟨rfl, rfl⟩)
  all_goals repeat' (first | constructor | intro _)
  all_goals try (first | exact sd rfl | exact sd ⟨rfl, by decide⟩ | exact sd (by decide))
  all_goals have hlen := manyB_len b p m most
  all_goals apply RunSem.lend T_ok (Ints_ok (manyB b p m most).1 (manyB b p m most).1 (by omega)) (fun v => ⟨rfl, rfl⟩)
  all_goals repeat' (first | constructor | intro _)
  all_goals try (first | exact sd rfl | exact sd ⟨rfl, by decide⟩ | exact sd (by decide) | exact hx1 | exact hx2)
  all_goals simp [wrapRes]
end Go.Proofs.Ytndjnchalihleaa
