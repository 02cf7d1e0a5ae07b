/- The types of this translation, as the walks want them. -/
import Derived.Test.YtndjnchalihleaaProg
import Derived.Test.YtndjnchalihleaaSxKit
set_option linter.all false
namespace Go.Proofs.Ytndjnchalihleaa
open Go.Sx
def T : Tab := [(1, ⟨.func, 1, 8, [.nilFunc]⟩),
  (2, ⟨.int .i64, 1, 8, [.int .i64 0]⟩),
  (3, ⟨.int .i64, 1, 8, [.int .i64 0]⟩),
  (4, ⟨.bool, 1, 1, [.bool false]⟩),
  (5, ⟨.int .u8, 1, 1, [.int .u8 0]⟩),
  (9, ⟨.str, 1, 16, [.string ⟨#[]⟩]⟩),
  (12, ⟨.int .u64, 1, 8, [.int .u64 0]⟩),
  (20, ⟨.iface, 1, 16, [.nilIface]⟩),
  (21, ⟨.int .i32, 1, 4, [.int .i32 0]⟩),
  (22, ⟨.slice 24, 1, 24, [.slice none 0 0]⟩),
  (23, ⟨.func, 1, 8, [.nilFunc]⟩),
  (24, ⟨.int .u64, 1, 8, [.int .u64 0]⟩),
  (25, ⟨.func, 1, 8, [.nilFunc]⟩),
  (26, ⟨.slice 5, 1, 24, [.slice none 0 0]⟩),
  (27, ⟨.func, 1, 8, [.nilFunc]⟩),
  (28, ⟨.func, 1, 8, [.nilFunc]⟩),
  (29, ⟨.func, 1, 8, [.nilFunc]⟩),
  (30, ⟨.func, 1, 8, [.nilFunc]⟩),
  (31, ⟨.func, 1, 8, [.nilFunc]⟩),
  (32, ⟨.func, 1, 8, [.nilFunc]⟩),
  (33, ⟨.slice 2, 1, 24, [.slice none 0 0]⟩),
  (34, ⟨.int .i64, 1, 8, [.int .i64 0]⟩),
  (36, ⟨.func, 1, 8, [.nilFunc]⟩),
  (38, ⟨.func, 1, 8, [.nilFunc]⟩),
  (39, ⟨.func, 1, 8, [.nilFunc]⟩),
  (40, ⟨.func, 1, 8, [.nilFunc]⟩),
  (41, ⟨.array 2 3, 2, 16, [.int .i64 0, .int .i64 0]⟩),
  (42, ⟨.slice 3, 1, 24, [.slice none 0 0]⟩),
  (44, ⟨.func, 1, 8, [.nilFunc]⟩),
  (45, ⟨.func, 1, 8, [.nilFunc]⟩),
  (46, ⟨.func, 1, 8, [.nilFunc]⟩),
  (47, ⟨.int .u64, 1, 8, [.int .u64 0]⟩),
  (48, ⟨.func, 1, 8, [.nilFunc]⟩),
  (49, ⟨.func, 1, 8, [.nilFunc]⟩),
  (55, ⟨.func, 1, 8, [.nilFunc]⟩),
  (56, ⟨.int .u32, 1, 4, [.int .u32 0]⟩),
  (59, ⟨.func, 1, 8, [.nilFunc]⟩),
  (60, ⟨.ptr 5, 1, 8, [.pointer none]⟩)]
inductive AllOk (P : Program) : Tab → Prop where
  | nil : AllOk P []
  | cons {t : Nat} {y : Ty} {T : Tab} : y.ok P t → AllOk P T → AllOk P ((t, y) :: T)
theorem AllOk.tab {P : Program} {T : Tab} (h : AllOk P T) : TabOk P T := by
  induction h with
  | nil => intro t y h; simp [tget] at h
  | cons h1 _ ih =>
    intro t' y' h
    rw [tget] at h
    split at h
    · rename_i hb
      cases h
      rw [Nat.eq_of_beq_eq_true hb]
      exact h1
    · exact ih t' y' h
theorem T_ok : TabOk Try.prog T := AllOk.tab (by
  repeat' first
    | exact AllOk.nil
    | refine AllOk.cons ⟨_, _, rfl, rfl, by first | exact ⟨rfl, rfl⟩ | rfl | trivial, rfl, rfl, rfl, rfl, by first | rfl | trivial⟩ ?_)
end Go.Proofs.Ytndjnchalihleaa
