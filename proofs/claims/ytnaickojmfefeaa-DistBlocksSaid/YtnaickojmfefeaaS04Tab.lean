/- The types of this translation, as the walks want them. -/
import Derived.Test.YtnaickojmfefeaaProg
import Derived.Test.YtnaickojmfefeaaSxC
set_option linter.all false
namespace Go.Proofs.Ytnaickojmfefeaa
open Go.Sx
def T : Tab := [(1, ⟨.func, 1, 8, [.nilFunc]⟩),
  (2, ⟨.int .i64, 1, 8, [.int .i64 0]⟩),
  (3, ⟨.int .i64, 1, 8, [.int .i64 0]⟩),
  (4, ⟨.bool, 1, 1, [.bool false]⟩),
  (5, ⟨.int .u8, 1, 1, [.int .u8 0]⟩),
  (9, ⟨.str, 1, 16, [.string ⟨#[]⟩]⟩),
  (12, ⟨.int .u64, 1, 8, [.int .u64 0]⟩),
  (20, ⟨.iface, 1, 16, [.nilIface]⟩),
  (21, ⟨.int .i32, 1, 4, [.int .i32 0]⟩),
  (22, ⟨.struct [(3, 0), (3, 1), (9, 2)], 3, 32, [.int .i64 0, .int .i64 0, .string ⟨#[]⟩]⟩),
  (23, ⟨.struct [(3, 0), (3, 1), (9, 2)], 3, 32, [.int .i64 0, .int .i64 0, .string ⟨#[]⟩]⟩),
  (24, ⟨.array 2 3, 2, 16, [.int .i64 0, .int .i64 0]⟩),
  (25, ⟨.slice 3, 1, 24, [.slice none 0 0]⟩),
  (26, ⟨.array 2 25, 2, 48, [.slice none 0 0, .slice none 0 0]⟩),
  (27, ⟨.func, 1, 8, [.nilFunc]⟩),
  (28, ⟨.func, 1, 8, [.nilFunc]⟩),
  (29, ⟨.func, 1, 8, [.nilFunc]⟩),
  (30, ⟨.int .i64, 1, 8, [.int .i64 0]⟩),
  (32, ⟨.func, 1, 8, [.nilFunc]⟩),
  (34, ⟨.func, 1, 8, [.nilFunc]⟩),
  (35, ⟨.func, 1, 8, [.nilFunc]⟩),
  (36, ⟨.func, 1, 8, [.nilFunc]⟩),
  (37, ⟨.func, 1, 8, [.nilFunc]⟩),
  (38, ⟨.array 3 3, 3, 24, [.int .i64 0, .int .i64 0, .int .i64 0]⟩),
  (39, ⟨.func, 1, 8, [.nilFunc]⟩),
  (40, ⟨.func, 1, 8, [.nilFunc]⟩),
  (41, ⟨.slice 4, 1, 24, [.slice none 0 0]⟩),
  (43, ⟨.func, 1, 8, [.nilFunc]⟩),
  (44, ⟨.func, 1, 8, [.nilFunc]⟩),
  (45, ⟨.func, 1, 8, [.nilFunc]⟩),
  (46, ⟨.map 3 4, 1, 8, [.map none]⟩),
  (47, ⟨.func, 1, 8, [.nilFunc]⟩),
  (48, ⟨.func, 1, 8, [.nilFunc]⟩),
  (49, ⟨.func, 1, 8, [.nilFunc]⟩),
  (50, ⟨.func, 1, 8, [.nilFunc]⟩),
  (51, ⟨.func, 1, 8, [.nilFunc]⟩),
  (52, ⟨.func, 1, 8, [.nilFunc]⟩),
  (53, ⟨.func, 1, 8, [.nilFunc]⟩),
  (54, ⟨.func, 1, 8, [.nilFunc]⟩),
  (55, ⟨.func, 1, 8, [.nilFunc]⟩),
  (56, ⟨.array 4 3, 4, 32, [.int .i64 0, .int .i64 0, .int .i64 0, .int .i64 0]⟩),
  (57, ⟨.func, 1, 8, [.nilFunc]⟩),
  (58, ⟨.func, 1, 8, [.nilFunc]⟩),
  (64, ⟨.func, 1, 8, [.nilFunc]⟩),
  (65, ⟨.int .u32, 1, 4, [.int .u32 0]⟩),
  (68, ⟨.func, 1, 8, [.nilFunc]⟩),
  (69, ⟨.ptr 5, 1, 8, [.pointer none]⟩)]
inductive AllOk (P : Program) : Tab → Prop where
  | nil : AllOk P []
  | cons {t : Nat} {y : Ty} {T : Tab} : y.ok P t → AllOk P T → AllOk P ((t, y) :: T)
theorem AllOk.tab {P : Program} {T : Tab} (h : AllOk P T) : TabOk P T := by
  induction h with
  | nil => intro t y h; simp [tget] at h
  | cons h1 _ ih =>
    intro t' y' h
    rw [tget] at h
    split at h
    · rename_i hb
      cases h
      rw [Nat.eq_of_beq_eq_true hb]
      exact h1
    · exact ih t' y' h
theorem T_ok : TabOk Try.prog T := AllOk.tab (by
  repeat' first
    | exact AllOk.nil
    | refine AllOk.cons ⟨_, _, rfl, rfl, by first | exact ⟨rfl, rfl⟩ | rfl | trivial, rfl, rfl, rfl, rfl, by first | exact ⟨rfl, rfl⟩ | exact ⟨_, rfl⟩⟩ ?_)
end Go.Proofs.Ytnaickojmfefeaa
