/- The types of this translation, as the walks want them. -/
import Derived.Test.YtlhcklmaikfjcaaProg
import Derived.Test.YtlhcklmaikfjcaaSxKit
set_option linter.all false
namespace Go.Proofs.Ytlhcklmaikfjcaa
open Go.Sx
def T : Tab := [(1, ⟨.func, 1, 8, [.nilFunc]⟩),
  (2, ⟨.int .i64, 1, 8, [.int .i64 0]⟩),
  (3, ⟨.int .i64, 1, 8, [.int .i64 0]⟩),
  (4, ⟨.bool, 1, 1, [.bool false]⟩),
  (5, ⟨.int .u8, 1, 1, [.int .u8 0]⟩),
  (9, ⟨.str, 1, 16, [.string ⟨#[]⟩]⟩),
  (12, ⟨.int .u64, 1, 8, [.int .u64 0]⟩),
  (20, ⟨.iface, 1, 16, [.nilIface]⟩),
  (21, ⟨.int .i32, 1, 4, [.int .i32 0]⟩),
  (22, ⟨.slice 3, 1, 24, [.slice none 0 0]⟩),
  (23, ⟨.array 3 22, 3, 72, [.slice none 0 0, .slice none 0 0, .slice none 0 0]⟩),
  (24, ⟨.func, 1, 8, [.nilFunc]⟩),
  (25, ⟨.func, 1, 8, [.nilFunc]⟩),
  (26, ⟨.int .i64, 1, 8, [.int .i64 0]⟩),
  (28, ⟨.func, 1, 8, [.nilFunc]⟩),
  (30, ⟨.func, 1, 8, [.nilFunc]⟩),
  (31, ⟨.func, 1, 8, [.nilFunc]⟩),
  (32, ⟨.ptr 37, 1, 8, [.pointer none]⟩),
  (33, ⟨.func, 1, 8, [.nilFunc]⟩),
  (34, ⟨.map 3 3, 1, 8, [.map none]⟩),
  (35, ⟨.map 3 4, 1, 8, [.map none]⟩),
  (36, ⟨.struct [(22, 0), (22, 1), (34, 2), (34, 3), (35, 4)], 5, 72, [.slice none 0 0, .slice none 0 0, .map none, .map none, .map none]⟩),
  (37, ⟨.struct [(22, 0), (22, 1), (34, 2), (34, 3), (35, 4)], 5, 72, [.slice none 0 0, .slice none 0 0, .map none, .map none, .map none]⟩),
  (39, ⟨.func, 1, 8, [.nilFunc]⟩),
  (40, ⟨.func, 1, 8, [.nilFunc]⟩),
  (41, ⟨.func, 1, 8, [.nilFunc]⟩),
  (42, ⟨.func, 1, 8, [.nilFunc]⟩),
  (43, ⟨.func, 1, 8, [.nilFunc]⟩),
  (49, ⟨.func, 1, 8, [.nilFunc]⟩),
  (50, ⟨.int .u32, 1, 4, [.int .u32 0]⟩),
  (53, ⟨.func, 1, 8, [.nilFunc]⟩),
  (54, ⟨.ptr 5, 1, 8, [.pointer none]⟩)]
inductive AllOk (P : Program) : Tab → Prop where
  | nil : AllOk P []
  | cons {t : Nat} {y : Ty} {T : Tab} : y.ok P t → AllOk P T → AllOk P ((t, y) :: T)
theorem AllOk.tab {P : Program} {T : Tab} (h : AllOk P T) : TabOk P T := by
  induction h with
  | nil => intro t y h; simp [tget] at h
  | cons h1 _ ih =>
    intro t' y' h
    rw [tget] at h
    split at h
    · rename_i hb
      cases h
      rw [Nat.eq_of_beq_eq_true hb]
      exact h1
    · exact ih t' y' h
theorem T_ok : TabOk Try.prog T := AllOk.tab (by
  repeat' first
    | exact AllOk.nil
    | refine AllOk.cons ⟨_, _, rfl, rfl, by first | exact ⟨rfl, rfl⟩ | rfl | trivial, rfl, rfl, rfl, rfl, by first | exact ⟨rfl, rfl⟩ | exact ⟨_, rfl⟩⟩ ?_)
end Go.Proofs.Ytlhcklmaikfjcaa
