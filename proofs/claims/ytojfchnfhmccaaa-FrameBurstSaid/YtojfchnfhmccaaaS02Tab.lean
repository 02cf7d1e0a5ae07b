/- The types of this translation, as the walks want them. -/
import Derived.Test.YtojfchnfhmccaaaProg
import Derived.Test.YtojfchnfhmccaaaSxC
set_option linter.all false
namespace Go.Proofs.Ytojfchnfhmccaaa
open Go.Sx
def T : Tab := [(1, ⟨.func, 1, 8, [.nilFunc]⟩),
  (2, ⟨.int .i64, 1, 8, [.int .i64 0]⟩),
  (3, ⟨.int .i64, 1, 8, [.int .i64 0]⟩),
  (4, ⟨.bool, 1, 1, [.bool false]⟩),
  (5, ⟨.int .u8, 1, 1, [.int .u8 0]⟩),
  (9, ⟨.str, 1, 16, [.string ⟨#[]⟩]⟩),
  (12, ⟨.int .u64, 1, 8, [.int .u64 0]⟩),
  (20, ⟨.iface, 1, 16, [.nilIface]⟩),
  (21, ⟨.int .i32, 1, 4, [.int .i32 0]⟩),
  (22, ⟨.slice 5, 1, 24, [.slice none 0 0]⟩),
  (23, ⟨.func, 1, 8, [.nilFunc]⟩),
  (24, ⟨.int .i64, 1, 8, [.int .i64 0]⟩),
  (26, ⟨.func, 1, 8, [.nilFunc]⟩),
  (27, ⟨.func, 1, 8, [.nilFunc]⟩),
  (28, ⟨.slice 22, 1, 24, [.slice none 0 0]⟩),
  (30, ⟨.func, 1, 8, [.nilFunc]⟩),
  (31, ⟨.func, 1, 8, [.nilFunc]⟩),
  (32, ⟨.int .u32, 1, 4, [.int .u32 0]⟩),
  (33, ⟨.func, 1, 8, [.nilFunc]⟩),
  (34, ⟨.func, 1, 8, [.nilFunc]⟩),
  (35, ⟨.func, 1, 8, [.nilFunc]⟩),
  (36, ⟨.slice 3, 1, 24, [.slice none 0 0]⟩),
  (37, ⟨.func, 1, 8, [.nilFunc]⟩),
  (38, ⟨.array 2 22, 2, 48, [.slice none 0 0, .slice none 0 0]⟩),
  (39, ⟨.func, 1, 8, [.nilFunc]⟩),
  (40, ⟨.func, 1, 8, [.nilFunc]⟩),
  (41, ⟨.func, 1, 8, [.nilFunc]⟩),
  (42, ⟨.int .u64, 1, 8, [.int .u64 0]⟩),
  (43, ⟨.func, 1, 8, [.nilFunc]⟩),
  (44, ⟨.func, 1, 8, [.nilFunc]⟩),
  (46, ⟨.func, 1, 8, [.nilFunc]⟩),
  (47, ⟨.func, 1, 8, [.nilFunc]⟩),
  (48, ⟨.array 256 32, 256, 1024, List.replicate 256 (.int .u32 0)⟩),
  (49, ⟨.func, 1, 8, [.nilFunc]⟩),
  (50, ⟨.int .u64, 1, 8, [.int .u64 0]⟩),
  (51, ⟨.func, 1, 8, [.nilFunc]⟩),
  (52, ⟨.slice 42, 1, 24, [.slice none 0 0]⟩),
  (53, ⟨.func, 1, 8, [.nilFunc]⟩),
  (59, ⟨.func, 1, 8, [.nilFunc]⟩),
  (62, ⟨.func, 1, 8, [.nilFunc]⟩),
  (63, ⟨.ptr 5, 1, 8, [.pointer none]⟩)]
inductive AllOk (P : Program) : Tab → Prop where
  | nil : AllOk P []
  | cons {t : Nat} {y : Ty} {T : Tab} : y.ok P t → AllOk P T → AllOk P ((t, y) :: T)
theorem AllOk.tab {P : Program} {T : Tab} (h : AllOk P T) : TabOk P T := by
  induction h with
  | nil => intro t y h; simp [tget] at h
  | cons h1 _ ih =>
    intro t' y' h
    rw [tget] at h
    split at h
    · rename_i hb
      cases h
      rw [Nat.eq_of_beq_eq_true hb]
      exact h1
    · exact ih t' y' h
set_option maxRecDepth 100000 in
theorem T_ok : TabOk Try.prog T := AllOk.tab (by
  repeat' first
    | exact AllOk.nil
    | refine AllOk.cons ⟨_, _, rfl, rfl, by first | exact ⟨rfl, rfl⟩ | rfl | trivial, rfl, rfl, rfl, rfl, by first | exact ⟨rfl, rfl⟩ | exact ⟨_, rfl⟩⟩ ?_)
end Go.Proofs.Ytojfchnfhmccaaa
