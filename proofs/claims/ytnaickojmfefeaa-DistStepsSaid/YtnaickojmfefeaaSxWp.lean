/- The machine's calculus, in an activation or in a round of a range over a function. -/
import Derived.OrdersIn
import Derived.TacticsIn
import Derived.RangeFuncLeaves
import Derived.RangeFuncRecord
import Derived.RangeFuncSeq
import Derived.Deep.LoopGhost
set_option linter.all false
namespace Go.Sx
theorem heapOld (w : World) (o : Obj) (k : Nat) (h : k < w.heap.size) : (w.alloc o).heap[k]? = w.heap[k]? := by
  show (w.heap.push o)[k]? = w.heap[k]?
  rw [Array.getElem?_push]
  simp [show k ≠ w.heap.size by omega]
/-- No fence; in round r. -/
abbrev fr (r : Option Nat) : Fence := { Fence.wide with round := r }
abbrev wpR (r : Option Nat) (P : Program) (c : Code) (Q : Exit → Act → World → Prop) (a : Act) (w : World) : Prop := c.wpIn (fr r) 0 P Q a w
abbrev wpListR (r : Option Nat) (P : Program) (ops : Array Oper) (Q : Exit → Act → World → Prop) (l : List Oper) (a : Act) (w : World) : Prop := wpListIn (fr r) 0 P ops Q l a w
abbrev opR (r : Option Nat) (P : Program) (o : Oper) (a : Act) (w : World) (next : Act → World → Prop) (Q : Exit → Act → World → Prop) : Prop := o.wpIn (fr r) 0 P a w next Q
theorem room_fr (r : Option Nat) (n : Nat) : (fr r).room n := room_wide n
theorem callsIn_fr {r : Option Nat} {n : Nat} {P : Program} {f : FuncId} {args : Array Value} {w : World} {R : Ending → World → Prop} : CallsIn (fr r) n P f args w R ↔ Calls P f args w R :=
  (Iff.rfl : CallsIn (fr r) n P f args w R ↔ CallsIn Fence.wide n P f args w R).trans callsIn_wide
theorem roundIn_fr {r r' : Option Nat} {n n' : Nat} {P : Program} {l : Nat} {f : FuncId} {tmps : Array Value} {assign body : Code} {w : World} {R : Ending → World → Prop} : RoundIn (fr r) n P l f tmps assign body w R ↔ RoundIn (fr r') n' P l f tmps assign body w R :=
  ⟨fun h => ⟨trivial, fun c cs _ => h.2 c cs (room_fr r _)⟩, fun h => ⟨trivial, fun c cs _ => h.2 c cs (room_fr r' _)⟩⟩

def isDefer : Op → Bool
  | .defer _ => true
  | _ => false
section
variable {r : Option Nat} {P : Program} {ops : Array Oper} {Q : Exit → Act → World → Prop} {a : Act} {w : World} {rest : List Oper} {o : Oper} {next : Act → World → Prop}
theorem wpListR_yes (hw : Region.wanted o (yielded ops a.tmps) = true) (h : opR r P o a w (wpListR r P ops Q rest) Q) : wpListR r P ops Q (o :: rest) a w := by
  show wpListIn _ _ _ _ _ _ _ _
  unfold wpListIn
  rw [if_pos hw]
  exact h
theorem wpListR_no (hw : ¬ Region.wanted o (yielded ops a.tmps) = true) (h : wpListR r P ops Q rest (a.put o.dst undef) w) : wpListR r P ops Q (o :: rest) a w := by
  show wpListIn _ _ _ _ _ _ _ _
  unfold wpListIn
  rw [if_neg hw]
  exact ⟨fun _ _ => trivial, h⟩
/-- What an operation's result must achieve. -/
def upR (r : Option Nat) (P : Program) (o : Oper) (a : Act) (next : Act → World → Prop) (Q : Exit → Act → World → Prop) : Result Next → Prop
  | .ok (.value v) w' => next (a.put o.dst v) w'
  | .ok .skip w' => next (a.put o.dst undef) w'
  | .ok (.enter f args) w' => Calls P f args w' fun
      | .returned v, w'' => next (a.put o.dst v) w''
      | .panicked chain, w'' => Q (.panic chain) a w''
      | .outgrown, _ => LetsOut Q
  | .ok (.round l f tmps assign body) w' => RoundIn (fr r) 0 P l f tmps assign body w' fun
      | .returned v, w'' => next (a.put o.dst v) w''
      | .panicked chain, w'' => Q (.panic chain) a w''
      | .outgrown, _ => LetsOut Q
  | .halt (.panic v) w' => Q (.panic [{ v, recovered := false }]) a w'
  | _ => False
theorem opR_of (hnd : isDefer o.op = false) {res : Result Next} (hr : (execOp a.eval o).run P w = res) (h : upR r P o a next Q res) : opR r P o a w next Q := by
  refine ⟨fun _ _ => trivial, ?_⟩
  rw [Oper.semAt_eq _ _ _ (fun c hc => by rw [hc] at hnd; cases hnd), hr]
  cases res with
  | ok x w' =>
    cases x <;> simp only [upR] at h <;> simp only [Oper.uponIn]
    all_goals first
      | exact h
      | exact h.elim
      | exact ⟨fun hd => (by cases hd), callsIn_fr.2 h⟩
      | exact ⟨fun hd => (by cases hd), h⟩
  | halt x w' => cases x <;> simp only [upR] at h <;> simp only [Oper.uponIn] <;> first | exact h | exact h.elim
theorem wpR_loop_ghost {c : Code} (I : Nat → Act → World → Prop) (n₀ : Nat) (h₀ : I n₀ a w)
    (round : ∀ n a w, I n a w → wpR r P c (Exit.then (fun a' w' => ∃ n', n' < n ∧ I n' a' w') Q) a w) : wpR r P (.loop c) Q a w := by
  refine wpIn_loop (fun a w => ∃ n, I n a w) (fun a w => leastOf (fun n => I n a w)) ⟨n₀, h₀⟩ ?_
  intro a w hI
  refine wpIn_mono (round _ a w (leastOf_spec hI).1) ?_
  intro e a' w' hq
  cases e with
  | normal =>
    obtain ⟨n', hlt, hI'⟩ := hq
    exact show (∃ n, I n a' w') ∧ leastOf (fun n => I n a' w') < leastOf (fun n => I n a w) from ⟨⟨n', hI'⟩, Nat.lt_of_le_of_lt ((leastOf_spec ⟨n', hI'⟩).2 n' hI') hlt⟩
  | exit id => exact hq
  | goto l => exact hq
  | ret => exact hq
  | panic ch => exact hq
  | outgrown => exact hq
end
end Go.Sx
