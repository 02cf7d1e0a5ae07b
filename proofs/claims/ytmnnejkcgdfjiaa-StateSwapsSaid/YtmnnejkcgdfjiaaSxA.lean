/- The walks' framework, part A: merged texts. -/
import Derived.OrdersIn
import Derived.TacticsIn
import Derived.RangeFuncLeaves
import Derived.RangeFuncRecord
import Derived.RangeFuncSeq
import Derived.Deep.LoopGhost
import Derived.Laws.AppendOwn
import Derived.Laws.OwnMore
import Derived.Tactics
import Derived.Laws.Cells
import Derived.Laws.Rows
import Derived.MapKept
import Derived.Laws.IdiomStrings
import Derived.Deep.AppendSrc
import Derived.Deep.Upon
set_option linter.all false
section
/- The machine's calculus, in an activation or in a round of a range over a function. -/






namespace Go.Sx
theorem heapOld (w : World) (o : Obj) (k : Nat) (h : k < w.heap.size) : (w.alloc o).heap[k]? = w.heap[k]? := by
  show (w.heap.push o)[k]? = w.heap[k]?
  rw [Array.getElem?_push]
  simp [show k ≠ w.heap.size by omega]
/-- No fence; in round r. -/
abbrev fr (r : Option Nat) : Fence := { Fence.wide with round := r }
abbrev wpR (r : Option Nat) (P : Program) (c : Code) (Q : Exit → Act → World → Prop) (a : Act) (w : World) : Prop := c.wpIn (fr r) 0 P Q a w
abbrev wpListR (r : Option Nat) (P : Program) (ops : Array Oper) (Q : Exit → Act → World → Prop) (l : List Oper) (a : Act) (w : World) : Prop := wpListIn (fr r) 0 P ops Q l a w
abbrev opR (r : Option Nat) (P : Program) (o : Oper) (a : Act) (w : World) (next : Act → World → Prop) (Q : Exit → Act → World → Prop) : Prop := o.wpIn (fr r) 0 P a w next Q
theorem room_fr (r : Option Nat) (n : Nat) : (fr r).room n := room_wide n
theorem callsIn_fr {r : Option Nat} {n : Nat} {P : Program} {f : FuncId} {args : Array Value} {w : World} {R : Ending → World → Prop} : CallsIn (fr r) n P f args w R ↔ Calls P f args w R :=
  (Iff.rfl : CallsIn (fr r) n P f args w R ↔ CallsIn Fence.wide n P f args w R).trans callsIn_wide
theorem roundIn_fr {r r' : Option Nat} {n n' : Nat} {P : Program} {l : Nat} {f : FuncId} {tmps : Array Value} {assign body : Code} {w : World} {R : Ending → World → Prop} : RoundIn (fr r) n P l f tmps assign body w R ↔ RoundIn (fr r') n' P l f tmps assign body w R :=
  ⟨fun h => ⟨trivial, fun c cs _ => h.2 c cs (room_fr r _)⟩, fun h => ⟨trivial, fun c cs _ => h.2 c cs (room_fr r' _)⟩⟩

def isDefer : Op → Bool
  | .defer _ => true
  | _ => false
section
variable {r : Option Nat} {P : Program} {ops : Array Oper} {Q : Exit → Act → World → Prop} {a : Act} {w : World} {rest : List Oper} {o : Oper} {next : Act → World → Prop}
theorem wpListR_yes (hw : Region.wanted o (yielded ops a.tmps) = true) (h : opR r P o a w (wpListR r P ops Q rest) Q) : wpListR r P ops Q (o :: rest) a w := by
  show wpListIn _ _ _ _ _ _ _ _
  unfold wpListIn
  rw [if_pos hw]
  exact h
theorem wpListR_no (hw : ¬ Region.wanted o (yielded ops a.tmps) = true) (h : wpListR r P ops Q rest (a.put o.dst undef) w) : wpListR r P ops Q (o :: rest) a w := by
  show wpListIn _ _ _ _ _ _ _ _
  unfold wpListIn
  rw [if_neg hw]
  exact ⟨fun _ _ => trivial, h⟩
/-- What an operation's result must achieve. -/
def upR (r : Option Nat) (P : Program) (o : Oper) (a : Act) (next : Act → World → Prop) (Q : Exit → Act → World → Prop) : Result Next → Prop
  | .ok (.value v) w' => next (a.put o.dst v) w'
  | .ok .skip w' => next (a.put o.dst undef) w'
  | .ok (.enter f args) w' => Calls P f args w' fun
      | .returned v, w'' => next (a.put o.dst v) w''
      | .panicked chain, w'' => Q (.panic chain) a w''
      | .outgrown, _ => LetsOut Q
  | .ok (.round l f tmps assign body) w' => RoundIn (fr r) 0 P l f tmps assign body w' fun
      | .returned v, w'' => next (a.put o.dst v) w''
      | .panicked chain, w'' => Q (.panic chain) a w''
      | .outgrown, _ => LetsOut Q
  | .halt (.panic v) w' => Q (.panic [{ v, recovered := false }]) a w'
  | _ => False
theorem opR_of (hnd : isDefer o.op = false) {res : Result Next} (hr : (execOp a.eval o).run P w = res) (h : upR r P o a next Q res) : opR r P o a w next Q := by
  refine ⟨fun _ _ => trivial, ?_⟩
  rw [Oper.semAt_eq _ _ _ (fun c hc => by rw [hc] at hnd; cases hnd), hr]
  cases res with
  | ok x w' =>
    cases x <;> simp only [upR] at h <;> simp only [Oper.uponIn]
    all_goals first
      | exact h
      | exact h.elim
      | exact ⟨fun hd => (by cases hd), callsIn_fr.2 h⟩
      | exact ⟨fun hd => (by cases hd), h⟩
  | halt x w' => cases x <;> simp only [upR] at h <;> simp only [Oper.uponIn] <;> first | exact h | exact h.elim
theorem wpR_loop_ghost {c : Code} (I : Nat → Act → World → Prop) (n₀ : Nat) (h₀ : I n₀ a w)
    (round : ∀ n a w, I n a w → wpR r P c (Exit.then (fun a' w' => ∃ n', n' < n ∧ I n' a' w') Q) a w) : wpR r P (.loop c) Q a w := by
  refine wpIn_loop (fun a w => ∃ n, I n a w) (fun a w => leastOf (fun n => I n a w)) ⟨n₀, h₀⟩ ?_
  intro a w hI
  refine wpIn_mono (round _ a w (leastOf_spec hI).1) ?_
  intro e a' w' hq
  cases e with
  | normal =>
    obtain ⟨n', hlt, hI'⟩ := hq
    exact show (∃ n, I n a' w') ∧ leastOf (fun n => I n a' w') < leastOf (fun n => I n a w) from ⟨⟨n', hI'⟩, Nat.lt_of_le_of_lt ((leastOf_spec ⟨n', hI'⟩).2 n' hI') hlt⟩
  | exit id => exact hq
  | goto l => exact hq
  | ret => exact hq
  | panic ch => exact hq
  | outgrown => exact hq
end
end Go.Sx
end

section
/- Values and memory as proofs speak of them: deep data that is only read, memory that is owned. -/



namespace Go.Sx

/-- What a cell that is only read holds: a value, or a slice whose elements are told by a list. -/
inductive DV : Type 1 where
  | v (x : Value)
  | sl {α : Type} (sz : Nat) (enc : α → Nat → DV) (dv : α) (xs : List α)

def oneV : Value → Bool
  | .agg _ | .tuple _ => false
  | _ => true

inductive DAt (F : Nat → Prop) (w : World) : DV → Value → Prop where
  | v (x : Value) : oneV x = true → DAt F w (.v x) x
  | nil {α : Type} (sz : Nat) (enc : α → Nat → DV) (dv : α) (A : Option Addr) (c : Nat) : DAt F w (.sl sz enc dv []) (.slice A 0 c)
  | sl {α : Type} (sz : Nat) (enc : α → Nat → DV) (dv : α) (xs : List α) (a : Addr) (c : Nat) (Y : Nat → Nat → Value) :
      F a.block → a.block < w.heap.size → xs.length ≤ c →
      (∀ i j, i < xs.length → j < sz → w.cell? (a.add (i * sz + j)) = some (Y i j)) →
      (∀ i j, i < xs.length → j < sz → DAt F w (enc (xs.getD i dv) j) (Y i j)) → DAt F w (.sl sz enc dv xs) (.slice (some a) xs.length c)

theorem add_block (a : Addr) (n : Nat) : (a.add n).block = a.block := by unfold Addr.add; split <;> rfl

theorem DAt.mono {F F' : Nat → Prop} {w w' : World} {d : DV} {u : Value} (h : DAt F w d u) (hF : ∀ b, b < w.heap.size → F b → F' b ∧ w'.heap[b]? = w.heap[b]?) (hs : w.heap.size ≤ w'.heap.size) : DAt F' w' d u := by
  induction h with
  | v x h => exact .v x h
  | nil sz enc dv A c => exact .nil sz enc dv A c
  | sl sz enc dv xs a c Y hf hb hc hY _ ih =>
    refine .sl sz enc dv xs a c Y (hF _ hb hf).1 (by omega) hc (fun i j hi hj => ?_) ih
    rw [← hY i j hi hj]
    exact World.cell?_of_block (by rw [add_block]; exact (hF _ hb hf).2)

theorem DAt.inv_v {F : Nat → Prop} {w : World} {x u : Value} (h : DAt F w (.v x) u) : u = x := by
  generalize hd : DV.v x = d at h
  cases h <;> simp_all
theorem DAt.inv_one {F : Nat → Prop} {w : World} {d : DV} {u : Value} (h : DAt F w d u) : oneV u = true := by
  cases h with
  | v _ h => exact h
  | nil => rfl
  | sl => rfl
theorem DAt.inv_sl {F : Nat → Prop} {w : World} {α : Type} {sz : Nat} {enc : α → Nat → DV} {dv : α} {xs : List α} {u : Value} (h : DAt F w (.sl sz enc dv xs) u) :
    (xs = [] ∧ ∃ A c, u = .slice A 0 c) ∨ ∃ a c, u = .slice (some a) xs.length c ∧ F a.block ∧ a.block < w.heap.size ∧ xs.length ≤ c ∧
      ∀ i j, i < xs.length → j < sz → ∃ y, w.cell? (a.add (i * sz + j)) = some y ∧ DAt F w (enc (xs.getD i dv) j) y := by
  cases h with
  | nil _ _ _ A c => exact .inl ⟨rfl, A, c, rfl⟩
  | sl _ _ _ _ a c Y h1 h2 h3 h4 h5 => exact .inr ⟨a, c, rfl, h1, h2, h3, fun i j hi hj => ⟨_, h4 i j hi hj, h5 i j hi hj⟩⟩

inductive AV : Type 1 where
  | v (x : Value)
  | d {α : Type} (new : Bool) (sz : Nat) (enc : α → Nat → DV) (dv : α) (xs : List α)
  | p {α : Type} (new : Bool) (sz : Nat) (enc : α → Nat → DV) (dv : α) (xs : List α) (i j : Nat)
  | o (v : Value)
  | e (v : Value) (sz i j : Nat)
  | s (v : Value) (sz lo hi : Nat)
  | g (xs : List AV)
  | t (xs : List AV)
  | pan (x : Value)

structure Cx where
  own : Nat → Prop
  X : Nat → Prop
  B : Nat

def Cx.ok (cx : Cx) (new : Bool) (b : Nat) : Prop := ¬ cx.own b ∧ (¬ cx.X b ∧ (new = true → cx.B ≤ b))

mutual
def AAt (cx : Cx) (w : World) : AV → Value → Prop
  | .v x, u => u = x
  | .d new sz enc dv xs, u => DAt (cx.ok new) w (.sl sz enc dv xs) u
  | .p new sz enc dv xs i j, u => ∃ a c, u = .pointer (some (a.add (i * sz + j))) ∧ i < xs.length ∧ j < sz ∧ DAt (cx.ok new) w (.sl sz enc dv xs) (.slice (some a) xs.length c)
  | .o v, u => u = v ∧ ∃ A n c, v = .slice A n c
  | .e v sz i j, u => ∃ a n c, v = .slice (some a) n c ∧ i < n ∧ j < sz ∧ u = .pointer (some (a.add (i * sz + j)))
  | .s v sz lo hi, u => ∃ A n c, v = .slice A n c ∧ lo ≤ hi ∧ hi ≤ n ∧ n ≤ c ∧ u = .slice (if c = lo then A else A.map (·.add (lo * sz))) (hi - lo) (c - lo)
  | .g xs, u => ∃ arr : Array Value, u = .agg arr ∧ AAtL cx w xs arr.toList
  | .t xs, u => ∃ arr : Array Value, u = .tuple arr ∧ AAtL cx w xs arr.toList
  | .pan _, _ => False
def AAtL (cx : Cx) (w : World) : List AV → List Value → Prop
  | [], [] => True
  | x :: xs, u :: us => AAt cx w x u ∧ AAtL cx w xs us
  | _, _ => False
end

mutual
theorem AAt.mono {cx cx' : Cx} {w w' : World} (hF : ∀ n b, b < w.heap.size → cx.ok n b → cx'.ok n b ∧ w'.heap[b]? = w.heap[b]?) (hs : w.heap.size ≤ w'.heap.size) :
    ∀ {z : AV} {u : Value}, AAt cx w z u → AAt cx' w' z u
  | .v x, u, h => by simpa [AAt] using h
  | .d new sz enc dv xs, u, h => by
    simp only [AAt] at h ⊢
    exact DAt.mono h (fun b => hF new b) hs
  | .p new sz enc dv xs i j, u, h => by
    simp only [AAt] at h ⊢
    obtain ⟨a, c, h1, h2, h3, h4⟩ := h
    exact ⟨a, c, h1, h2, h3, DAt.mono h4 (fun b => hF new b) hs⟩
  | .o v, u, h => by simpa only [AAt] using h
  | .e v sz i j, u, h => by simpa only [AAt] using h
  | .s v sz lo hi, u, h => by simpa only [AAt] using h
  | .g xs, u, h => by
    simp only [AAt] at h ⊢
    obtain ⟨arr, h1, h2⟩ := h
    exact ⟨arr, h1, AAtL.mono hF hs h2⟩
  | .t xs, u, h => by
    simp only [AAt] at h ⊢
    obtain ⟨arr, h1, h2⟩ := h
    exact ⟨arr, h1, AAtL.mono hF hs h2⟩
  | .pan x, u, h => by simp [AAt] at h
theorem AAtL.mono {cx cx' : Cx} {w w' : World} (hF : ∀ n b, b < w.heap.size → cx.ok n b → cx'.ok n b ∧ w'.heap[b]? = w.heap[b]?) (hs : w.heap.size ≤ w'.heap.size) :
    ∀ {xs : List AV} {us : List Value}, AAtL cx w xs us → AAtL cx' w' xs us
  | [], [], _ => by simp [AAtL]
  | [], _ :: _, h => by simp [AAtL] at h
  | _ :: _, [], h => by simp [AAtL] at h
  | x :: xs, u :: us, h => by
    simp only [AAtL] at h ⊢
    exact ⟨AAt.mono hF hs h.1, AAtL.mono hF hs h.2⟩
end

end Go.Sx
end

section
/- A state as proofs speak of it: slots, and the memory that is owned; what a step keeps of it. -/


namespace Go.Sx

abbrev Path := List (Bool × Bool)
abbrev Env := List (Nat × Path × AV)
def lookup (s : Nat) : Env → Option (Path × AV)
  | [] => none
  | (t, q, z) :: e => match Nat.beq s t with
    | true => some (q, z)
    | false => lookup s e
def PathHolds : Path → Prop
  | [] => True
  | (c, b) :: q => c = b ∧ PathHolds q

inductive Res : Type 1 where
  | box (b : Nat) (cs : List AV)
  | row {α : Type} (v : Value) (new : Bool) (e : TypeId) (sz : Nat) (enc : α → Nat → DV) (dv : α) (xs : List α)
  | mp {κ α : Type} (r : Nat) (new : Bool) (kk : κ → Value) (agg : Bool) (sz : Nat) (enc : α → Nat → DV) (es : List (κ × α))
  | rnd (l N : Nat) (st : LoopState) (fn : FuncId) (ps : Array Tmp) (assign body : Code) (D : Nat) (env : Env)
  | it (b : Nat) (o : Obj)

def upD (new : Bool) : DV → AV
  | .v x => .v x
  | .sl sz enc dv xs => .d new sz enc dv xs
theorem upD_at {cx : Cx} {w : World} {new : Bool} {d : DV} {u : Value} (h : DAt (cx.ok new) w d u) : AAt cx w (upD new d) u := by
  cases d with
  | v x => cases h; simp [upD, AAt]
  | sl sz enc dv xs => simpa [upD, AAt] using h
/-- An element as a value: one cell, or an aggregate of cells. -/
def valA (new agg : Bool) (sz : Nat) (f : Nat → DV) : AV :=
  match agg with
  | true => .g ((List.range sz).map fun j => upD new (f j))
  | false => upD new (f 0)

def Res.blocks : Res → List Nat
  | .box b _ => [b]
  | .row v .. => v.ownBlock.toList
  | .mp r .. => [r]
  | .rnd l .. => [l]
  | .it b _ => [b]

/-- 'v' is nil, or a slice of a block that nobody has frozen; 'vals' are its cells. -/
def RowAt (w : World) (e : TypeId) (sz : Nat) (v : Value) (vals : List Value) : Prop :=
  (v = .slice none 0 0 ∧ vals = []) ∨
  ∃ g o n cap cur, v = .slice (some ⟨g, o, none⟩) n cap ∧ w.heap[g]? = some (.cells cur e (0, 0)) ∧ n ≤ cap ∧ cap ≤ maxLen ∧ o + cap * sz ≤ cur.size ∧ vals.length = n * sz ∧ vals = (cur.toList.drop o).take (n * sz)

def MapAt {κ α : Type} (cx : Cx) (w : World) (new : Bool) (kk : κ → Value) (agg : Bool) (sz : Nat) (enc : α → Nat → DV) (es : List (κ × α)) (l : List MapEntry) : Prop :=
  l.length = es.length ∧ ∀ (i : Nat) (m : MapEntry) (p : κ × α), l[i]? = some m → es[i]? = some p → m.key = kk p.1 ∧ AAt cx w (valA new agg sz (enc p.2)) m.val

def RAt (cx : Cx) (w : World) : Res → Prop
  | .box b cs => ∃ arr e, w.heap[b]? = some (.cells arr e (0, 0)) ∧ AAtL cx w cs arr.toList
  | .row v new e sz enc dv xs => ∃ vals, RowAt w e sz v vals ∧ vals.length = xs.length * sz ∧
      (∀ A n c, v = .slice A n c → n = xs.length) ∧
      ∀ i j, i < xs.length → j < sz → ∃ y, vals[i * sz + j]? = some y ∧ DAt (cx.ok new) w (enc (xs.getD i dv) j) y
  | .mp r new kk agg sz enc es => ∃ ents clock, w.heap[r]? = some (.map ents clock) ∧ MapAt cx w new kk agg sz enc es ents.toList ∧ (∀ m ∈ ents.toList, m.born < clock) ∧ (ents.toList.map (·.born)).Nodup
  | .rnd l N st fn ps assign body D env => ∃ tmps, w.heap[l]? = some (.loop { state := st, pending := none, fn, tmps, params := ps, assign, body, defers := D }) ∧ tmps.size = N ∧
      ∀ s z, lookup s env = some ([], z) → AAt cx w z (tmps.getD s undef)
  | .it b o => w.heap[b]? = some o ∧ ∀ x, o ≠ .deferred x

theorem RAt.lt {cx : Cx} {w : World} {r : Res} (h : RAt cx w r) : ∀ b ∈ r.blocks, b < w.heap.size := by
  intro b hb
  cases r with
  | box b' cs =>
    obtain ⟨arr, e, h1, _⟩ := h
    simp only [Res.blocks, List.mem_singleton] at hb
    subst hb
    exact (Array.getElem?_eq_some_iff.1 h1).1
  | row v new e sz enc dv xs =>
    obtain ⟨vals, h1, _⟩ := h
    rcases h1 with ⟨rfl, _⟩ | ⟨g, o, n, cap, cur, rfl, hg, _⟩
    · simp [Res.blocks, Value.ownBlock] at hb
    · simp [Res.blocks, Value.ownBlock] at hb
      subst hb
      exact (Array.getElem?_eq_some_iff.1 hg).1
  | mp r new kk agg sz enc es =>
    obtain ⟨ents, clock, h1, _⟩ := h
    simp only [Res.blocks, List.mem_singleton] at hb
    subst hb
    exact (Array.getElem?_eq_some_iff.1 h1).1
  | rnd l N st fn ps assign body D env =>
    obtain ⟨tmps, h1, _⟩ := h
    simp only [Res.blocks, List.mem_singleton] at hb
    subst hb
    exact (Array.getElem?_eq_some_iff.1 h1).1
  | it b' o =>
    simp only [Res.blocks, List.mem_singleton] at hb
    subst hb
    exact (Array.getElem?_eq_some_iff.1 h.1).1

theorem RAt.mono {cx cx' : Cx} {w w' : World} {r : Res} (hF : ∀ n b, b < w.heap.size → cx.ok n b → cx'.ok n b ∧ w'.heap[b]? = w.heap[b]?) (hs : w.heap.size ≤ w'.heap.size)
    (hr : ∀ b ∈ r.blocks, w'.heap[b]? = w.heap[b]?) (h : RAt cx w r) : RAt cx' w' r := by
  cases r with
  | box b cs =>
    obtain ⟨arr, e, h1, h2⟩ := h
    exact ⟨arr, e, (hr b (by simp [Res.blocks])).trans h1, AAtL.mono hF hs h2⟩
  | row v new e sz enc dv xs =>
    obtain ⟨vals, h1, h2, h3, h4⟩ := h
    refine ⟨vals, ?_, h2, h3, fun i j hi hj => ?_⟩
    · rcases h1 with h1 | ⟨g, o, n, cap, cur, rfl, hg, rest⟩
      · exact .inl h1
      · exact .inr ⟨g, o, n, cap, cur, rfl, (hr g (by simp [Res.blocks, Value.ownBlock])).trans hg, rest⟩
    · obtain ⟨y, hy1, hy2⟩ := h4 i j hi hj
      exact ⟨y, hy1, hy2.mono (fun b => hF new b) hs⟩
  | mp r new kk agg sz enc es =>
    obtain ⟨ents, clock, h1, h2, h3, h4⟩ := h
    refine ⟨ents, clock, (hr r (by simp [Res.blocks])).trans h1, ⟨h2.1, fun i m p hm hp => ?_⟩, h3, h4⟩
    obtain ⟨k1, k2⟩ := h2.2 i m p hm hp
    exact ⟨k1, AAt.mono hF hs k2⟩
  | rnd l N st fn ps assign body D env =>
    obtain ⟨tmps, h1, h2, h3⟩ := h
    exact ⟨tmps, (hr l (by simp [Res.blocks])).trans h1, h2, fun s z hl => AAt.mono hF hs (h3 s z hl)⟩
  | it b o => exact ⟨(hr b (by simp [Res.blocks])).trans h.1, h.2⟩

abbrev Sto := List Res
def blocksOf (sto : Sto) : List Nat := sto.flatMap Res.blocks
def cxOf (B : Nat) (X : Nat → Prop) (sto : Sto) : Cx := { own := fun b => b ∈ blocksOf sto, X, B }

/-- What stays as it was since a call began: all but the blocks that were handed to it. -/
structure Kept (O : List Nat) (w w' : World) : Prop where
  os : w'.os = w.os
  tape : w'.tape = w.tape
  output : w'.output = w.output
  size : w.heap.size ≤ w'.heap.size
  block : ∀ k, k < w.heap.size → k ∉ O → w'.heap[k]? = w.heap[k]?

theorem Kept.refl (O : List Nat) (w : World) : Kept O w w := ⟨rfl, rfl, rfl, Nat.le_refl _, fun _ _ _ => rfl⟩
theorem Kept.trans {O O' : List Nat} {a b c : World} (h : Kept O a b) (k : Kept O' b c) (hO : ∀ x ∈ O', x ∈ O ∨ a.heap.size ≤ x) : Kept O a c :=
  ⟨k.os.trans h.os, k.tape.trans h.tape, k.output.trans h.output, Nat.le_trans h.size k.size, fun i hi hn =>
    (k.block i (Nat.lt_of_lt_of_le hi h.size) (fun hm => by rcases hO i hm with h' | h'; exact hn h'; omega)).trans (h.block i hi hn)⟩

/-- Where a walk stands: the world and the blocks with which the call began, the number of slots. -/
structure Ctx where
  w0 : World
  O : List Nat
  X : Nat → Prop
  N : Nat
  rnd : Option Nat
  /-- What is new begins here. -/
  B : Nat

def Ctx.cx (C : Ctx) (sto : Sto) : Cx := cxOf C.B C.X sto

/-- How many slots; whether this is no round. -/
structure Fm where
  n : Nat
  top : Bool
  fresh : Bool
def Ctx.fits (C : Ctx) (N : Fm) : Prop := C.N = N.n ∧ (N.top = true → C.rnd = none) ∧ (N.fresh = true → ∀ b ∈ C.O, C.B ≤ b)
/-- Deferred calls: but the marks of ranges over functions. -/
def Marks (C : Ctx) (sto : Sto) (ds : List Deferred) (w : World) : Prop :=
  ds.Nodup ∧ ∀ d ∈ ds, ∃ r, d = { target := .collected r, args := #[] } ∧ C.B ≤ r ∧ r ∉ blocksOf sto ∧ w.heap[r]? = some (.deferred (some []))
theorem Marks.sub {C : Ctx} {s s' : Sto} {ds : List Deferred} {w : World} (h : Marks C s ds w) (hs : ∀ b ∈ blocksOf s', b ∈ blocksOf s) : Marks C s' ds w :=
  ⟨h.1, fun d hd => by obtain ⟨r, h1, h2, h3, h4⟩ := h.2 d hd; exact ⟨r, h1, h2, fun hm => h3 (hs r hm), h4⟩⟩

structure Abs (C : Ctx) (env : Env) (sto : Sto) (a : Act) (w : World) : Prop where
  kept : Kept C.O C.w0 w
  nodup : (blocksOf sto).Nodup
  src : ∀ b ∈ blocksOf sto, b ∈ C.O ∨ C.w0.heap.size ≤ b
  res : ∀ r ∈ sto, RAt (C.cx sto) w r
  slots : ∀ s q z, lookup s env = some (q, z) → PathHolds q → AAt (C.cx sto) w z (a.tmps.getD s undef)
  envU : ∀ s q z, lookup s env = some (q, z) → ¬ PathHolds q → a.tmps.getD s undef = undef
  tsize : a.tmps.size = C.N
  defers : Marks C sto a.defers w
  xlt : ∀ b, C.X b → b < C.w0.heap.size
  xown : ∀ b ∈ C.O, ¬ C.X b
  base : C.B ≤ C.w0.heap.size

theorem Abs.lt {C : Ctx} {env : Env} {sto : Sto} {a : Act} {w : World} (h : Abs C env sto a w) : ∀ b ∈ blocksOf sto, b < w.heap.size := by
  intro b hb
  obtain ⟨r, hr, hbr⟩ := List.mem_flatMap.1 hb
  exact (h.res r hr).lt b hbr

theorem lookup_cons (s t : Nat) (q : Path) (z : AV) (e : Env) : lookup s ((t, q, z) :: e) = if s = t then some (q, z) else lookup s e := by
  rw [lookup]
  cases h : Nat.beq s t with
  | true => simp [Nat.eq_of_beq_eq_true h]
  | false => simp [Nat.ne_of_beq_eq_false h]

theorem getD_set_same {xs : Array Value} {d : Nat} {v u : Value} (h : d < xs.size) : (xs.setIfInBounds d v).getD d u = v := by
  simp [h]
theorem getD_set_other {xs : Array Value} {d s : Nat} {v u : Value} (h : s ≠ d) : (xs.setIfInBounds d v).getD s u = xs.getD s u := by
  simp [Array.getElem?_setIfInBounds_ne (Ne.symm h)]

/-- A slot gets a value; the world is as it was but for draws. -/
theorem Abs.put {C : Ctx} {env : Env} {sto : Sto} {a : Act} {w : World} (h : Abs C env sto a w) {d : Nat} (hd : d < C.N) {q : Path} {z : AV} {u : Value}
    (hz : PathHolds q → AAt (C.cx sto) w z u) (hu : ¬ PathHolds q → u = undef) : Abs C ((d, q, z) :: env) sto (a.put (some d) u) w := by
  refine ⟨h.kept, h.nodup, h.src, h.res, fun s q' z' hl hq => ?_, fun s q' z' hl hq => ?_, by simp [Act.put, h.tsize], h.defers, h.xlt, h.xown, h.base⟩
  · rw [lookup_cons] at hl
    show AAt _ _ _ ((a.tmps.setIfInBounds d u).getD s undef)
    split at hl
    · rename_i e
      simp only [Option.some.injEq, Prod.mk.injEq] at hl
      obtain ⟨rfl, rfl⟩ := hl
      subst e
      rw [getD_set_same (by rw [h.tsize]; exact hd)]
      exact hz hq
    · rename_i e
      rw [getD_set_other e]
      exact h.slots s q' z' hl hq
  · rw [lookup_cons] at hl
    show (a.tmps.setIfInBounds d u).getD s undef = undef
    split at hl
    · rename_i e
      simp only [Option.some.injEq, Prod.mk.injEq] at hl
      obtain ⟨rfl, rfl⟩ := hl
      subst e
      rw [getD_set_same (by rw [h.tsize]; exact hd)]
      exact hu hq
    · rename_i e
      rw [getD_set_other e]
      exact h.envU s q' z' hl hq

theorem Abs.put0 {C : Ctx} {env : Env} {sto : Sto} {a : Act} {w : World} (h : Abs C env sto a w) {d : Nat} (hd : d < C.N) {z : AV} {u : Value}
    (hz : AAt (C.cx sto) w z u) : Abs C ((d, [], z) :: env) sto (a.put (some d) u) w := h.put hd (fun _ => hz) (fun hn => absurd trivial hn)

theorem Abs.put_none {C : Ctx} {env : Env} {sto : Sto} {a : Act} {w : World} (h : Abs C env sto a w) (u : Value) : Abs C env sto (a.put none u) w := h

/-- The world turns: blocks that are owned may turn as told; all others stay. -/
theorem Abs.step {C : Ctx} {env : Env} {sto sto' : Sto} {a : Act} {w w' : World} (h : Abs C env sto a w)
    (hk : Kept (blocksOf sto) w w') (hn : (blocksOf sto').Nodup)
    (hb : ∀ b ∈ blocksOf sto', b ∈ blocksOf sto ∨ w.heap.size ≤ b)
    (hr : ∀ r ∈ sto', RAt (C.cx sto') w' r)
    (hd : ∀ b, b < w.heap.size → b ∈ blocksOf sto' → b ∈ blocksOf sto) : Abs C env sto' a w' := by
  have hF : ∀ n b, b < w.heap.size → (C.cx sto).ok n b → (C.cx sto').ok n b ∧ w'.heap[b]? = w.heap[b]? := by
    intro n b hlt hok
    exact ⟨⟨fun hm => hok.1 (hd b hlt hm), hok.2⟩, hk.block b hlt hok.1⟩
  have hdf : Marks C sto' a.defers w' := by
    refine ⟨h.defers.1, fun d hd' => ?_⟩
    obtain ⟨r, h1, h2, h3, h4⟩ := h.defers.2 d hd'
    have hlt : r < w.heap.size := (Array.getElem?_eq_some_iff.1 h4).1
    refine ⟨r, h1, h2, fun hm => ?_, (hk.block r hlt h3).trans h4⟩
    rcases hb r hm with h' | h'
    · exact h3 h'
    · omega
  refine ⟨h.kept.trans hk (fun x hx => (h.src x hx)), hn, fun b hm => ?_, hr, fun s q z hl hq => AAt.mono hF hk.size (h.slots s q z hl hq), h.envU, h.tsize, hdf, h.xlt, h.xown, h.base⟩
  rcases hb b hm with h' | h'
  · exact h.src b h'
  · exact .inr (Nat.le_trans h.kept.size h')

theorem Abs.drew {C : Ctx} {env : Env} {sto : Sto} {a : Act} {w : World} (h : Abs C env sto a w) : Abs C env sto a w.drew := by
  refine h.step ⟨rfl, rfl, rfl, Nat.le_refl _, fun _ _ _ => rfl⟩ h.nodup (fun b hb => .inl hb) (fun r hr => ?_) (fun _ _ h => h)
  exact RAt.mono (w := w) (w' := w.drew) (fun n b _ hok => ⟨hok, rfl⟩) (Nat.le_refl _) (fun _ _ => rfl) (h.res r hr)

theorem Abs.le {C : Ctx} {env env' : Env} {sto : Sto} {a : Act} {w : World} (hA : Abs C env sto a w) (h : ∀ s q z, lookup s env' = some (q, z) → lookup s env = some (q, z)) : Abs C env' sto a w :=
  ⟨hA.kept, hA.nodup, hA.src, hA.res, fun s q z hl hq => hA.slots s q z (h s q z hl) hq, fun s q z hl hq => hA.envU s q z (h s q z hl) hq, hA.tsize, hA.defers, hA.xlt, hA.xown, hA.base⟩

end Go.Sx
end

section
/- Operations that leave memory as it is: what they yield. -/



namespace Go.Sx

/-! ### Types -/
inductive TK where
  | bool | int (k : IntKind) | str | ptr (e : TypeId) | slice (e : TypeId) | array (n : Nat) (e : TypeId) | map (k e : TypeId) | struct (fs : List (TypeId × Nat)) | func | iface | other
structure Ty where
  k : TK
  size : Nat
  bytes : Nat
  zero : List Value
abbrev Tab := List (Nat × Ty)
def tget (t : Nat) : Tab → Option Ty
  | [] => none
  | (s, y) :: e => match Nat.beq t s with
    | true => some y
    | false => tget t e
def TK.fits : TK → TypeDesc → Prop
  | .bool, .bool => True
  | .int k, .int k' => k = k'
  | .str, .string => True
  | .ptr e, .pointer e' => e = e'
  | .slice e, .slice e' => e = e'
  | .array n e, .array n' e' => n = n' ∧ e = e'
  | .map k e, .map k' e' => k = k' ∧ e = e'
  | .struct fs, .struct fs' => fs'.toList.map (fun f => (f.type, f.offset)) = fs
  | .func, .func .. => True
  | .iface, .interface _ => True
  | _, _ => False
def Ty.ok (P : Program) (t : TypeId) (y : Ty) : Prop :=
  ∃ d i, P.underlying t = some d ∧ P.info? t = some i ∧ y.k.fits d ∧ i.size = y.size ∧ i.bytes = y.bytes ∧ i.zero.map (·.cells.toList) = some y.zero ∧ y.zero.length = y.size ∧ (match y.k with | .struct _ | .array .. => ∃ arr, i.zero = some (.agg arr) | _ => y.size = 1 ∧ i.zero = y.zero.head?)
def TabOk (P : Program) (T : Tab) : Prop := ∀ t y, tget t T = some y → y.ok P t
def TK.agg : TK → Bool
  | .struct _ | .array .. => true
  | _ => false

/-! ### Operands -/
inductive PMem (c b : Bool) : Path → Prop where
  | head (q : Path) : PMem c b ((c, b) :: q)
  | tail (x : Bool × Bool) (q : Path) : PMem c b q → PMem c b (x :: q)
inductive SubPath : Path → Path → Prop where
  | nil (q : Path) : SubPath [] q
  | cons {c b : Bool} {p q : Path} : PMem c b q → SubPath p q → SubPath ((c, b) :: p) q
theorem PMem.holds {c b : Bool} {q : Path} (h : PMem c b q) (hq : PathHolds q) : c = b := by
  induction h with
  | head q => exact hq.1
  | tail x q _ ih => exact ih (by cases x; exact hq.2)
theorem SubPath.holds {p q : Path} (h : SubPath p q) (hq : PathHolds q) : PathHolds p := by
  induction h with
  | nil q => trivial
  | cons hm _ ih => exact ⟨hm.holds hq, ih hq⟩

inductive Get (env : Env) (q : Path) : Operand → AV → Prop where
  | tmp {t : Tmp} {q' : Path} {z : AV} : lookup t env = some (q', z) → SubPath q' q → Get env q (.tmp t) z
  | const (v : Value) : Get env q (.const v) (.v v)
  | func (f : FuncId) : Get env q (.func f) (.v (.func (.func f) #[] #[]))
  | global (g : Nat) : Get env q (.global g) (.v (.pointer (some ⟨g, 0, none⟩)))

theorem Get.sound {C : Ctx} {env : Env} {sto : Sto} {a : Act} {w : World} (h : Abs C env sto a w) {q : Path} (hq : PathHolds q) {x : Operand} {z : AV} (hg : Get env q x z) :
    AAt (C.cx sto) w z (a.eval x) := by
  cases hg with
  | tmp hl hs => exact h.slots _ _ _ hl (hs.holds hq)
  | const v => simp [AAt, Act.eval]
  | func f => simp [AAt, Act.eval]
  | global g => simp [AAt, Act.eval]

theorem Get.v {C : Ctx} {env : Env} {sto : Sto} {a : Act} {w : World} (h : Abs C env sto a w) {q : Path} (hq : PathHolds q) {x : Operand} {v : Value} (hg : Get env q x (.v v)) :
    a.eval x = v := by simpa [AAt] using hg.sound h hq

/-! ### What two values come to -/
def binV (op : BinOp) (x y : Value) : Option (Prop × Value) :=
  match x, y with
  | .int k a, .int k' b =>
    match op with
    | .shl => some (0 ≤ b, .int k (k.wrap (a * 2 ^ (min b.toNat k.bits))))
    | .shr => some (0 ≤ b, .int k (a.fdiv (2 ^ (min b.toNat k.bits))))
    | .add => some (k = k', .int k (k.wrap (a + b)))
    | .sub => some (k = k', .int k (k.wrap (a - b)))
    | .mul => some (k = k', .int k (k.wrap (a * b)))
    | .quo => some (k = k' ∧ b ≠ 0, .int k (k.wrap (a.tdiv b)))
    | .rem => some (k = k' ∧ b ≠ 0, .int k (a.tmod b))
    | .and => some (k = k', .int k (k.wrap (BitVec.ofInt k.bits a &&& BitVec.ofInt k.bits b).toNat))
    | .or => some (k = k', .int k (k.wrap (BitVec.ofInt k.bits a ||| BitVec.ofInt k.bits b).toNat))
    | .xor => some (k = k', .int k (k.wrap (BitVec.ofInt k.bits a ^^^ BitVec.ofInt k.bits b).toNat))
    | .andNot => some (k = k', .int k (k.wrap (BitVec.ofInt k.bits a &&& ~~~(BitVec.ofInt k.bits b)).toNat))
    | .eql => some (k = k', .bool (a == b))
    | .neq => some (k = k', .bool (a != b))
    | .lss => some (k = k', .bool (decide (a < b)))
    | .leq => some (k = k', .bool (decide (a ≤ b)))
    | .gtr => some (k = k', .bool (decide (a > b)))
    | .geq => some (k = k', .bool (decide (a ≥ b)))
  | .string a, .string b =>
    match op with
    | .eql => some (True, .bool (a.toList == b.toList))
    | .neq => some (True, .bool (!(a.toList == b.toList)))
    | .add => some (((a.size + b.size : Nat) : Int) ≤ IntKind.i64.max, .string (a ++ b))
    | _ => none
  | _, _ => none

theorem binV_run {P : Program} {op : BinOp} {t : TypeId} {x y : Operand} {u v r : Value} {s : Prop} (h : binV op u v = some (s, r)) (hs : s) (w : World) :
    (do eqGuard op t x y u v; binOp op t u v : Sem Value).run P w = .ok r w := by
  have hg : (eqGuard op t x y u v).run P w = .ok () w := by
    unfold binV at h
    split at h
    · cases op <;> simp [eqGuard, go_sem]
    · cases op <;> simp [eqGuard, go_sem]
    · cases h
  rw [Sem.run_bind, hg]
  simp only [Result.andThen_ok]
  unfold binV at h
  split at h
  · cases op <;> simp only [Option.some.injEq, Prod.mk.injEq, reduceCtorEq] at h <;> (try cases h) <;> simp only [binOp]
    all_goals (first
      | (rename_i k a k' b h1 h2; subst h1 h2; first
          | (subst hs; simp [Op.intArith, Op.intBits, Op.intCmp, go_sem]; done)
          | (obtain ⟨rfl, hb⟩ := hs; simp [Op.intDiv, hb, go_sem]; done)
          | (simp [Op.shift, Int.not_lt.2 hs, go_sem]; done))
      | skip)
  · cases op <;> simp only [Option.some.injEq, Prod.mk.injEq, reduceCtorEq] at h <;> (try cases h) <;> simp only [binOp, Op.stringOp]
    all_goals (first
      | (rename_i a b h1 h2; subst h1 h2; first
          | (simp [go_sem]; done)
          | (rw [if_neg (Int.not_lt.2 hs)]; simp [go_sem]; done))
      | skip)
  · cases h

/-- Numbers that do not overflow. -/
def binX (op : BinOp) (x y : Value) : Option (Prop × Value) :=
  match op, x, y with
  | .add, .int .i64 a, .int .i64 b => some (-9223372036854775808 ≤ a + b ∧ a + b ≤ 9223372036854775807, .int .i64 (a + b))
  | .sub, .int .i64 a, .int .i64 b => some (-9223372036854775808 ≤ a - b ∧ a - b ≤ 9223372036854775807, .int .i64 (a - b))
  | .mul, .int .i64 a, .int .i64 b => some (-9223372036854775808 ≤ a * b ∧ a * b ≤ 9223372036854775807, .int .i64 (a * b))
  | .rem, .int .i64 a, .int .i64 b => some (0 ≤ a ∧ 0 < b, .int .i64 (a % b))
  | .quo, .int .i64 a, .int .i64 b => some (0 ≤ a ∧ 0 < b ∧ a ≤ 9223372036854775807, .int .i64 (a / b))
  | _, _, _ => none
theorem wrap_in {x : Int} (h : -9223372036854775808 ≤ x ∧ x ≤ 9223372036854775807) : IntKind.i64.wrap x = x := by rw [IntKind.wrap_i64]; omega
theorem binX_run {P : Program} {op : BinOp} {t : TypeId} {x y : Operand} {u v r : Value} {s : Prop} (h : binX op u v = some (s, r)) (hs : s) (w : World) :
    (do eqGuard op t x y u v; binOp op t u v : Sem Value).run P w = .ok r w := by
  unfold binX at h
  split at h
  · simp only [Option.some.injEq, Prod.mk.injEq] at h
    obtain ⟨rfl, rfl⟩ := h
    rw [binV_run (s := IntKind.i64 = IntKind.i64) rfl rfl w, wrap_in hs]
  · simp only [Option.some.injEq, Prod.mk.injEq] at h
    obtain ⟨rfl, rfl⟩ := h
    rw [binV_run (s := IntKind.i64 = IntKind.i64) rfl rfl w, wrap_in hs]
  · simp only [Option.some.injEq, Prod.mk.injEq] at h
    obtain ⟨rfl, rfl⟩ := h
    rw [binV_run (s := IntKind.i64 = IntKind.i64) rfl rfl w, wrap_in hs]
  · rename_i a b
    simp only [Option.some.injEq, Prod.mk.injEq] at h
    obtain ⟨rfl, rfl⟩ := h
    rw [binV_run (s := IntKind.i64 = IntKind.i64 ∧ b ≠ 0) rfl ⟨rfl, by omega⟩ w, Int.tmod_eq_emod_of_nonneg hs.1]
  · rename_i a b
    simp only [Option.some.injEq, Prod.mk.injEq] at h
    obtain ⟨rfl, rfl⟩ := h
    have h1 : 0 ≤ a / b := Int.ediv_nonneg hs.1 (by omega)
    have h2 : a / b ≤ a := Int.ediv_le_self _ hs.1
    rw [binV_run (s := IntKind.i64 = IntKind.i64 ∧ b ≠ 0) rfl ⟨rfl, by omega⟩ w, Int.tdiv_eq_ediv_of_nonneg hs.1, wrap_in (by omega)]
  · cases h

/-! ### What memory holds -/
inductive RBox (b : Nat) (cs : List AV) : Sto → Prop where
  | head (r : Sto) : RBox b cs (.box b cs :: r)
  | tail (x : Res) (r : Sto) : RBox b cs r → RBox b cs (x :: r)
inductive RRow {α : Type} (v : Value) (new : Bool) (e : TypeId) (sz : Nat) (enc : α → Nat → DV) (dv : α) (xs : List α) : Sto → Prop where
  | head (r : Sto) : RRow v new e sz enc dv xs (.row v new e sz enc dv xs :: r)
  | tail (x : Res) (r : Sto) : RRow v new e sz enc dv xs r → RRow v new e sz enc dv xs (x :: r)
inductive RMap {κ α : Type} (m : Nat) (new : Bool) (kk : κ → Value) (agg : Bool) (sz : Nat) (enc : α → Nat → DV) (es : List (κ × α)) : Sto → Prop where
  | head (r : Sto) : RMap m new kk agg sz enc es (.mp m new kk agg sz enc es :: r)
  | tail (x : Res) (r : Sto) : RMap m new kk agg sz enc es r → RMap m new kk agg sz enc es (x :: r)
theorem RBox.mem {b : Nat} {cs : List AV} {sto : Sto} (h : RBox b cs sto) : Res.box b cs ∈ sto := by
  induction h with
  | head => simp
  | tail _ _ _ ih => simp [ih]
theorem RRow.mem {α : Type} {v : Value} {new : Bool} {e : TypeId} {sz : Nat} {enc : α → Nat → DV} {dv : α} {xs : List α} {sto : Sto} (h : RRow v new e sz enc dv xs sto) : Res.row v new e sz enc dv xs ∈ sto := by
  induction h with
  | head => simp
  | tail _ _ _ ih => simp [ih]
theorem RMap.mem {κ α : Type} {m : Nat} {new : Bool} {kk : κ → Value} {agg : Bool} {sz : Nat} {enc : α → Nat → DV} {es : List (κ × α)} {sto : Sto} (h : RMap m new kk agg sz enc es sto) : Res.mp m new kk agg sz enc es ∈ sto := by
  induction h with
  | head => simp
  | tail _ _ _ ih => simp [ih]

/-- What is read at cell j of an element: one cell, or n of them. -/
def readP (agg : Bool) (n : Nat) (new : Bool) (sz : Nat) (f : Nat → DV) (j : Nat) : Option AV :=
  match agg with
  | false => match Nat.blt j sz with | true => some (upD new (f j)) | false => none
  | true => match Nat.ble (j + n) sz with | true => some (.g ((List.range n).map fun m => upD new (f (j + m)))) | false => none
def readB (agg : Bool) (n : Nat) (cs : List AV) (j : Nat) : Option AV :=
  match agg with
  | false => cs[j]?
  | true => match Nat.ble (j + n) cs.length with | true => some (.g ((cs.drop j).take n)) | false => none

theorem AAtL.length {cx : Cx} {w : World} : ∀ {xs : List AV} {us : List Value}, AAtL cx w xs us → xs.length = us.length
  | [], [], _ => rfl
  | [], _ :: _, h => by simp [AAtL] at h
  | _ :: _, [], h => by simp [AAtL] at h
  | x :: xs, u :: us, h => by simp only [AAtL] at h; simp [AAtL.length h.2]
theorem AAtL.get {cx : Cx} {w : World} : ∀ {xs : List AV} {us : List Value}, AAtL cx w xs us → ∀ (j : Nat) (z : AV), xs[j]? = some z → ∃ u, us[j]? = some u ∧ AAt cx w z u
  | [], [], _, j, z, h => by simp at h
  | [], _ :: _, h, _, _, _ => by simp [AAtL] at h
  | _ :: _, [], h, _, _, _ => by simp [AAtL] at h
  | x :: xs, u :: us, h, 0, z, hz => by simp only [AAtL] at h; simp at hz; subst hz; exact ⟨u, by simp, h.1⟩
  | x :: xs, u :: us, h, j + 1, z, hz => by simp only [AAtL] at h; simpa using AAtL.get h.2 j z (by simpa using hz)
theorem AAtL.drop {cx : Cx} {w : World} : ∀ {xs : List AV} {us : List Value} (j : Nat), AAtL cx w xs us → AAtL cx w (xs.drop j) (us.drop j)
  | xs, us, 0, h => by simpa using h
  | [], [], j + 1, _ => by simp [AAtL]
  | [], _ :: _, _, h => by simp [AAtL] at h
  | _ :: _, [], _, h => by simp [AAtL] at h
  | x :: xs, u :: us, j + 1, h => by simp only [AAtL] at h; simpa using AAtL.drop j h.2
theorem AAtL.take {cx : Cx} {w : World} : ∀ {xs : List AV} {us : List Value} (j : Nat), AAtL cx w xs us → AAtL cx w (xs.take j) (us.take j)
  | xs, us, 0, _ => by simp [AAtL]
  | [], [], j + 1, _ => by simp [AAtL]
  | [], _ :: _, _, h => by simp [AAtL] at h
  | _ :: _, [], _, h => by simp [AAtL] at h
  | x :: xs, u :: us, j + 1, h => by simp only [AAtL] at h; simp only [List.take_succ_cons, AAtL]; exact ⟨h.1, AAtL.take j h.2⟩
theorem AAtL.of_get {cx : Cx} {w : World} : ∀ {xs : List AV} {us : List Value}, xs.length = us.length → (∀ (j : Nat) (z : AV) (u : Value), xs[j]? = some z → us[j]? = some u → AAt cx w z u) → AAtL cx w xs us
  | [], [], _, _ => by simp [AAtL]
  | [], _ :: _, h, _ => by simp at h
  | _ :: _, [], h, _ => by simp at h
  | x :: xs, u :: us, hl, h => by
    simp only [AAtL]
    exact ⟨h 0 x u (by simp) (by simp), AAtL.of_get (by simpa using hl) (fun j z u hz hu => h (j + 1) z u (by simpa using hz) (by simpa using hu))⟩

theorem cell_of_heap {w : World} {b j : Nat} {arr : Array Value} {e : TypeId} {fr : Nat × Nat} (h : w.heap[b]? = some (.cells arr e fr)) : w.cell? ⟨b, j, none⟩ = arr[j]? := by
  simp [World.cell?, h]
theorem add_none (b o n : Nat) : (⟨b, o, none⟩ : Addr).add n = ⟨b, o + n, none⟩ := by
  unfold Addr.add
  split
  · simp_all
  · rfl

theorem row_cell {cx : Cx} {w : World} {α : Type} {v : Value} {new : Bool} {e : TypeId} {sz : Nat} {enc : α → Nat → DV} {dv : α} {xs : List α}
    (h : RAt cx w (.row v new e sz enc dv xs)) {a : Addr} {n c : Nat} (hv : v = .slice (some a) n c) {i j : Nat} (hi : i < xs.length) (hj : j < sz) :
    ∃ y, w.cell? (a.add (i * sz + j)) = some y ∧ DAt (cx.ok new) w (enc (xs.getD i dv) j) y := by
  obtain ⟨vals, h1, h2, h3, h4⟩ := h
  obtain ⟨y, hy1, hy2⟩ := h4 i j hi hj
  refine ⟨y, ?_, hy2⟩
  rcases h1 with ⟨rfl, _⟩ | ⟨g, o, n', cap, cur, rfl, hg, hn, hm, hc, hl, hvals⟩
  · simp at hv
  · simp only [Value.slice.injEq, Option.some.injEq] at hv
    obtain ⟨rfl, rfl, rfl⟩ := hv
    rw [add_none, cell_of_heap hg]
    rw [hvals, List.getElem?_take, List.getElem?_drop] at hy1
    split at hy1
    · simpa using hy1
    · cases hy1

theorem DAt.of_cells {F : Nat → Prop} {w : World} {α : Type} {sz : Nat} {enc : α → Nat → DV} {dv : α} {xs : List α} {a : Addr} {c : Nat} (hf : F a.block) (hb : a.block < w.heap.size) (hc : xs.length ≤ c)
    (h : ∀ i j, i < xs.length → j < sz → ∃ y, w.cell? (a.add (i * sz + j)) = some y ∧ DAt F w (enc (xs.getD i dv) j) y) : DAt F w (.sl sz enc dv xs) (.slice (some a) xs.length c) := by
  have hch : ∃ Y : Nat → Nat → Value, ∀ i j, i < xs.length → j < sz → w.cell? (a.add (i * sz + j)) = some (Y i j) ∧ DAt F w (enc (xs.getD i dv) j) (Y i j) := by
    refine ⟨fun i j => if h' : i < xs.length ∧ j < sz then (h i j h'.1 h'.2).choose else undef, fun i j hi hj => ?_⟩
    have hij : i < xs.length ∧ j < sz := ⟨hi, hj⟩
    simp only [hij, and_self, dif_pos]
    exact (h i j hi hj).choose_spec
  obtain ⟨Y, hY⟩ := hch
  exact .sl sz enc dv xs a c Y hf hb hc (fun i j hi hj => (hY i j hi hj).1) (fun i j hi hj => (hY i j hi hj).2)

/-- An owned row, seen as data. -/
theorem row_data {cx : Cx} {F : Nat → Prop} {w : World} {α : Type} {v : Value} {new : Bool} {e : TypeId} {sz : Nat} {enc : α → Nat → DV} {dv : α} {xs : List α}
    (h : RAt cx w (.row v new e sz enc dv xs)) (hF : ∀ b, b < w.heap.size → cx.ok new b → F b) (hv : ∀ b ∈ v.ownBlock.toList, F b) : DAt F w (.sl sz enc dv xs) v := by
  have h' := h
  obtain ⟨vals, h1, h2, h3, h4⟩ := h'
  rcases h1 with ⟨rfl, rfl⟩ | ⟨g, o, n', cap, cur, rfl, hg, hn, hm, hc, hl, hvals⟩
  · have hx := h3 _ _ _ rfl
    have : xs = [] := List.eq_nil_of_length_eq_zero hx.symm
    subst this
    exact .nil _ _ _ _ _
  · have hx := h3 _ _ _ rfl
    subst hx
    refine .of_cells (hv g (by simp [Value.ownBlock])) (Array.getElem?_eq_some_iff.1 hg).1 hn (fun i j hi hj => ?_)
    obtain ⟨y, hy1, hy2⟩ := row_cell h rfl hi hj
    exact ⟨y, hy1, hy2.mono (fun b hb hok => ⟨hF b hb hok, rfl⟩) (Nat.le_refl _)⟩

/-- A part of data. -/
theorem DAt.part {F : Nat → Prop} {w : World} {α : Type} {sz : Nat} {enc : α → Nat → DV} {dv : α} {xs : List α} {A : Option Addr} {n c lo hi : Nat} (h : DAt F w (.sl sz enc dv xs) (.slice A n c)) (h1 : lo ≤ hi) (h2 : hi ≤ n) (m : Nat) (hm : hi ≤ m) (hmc : m ≤ c) :
    DAt F w (.sl sz enc dv ((xs.take hi).drop lo)) (.slice (if m = lo then A else A.map (·.add (lo * sz))) (hi - lo) (m - lo)) := by
  rcases h.inv_sl with ⟨rfl, A', c', h'⟩ | ⟨a, c', h', hf, hb, hc, hY⟩
  · simp only [Value.slice.injEq] at h'
    obtain ⟨rfl, rfl, rfl⟩ := h'
    have : hi - lo = 0 := by omega
    rw [this]
    simpa using DAt.nil sz enc dv _ _
  · simp only [Value.slice.injEq] at h'
    obtain ⟨rfl, rfl, rfl⟩ := h'
    have hlen : ((xs.take hi).drop lo).length = hi - lo := by simp; omega
    by_cases he : (xs.take hi).drop lo = []
    · have : hi - lo = 0 := by rw [← hlen, he]; rfl
      rw [he, this]
      exact .nil _ _ _ _ _
    · have hpos : 0 < ((xs.take hi).drop lo).length := List.length_pos_iff.2 he
      rw [if_neg (by omega), ← hlen]
      refine .of_cells (by simpa [add_block] using hf) (by simpa [add_block] using hb) (by omega) (fun i j hi' hj => ?_)
      obtain ⟨y, hy1, hy2⟩ := hY (lo + i) j (by omega) hj
      refine ⟨y, ?_, ?_⟩
      · have hadd : (a.add (lo * sz)).add (i * sz + j) = a.add ((lo + i) * sz + j) := by
          have e : (lo + i) * sz + j = lo * sz + (i * sz + j) := by rw [Nat.add_mul, Nat.add_assoc]
          rw [e]
          unfold Addr.add
          split
          · rename_i h0
            rw [h0]
            simp
          · rename_i h0
            split
            · rename_i h1
              rw [h1]
              simp only [Nat.zero_add, if_neg h0]
            · rw [if_neg (by omega)]
              simp [Nat.add_assoc]
        rw [hadd]
        exact hy1
      · have : ((xs.take hi).drop lo).getD i dv = xs.getD (lo + i) dv := by
          simp only [List.getD, List.getElem?_drop, List.getElem?_take]
          rw [if_pos (by omega)]
        rw [this]
        exact hy2

end Go.Sx
end

section
/- What single operations come to, told of the model's own functions. -/

namespace Go.Sx
section
variable {P : Program} {t : TypeId} {y : Ty} {w : World}

theorem Ty.ok.und (h : y.ok P t) : ∃ d, P.underlying t = some d ∧ y.k.fits d := by obtain ⟨d, i, h1, h2, h3, _⟩ := h; exact ⟨d, h1, h3⟩
theorem Ty.ok.info (h : y.ok P t) : ∃ i, P.info? t = some i ∧ i.size = y.size ∧ i.bytes = y.bytes ∧ i.zero.map (·.cells.toList) = some y.zero ∧ y.zero.length = y.size := by
  obtain ⟨d, i, h1, h2, h3, h4, h5, h6, h7, _⟩ := h; exact ⟨i, h2, h4, h5, h6, h7⟩
theorem run_und (h : y.ok P t) : ∃ d, (underlying t).run P w = .ok d w ∧ y.k.fits d := by
  obtain ⟨d, h1, h2⟩ := h.und
  exact ⟨d, run_underlying h1 w, h2⟩
theorem run_isAgg (h : y.ok P t) : (isAgg t).run P w = .ok y.k.agg w := by
  obtain ⟨d, h1, h2⟩ := h.und
  simp only [isAgg, Sem.run_bind, run_underlying h1, Result.andThen_ok]
  cases hk : y.k <;> cases d <;> simp_all [TK.fits, TK.agg]
theorem run_size (h : y.ok P t) : (sizeOf t).run P w = .ok y.size w := by
  obtain ⟨i, h1, h2, _⟩ := h.info
  simp [sizeOf, typeInfo, h1, h2]
theorem run_und_slice {e : TypeId} {n b : Nat} {z : List Value} (h : (Ty.mk (.slice e) n b z).ok P t) : (underlying t).run P w = .ok (.slice e) w := by
  obtain ⟨d, h1, h2⟩ := run_und (w := w) h
  cases d <;> simp_all [TK.fits]
theorem run_und_int {k : IntKind} {n b : Nat} {z : List Value} (h : (Ty.mk (.int k) n b z).ok P t) : (underlying t).run P w = .ok (.int k) w := by
  obtain ⟨d, h1, h2⟩ := run_und (w := w) h
  cases d <;> simp_all [TK.fits]
theorem run_und_str {n b : Nat} {z : List Value} (h : (Ty.mk .str n b z).ok P t) : (underlying t).run P w = .ok .string w := by
  obtain ⟨d, h1, h2⟩ := run_und (w := w) h
  cases d <;> simp_all [TK.fits]
theorem run_und_array {m : Nat} {e : TypeId} {n b : Nat} {z : List Value} (h : (Ty.mk (.array m e) n b z).ok P t) : (underlying t).run P w = .ok (.array m e) w := by
  obtain ⟨d, h1, h2⟩ := run_und (w := w) h
  cases d <;> simp_all [TK.fits]
theorem run_und_map {ke e : TypeId} {n b : Nat} {z : List Value} (h : (Ty.mk (.map ke e) n b z).ok P t) : (underlying t).run P w = .ok (.map ke e) w := by
  obtain ⟨d, h1, h2⟩ := run_und (w := w) h
  cases d <;> simp_all [TK.fits]
theorem run_und_struct {fs : List (TypeId × Nat)} {n b : Nat} {z : List Value} (h : (Ty.mk (.struct fs) n b z).ok P t) : ∃ fs', (underlying t).run P w = .ok (.struct fs') w ∧ fs'.toList.map (fun f => (f.type, f.offset)) = fs := by
  obtain ⟨d, h1, h2⟩ := run_und (w := w) h
  cases d <;> simp_all [TK.fits]

theorem run_load_one (h : y.ok P t) (ha : y.k.agg = false) {a : Addr} {v : Value} (hc : w.cell? a = some v) : (Instr.loadAt t (.pointer (some a))).run P w = .ok v w := by
  simp [Instr.loadAt, Instr.sureAddr, loadVar, run_isAgg h, ha, hc]
theorem run_load_agg (h : y.ok P t) (ha : y.k.agg = true) {a : Addr} {f : Nat → Value} (hc : ∀ j, j < y.size → w.cell? (a.add j) = some (f j)) :
    (Instr.loadAt t (.pointer (some a))).run P w = .ok (.agg ((List.range y.size).map f).toArray) w := by
  simp [Instr.loadAt, Instr.sureAddr, loadVar, run_isAgg h, ha, run_size h, run_loadCells w a y.size f hc]

theorem run_fieldAt {fs : List (TypeId × Nat)} {n b : Nat} {z : List Value} (h : (Ty.mk (.struct fs) n b z).ok P t) {f : Nat} {ft : TypeId} {off : Nat} (hf : fs[f]? = some (ft, off))
    {yf : Ty} (hy : yf.ok P ft) (h0 : yf.size ≠ 0) (a : Addr) : (Instr.fieldAt t (.pointer (some a)) f).run P w = .ok (.pointer (some (a.add off))) w := by
  obtain ⟨fs', h1, h2⟩ := run_und_struct (w := w) h
  rw [← h2, List.getElem?_map] at hf
  obtain ⟨f', hf1, hf2⟩ : ∃ f', fs'[f]? = some f' ∧ (f'.type, f'.offset) = (ft, off) := by simpa using hf
  simp only [Prod.mk.injEq] at hf2
  obtain ⟨rfl, rfl⟩ := hf2
  simp [Instr.fieldAt, h1, hf1, Instr.sureAddr, fieldPlace, run_size hy, h0]

theorem run_indexAt {e : TypeId} {n b : Nat} {z : List Value} (h : (Ty.mk (.slice e) n b z).ok P t) {ye : Ty} (hy : ye.ok P e) {a : Addr} {len cap : Nat} {k : IntKind} {i : Int} (h0 : 0 ≤ i) (h1 : i < len) :
    (Instr.indexAt t (.slice (some a) len cap) (.int k i)).run P w = .ok (.pointer (some (a.add (i.toNat * ye.size)))) w := by
  simp [Instr.indexAt, asIntOf, run_und_slice h, h0, h1, run_size hy]

theorem run_indexAt_arr {e len : Nat} {n b : Nat} {z : List Value} (h : (Ty.mk (.array len e) n b z).ok P t) {ye : Ty} (hy : ye.ok P e) {a : Addr} {k : IntKind} {i : Int} (h0 : 0 ≤ i) (h1 : i < len) :
    (Instr.indexAt t (.pointer (some a)) (.int k i)).run P w = .ok (.pointer (some (a.add (i.toNat * ye.size)))) w := by
  simp [Instr.indexAt, asIntOf, run_und_array h, h0, h1, run_size hy, Instr.sureAddr]

theorem run_sliceBound {x : Value} {k : IntKind} {i : Int} {n : Nat} {code : BoundsCode} (hx : x = .int k i) (h0 : 0 ≤ i) (h1 : i ≤ n) : (Instr.sliceBound x n code).run P w = .ok i.toNat w := by
  subst hx
  simp [Instr.sliceBound, asIntOf, h0, h1]

/-- Where a cut begins and ends. -/
def boundI : Option Value → Nat → Option Int
  | none, d => some d
  | some (.int _ i), _ => some i
  | some _, _ => none

theorem run_bounds {isSlice : Bool} {len cap : Nat} {lo hi mx : Option Value} {l u m : Int}
    (hl : boundI lo 0 = some l) (hu : boundI hi len = some u) (hm : boundI mx cap = some m) (hmx : mx.isSome = true → hi.isSome = true) (h0 : 0 ≤ l) (h1 : l ≤ u) (h2 : u ≤ m) (h3 : m ≤ cap) :
    (Instr.sliceBounds isSlice len cap lo hi mx).run P w = .ok (l.toNat, u.toNat, m.toNat) w := by
  have hm' : mx = none ∧ m = cap ∨ ∃ k, mx = some (.int k m) := by
    cases mx with
    | none => simp [boundI] at hm; exact .inl ⟨rfl, hm.symm⟩
    | some v => cases v <;> simp [boundI] at hm; exact .inr ⟨_, by rw [hm]⟩
  have hu' : hi = none ∧ u = len ∨ ∃ k, hi = some (.int k u) := by
    cases hi with
    | none => simp [boundI] at hu; exact .inl ⟨rfl, hu.symm⟩
    | some v => cases v <;> simp [boundI] at hu; exact .inr ⟨_, by rw [hu]⟩
  have hl' : lo = none ∧ l = 0 ∨ ∃ k, lo = some (.int k l) := by
    cases lo with
    | none => simp [boundI] at hl; exact .inl ⟨rfl, hl.symm⟩
    | some v => cases v <;> simp [boundI] at hl; exact .inr ⟨_, by rw [hl]⟩
  have e0 : ((m.toNat : Nat) : Int) = m := Int.toNat_of_nonneg (by omega)
  have e1 : ((u.toNat : Nat) : Int) = u := Int.toNat_of_nonneg (by omega)
  rcases hm' with ⟨rfl, rfl⟩ | ⟨km, rfl⟩ <;> rcases hu' with ⟨rfl, rfl⟩ | ⟨ku, rfl⟩ <;> rcases hl' with ⟨rfl, rfl⟩ | ⟨kl, rfl⟩ <;>
    first
    | (simp at hmx; done)
    | (simp [Instr.sliceBounds, Instr.sliceBound, asIntOf, h0, h1, h2, h3, e0, e1, Int.le_trans h0 h1, Int.le_trans (Int.le_trans h0 h1) h2]; done)
    | (simp only [Int.toNat_natCast] at e0 e1 ⊢; simp [Instr.sliceBounds, Instr.sliceBound, asIntOf, h0, h1, h2, h3, e0, e1, Int.le_trans h0 h1, Int.le_trans (Int.le_trans h0 h1) h2])

theorem run_sliceAt_slice {e : TypeId} {n b : Nat} {z : List Value} (h : (Ty.mk (.slice e) n b z).ok P t) {ye : Ty} (hy : ye.ok P e) {A : Option Addr} {len cap : Nat} {lo hi mx : Option Value} {l u m : Int}
    (hl : boundI lo 0 = some l) (hu : boundI hi len = some u) (hm : boundI mx cap = some m) (hmx : mx.isSome = true → hi.isSome = true) (h0 : 0 ≤ l) (h1 : l ≤ u) (h2 : u ≤ m) (h3 : m ≤ cap) :
    (Instr.sliceAt t (.slice A len cap) lo hi mx).run P w = .ok (.slice (if m.toNat = l.toNat then A else A.map (·.add (l.toNat * ye.size))) (u.toNat - l.toNat) (m.toNat - l.toNat)) w := by
  simp [Instr.sliceAt, Instr.slice, run_und_slice h, run_bounds hl hu hm hmx h0 h1 h2 h3, run_size hy]

theorem run_sliceAt_string {n b : Nat} {z : List Value} (h : (Ty.mk .str n b z).ok P t) {s : ByteArray} {lo hi : Option Value} {l u : Int}
    (hl : boundI lo 0 = some l) (hu : boundI hi s.size = some u) (h0 : 0 ≤ l) (h1 : l ≤ u) (h2 : u ≤ s.size) :
    (Instr.sliceAt t (.string s) lo hi none).run P w = .ok (.string (s.extract l.toNat u.toNat)) w := by
  simp [Instr.sliceAt, Instr.slice, run_und_str h, run_bounds (mx := none) hl hu rfl (by simp) h0 h1 h2 (by omega)]

end
end Go.Sx
end

section
/- Maps with plain keys. -/


set_option linter.unusedSectionVars false
namespace Go.Sx

/-- Keys that are compared without asking. -/
structure PlainKey {κ : Type} [DecidableEq κ] (d : TypeDesc) (kk : κ → Value) : Prop where
  same : ∀ a b, Instr.sameNow d (kk a) (kk b) = some (decide (a = b))
  bits : ∀ a, Instr.sameBits 10000 (kk a) (kk a) = true
  check : ∀ (P : Program) (w : World) (kt : TypeId) (em : Bool) (n : Nat) (a : κ), P.underlying kt = some d → (Instr.checkKey em (n + 1) kt (kk a)).run P w = .ok () w

def kInt (k : IntKind) (x : Int) : Value := .int k x
def kStr (s : ByteArray) : Value := .string s
theorem plain_int (k : IntKind) : PlainKey (.int k) (kInt k) := by
  refine ⟨fun a b => ?_, fun a => ?_, fun P w kt em n a hu => ?_⟩
  · simp [Instr.sameNow, kInt]
    by_cases h : a = b <;> simp [h]
  · simp [kInt, Instr.sameBits]
  · simp [Instr.checkKey, run_underlying hu, kInt]

def mget {κ α : Type} [DecidableEq κ] (es : List (κ × α)) (k : κ) : Option α :=
  match es.findIdx? (fun p => decide (k = p.1)) with
  | some j => (es[j]?).map (·.2)
  | none => none
def mset {κ α : Type} [DecidableEq κ] (es : List (κ × α)) (k : κ) (v : α) : List (κ × α) :=
  match es.findIdx? (fun p => decide (k = p.1)) with
  | some j => es.set j (k, v)
  | none => es ++ [(k, v)]

theorem findNow_at {κ α : Type} [DecidableEq κ] {d : TypeDesc} {kk : κ → Value} (hK : PlainKey d kk) (k : κ) : ∀ (es : List (κ × α)) (l : List MapEntry) (i0 : Nat), l.length = es.length → (∀ (i : Nat) (m : MapEntry) (p : κ × α), l[i]? = some m → es[i]? = some p → m.key = kk p.1) →
    Instr.findNow d (kk k) l i0 = some (match es.findIdx? (fun p => decide (k = p.1)) with | some j => (l[j]?).map (fun m => (i0 + j, m.val)) | none => none)
  | [], [], i0, _, _ => by simp [Instr.findNow]
  | [], _ :: _, _, h, _ => by simp at h
  | _ :: _, [], _, h, _ => by simp at h
  | p :: es, m :: l, i0, h, hk => by
    have hm : m.key = kk p.1 := hk 0 m p (by simp) (by simp)
    rw [Instr.findNow, hm, hK.same, List.findIdx?_cons]
    by_cases hkp : k = p.1
    · simp [hkp]
    · have ih := findNow_at hK k es l (i0 + 1) (by simpa using h) (fun i m p hm hp => hk (i + 1) m p (by simpa using hm) (by simpa using hp))
      simp only [hkp, decide_false, Bool.false_eq_true, if_false]
      rw [ih]
      cases he : es.findIdx? (fun p => decide (k = p.1)) with
      | none => simp
      | some j => simp [Nat.add_assoc, Nat.add_comm 1 j]

theorem mget_nil {κ α : Type} [DecidableEq κ] (k : κ) : mget ([] : List (κ × α)) k = none := by simp [mget]
theorem mget_cons {κ α : Type} [DecidableEq κ] (p : κ × α) (es : List (κ × α)) (k : κ) : mget (p :: es) k = if k = p.1 then some p.2 else mget es k := by
  unfold mget
  rw [List.findIdx?_cons]
  by_cases h : k = p.1
  · simp [h]
  · simp only [h, decide_false, Bool.false_eq_true, if_false]
    cases List.findIdx? (fun p => decide (k = p.1)) es with
    | none => simp
    | some j => simp
theorem mset_nil {κ α : Type} [DecidableEq κ] (k : κ) (v : α) : mset ([] : List (κ × α)) k v = [(k, v)] := by simp [mset]
theorem mset_cons {κ α : Type} [DecidableEq κ] (p : κ × α) (es : List (κ × α)) (k : κ) (v : α) : mset (p :: es) k v = if k = p.1 then (k, v) :: es else p :: mset es k v := by
  unfold mset
  rw [List.findIdx?_cons]
  by_cases h : k = p.1
  · simp [h]
  · simp only [h, decide_false, Bool.false_eq_true, if_false]
    cases List.findIdx? (fun p => decide (k = p.1)) es with
    | none => simp
    | some j => simp
theorem mget_mset {κ α : Type} [DecidableEq κ] (k : κ) (v : α) (k' : κ) : ∀ es : List (κ × α), mget (mset es k v) k' = if k' = k then some v else mget es k'
  | [] => by rw [mset_nil, mget_cons]
  | p :: es => by
    rw [mset_cons]
    by_cases h : k = p.1
    · rw [if_pos h, mget_cons, mget_cons]
      by_cases h' : k' = k
      · simp [h']
      · rw [if_neg h', if_neg h', if_neg (fun e => h' (e.trans h.symm))]
    · rw [if_neg h, mget_cons, mget_cons, mget_mset k v k' es]
      by_cases h' : k' = k
      · subst h'
        simp [h]
      · rw [if_neg h', if_neg h']

/-- Keys that are found. -/
structure KeyOk (P : Program) (kt : TypeId) {κ : Type} [DecidableEq κ] (kk : κ → Value) : Prop where
  find : ∀ {α : Type} (w : World) (k : κ) (es : List (κ × α)) (l : List MapEntry), l.length = es.length → (∀ (i : Nat) (m : MapEntry) (p : κ × α), l[i]? = some m → es[i]? = some p → m.key = kk p.1) →
    (Instr.findKey kt (kk k) l).run P w = .ok (match es.findIdx? (fun p => decide (k = p.1)) with | some j => (l[j]?).map (fun m => (j, m.val)) | none => none) w
  bits : ∀ a, Instr.sameBits 10000 (kk a) (kk a) = true
  check : ∀ (w : World) (em : Bool) (a : κ), (Instr.checkKey em 10000 kt (kk a)).run P w = .ok () w

theorem PlainKey.ok {P : Program} {kt : TypeId} {κ : Type} [DecidableEq κ] {d : TypeDesc} {kk : κ → Value} (hK : PlainKey d kk) (hk : P.underlying kt = some d) : KeyOk P kt kk := by
  refine ⟨fun w k es l h1 h2 => ?_, hK.bits, fun w em a => hK.check P w kt em 9999 a hk⟩
  have hf := findNow_at hK k es l 0 h1 h2
  rw [MapKept.run_findKey (w := w) hk hf]
  simp
theorem ba_beq (a b : ByteArray) : (a == b) = decide (a = b) := by
  obtain ⟨a⟩ := a
  obtain ⟨b⟩ := b
  show (a == b) = _
  by_cases h : a = b
  · subst h; simp
  · have : (⟨a⟩ : ByteArray) ≠ ⟨b⟩ := fun e => h (by injection e)
    simp [h]
theorem plain_str : PlainKey .string kStr := by
  refine ⟨fun a b => ?_, fun a => ?_, fun P w kt em n a hu => ?_⟩
  · simp [Instr.sameNow, kStr, ba_beq]
  · simp [kStr, Instr.sameBits, ba_beq]
  · simp [Instr.checkKey, run_underlying hu, kStr]

theorem lookup_at {P : Program} {cx : Cx} {w : World} {κ α : Type} [DecidableEq κ] {r : Nat} {new : Bool} {kk : κ → Value} {agg : Bool} {sz : Nat} {enc : α → Nat → DV} {es : List (κ × α)} {kt : TypeId} (hK : KeyOk P kt kk) (h : RAt cx w (.mp r new kk agg sz enc es)) {t et : TypeId} {i : TypeInfo} {zv : Value}
    (ht : P.underlying t = some (.map kt et)) (hi : P.info? et = some i) (hz : i.zero = some zv) (k : κ) (ok : Bool) :
    ∃ v, (Instr.lookup t (.map (some r)) (kk k) ok).run P w = .ok (if ok then .tuple #[v, .bool (mget es k).isSome] else v) w ∧ (match mget es k with | some a => AAt cx w (valA new agg sz (enc a)) v | none => v = zv) := by
  obtain ⟨ents, clock, h1, h2, _⟩ := h
  have hfk := hK.find w k es ents.toList h2.1 (fun i m p hm hp => (h2.2 i m p hm hp).1)
  have hc := hK.check w ents.isEmpty k
  cases he : es.findIdx? (fun p => decide (k = p.1)) with
  | none =>
    rw [he] at hfk
    refine ⟨zv, ?_, ?_⟩
    · simp [Instr.lookup, run_underlying ht, MapKept.run_getObj_map h1, hc, hfk, zeroValue, typeInfo, hi, hz, mget, he]
    · simp [mget, he]
  | some j =>
    rw [he] at hfk
    have hj : j < es.length := (List.findIdx?_eq_some_iff_getElem.1 he).1
    have hj' : j < ents.toList.length := by rw [h2.1]; exact hj
    have hm := h2.2 j _ _ (List.getElem?_eq_getElem hj') (List.getElem?_eq_getElem hj)
    simp only [List.getElem?_eq_getElem hj', Option.map_some] at hfk
    refine ⟨(ents.toList[j]).val, ?_, ?_⟩
    · simp [Instr.lookup, run_underlying ht, MapKept.run_getObj_map h1, hc, hfk, mget, he, List.getElem?_eq_getElem hj]
    · simp only [mget, he, List.getElem?_eq_getElem hj, Option.map_some]
      exact hm.2

theorem update_at {P : Program} {cx : Cx} {w : World} {κ α : Type} [DecidableEq κ] {r : Nat} {new : Bool} {kk : κ → Value} {agg : Bool} {sz : Nat} {enc : α → Nat → DV} {es : List (κ × α)} {kt : TypeId} (hK : KeyOk P kt kk) (h : RAt cx w (.mp r new kk agg sz enc es)) {t et : TypeId}
    (ht : P.underlying t = some (.map kt et)) (k : κ) {v : α} {u : Value} (hu : AAt cx w (valA new agg sz (enc v)) u) :
    ∃ ents' clock', (Instr.mapUpdate t (.map (some r)) (kk k) u).run P w = .ok () { w with heap := w.heap.setIfInBounds r (.map ents' clock') } ∧ MapAt cx w new kk agg sz enc (mset es k v) ents'.toList ∧ (∀ m ∈ ents'.toList, m.born < clock') ∧ (ents'.toList.map (·.born)).Nodup := by
  obtain ⟨ents, clock, h1, h2, h3, h4⟩ := h
  have hfk := hK.find w k es ents.toList h2.1 (fun i m p hm hp => (h2.2 i m p hm hp).1)
  have hc := hK.check w false k
  cases he : es.findIdx? (fun p => decide (k = p.1)) with
  | none =>
    rw [he] at hfk
    refine ⟨ents.push { key := kk k, val := u, born := clock }, clock + 1, ?_, ⟨?_, fun i m p hm hp => ?_⟩, ?_, ?_⟩
    · simp [Instr.mapUpdate, run_underlying ht, MapKept.run_getObj_map h1, hc, hfk, MapKept.run_setObj_map _ h1]
    · simp [mset, he, ← h2.1]
    · simp only [mset, he] at hp
      rw [Array.toList_push, List.getElem?_append] at hm
      rw [List.getElem?_append] at hp
      rw [h2.1] at hm
      split at hm
      · rename_i hlt
        rw [if_pos hlt] at hp
        exact h2.2 i m p hm hp
      · rename_i hlt
        rw [if_neg hlt] at hp
        have hi : i - es.length = 0 := by
          rcases Nat.eq_zero_or_pos (i - es.length) with h | h
          · exact h
          · rw [List.getElem?_eq_none (by simp; omega)] at hm
            cases hm
        rw [hi] at hm hp
        simp at hm hp
        subst hm hp
        exact ⟨rfl, hu⟩
    · intro m hm
      rw [Array.toList_push] at hm
      rcases List.mem_append.1 hm with h | h
      · have := h3 m h; omega
      · simp at h; subst h; simp
    · rw [Array.toList_push, List.map_append]
      refine List.nodup_append.2 ⟨h4, by simp, fun x hx y hy e => ?_⟩
      obtain ⟨m, hm, rfl⟩ := List.mem_map.1 hx
      simp at hy
      have := h3 m hm
      omega
  | some j =>
    rw [he] at hfk
    obtain ⟨hj, hkj, _⟩ := List.findIdx?_eq_some_iff_getElem.1 he
    have hkj' : k = (es[j]).1 := by simpa using hkj
    have hj' : j < ents.toList.length := by rw [h2.1]; exact hj
    have hjs : j < ents.size := by simpa using hj'
    have hm := h2.2 j _ _ (List.getElem?_eq_getElem hj') (List.getElem?_eq_getElem hj)
    simp only [List.getElem?_eq_getElem hj', Option.map_some] at hfk
    have hkey : (ents[j]).key = kk k := by rw [hkj']; simpa using hm.1
    have hstay : (Instr.keyThatStays (kk k) (kk k)).run P w = .ok (kk k) w := by simp [Instr.keyThatStays, hK.bits]
    refine ⟨ents.modify j fun e => { e with key := kk k, val := u }, clock, ?_, ⟨?_, fun i m p hm' hp => ?_⟩, ?_, ?_⟩
    · simp [Instr.mapUpdate, run_underlying ht, MapKept.run_getObj_map h1, hc, hfk, MapKept.run_setObj_map _ h1, hjs, hkey, hstay]
    · simp [mset, he, ← h2.1]
    · simp only [mset, he] at hp
      rw [Array.toList_modify, List.getElem?_modify] at hm'
      rw [List.getElem?_set] at hp
      by_cases hij : j = i
      · subst hij
        rw [if_pos rfl, if_pos hj] at hp
        simp at hp
        subst hp
        rw [List.getElem?_eq_getElem hj'] at hm'
        simp at hm'
        subst hm'
        exact ⟨rfl, hu⟩
      · rw [if_neg hij] at hp
        simp [hij] at hm'
        exact h2.2 i m p (by simpa using hm') hp
    · intro m hm'
      rw [Array.toList_modify] at hm'
      obtain ⟨i, hi, rfl⟩ := List.mem_iff_getElem.1 hm'
      have hi' : i < ents.toList.length := by simpa using hi
      have := h3 _ (List.getElem_mem hi')
      rw [List.getElem_modify]
      split
      · exact this
      · exact this
    · have : (ents.modify j fun e => { e with key := kk k, val := u }).toList.map (·.born) = ents.toList.map (·.born) := by
        apply List.ext_getElem?
        intro i
        rw [List.getElem?_map, List.getElem?_map, Array.toList_modify, List.getElem?_modify]
        cases ents.toList[i]? with
        | none => simp
        | some m => by_cases h : j = i <;> simp [h]
      rw [this]
      exact h4
end Go.Sx
end

section
/- Values out of parts. -/

set_option linter.unusedSectionVars false
namespace Go.Sx

/-! ### Cells of a value -/
theorem oneV_cells {v : Value} (h : oneV v = true) : v.cells = #[v] := by cases v <;> simp_all [oneV, Value.cells]
theorem oneV_one {v : Value} (h : oneV v = true) : v.oneCell' = true := by cases v <;> simp_all [oneV, Value.oneCell']
def oneA : AV → Bool
  | .v x => oneV x
  | .g _ | .t _ | .pan _ => false
  | _ => true
def cellsA : AV → Option (List AV)
  | .g xs => match xs.all oneA with | true => some xs | false => none
  | .t _ | .pan _ => none
  | .v x => match oneV x with | true => some [.v x] | false => none
  | z => some [z]

theorem oneA_at {cx : Cx} {w : World} {z : AV} {u : Value} (h : oneA z = true) (hz : AAt cx w z u) : oneV u = true := by
  cases z with
  | v x => simp only [AAt] at hz; subst hz; exact h
  | d new sz enc dv xs =>
    simp only [AAt] at hz
    rcases hz.inv_sl with ⟨_, A, c, rfl⟩ | ⟨a, c, rfl, _⟩ <;> rfl
  | p new sz enc dv xs i j => simp only [AAt] at hz; obtain ⟨a, c, rfl, _⟩ := hz; rfl
  | o v => simp only [AAt] at hz; obtain ⟨rfl, A, n, c, rfl⟩ := hz; rfl
  | e v sz i j => simp only [AAt] at hz; obtain ⟨a, n, c, _, _, _, rfl⟩ := hz; rfl
  | s v sz lo hi => simp only [AAt] at hz; obtain ⟨A, n, c, _, _, _, _, rfl⟩ := hz; rfl
  | g xs => cases h
  | t xs => cases h
  | pan x => cases h

theorem cellsA_at {cx : Cx} {w : World} {z : AV} {zs : List AV} {u : Value} (h : cellsA z = some zs) (hz : AAt cx w z u) : AAtL cx w zs u.cells.toList ∧ ∀ v ∈ u.cells.toList, oneV v = true := by
  have one : oneA z = true → zs = [z] → AAtL cx w zs u.cells.toList ∧ ∀ v ∈ u.cells.toList, oneV v = true := by
    intro h1 h2
    have h3 := oneA_at h1 hz
    rw [h2, oneV_cells h3]
    simp [AAtL, hz, h3]
  cases z with
  | g xs =>
    simp only [cellsA] at h
    split at h
    · rename_i hall
      simp only [Option.some.injEq] at h
      subst h
      simp only [AAt] at hz
      obtain ⟨arr, rfl, h2⟩ := hz
      refine ⟨by simpa [Value.cells] using h2, fun v hv => ?_⟩
      obtain ⟨j, hj, hv'⟩ := List.mem_iff_getElem.1 (show v ∈ arr.toList by simpa [Value.cells] using hv)
      have hlen := h2.length
      obtain ⟨u', h3, h4⟩ := h2.get j _ (List.getElem?_eq_getElem (by omega))
      have : u' = v := by
        rw [List.getElem?_eq_getElem hj, hv'] at h3
        simpa using h3.symm
      subst this
      exact oneA_at (List.all_eq_true.1 hall _ (List.getElem_mem _)) h4
    · cases h
  | t xs => cases h
  | pan x => cases h
  | v x =>
    simp only [cellsA] at h
    split at h
    · rename_i h1
      simp only [Option.some.injEq] at h
      exact one h1 h.symm
    · cases h
  | d new sz enc dv xs => simp only [cellsA, Option.some.injEq] at h; exact one rfl h.symm
  | p new sz enc dv xs i j => simp only [cellsA, Option.some.injEq] at h; exact one rfl h.symm
  | o v => simp only [cellsA, Option.some.injEq] at h; exact one rfl h.symm
  | e v sz i j => simp only [cellsA, Option.some.injEq] at h; exact one rfl h.symm
  | s v sz lo hi => simp only [cellsA, Option.some.injEq] at h; exact one rfl h.symm

inductive Upd : List AV → Nat → List AV → List AV → Prop where
  | done (cs : List AV) : Upd cs 0 [] cs
  | put {c z : AV} {cs zs cs' : List AV} : Upd cs 0 zs cs' → Upd (c :: cs) 0 (z :: zs) (z :: cs')
  | skip {c : AV} {cs zs cs' : List AV} {j : Nat} : Upd cs j zs cs' → Upd (c :: cs) (j + 1) zs (c :: cs')

theorem Upd.at {cx : Cx} {w : World} {cs : List AV} {j : Nat} {zs cs' : List AV} (h : Upd cs j zs cs') : ∀ {us vs : List Value}, AAtL cx w cs us → AAtL cx w zs vs →
    j + vs.length ≤ us.length ∧ AAtL cx w cs' (us.take j ++ vs ++ us.drop (j + vs.length)) := by
  induction h with
  | done cs =>
    intro us vs h1 h2
    cases vs with
    | nil => simpa using h1
    | cons => simp [AAtL] at h2
  | put _ ih =>
    intro us vs h1 h2
    cases us with
    | nil => simp [AAtL] at h1
    | cons u us =>
      cases vs with
      | nil => simp [AAtL] at h2
      | cons v vs =>
        simp only [AAtL] at h1 h2
        obtain ⟨h3, h4⟩ := ih h1.2 h2.2
        simp only [Nat.zero_add, List.take_zero, List.nil_append] at h3 h4
        refine ⟨by simp; omega, ?_⟩
        simpa [AAtL] using ⟨h2.1, h4⟩
  | skip _ ih =>
    intro us vs h1 h2
    cases us with
    | nil => simp [AAtL] at h1
    | cons u us =>
      simp only [AAtL] at h1
      obtain ⟨h3, h4⟩ := ih h1.2 h2
      rename_i j _
      refine ⟨by simp; omega, ?_⟩
      have e : j + 1 + vs.length = (j + vs.length) + 1 := by omega
      rw [e]
      simpa [AAtL] using And.intro h1.1 (by simpa using h4)

theorem foldl_set : ∀ (l : List Value) (off j : Nat) (cells : Array Value), off + j + l.length ≤ cells.size →
    ((l.zipIdx j).foldl (fun cs x => cs.setIfInBounds (off + x.2) x.1) cells).toList = cells.toList.take (off + j) ++ l ++ cells.toList.drop (off + j + l.length)
  | [], off, j, cells, h => by simp
  | v :: l, off, j, cells, h => by
    simp only [List.length_cons] at h
    simp only [List.zipIdx_cons, List.foldl_cons]
    rw [foldl_set l off (j + 1) _ (by simp; omega)]
    simp only [Array.toList_setIfInBounds, List.length_cons]
    have hlt : off + j < cells.toList.length := by simp; omega
    rw [show off + (j + 1) = off + j + 1 by omega, List.take_set, List.drop_set, if_pos (by omega)]
    rw [show off + j + 1 + l.length = off + j + (l.length + 1) by omega]
    congr 1
    rw [show v :: l = [v] ++ l by rfl, ← List.append_assoc]
    congr 1
    apply List.ext_getElem?
    intro k
    have hl1 : (List.take (off + j) cells.toList).length = off + j := by rw [List.length_take]; omega
    have hl2 : (List.take (off + j + 1) cells.toList).length = off + j + 1 := by rw [List.length_take]; omega
    rw [List.getElem?_set, List.getElem?_append, List.getElem?_take, hl1, hl2]
    rcases Nat.lt_trichotomy k (off + j) with h1 | h1 | h1
    · rw [if_neg (by omega), if_pos (by omega), if_pos h1, List.getElem?_take, if_pos h1]
    · rw [if_pos h1.symm, if_pos (by omega : off + j < off + j + 1), if_neg (by omega : ¬ k < off + j), h1, Nat.sub_self]
      rfl
    · rw [if_neg (by omega), if_neg (by omega), if_neg (by omega)]
      symm
      apply List.getElem?_eq_none
      simp; omega

/-- Parts are put into their places. -/
inductive Fills (sz : Nat) : List AV → List (Nat × AV) → List AV → Prop where
  | nil {cs : List AV} : Fills sz cs [] cs
  | cons {cs cs1 cs2 zs : List AV} {i : Nat} {z : AV} {ps : List (Nat × AV)} : cellsA z = some zs → Nat.beq zs.length sz = true → Upd cs (i * sz) zs cs1 → Fills sz cs1 ps cs2 → Fills sz cs ((i, z) :: ps) cs2
inductive GetPs (env : Env) (q : Path) : List (Nat × Operand) → List (Nat × AV) → Prop where
  | nil : GetPs env q [] []
  | cons {i : Nat} {x : Operand} {z : AV} {ps : List (Nat × Operand)} {zs : List (Nat × AV)} : Get env q x z → GetPs env q ps zs → GetPs env q ((i, x) :: ps) ((i, z) :: zs)
inductive PsAt (cx : Cx) (w : World) : List (Nat × AV) → List (Nat × Value) → Prop where
  | nil : PsAt cx w [] []
  | cons {i : Nat} {z : AV} {u : Value} {zs : List (Nat × AV)} {us : List (Nat × Value)} : AAt cx w z u → PsAt cx w zs us → PsAt cx w ((i, z) :: zs) ((i, u) :: us)
theorem GetPs.sound {C : Ctx} {env : Env} {sto : Sto} {a : Act} {w : World} (h : Abs C env sto a w) {q : Path} (hq : PathHolds q) {ps : List (Nat × Operand)} {zs : List (Nat × AV)} (hg : GetPs env q ps zs) :
    PsAt (C.cx sto) w zs (ps.map fun x => (x.1, a.eval x.2)) := by
  induction hg with
  | nil => exact .nil
  | cons hx _ ih => exact .cons (hx.sound h hq) ih

theorem Fills.sound {cx : Cx} {w : World} {sz : Nat} {cs cs' : List AV} {zs : List (Nat × AV)} (h : Fills sz cs zs cs') : ∀ {us : List (Nat × Value)} {cells : Array Value}, PsAt cx w zs us → AAtL cx w cs cells.toList →
    ∃ cells', Instr.fill (fun i => some (i * sz, sz)) cells us = some cells' ∧ AAtL cx w cs' cells'.toList := by
  induction h with
  | nil => intro us cells hp hc; cases hp; exact ⟨cells, rfl, hc⟩
  | cons hz hl hu _ ih =>
    rename_i cs cs1 cs2 zs i z ps _
    intro us cells hp hc
    cases hp with
    | cons hu' hp' =>
      rename_i u us'
      have hzz := (cellsA_at hz hu').1
      have hlen := hzz.length
      have hsz : u.cells.size = sz := by rw [← Array.length_toList, ← hlen]; exact Nat.eq_of_beq_eq_true hl
      obtain ⟨hle, hnew⟩ := hu.at hc hzz
      rw [Array.length_toList, Array.length_toList] at hle
      have hfold := foldl_set u.cells.toList (i * sz) 0 cells (by simpa using hle)
      simp only [Nat.add_zero] at hfold
      have hcells : (u.cells.zipIdx.foldl (fun cs x => cs.setIfInBounds (i * sz + x.2) x.1) cells).toList = cells.toList.take (i * sz) ++ u.cells.toList ++ cells.toList.drop (i * sz + u.cells.toList.length) := by
        rw [← hfold, ← Array.foldl_toList]
        congr 2
        simp
      obtain ⟨cells', h1, h2⟩ := ih (us := us') (cells := u.cells.zipIdx.foldl (fun cs x => cs.setIfInBounds (i * sz + x.2) x.1) cells) hp' (by rw [hcells]; exact hnew)
      refine ⟨cells', ?_, h2⟩
      rw [Instr.fill]
      simp only
      rw [if_neg (by simp [hsz]; omega)]
      exact h1


/-! ### Structs and arrays out of parts -/
theorem AAtL_vals {cx : Cx} {w : World} : ∀ (vs : List Value), AAtL cx w (vs.map .v) vs
  | [] => by simp [AAtL]
  | v :: vs => by simp only [List.map_cons, AAtL]; exact ⟨rfl, AAtL_vals vs⟩
inductive PlacesT (T : Tab) : List (TypeId × Nat) → List (Nat × Nat) → Prop where
  | nil : PlacesT T [] []
  | cons {t off : Nat} {y : Ty} {fs : List (TypeId × Nat)} {pl : List (Nat × Nat)} : tget t T = some y → PlacesT T fs pl → PlacesT T ((t, off) :: fs) ((off, y.size) :: pl)
inductive FillsP (pl : List (Nat × Nat)) : List AV → List (Nat × AV) → List AV → Prop where
  | nil {cs : List AV} : FillsP pl cs [] cs
  | cons {cs cs1 cs2 zs : List AV} {i off sz : Nat} {z : AV} {ps : List (Nat × AV)} : pl[i]? = some (off, sz) → cellsA z = some zs → Nat.beq zs.length sz = true → Upd cs off zs cs1 → FillsP pl cs1 ps cs2 → FillsP pl cs ((i, z) :: ps) cs2
theorem FillsP.sound {cx : Cx} {w : World} {pl : List (Nat × Nat)} {cs cs' : List AV} {zs : List (Nat × AV)} (h : FillsP pl cs zs cs') : ∀ {us : List (Nat × Value)} {cells : Array Value}, PsAt cx w zs us → AAtL cx w cs cells.toList →
    ∃ cells', Instr.fill (fun i => pl[i]?) cells us = some cells' ∧ AAtL cx w cs' cells'.toList := by
  induction h with
  | nil => intro us cells hp hc; cases hp; exact ⟨cells, rfl, hc⟩
  | cons hpl hz hl hu _ ih =>
    rename_i cs cs1 cs2 zs i off sz z ps _
    intro us cells hp hc
    cases hp with
    | cons hu' hp' =>
      rename_i u us'
      have hzz := (cellsA_at hz hu').1
      have hlen := hzz.length
      have hsz : u.cells.size = sz := by rw [← Array.length_toList, ← hlen]; exact Nat.eq_of_beq_eq_true hl
      obtain ⟨hle, hnew⟩ := hu.at hc hzz
      rw [Array.length_toList, Array.length_toList] at hle
      have hfold := foldl_set u.cells.toList off 0 cells (by simpa using hle)
      simp only [Nat.add_zero] at hfold
      have hcells : (u.cells.zipIdx.foldl (fun cs x => cs.setIfInBounds (off + x.2) x.1) cells).toList = cells.toList.take off ++ u.cells.toList ++ cells.toList.drop (off + u.cells.toList.length) := by
        rw [← hfold, ← Array.foldl_toList]
        congr 2
        simp
      obtain ⟨cells', h1, h2⟩ := ih (us := us') (cells := u.cells.zipIdx.foldl (fun cs x => cs.setIfInBounds (off + x.2) x.1) cells) hp' (by rw [hcells]; exact hnew)
      refine ⟨cells', ?_, h2⟩
      rw [Instr.fill, hpl]
      simp only
      rw [if_neg (by simp [hsz]; omega)]
      exact h1
theorem PlacesT.sound {P : Program} {T : Tab} (hT : TabOk P T) {w : World} : ∀ {fs : List (TypeId × Nat)} {pl : List (Nat × Nat)} {fs' : List Field}, PlacesT T fs pl → fs'.map (fun f => (f.type, f.offset)) = fs →
    (fs'.mapM fun f => (do pure (f.offset, ← sizeOf f.type) : Sem (Nat × Nat))).run P w = .ok pl w
  | _, _, [], .nil, _ => by simp
  | _, _, f :: fs', .cons h1 h2, h => by
    simp only [List.map_cons, List.cons.injEq, Prod.mk.injEq] at h
    obtain ⟨⟨rfl, rfl⟩, h4⟩ := h
    rw [List.mapM_cons]
    simp only [Sem.run_bind, run_size (w := w) (hT _ _ h1), Result.andThen_ok, Sem.run_pure]
    rw [PlacesT.sound hT h2 h4]
    simp
  | _, _, _ :: _, .nil, h => by simp at h
  | _, _, [], .cons _ _, h => by simp at h

inductive Bld (T : Tab) : Ty → List (Nat × AV) → List AV → Prop where
  | struct {fs : List (TypeId × Nat)} {m b : Nat} {z : List Value} {pl : List (Nat × Nat)} {zs : List (Nat × AV)} {cs : List AV} : PlacesT T fs pl → FillsP pl (z.map .v) zs cs → Bld T ⟨.struct fs, m, b, z⟩ zs cs
  | array {n e m b : Nat} {z : List Value} {ye : Ty} {zs : List (Nat × AV)} {cs : List AV} : tget e T = some ye → Fills ye.size (z.map .v) zs cs → Bld T ⟨.array n e, m, b, z⟩ zs cs
theorem Bld.sound {P : Program} {T : Tab} (hT : TabOk P T) {cx : Cx} {w : World} {t : TypeId} {y : Ty} {zs : List (Nat × AV)} {cs : List AV} {us : Array (Nat × Value)} (ht : tget t T = some y) (h : Bld T y zs cs) (hp : PsAt cx w zs us.toList) :
    ∃ u, (Instr.build t us).run P w = .ok u w ∧ AAt cx w (.g cs) u := by
  obtain ⟨d, i, h1, h2, h3, h4, h5, h6, h7, h8⟩ := hT _ _ ht
  cases h with
  | struct hpl hf =>
    obtain ⟨arr, ha⟩ := h8
    simp only [ha, Option.map_some, Value.cells, Option.some.injEq] at h6
    cases d <;> simp only [TK.fits] at h3
    rename_i fs pl fs'
    obtain ⟨cells, k1, k2⟩ := hf.sound (cells := arr) hp (by rw [← h6]; exact AAtL_vals _)
    refine ⟨.agg cells, ?_, ?_⟩
    · have hm : (fs'.mapM fun f => (do pure (f.offset, ← sizeOf f.type) : Sem (Nat × Nat))).run P w = .ok pl.toArray w := by
        rw [← Array.toArray_toList (xs := fs'), List.mapM_toArray]
        simp only [Sem.run_map, hpl.sound hT h3]
        simp
      simp only [Instr.build, zeroValue, typeInfo, Sem.run_bind, run_program, Result.andThen_ok, h2, ha, run_underlying h1, Sem.run_pure, Value.cells] at hm ⊢
      rw [hm]
      have e : (fun x : Nat => pl.toArray[x]?) = (fun x : Nat => pl[x]?) := by funext x; simp
      simp only [Result.andThen_ok, e, k1, Sem.run_pure]
    · simp only [AAt]; exact ⟨_, rfl, k2⟩
  | array he hf =>
    obtain ⟨arr, ha⟩ := h8
    simp only [ha, Option.map_some, Value.cells, Option.some.injEq] at h6
    cases d <;> simp only [TK.fits] at h3
    obtain ⟨rfl, rfl⟩ := h3
    obtain ⟨cells, k1, k2⟩ := hf.sound (cells := arr) hp (by rw [← h6]; exact AAtL_vals _)
    refine ⟨.agg cells, ?_, ?_⟩
    · simp only [Instr.build, zeroValue, typeInfo, Sem.run_bind, run_program, Result.andThen_ok, h2, ha, run_underlying h1, run_size (w := w) (hT _ _ he), Sem.run_pure, Value.cells, k1]
    · simp only [AAt]; exact ⟨_, rfl, k2⟩

end Go.Sx
end

section
/- Operations that leave memory as it is: the rules. -/

namespace Go.Sx

/-- What is owed on the way on which q holds. -/
def Side (q : Path) (s : Prop) : Prop := PathHolds q → s
theorem sp {q : Path} {s : Prop} (h : PathHolds q → s) : Side q s := h
theorem sd {q : Path} {s : Prop} (h : s) : Side q s := fun _ => h

def encI (k : IntKind) (x : Int) (_ : Nat) : DV := .v (.int k x)
def encN (x : Nat) (_ : Nat) : DV := .v (.int .i64 (x : Int))
def encB (x : UInt8) (_ : Nat) : DV := .v (.int .u8 (x.toNat : Int))
def encS (x : ByteArray) (_ : Nat) : DV := .v (.string x)
def encL {α : Type} (sz : Nat) (enc : α → Nat → DV) (dv : α) (xs : List α) (_ : Nat) : DV := .sl sz enc dv xs

inductive GetO (env : Env) (q : Path) : Option Operand → Option Value → Prop where
  | none : GetO env q none none
  | some {x : Operand} {v : Value} : Get env q x (.v v) → GetO env q (some x) (some v)
theorem GetO.sound {C : Ctx} {env : Env} {sto : Sto} {a : Act} {w : World} (h : Abs C env sto a w) {q : Path} (hq : PathHolds q) {x : Option Operand} {v : Option Value} (hg : GetO env q x v) :
    x.map a.eval = v := by
  cases hg with
  | none => rfl
  | some hg => simp [hg.v h hq]

inductive GetVs (env : Env) (q : Path) : List Operand → List Value → Prop where
  | nil : GetVs env q [] []
  | cons {x : Operand} {v : Value} {xs : List Operand} {vs : List Value} : Get env q x (.v v) → GetVs env q xs vs → GetVs env q (x :: xs) (v :: vs)
theorem GetVs.sound {C : Ctx} {env : Env} {sto : Sto} {a : Act} {w : World} (h : Abs C env sto a w) {q : Path} (hq : PathHolds q) {xs : List Operand} {vs : List Value} (hg : GetVs env q xs vs) :
    xs.map a.eval = vs := by
  induction hg with
  | nil => rfl
  | cons hx _ ih => simp [hx.v h hq, ih]

inductive Conv (T : Tab) (s d : TypeId) : AV → AV → Prop where
  | int {k k' : IntKind} {n : Int} {m b : Nat} {z : List Value} {ys : Ty} : tget s T = some ys → tget d T = some ⟨.int k, m, b, z⟩ → Conv T s d (.v (.int k' n)) (.v (.int k (k.wrap n)))
  | str {x : ByteArray} {m b : Nat} {z : List Value} {ys : Ty} : tget s T = some ys → tget d T = some ⟨.str, m, b, z⟩ → Conv T s d (.v (.string x)) (.v (.string x))
  | bytes {new : Bool} {xs : List UInt8} {e m b m' b' m'' b'' : Nat} {z z' z'' : List Value} : tget s T = some ⟨.slice e, m, b, z⟩ → tget e T = some ⟨.int .u8, m', b', z'⟩ → tget d T = some ⟨.str, m'', b'', z''⟩ →
      Conv T s d (.d new 1 encB 0 xs) (.v (.string ⟨xs.toArray⟩))

inductive Idx (T : Tab) (sto : Sto) (q : Path) (t : TypeId) : AV → Int → AV → Prop where
  | dN {α : Type} {new : Bool} {sz : Nat} {enc : α → Nat → DV} {dv : α} {xs : List α} {i : Nat} {e m b b' : Nat} {z z' : List Value} {ke : TK} :
      tget t T = some ⟨.slice e, m, b, z⟩ → tget e T = some ⟨ke, sz, b', z'⟩ → Nat.blt 0 sz = true → Side q (i < xs.length) → Idx T sto q t (.d new sz enc dv xs) (i : Int) (.p new sz enc dv xs i 0)
  | rowN {α : Type} {v : Value} {new : Bool} {et sz : Nat} {enc : α → Nat → DV} {dv : α} {xs : List α} {i : Nat} {e m b b' : Nat} {z z' : List Value} {ke : TK} :
      RRow v new et sz enc dv xs sto → tget t T = some ⟨.slice e, m, b, z⟩ → tget e T = some ⟨ke, sz, b', z'⟩ → Nat.blt 0 sz = true → Side q (i < xs.length) → Idx T sto q t (.o v) (i : Int) (.e v sz i 0)
  | arrN {b j len : Nat} {i : Nat} {e m by' : Nat} {z : List Value} {ye : Ty} : tget t T = some ⟨.array len e, m, by', z⟩ → tget e T = some ye → Side q (i < len) → Idx T sto q t (.v (.pointer (some ⟨b, j, none⟩))) (i : Int) (.v (.pointer (some ⟨b, j + i * ye.size, none⟩)))
  | d {α : Type} {new : Bool} {sz : Nat} {enc : α → Nat → DV} {dv : α} {xs : List α} {i : Int} {e m b b' : Nat} {z z' : List Value} {ke : TK} :
      tget t T = some ⟨.slice e, m, b, z⟩ → tget e T = some ⟨ke, sz, b', z'⟩ → Nat.blt 0 sz = true → Side q (0 ≤ i ∧ i < xs.length) → Idx T sto q t (.d new sz enc dv xs) i (.p new sz enc dv xs i.toNat 0)
  | row {α : Type} {v : Value} {new : Bool} {et sz : Nat} {enc : α → Nat → DV} {dv : α} {xs : List α} {i : Int} {e m b b' : Nat} {z z' : List Value} {ke : TK} :
      RRow v new et sz enc dv xs sto → tget t T = some ⟨.slice e, m, b, z⟩ → tget e T = some ⟨ke, sz, b', z'⟩ → Nat.blt 0 sz = true → Side q (0 ≤ i ∧ i < xs.length) → Idx T sto q t (.o v) i (.e v sz i.toNat 0)
  | arr {b j len : Nat} {i : Int} {e m by' : Nat} {z : List Value} {ye : Ty} : tget t T = some ⟨.array len e, m, by', z⟩ → tget e T = some ye → Side q (0 ≤ i ∧ i < len) → Idx T sto q t (.v (.pointer (some ⟨b, j, none⟩))) i (.v (.pointer (some ⟨b, j + i.toNat * ye.size, none⟩)))

inductive Load (T : Tab) (sto : Sto) (t : TypeId) : AV → AV → Prop where
  | box {b j : Nat} {cs : List AV} {y : Ty} {r : AV} : RBox b cs sto → tget t T = some y → readB y.k.agg y.size cs j = some r → Load T sto t (.v (.pointer (some ⟨b, j, none⟩))) r
  | p {α : Type} {new : Bool} {sz : Nat} {enc : α → Nat → DV} {dv : α} {xs : List α} {i j : Nat} {y : Ty} {r : AV} :
      tget t T = some y → readP y.k.agg y.size new sz (enc (xs.getD i dv)) j = some r → Load T sto t (.p new sz enc dv xs i j) r
  | e {α : Type} {v : Value} {new : Bool} {et sz : Nat} {enc : α → Nat → DV} {dv : α} {xs : List α} {i j : Nat} {y : Ty} {r : AV} :
      RRow v new et sz enc dv xs sto → tget t T = some y → readP y.k.agg y.size new sz (enc (xs.getD i dv)) j = some r → Load T sto t (.e v sz i j) r

inductive Fa (off : Nat) : AV → AV → Prop where
  | v {b j : Nat} : Fa off (.v (.pointer (some ⟨b, j, none⟩))) (.v (.pointer (some ⟨b, j + off, none⟩)))
  | p {α : Type} {new : Bool} {sz : Nat} {enc : α → Nat → DV} {dv : α} {xs : List α} {i j : Nat} : Nat.blt (j + off) sz = true → Fa off (.p new sz enc dv xs i j) (.p new sz enc dv xs i (j + off))
  | e {v : Value} {sz i j : Nat} : Nat.blt (j + off) sz = true → Fa off (.e v sz i j) (.e v sz i (j + off))

inductive Len (T : Tab) (sto : Sto) (t : TypeId) : AV → AV → Prop where
  | d {α : Type} {new : Bool} {sz : Nat} {enc : α → Nat → DV} {dv : α} {xs : List α} {e m b : Nat} {z : List Value} : tget t T = some ⟨.slice e, m, b, z⟩ → Len T sto t (.d new sz enc dv xs) (.v (.int .i64 xs.length))
  | str {s : ByteArray} {m b : Nat} {z : List Value} : tget t T = some ⟨.str, m, b, z⟩ → Len T sto t (.v (.string s)) (.v (.int .i64 s.size))
  | sl {A : Option Addr} {n c : Nat} {e m b : Nat} {z : List Value} : tget t T = some ⟨.slice e, m, b, z⟩ → Len T sto t (.v (.slice A n c)) (.v (.int .i64 n))
  | row {α : Type} {v : Value} {new : Bool} {et sz : Nat} {enc : α → Nat → DV} {dv : α} {xs : List α} {e m b : Nat} {z : List Value} : RRow v new et sz enc dv xs sto → tget t T = some ⟨.slice e, m, b, z⟩ →
      Len T sto t (.o v) (.v (.int .i64 xs.length))
  | s {v : Value} {sz lo hi : Nat} {e m b : Nat} {z : List Value} : tget t T = some ⟨.slice e, m, b, z⟩ → Len T sto t (.s v sz lo hi) (.v (.int .i64 (hi - lo : Nat)))

def mxOk : Option Value → Int → Prop
  | none, _ => True
  | some (.int _ i), u => i = u
  | some _, _ => False
inductive Sl (T : Tab) (sto : Sto) (q : Path) (t : TypeId) (lo hi mx : Option Value) : AV → AV → Prop where
  | str {s : ByteArray} {l u : Int} {m b : Nat} {z : List Value} : tget t T = some ⟨.str, m, b, z⟩ → boundI lo 0 = some l → boundI hi s.size = some u → mx = none → Side q (0 ≤ l ∧ l ≤ u ∧ u ≤ s.size) →
      Sl T sto q t lo hi mx (.v (.string s)) (.v (.string (s.extract l.toNat u.toNat)))
  | d {α : Type} {new : Bool} {sz : Nat} {enc : α → Nat → DV} {dv : α} {xs : List α} {l u : Int} {e m b b' : Nat} {z z' : List Value} {ke : TK} : tget t T = some ⟨.slice e, m, b, z⟩ → tget e T = some ⟨ke, sz, b', z'⟩ →
      boundI lo 0 = some l → boundI hi xs.length = some u → mxOk mx u → (mx.isSome = true → hi.isSome = true) → Side q (0 ≤ l ∧ l ≤ u ∧ u ≤ xs.length) → Sl T sto q t lo hi mx (.d new sz enc dv xs) (.d new sz enc dv ((xs.take u.toNat).drop l.toNat))
  | row {α : Type} {v : Value} {new : Bool} {et sz : Nat} {enc : α → Nat → DV} {dv : α} {xs : List α} {l u : Int} {e m b b' : Nat} {z z' : List Value} {ke : TK} : RRow v new et sz enc dv xs sto → tget t T = some ⟨.slice e, m, b, z⟩ → tget e T = some ⟨ke, sz, b', z'⟩ →
      boundI lo 0 = some l → boundI hi xs.length = some u → mx = none → Side q (0 ≤ l ∧ l ≤ u ∧ u ≤ xs.length) → Sl T sto q t lo hi mx (.o v) (.s v sz l.toNat u.toNat)
  | arr {b n e m by' : Nat} {z : List Value} {ye : Ty} : tget t T = some ⟨.array n e, m, by', z⟩ → tget e T = some ye → lo = none → hi = none → mx = none → Sl T sto q t lo hi mx (.v (.pointer (some ⟨b, 0, none⟩))) (.v (.slice (some ⟨b, 0, none⟩) n n))

def encBo (x : Bool) (_ : Nat) : DV := .v (.bool x)
def lookV (ok : Bool) (v : AV) (b : Bool) : AV :=
  match ok with
  | true => .t [v, .v (.bool b)]
  | false => v
/-- What stands for the zero of a type. -/
inductive ZeroD : DV → Value → Prop where
  | v {x y : Value} : x = y → ZeroD (.v x) y
  | nil {α : Type} {sz : Nat} {enc : α → Nat → DV} {dv : α} : ZeroD (.sl sz enc dv []) (.slice none 0 0)
inductive ZeroL (f : Nat → DV) : Nat → List Value → Prop where
  | nil (j : Nat) : ZeroL f j []
  | cons {j : Nat} {v : Value} {vs : List Value} : ZeroD (f j) v → ZeroL f (j + 1) vs → ZeroL f j (v :: vs)
/-- A key, as a value. -/
inductive KeyA {κ : Type} (kk : κ → Value) : AV → κ → Prop where
  | v {x : Value} {k : κ} : x = kk k → KeyA kk (.v x) k
  | g {xs : List Value} {k : κ} : .agg xs.toArray = kk k → KeyA kk (.g (xs.map .v)) k
inductive KeyT (T : Tab) : Ty → {κ : Type} → [DecidableEq κ] → (κ → Value) → Prop where
  | int {k : IntKind} {m b : Nat} {z : List Value} : KeyT T ⟨.int k, m, b, z⟩ (kInt k)
  | str {m b : Nat} {z : List Value} : KeyT T ⟨.str, m, b, z⟩ kStr
/-- What is looked up in a map. -/
inductive LookK (T : Tab) (sto : Sto) (ok : Bool) (yk ye : Ty) : AV → AV → AV → Prop where
  | mp {κ α : Type} {dec : DecidableEq κ} {r : Nat} {new : Bool} {kk : κ → Value} {enc : α → Nat → DV} {es : List (κ × α)} {k : κ} {zi : AV} (d : α) : RMap r new kk ye.k.agg ye.size enc es sto → KeyT T yk kk → KeyA kk zi k → ye.zero.all oneV = true → ZeroL (enc d) 0 ye.zero →
      LookK T sto ok yk ye (.v (.map (some r))) zi (lookV ok (valA new ye.k.agg ye.size (enc ((mget es k).getD d))) (mget es k).isSome)

inductive Bin (T : Tab) (t : TypeId) : BinOp → AV → AV → Prop → AV → Prop where
  | eqB {a c : Bool} {m b : Nat} {z : List Value} : tget t T = some ⟨.bool, m, b, z⟩ → Bin T t .eql (.v (.bool a)) (.v (.bool c)) True (.v (.bool (a == c)))
  | neB {a c : Bool} {m b : Nat} {z : List Value} : tget t T = some ⟨.bool, m, b, z⟩ → Bin T t .neq (.v (.bool a)) (.v (.bool c)) True (.v (.bool (!(a == c))))
  | v {op : BinOp} {u v r : Value} {s : Prop} : binV op u v = some (s, r) → Bin T t op (.v u) (.v v) s (.v r)
  | x {op : BinOp} {u v r : Value} {s : Prop} : binX op u v = some (s, r) → Bin T t op (.v u) (.v v) s (.v r)

def unV (op : UnOp) (x : Value) : Option Value :=
  match op, x with
  | .not, .bool b => some (.bool !b)
  | .neg, .int k n => some (.int k (k.wrap (0 - n)))
  | .xor, .int k n => some (.int k (k.wrap (BitVec.ofInt k.bits (if k.signed then -1 else k.max) ^^^ BitVec.ofInt k.bits n).toNat))
  | _, _ => none

def isPtr : AV → Bool
  | .v (.pointer (some _)) | .p .. | .e .. => true
  | _ => false

inductive IntsL (k : IntKind) : List AV → List Int → Prop where
  | nil : IntsL k [] []
  | cons {n : Int} {zs : List AV} {xs : List Int} : IntsL k zs xs → IntsL k (.v (.int k n) :: zs) (n :: xs)
theorem IntsL.get {k : IntKind} {zs : List AV} {xs : List Int} (h : IntsL k zs xs) : ∀ i, i < xs.length → zs[i]? = some (.v (.int k (xs.getD i 0))) := by
  induction h with
  | nil => intro i hi; simp at hi
  | @cons n zs xs _ ih =>
    intro i hi
    cases i with
    | zero => simp
    | succ i => simpa using ih i (by simpa using hi)
inductive Ix (T : Tab) (q : Path) (t : TypeId) : AV → Int → AV → Prop where
  | str {s : ByteArray} {n : Int} {m b : Nat} {z : List Value} : tget t T = some ⟨.str, m, b, z⟩ → Side q (0 ≤ n ∧ n < s.size) → Ix T q t (.v (.string s)) n (.v (.int .u8 ((s.data.toList.getD n.toNat 0).toNat : Int)))
  | ints {k : IntKind} {cs : List AV} {xs : List Int} {n : Int} {len e m b b' : Nat} {z z' : List Value} : tget t T = some ⟨.array len e, m, b, z⟩ → tget e T = some ⟨.int k, 1, b', z'⟩ → IntsL k cs xs → Nat.beq xs.length len = true → Side q (0 ≤ n ∧ n < xs.length) →
      Ix T q t (.g cs) n (.v (.int k (xs.getD n.toNat 0)))

inductive Quiet (T : Tab) (env : Env) (sto : Sto) (q : Path) : Op → AV → Prop where
  | move {x : Operand} {z : AV} : Get env q x z → Quiet T env sto q (.move x) z
  | assign {x : Operand} {z : AV} : Get env q x z → Quiet T env sto q (.assign x) z
  | load {t : TypeId} {x : Operand} {z r : AV} : Get env q x z → Load T sto t z r → Quiet T env sto q (.load t x) r
  | fieldAddr {s : TypeId} {x : Operand} {f off m b : Nat} {ft : TypeId} {fs : List (TypeId × Nat)} {zs : List Value} {yf : Ty} {z r : AV} : Get env q x z → tget s T = some ⟨.struct fs, m, b, zs⟩ → fs[f]? = some (ft, off) →
      tget ft T = some yf → Nat.blt 0 yf.size = true → Fa off z r → Quiet T env sto q (.fieldAddr s x f) r
  | indexAddr {t : TypeId} {x i : Operand} {z r : AV} {k : IntKind} {n : Int} : Get env q x z → Get env q i (.v (.int k n)) → Idx T sto q t z n r → Quiet T env sto q (.indexAddr t x i) r
  | binOp {op : BinOp} {t t' : TypeId} {x y : Operand} {u v r : AV} {s : Prop} : Get env q x u → Get env q y v → Bin T t op u v s r → Side q s → Quiet T env sto q (.binOp op t x y t') r
  | extract {x : Operand} {i : Nat} {zs : List AV} {z : AV} : Get env q x (.t zs) → zs[i]? = some z → Quiet T env sto q (.extract x i) z
  | pickOr {c b : Operand} {cb y : Bool} : Get env q c (.v (.bool cb)) → Get env ((cb, false) :: q) b (.v (.bool y)) → Quiet T env sto q (.pick c (.const (.bool true)) b) (.v (.bool (cb || y)))
  | pickAnd {c b : Operand} {cb y : Bool} : Get env q c (.v (.bool cb)) → Get env ((cb, true) :: q) b (.v (.bool y)) → Quiet T env sto q (.pick c b (.const (.bool false))) (.v (.bool (cb && y)))
  | build {t : TypeId} {ps : Array (Nat × Operand)} {zs : List (Nat × AV)} {cs : List AV} {y : Ty} : GetPs env q ps.toList zs → tget t T = some y → Bld T y zs cs → Quiet T env sto q (.build t ps) (.g cs)
  | nilCheck {x : Operand} {z : AV} : Get env q x z → isPtr z = true → Quiet T env sto q (.nilCheck x) z
  | unOp {op : UnOp} {t : TypeId} {x : Operand} {u r : Value} : Get env q x (.v u) → unV op u = some r → Quiet T env sto q (.unOp op t x) (.v r)
  | convert {s d : TypeId} {x : Operand} {z r : AV} : Get env q x z → Conv T s d z r → Quiet T env sto q (.convert s d x) r
  | field {t : TypeId} {x : Operand} {f off m b : Nat} {ft : TypeId} {fs : List (TypeId × Nat)} {zs : List Value} {yf : Ty} {cs : List AV} {r : AV} : Get env q x (.g cs) → tget t T = some ⟨.struct fs, m, b, zs⟩ → fs[f]? = some (ft, off) →
      tget ft T = some yf → readB yf.k.agg yf.size cs off = some r → Quiet T env sto q (.field t x f) r
  | index {t : TypeId} {x i : Operand} {k : IntKind} {n : Int} {z r : AV} : Get env q x z → Get env q i (.v (.int k n)) → Ix T q t z n r → Quiet T env sto q (.index t x i) r
  | slice {t : TypeId} {x : Operand} {lo hi mx : Option Operand} {vl vh vm : Option Value} {z r : AV} : Get env q x z → GetO env q lo vl → GetO env q hi vh → GetO env q mx vm → Sl T sto q t vl vh vm z r → Quiet T env sto q (.slice t x lo hi mx) r
  | lookMap {t kt et : TypeId} {x i : Operand} {ok : Bool} {z zi r : AV} {yt yk ye : Ty} : Get env q x z → Get env q i zi → tget t T = some yt → yt.k = .map kt et → tget kt T = some yk → tget et T = some ye → LookK T sto ok yk ye z zi r → Quiet T env sto q (.lookup t x i ok) r
  | makeFunc {fn : Fn} {first captured : List Operand} {vs us : List Value} : GetVs env q first vs → GetVs env q captured us → Quiet T env sto q (.makeFunc fn first.toArray captured.toArray) (.v (.func fn vs.toArray us.toArray))
  | len {x : Operand} {t : TypeId} {z r : AV} : Get env q x z → Len T sto t z r → Quiet T env sto q (.call { callee := .builtin .len, args := #[x], argTypes := #[t] }) r
  | min {x y : Operand} {ts : Array TypeId} {k : IntKind} {a b : Int} : Get env q x (.v (.int k a)) → Get env q y (.v (.int k b)) → Quiet T env sto q (.call { callee := .builtin .min, args := #[x, y], argTypes := ts }) (.v (.int k (Min.min a b)))
  | max {x y : Operand} {ts : Array TypeId} {k : IntKind} {a b : Int} : Get env q x (.v (.int k a)) → Get env q y (.v (.int k b)) → Quiet T env sto q (.call { callee := .builtin .max, args := #[x, y], argTypes := ts }) (.v (.int k (Max.max a b)))

theorem Quiet.nd {T : Tab} {env : Env} {sto : Sto} {q : Path} {op : Op} {z : AV} (h : Quiet T env sto q op z) : isDefer op = false := by cases h <;> rfl
end Go.Sx
end

section
/- Operations that leave memory as it is: the rules hold. -/


set_option linter.unusedSectionVars false
namespace Go.Sx
theorem eval_const (a : Act) (v : Value) : a.eval (.const v) = v := rfl
theorem ZeroL.get {f : Nat → DV} {j : Nat} {vs : List Value} (h : ZeroL f j vs) : ∀ i v, vs[i]? = some v → ZeroD (f (j + i)) v := by
  induction h with
  | nil => intro i v h; simp at h
  | cons h1 _ ih =>
    intro i v hv
    cases i with
    | zero => simp at hv; subst hv; exact h1
    | succ i => rw [show ∀ j, j + (i + 1) = j + 1 + i by omega]; exact ih i v (by simpa using hv)
theorem ZeroD.at {F : Nat → Prop} {w : World} {d : DV} {v : Value} (h : ZeroD d v) (ho : oneV v = true) : DAt F w d v := by
  cases h with
  | v e => subst e; exact .v _ ho
  | nil => exact .nil _ _ _ _ _
theorem KeyA.at {κ : Type} {kk : κ → Value} {zi : AV} {k : κ} (h : KeyA kk zi k) {cx : Cx} {w : World} {u : Value} (hu : AAt cx w zi u) : u = kk k := by
  cases h with
  | v e => simp only [AAt] at hu; rw [hu, e]
  | g e =>
    rename_i xs
    simp only [AAt] at hu
    obtain ⟨arr, rfl, h2⟩ := hu
    rw [← e]
    congr 1
    have : ∀ (xs us : List Value), AAtL cx w (xs.map .v) us → us = xs := by
      intro xs
      induction xs with
      | nil => intro us h; cases us <;> simp_all [AAtL]
      | cons x xs ih =>
        intro us h
        cases us with
        | nil => simp [AAtL] at h
        | cons u us => simp only [List.map_cons, AAtL, AAt] at h; rw [h.1, ih us h.2]
    rw [← this xs _ h2]
section
variable {P : Program} {T : Tab} (hT : TabOk P T) {C : Ctx} {env : Env} {sto : Sto} {a : Act} {w : World} (hA : Abs C env sto a w) {q : Path} (hq : PathHolds q)
include hT

theorem und_of {t : TypeId} {y : Ty} (h : tget t T = some y) : ∃ d, P.underlying t = some d ∧ y.k.fits d := (hT t y h).und

theorem Conv.sound {cx : Cx} {s d : TypeId} {z r : AV} (h : Conv T s d z r) {u : Value} (hu : AAt cx w z u) : ∃ u', (convert s d u).run P w = .ok u' w ∧ AAt cx w r u' := by
  cases h with
  | int hs hd =>
    simp only [AAt] at hu
    subst hu
    obtain ⟨ds, h1, _⟩ := run_und (w := w) (hT _ _ hs)
    refine ⟨_, ?_, rfl⟩
    simp [convert, h1, run_und_int (w := w) (hT _ _ hd), Conv.intToInt]
  | str hs hd =>
    simp only [AAt] at hu
    subst hu
    obtain ⟨ds, h1, _⟩ := run_und (w := w) (hT _ _ hs)
    refine ⟨_, ?_, rfl⟩
    simp [convert, h1, run_und_str (w := w) (hT _ _ hd)]
  | bytes hs he hd =>
    rename_i xs e m b m' b' m'' b'' z z' z''
    simp only [AAt] at hu
    obtain ⟨ds, h1, h1'⟩ := und_of hT hs
    obtain ⟨de, h2, h2'⟩ := und_of hT he
    obtain ⟨dd, h3, h3'⟩ := und_of hT hd
    have e1 : P.underlying s = some (.slice e) := by cases ds <;> simp_all [TK.fits]
    have e2 : P.underlying e = some (.int .u8) := by cases de <;> simp_all [TK.fits]
    have e3 : P.underlying d = some .string := by cases dd <;> simp_all [TK.fits]
    rcases hu.inv_sl with ⟨rfl, A, c, rfl⟩ | ⟨a, c, rfl, hf, hb, hc, hY⟩
    · refine ⟨_, ?_, rfl⟩
      cases A with
      | none => rw [run_convert_bytes_string w s d e none 0 c e1 e2 e3]; simp [Conv.bytesToString]; rfl
      | some a => exact run_convert_bytes_back w s d e a c [] e1 e2 e3 (by simp)
    · refine ⟨_, run_convert_bytes_back w s d e a c xs e1 e2 e3 (fun j hj => ?_), rfl⟩
      obtain ⟨y, h4, h5⟩ := hY j 0 hj (by omega)
      simp only [encB, List.getD, List.getElem?_eq_getElem hj, Option.getD_some] at h5
      rw [h5.inv_v] at h4
      simpa using h4

theorem Idx.sound {t : TypeId} {z r : AV} {n : Int} (h : Idx T sto q t z n r) (hr : ∀ r ∈ sto, RAt (C.cx sto) w r) (hq : PathHolds q) {u : Value} {k : IntKind} (hu : AAt (C.cx sto) w z u) :
    ∃ u', (Instr.indexAt t u (.int k n)).run P w = .ok u' w ∧ AAt (C.cx sto) w r u' := by
  cases h with
  | dN ht he hz hs =>
    rename_i α new sz enc dv xs NN e m b b' z z' ke
    have h0 : (0 : Int) ≤ (NN : Int) := Int.natCast_nonneg _
    have h1 := hs hq
    replace h1 : (NN : Int) < _ := Int.ofNat_lt.2 h1
    have hz' : 0 < sz := Nat.le_of_ble_eq_true hz
    simp only [AAt] at hu
    have hu' := hu
    rcases hu.inv_sl with ⟨rfl, A, c, rfl⟩ | ⟨a, c, rfl, hf, hb, hc, hY⟩
    · simp at h1; omega
    · refine ⟨_, run_indexAt (hT _ _ ht) (hT _ _ he) h0 h1, ?_⟩
      simp only [AAt]
      exact ⟨a, c, by simp, by omega, hz', hu'⟩
  | rowN hrow ht he hz hs =>
    rename_i α v new et sz enc dv xs NN e m b b' z z' ke
    have h0 : (0 : Int) ≤ (NN : Int) := Int.natCast_nonneg _
    have h1 := hs hq
    replace h1 : (NN : Int) < _ := Int.ofNat_lt.2 h1
    have hz' : 0 < sz := Nat.le_of_ble_eq_true hz
    simp only [AAt] at hu
    obtain ⟨rfl, _⟩ := hu
    have hv := hr _ hrow.mem
    obtain ⟨vals, hr1, hr2, hr3, _⟩ := hv
    rcases hr1 with ⟨rfl, rfl⟩ | ⟨g, o, n', cap, cur, rfl, hg, hn, hm, hc, hl, hvals⟩
    · have := hr3 none 0 0 rfl
      omega
    · have hn' := hr3 _ _ _ rfl
      subst hn'
      refine ⟨_, run_indexAt (hT _ _ ht) (hT _ _ he) h0 h1, ?_⟩
      simp only [AAt]
      exact ⟨⟨g, o, none⟩, xs.length, cap, rfl, by omega, hz', by simp⟩
  | arrN ht he hs =>
    rename_i b j len NN e m by' z ye
    have h0 : (0 : Int) ≤ (NN : Int) := Int.natCast_nonneg _
    have h1 := hs hq
    replace h1 : (NN : Int) < _ := Int.ofNat_lt.2 h1
    simp only [AAt] at hu ⊢
    subst hu
    refine ⟨_, run_indexAt_arr (hT _ _ ht) (hT _ _ he) h0 h1, ?_⟩
    rw [add_none]
    simp

  | d ht he hz hs =>
    rename_i α new sz enc dv xs e m b b' z z' ke
    obtain ⟨h0, h1⟩ := hs hq
    have hz' : 0 < sz := Nat.le_of_ble_eq_true hz
    simp only [AAt] at hu
    have hu' := hu
    rcases hu.inv_sl with ⟨rfl, A, c, rfl⟩ | ⟨a, c, rfl, hf, hb, hc, hY⟩
    · simp at h1; omega
    · refine ⟨_, run_indexAt (hT _ _ ht) (hT _ _ he) h0 h1, ?_⟩
      simp only [AAt]
      exact ⟨a, c, by simp, by omega, hz', hu'⟩
  | row hrow ht he hz hs =>
    rename_i α v new et sz enc dv xs e m b b' z z' ke
    obtain ⟨h0, h1⟩ := hs hq
    have hz' : 0 < sz := Nat.le_of_ble_eq_true hz
    simp only [AAt] at hu
    obtain ⟨rfl, _⟩ := hu
    have hv := hr _ hrow.mem
    obtain ⟨vals, hr1, hr2, hr3, _⟩ := hv
    rcases hr1 with ⟨rfl, rfl⟩ | ⟨g, o, n', cap, cur, rfl, hg, hn, hm, hc, hl, hvals⟩
    · have := hr3 none 0 0 rfl
      omega
    · have hn' := hr3 _ _ _ rfl
      subst hn'
      refine ⟨_, run_indexAt (hT _ _ ht) (hT _ _ he) h0 h1, ?_⟩
      simp only [AAt]
      exact ⟨⟨g, o, none⟩, xs.length, cap, rfl, by omega, hz', by simp⟩
  | arr ht he hs =>
    obtain ⟨h0, h1⟩ := hs hq
    simp only [AAt] at hu ⊢
    subst hu
    refine ⟨_, run_indexAt_arr (hT _ _ ht) (hT _ _ he) h0 h1, ?_⟩
    rw [add_none]

theorem readP_at {cx : Cx} {t : TypeId} {y : Ty} (ht : tget t T = some y) {new : Bool} {sz : Nat} {f : Nat → DV} {i j : Nat} {r : AV} (hr : readP y.k.agg y.size new sz f j = some r) {a : Addr}
    (hc : ∀ j, j < sz → ∃ v, w.cell? (a.add (i * sz + j)) = some v ∧ DAt (cx.ok new) w (f j) v) :
    ∃ u', (Instr.loadAt t (.pointer (some (a.add (i * sz + j))))).run P w = .ok u' w ∧ AAt cx w r u' := by
  unfold readP at hr
  cases hagg : y.k.agg with
  | false =>
    rw [hagg] at hr
    simp only at hr
    split at hr
    · rename_i hj
      simp only [Option.some.injEq] at hr
      subst hr
      have hj' : j < sz := Nat.le_of_ble_eq_true hj
      obtain ⟨v, h1, h2⟩ := hc j hj'
      exact ⟨v, run_load_one (hT _ _ ht) hagg h1, upD_at h2⟩
    · cases hr
  | true =>
    rw [hagg] at hr
    simp only at hr
    split at hr
    · rename_i hj
      simp only [Option.some.injEq] at hr
      subst hr
      have hj' : j + y.size ≤ sz := Nat.le_of_ble_eq_true hj
      have hadd : ∀ m, (a.add (i * sz + j)).add m = a.add (i * sz + (j + m)) := by
        intro m
        unfold Addr.add
        split
        · rename_i h0
          subst h0
          simp
        · rename_i h0
          split
          · rename_i h1
            rw [if_neg (by omega)]
            simp [show i * sz + (j + m) = m by omega]
          · rw [if_neg (by omega)]
            simp [Nat.add_assoc]
      have hex : ∃ F : Nat → Value, ∀ m, m < y.size → w.cell? ((a.add (i * sz + j)).add m) = some (F m) ∧ DAt (cx.ok new) w (f (j + m)) (F m) := by
        refine ⟨fun m => if h : m < y.size then (hc (j + m) (by omega)).choose else undef, fun m hm => ?_⟩
        simp only [hm, dif_pos]
        rw [hadd]
        exact (hc (j + m) (by omega)).choose_spec
      obtain ⟨F, hF⟩ := hex
      refine ⟨_, run_load_agg (hT _ _ ht) hagg (fun m hm => (hF m hm).1), ?_⟩
      simp only [AAt]
      refine ⟨_, rfl, AAtL.of_get (by simp) (fun m z u hz hu => ?_)⟩
      simp only [List.getElem?_map] at hz hu
      have hm : m < y.size := by
        rcases Nat.lt_or_ge m y.size with h | h
        · exact h
        · simp [List.getElem?_eq_none (show (List.range y.size).length ≤ m by simpa using h)] at hz
      simp only [List.getElem?_range hm, Option.map_some, Option.some.injEq] at hz hu
      subst hz hu
      exact upD_at (hF m hm).2
    · cases hr

theorem readB_at {cx : Cx} {t : TypeId} {y : Ty} (ht : tget t T = some y) {cs : List AV} {us : List Value} (hcs : AAtL cx w cs us) {j : Nat} {r : AV} (hr : readB y.k.agg y.size cs j = some r) {a : Addr}
    (hc : ∀ m v, us[m]? = some v → w.cell? (a.add m) = some v) :
    ∃ u', (Instr.loadAt t (.pointer (some (a.add j)))).run P w = .ok u' w ∧ AAt cx w r u' := by
  unfold readB at hr
  cases hagg : y.k.agg with
  | false =>
    rw [hagg] at hr
    simp only at hr
    obtain ⟨u, h1, h2⟩ := hcs.get j r hr
    exact ⟨u, run_load_one (hT _ _ ht) hagg (hc j u h1), h2⟩
  | true =>
    rw [hagg] at hr
    simp only at hr
    split at hr
    · rename_i hj
      simp only [Option.some.injEq] at hr
      subst hr
      have hj' : j + y.size ≤ cs.length := Nat.le_of_ble_eq_true hj
      have hlen := hcs.length
      have hadd : ∀ m, (a.add j).add m = a.add (j + m) := by
        intro m
        unfold Addr.add
        split
        · rename_i h0
          subst h0
          simp
        · rename_i h0
          split
          · rename_i h1
            subst h1
            rw [if_neg (by omega)]
            simp
          · rw [if_neg (by omega)]
            simp [Nat.add_assoc]
      refine ⟨_, run_load_agg (f := fun m => us.getD (j + m) undef) (hT _ _ ht) hagg (fun m hm => ?_), ?_⟩
      · rw [hadd]
        exact hc _ _ (by simp [List.getD, List.getElem?_eq_getElem (show j + m < us.length by omega)])
      · simp only [AAt]
        refine ⟨_, rfl, AAtL.of_get (by simp; omega) (fun m z u hz hu => ?_)⟩
        have hm : m < y.size := by
          rcases Nat.lt_or_ge m y.size with h | h
          · exact h
          · simp [List.getElem?_map, List.getElem?_eq_none (show (List.range y.size).length ≤ m by simpa using h)] at hu
        simp only [List.getElem?_map, List.getElem?_range hm, Option.map_some, Option.some.injEq] at hu
        rw [List.getElem?_take, if_pos hm, List.getElem?_drop] at hz
        obtain ⟨u', h1, h2⟩ := hcs.get _ _ hz
        rw [← hu]
        simp only [List.getD, h1, Option.getD_some]
        exact h2
    · cases hr

theorem Load.sound {t : TypeId} {z r : AV} (h : Load T sto t z r) (hr : ∀ r ∈ sto, RAt (C.cx sto) w r) {u : Value} (hu : AAt (C.cx sto) w z u) :
    ∃ u', (Instr.loadAt t u).run P w = .ok u' w ∧ AAt (C.cx sto) w r u' := by
  cases h with
  | box hb ht hrd =>
    simp only [AAt] at hu
    subst hu
    rename_i b j cs y
    obtain ⟨arr, e, h1, h2⟩ := hr _ hb.mem
    have := readB_at hT ht h2 hrd (a := ⟨b, 0, none⟩) (fun m v hv => by rw [add_none, Nat.zero_add, cell_of_heap h1]; simpa using hv)
    simpa [add_none] using this
  | p ht hrd =>
    simp only [AAt] at hu
    obtain ⟨a, c, rfl, hi, hj, hD⟩ := hu
    refine readP_at hT ht hrd (fun j hj => ?_)
    rcases hD.inv_sl with ⟨rfl, A, c', h⟩ | ⟨a', c', h, hf, hb, hc, hY⟩
    · simp at hi
    · simp only [Value.slice.injEq, Option.some.injEq] at h
      obtain ⟨rfl, _, rfl⟩ := h
      exact hY _ _ hi hj
  | e hrow ht hrd =>
    simp only [AAt] at hu
    obtain ⟨a, n, c, hv, hi, hj, rfl⟩ := hu
    have hR := hr _ hrow.mem
    have hR' := hR
    obtain ⟨_, _, _, h3, _⟩ := hR'
    have hn := h3 _ _ _ hv
    subst hn
    exact readP_at hT ht hrd (fun j hj => row_cell hR hv hi hj)

theorem Fa.sound {cx : Cx} {s : TypeId} {f off m b : Nat} {ft : TypeId} {fs : List (TypeId × Nat)} {zs : List Value} {yf : Ty} {z r : AV} (h : Fa off z r) (hs : tget s T = some ⟨.struct fs, m, b, zs⟩) (hf : fs[f]? = some (ft, off))
    (hft : tget ft T = some yf) (h0 : Nat.blt 0 yf.size = true) {u : Value} (hu : AAt cx w z u) : ∃ u', (Instr.fieldAt s u f).run P w = .ok u' w ∧ AAt cx w r u' := by
  have h0' : yf.size ≠ 0 := by have : 0 < yf.size := Nat.le_of_ble_eq_true h0; omega
  have hrun := run_fieldAt (w := w) (hT _ _ hs) hf (hT _ _ hft) h0'
  have hadd : ∀ (a : Addr) (i j sz : Nat), (a.add (i * sz + j)).add off = a.add (i * sz + (j + off)) := by
    intro a i j sz
    unfold Addr.add
    split
    · rename_i h0
      subst h0
      simp
    · rename_i h0
      split
      · rename_i h1
        rw [if_neg (by omega)]
        simp [show i * sz + (j + off) = off by omega]
      · rw [if_neg (by omega)]
        simp [Nat.add_assoc]
  cases h with
  | v =>
    simp only [AAt] at hu
    subst hu
    exact ⟨_, hrun _, by simp [AAt, add_none]⟩
  | p hj =>
    simp only [AAt] at hu
    obtain ⟨a, c, rfl, hi, _, hD⟩ := hu
    refine ⟨_, hrun _, ?_⟩
    simp only [AAt]
    exact ⟨a, c, by rw [hadd], hi, Nat.le_of_ble_eq_true hj, hD⟩
  | e hj =>
    simp only [AAt] at hu
    obtain ⟨a, n, c, hv, hi, _, rfl⟩ := hu
    refine ⟨_, hrun _, ?_⟩
    simp only [AAt]
    exact ⟨a, n, c, hv, hi, Nat.le_of_ble_eq_true hj, by rw [hadd]⟩

theorem Len.sound {t ty : TypeId} {z r : AV} (h : Len T sto t z r) (hr : ∀ r ∈ sto, RAt (C.cx sto) w r) {u : Value} (hu : AAt (C.cx sto) w z u) :
    ∃ u', (Builtin.len_ #[t] ty #[u]).run P w = .ok u' w ∧ AAt (C.cx sto) w r u' := by
  cases h with
  | d ht =>
    simp only [AAt] at hu
    rcases hu.inv_sl with ⟨rfl, A, c, rfl⟩ | ⟨a, c, rfl, _⟩ <;> exact ⟨_, by simp [Builtin.len_, run_und_slice (hT _ _ ht), goInt], rfl⟩
  | str ht =>
    simp only [AAt] at hu
    subst hu
    exact ⟨_, by simp [Builtin.len_, run_und_str (hT _ _ ht), goInt], rfl⟩
  | sl ht =>
    simp only [AAt] at hu
    subst hu
    exact ⟨_, by simp [Builtin.len_, run_und_slice (hT _ _ ht), goInt], rfl⟩
  | row hrow ht =>
    rename_i α v new et sz enc dv xs e m b z
    simp only [AAt] at hu
    obtain ⟨rfl, _⟩ := hu
    obtain ⟨vals, hr1, hr2, hr3, _⟩ := hr _ hrow.mem
    have hex : ∃ A n c, u = .slice A n c := by
      rcases hr1 with ⟨rfl, rfl⟩ | ⟨g, o, n', cap, cur, rfl, hg, hn, _⟩
      · exact ⟨_, _, _, rfl⟩
      · exact ⟨_, _, _, rfl⟩
    obtain ⟨A, n, c, rfl⟩ := hex
    have hn := hr3 _ _ _ rfl
    subst hn
    exact ⟨.int .i64 xs.length, by simp [Builtin.len_, run_und_slice (hT _ _ ht), goInt], rfl⟩
  | s ht =>
    simp only [AAt] at hu
    obtain ⟨A, n, c, hv, h1, h2, h3, rfl⟩ := hu
    rename_i v sz lo hi e m b z
    exact ⟨.int .i64 (hi - lo : Nat), by simp [Builtin.len_, run_und_slice (hT _ _ ht), goInt], rfl⟩

theorem Sl.sound {t : TypeId} {lo hi mx : Option Value} {z r : AV} (h : Sl T sto q t lo hi mx z r) (hr : ∀ r ∈ sto, RAt (C.cx sto) w r) (hq : PathHolds q) {u : Value} (hu : AAt (C.cx sto) w z u) :
    ∃ u', (Instr.sliceAt t u lo hi mx).run P w = .ok u' w ∧ AAt (C.cx sto) w r u' := by
  cases h with
  | str ht hl hu' hm hs =>
    simp only [AAt] at hu
    subst hu
    subst hm
    obtain ⟨h0, h1, h2⟩ := hs hq
    exact ⟨_, run_sliceAt_string (hT _ _ ht) hl hu' h0 h1 h2, rfl⟩
  | d ht he hl hu' hm hmx hs =>
    rename_i α new sz enc dv xs l v e m b b' z z' ke
    obtain ⟨h0, h1, h2⟩ := hs hq
    simp only [AAt] at hu
    have hmx' : ∀ c : Nat, xs.length ≤ c → ∃ m : Int, boundI mx c = some m ∧ v ≤ m ∧ m ≤ c := by
      intro c hc
      cases mx with
      | none => exact ⟨c, rfl, by omega, by omega⟩
      | some v' =>
        cases v' <;> simp only [mxOk] at hm
        subst hm
        exact ⟨_, rfl, Int.le_refl _, by omega⟩
    rcases hu.inv_sl with ⟨rfl, A, c, rfl⟩ | ⟨a, c, rfl, hf, hb, hc, hY⟩
    · obtain ⟨m', hm1, hm2, hm3⟩ := hmx' c (by simp)
      simp at h2
      have hl0 : l = 0 := by omega
      have hv0 : v = 0 := by omega
      subst hl0 hv0
      refine ⟨_, run_sliceAt_slice (hT _ _ ht) (hT _ _ he) hl (by simpa using hu') hm1 hmx (by omega) (by omega) hm2 hm3, ?_⟩
      simp only [AAt]
      simpa using DAt.nil sz enc dv _ _
    · obtain ⟨m', hm1, hm2, hm3⟩ := hmx' c hc
      refine ⟨_, run_sliceAt_slice (hT _ _ ht) (hT _ _ he) hl hu' hm1 hmx (by omega) (by omega) hm2 hm3, ?_⟩
      simp only [AAt]
      have hlen : ((xs.take v.toNat).drop l.toNat).length = v.toNat - l.toNat := by simp; omega
      by_cases he : (xs.take v.toNat).drop l.toNat = []
      · have : v.toNat - l.toNat = 0 := by rw [← hlen, he]; rfl
        rw [he, this]
        exact .nil _ _ _ _ _
      · have hne : m'.toNat ≠ l.toNat := by
          intro h
          apply he
          apply List.eq_nil_of_length_eq_zero
          rw [hlen]
          omega
        rw [if_neg hne, ← hlen]
        have hpos : 0 < ((xs.take v.toNat).drop l.toNat).length := List.length_pos_iff.2 he
        have hadd : ∀ i j, (a.add (l.toNat * sz)).add (i * sz + j) = a.add ((l.toNat + i) * sz + j) := by
          intro i j
          have e : (l.toNat + i) * sz + j = l.toNat * sz + (i * sz + j) := by rw [Nat.add_mul, Nat.add_assoc]
          rw [e]
          unfold Addr.add
          split
          · rename_i h0
            rw [h0]
            simp
          · rename_i h0
            split
            · rename_i h1
              rw [h1]
              simp only [Nat.zero_add, if_neg h0]
            · rw [if_neg (by omega)]
              simp [Nat.add_assoc]
        have hcells : ∀ i j, i < ((xs.take v.toNat).drop l.toNat).length → j < sz → ∃ y, w.cell? ((a.add (l.toNat * sz)).add (i * sz + j)) = some y ∧ DAt ((C.cx sto).ok new) w (enc (((xs.take v.toNat).drop l.toNat).getD i dv) j) y := by
          intro i j hi hj
          obtain ⟨y, hy1, hy2⟩ := hY (l.toNat + i) j (by omega) hj
          refine ⟨y, by rw [hadd]; exact hy1, ?_⟩
          have : ((xs.take v.toNat).drop l.toNat).getD i dv = xs.getD (l.toNat + i) dv := by
            simp only [List.getD, List.getElem?_drop, List.getElem?_take]
            rw [if_pos (by omega)]
          rw [this]
          exact hy2
        have hch : ∃ Y : Nat → Nat → Value, ∀ i j, i < ((xs.take v.toNat).drop l.toNat).length → j < sz → w.cell? ((a.add (l.toNat * sz)).add (i * sz + j)) = some (Y i j) ∧ DAt ((C.cx sto).ok new) w (enc (((xs.take v.toNat).drop l.toNat).getD i dv) j) (Y i j) := by
          refine ⟨fun i j => if h : i < ((xs.take v.toNat).drop l.toNat).length ∧ j < sz then (hcells i j h.1 h.2).choose else undef, fun i j hi hj => ?_⟩
          have hij : i < ((xs.take v.toNat).drop l.toNat).length ∧ j < sz := ⟨hi, hj⟩
          simp only [hij, and_self, dif_pos]
          exact (hcells i j hi hj).choose_spec
        obtain ⟨Y, hY'⟩ := hch
        exact .sl sz enc dv _ (a.add (l.toNat * sz)) _ Y (by rw [add_block]; exact hf) (by rw [add_block]; exact hb) (by rw [hlen]; omega) (fun i j hi hj => (hY' i j hi hj).1) (fun i j hi hj => (hY' i j hi hj).2)
  | row hrow ht he hl hu' hm hs =>
    rename_i α v new et sz enc dv xs l u' e m b b' z z' ke
    obtain ⟨h0, h1, h2⟩ := hs hq
    simp only [AAt] at hu
    obtain ⟨rfl, _⟩ := hu
    subst hm
    obtain ⟨vals, hr1, hr2, hr3, _⟩ := hr _ hrow.mem
    have hex : ∃ A n c, u = .slice A n c ∧ n ≤ c := by
      rcases hr1 with ⟨rfl, rfl⟩ | ⟨g, o, n', cap, cur, rfl, hg, hn, _⟩
      · exact ⟨_, _, _, rfl, Nat.le_refl _⟩
      · exact ⟨_, _, _, rfl, hn⟩
    obtain ⟨A, n, c, rfl, hnc⟩ := hex
    have hn := hr3 _ _ _ rfl
    subst hn
    refine ⟨_, run_sliceAt_slice (mx := none) (hT _ _ ht) (hT _ _ he) hl hu' rfl (by simp) h0 h1 (by omega) (Int.le_refl _), ?_⟩
    simp only [AAt]
    refine ⟨A, xs.length, c, rfl, by omega, by omega, hnc, ?_⟩
    simp
  | arr ht he h1 h2 h3 =>
    simp only [AAt] at hu
    subst hu h1 h2 h3
    rename_i b n e m by' z ye
    refine ⟨_, ?_, rfl⟩
    by_cases h0 : n = 0
    · subst h0
      simp [Instr.sliceAt, run_und_array (hT _ _ ht), Instr.sureAddr, run_bounds (isSlice := false) (len := 0) (cap := 0) (lo := none) (hi := none) (mx := none) (l := 0) (u := 0) (m := 0) rfl rfl rfl (by simp) (by omega) (by omega) (by omega) (by omega), run_size (hT _ _ he)]
    · have := run_bounds (P := P) (w := w) (isSlice := false) (len := n) (cap := n) (lo := none) (hi := none) (mx := none) (l := 0) (u := n) (m := n) rfl rfl rfl (by simp) (by omega) (by omega) (by omega) (by omega)
      simp [Instr.sliceAt, run_und_array (hT _ _ ht), Instr.sureAddr, this, run_size (hT _ _ he), h0, add_none]

theorem unV_run {op : UnOp} {x r : Value} (h : unV op x = some r) : (Op.unary op x).run P w = .ok r w := by
  unfold unV at h
  split at h <;> simp only [Option.some.injEq, reduceCtorEq] at h <;> subst h <;> simp [Op.unary, Op.intArith, Op.intBits]

theorem run_equal_bool (w : World) {t : TypeId} {a c : Bool} (h : P.underlying t = some .bool) : (Op.equal t (.bool a) (.bool c)).run P w = .ok (a == c) w := by
  have h' : ∀ d, (Op.equalIn (d + 1) t (.bool a) (.bool c)).run P w = .ok (a == c) w := fun d => by simp [Op.equalIn, run_underlying h]
  exact h' 9999
theorem Bin.sound {cx : Cx} {op : BinOp} {u v r : AV} {s : Prop} {t : TypeId} (h : Bin T t op u v s r) (hs : s) {x y : Operand} {u' v' : Value} (hu : AAt cx w u u') (hv : AAt cx w v v') :
    ∃ r', (do eqGuard op t x y u' v'; binOp op t u' v' : Sem Value).run P w = .ok r' w ∧ AAt cx w r r' := by
  cases h with
  | eqB ht =>
    simp only [AAt] at hu hv
    subst hu hv
    obtain ⟨d, i, h1, _, h3, _⟩ := hT _ _ ht
    cases d <;> simp only [TK.fits] at h3
    exact ⟨_, by simp [eqGuard, binOp, run_equal_bool hT w h1], rfl⟩
  | neB ht =>
    simp only [AAt] at hu hv
    subst hu hv
    obtain ⟨d, i, h1, _, h3, _⟩ := hT _ _ ht
    cases d <;> simp only [TK.fits] at h3
    exact ⟨_, by simp [eqGuard, binOp, run_equal_bool hT w h1], rfl⟩
  | v hb =>
    simp only [AAt] at hu hv
    subst hu hv
    exact ⟨_, binV_run hb hs w, rfl⟩
  | x hb =>
    simp only [AAt] at hu hv
    subst hu hv
    exact ⟨_, binX_run hb hs w, rfl⟩

/-- **A rule's operation yields what the rule says, and leaves the world as it is.** -/
theorem KeyT.okk {kt : TypeId} {yk : Ty} {κ : Type} [DecidableEq κ] {kk : κ → Value} (hk : tget kt T = some yk) (h : KeyT T yk kk) : KeyOk P kt kk := by
  obtain ⟨dk, ik, hk1, _, hk3, _⟩ := hT _ _ hk
  cases h with
  | int =>
    cases dk <;> simp only [TK.fits] at hk3
    subst hk3
    exact (plain_int _).ok hk1
  | str =>
    cases dk <;> simp only [TK.fits] at hk3
    exact plain_str.ok hk1
theorem LookK.sound {ok : Bool} {z zi r : AV} {t kt et : TypeId} {yt yk ye : Ty} (ht : tget t T = some yt) (htk : yt.k = .map kt et) (hk : tget kt T = some yk) (he : tget et T = some ye) (h : LookK T sto ok yk ye z zi r) (hr : ∀ r ∈ sto, RAt (C.cx sto) w r)
    {u ui : Value} (hu : AAt (C.cx sto) w z u) (hui : AAt (C.cx sto) w zi ui) : ∃ u', (Instr.lookup t u ui ok).run P w = .ok u' w ∧ AAt (C.cx sto) w r u' := by
  obtain ⟨dt, it, ht1, _, ht3, _⟩ := hT _ _ ht
  obtain ⟨de, ie, he1, he2, he3, he4, he5, he6, he7, he8⟩ := hT _ _ he
  have ht1' : P.underlying t = some (.map kt et) := by
    rw [htk] at ht3
    cases dt <;> simp only [TK.fits] at ht3
    obtain ⟨rfl, rfl⟩ := ht3
    exact ht1
  cases hz : ie.zero with
  | none => simp [hz] at he6
  | some zv =>
    simp only [hz, Option.map_some, Option.some.injEq] at he6
    cases h with
    | mp d hm hkt hka hall hzl =>
      rename_i κ α dec r new kk enc es k
      simp only [AAt] at hu
      subst hu
      have hui' := hka.at hui
      subst hui'
      obtain ⟨v, h1, h2⟩ := lookup_at (KeyT.okk hT hk hkt) (hr _ hm.mem) ht1' he2 hz k ok
      refine ⟨_, h1, ?_⟩
      have hone : ∀ v' ∈ zv.cells.toList, oneV v' = true := fun v' hv' => List.all_eq_true.1 hall v' (by rw [← he6]; exact hv')
      have hv : AAt (C.cx sto) w (valA new ye.k.agg ye.size (enc ((mget es k).getD d))) v := by
        cases hg : mget es k with
        | some y => rw [hg] at h2; exact h2
        | none =>
          rw [hg] at h2
          simp only at h2
          subst h2
          simp only [Option.getD_none]
          have hget : ∀ i v', v.cells.toList[i]? = some v' → DAt ((C.cx sto).ok new) w (enc d i) v' := by
            intro i v' hi
            have := hzl.get i v' (by rw [← he6]; exact hi)
            rw [Nat.zero_add] at this
            exact this.at (hone v' (List.mem_of_getElem? hi))
          unfold valA
          cases hag : ye.k.agg with
          | true =>
            have hcells : ∃ arr, v = .agg arr := by
              cases hk' : ye.k <;> simp [hk', TK.agg] at hag <;> simp [hk', hz] at he8 <;> exact he8
            obtain ⟨arr, rfl⟩ := hcells
            simp only [AAt]
            refine ⟨arr, rfl, AAtL.of_get (by rw [← he6] at he7; simpa [Value.cells] using he7.symm) (fun j z' u' hz' hu' => ?_)⟩
            rw [List.getElem?_map] at hz'
            cases hj : (List.range ye.size)[j]? with
            | none => simp [hj] at hz'
            | some j' =>
              rw [hj] at hz'
              have : j' = j := by
                rw [List.getElem?_eq_some_iff] at hj
                obtain ⟨h1, h2⟩ := hj
                simpa using h2.symm
              subst this
              simp at hz'
              subst hz'
              exact upD_at (hget _ _ (by simpa [Value.cells] using hu'))
          | false =>
            have h8 : ye.size = 1 ∧ ie.zero = ye.zero.head? := by
              cases hk' : ye.k <;> simp [hk', TK.agg] at hag <;> simpa [hk'] using he8
            refine upD_at (hget 0 v ?_)
            rw [hz, ← he6, List.head?_eq_getElem?] at h8
            exact h8.2.symm
      cases ok <;> simp only [lookV, AAt, AAtL, if_true, if_false, Bool.false_eq_true]
      · exact hv
      · exact ⟨_, rfl, hv, rfl, trivial⟩

theorem Quiet.sound {o : Oper} {z : AV} (h : Quiet T env sto q o.op z) (hA : Abs C env sto a w) (hq : PathHolds q) : ∃ u, (execOp a.eval o).run P w = .ok (.value u) w ∧ AAt (C.cx sto) w z u := by
  obtain ⟨dst, op, type, pos, after, guard⟩ := o
  simp only at h
  cases h with
  | move hg => exact ⟨_, by simp [execOp], hg.sound hA hq⟩
  | assign hg => exact ⟨_, by simp [execOp], hg.sound hA hq⟩
  | load hg hl =>
    obtain ⟨u, h1, h2⟩ := hl.sound hT hA.res (hg.sound hA hq)
    exact ⟨u, by simp [execOp, h1], h2⟩
  | fieldAddr hg hs hf hft h0 hr =>
    obtain ⟨u, h1, h2⟩ := hr.sound hT hs hf hft h0 (hg.sound hA hq)
    exact ⟨u, by simp [execOp, h1], h2⟩
  | indexAddr hg hi hr =>
    rename_i t x i z k n
    obtain ⟨u, h1, h2⟩ := hr.sound hT (k := k) hA.res hq (hg.sound hA hq)
    exact ⟨u, by simp [execOp, hi.v hA hq, h1], h2⟩
  | binOp hx hy hb hs =>
    rename_i op t t' x y u v s
    obtain ⟨r', h1, h2⟩ := hb.sound hT (hs hq) (t := t) (x := x) (y := y) (hx.sound hA hq) (hy.sound hA hq)
    refine ⟨r', ?_, h2⟩
    simp only [execOp, Sem.run_bind] at h1 ⊢
    rw [h1]
    simp
  | extract hg hz =>
    have h1 := hg.sound hA hq
    simp only [AAt] at h1
    obtain ⟨arr, h2, h3⟩ := h1
    obtain ⟨u, h4, h5⟩ := h3.get _ _ hz
    rename_i x i zs
    have h4' : arr[i]? = some u := by simpa using h4
    exact ⟨u, by simp [execOp, Instr.extract, h2, h4'], h5⟩
  | pickOr hc hb =>
    rename_i c b cb y
    have h1 := hc.v hA hq
    cases cb with
    | true => exact ⟨.bool true, by simp [execOp, asBool, h1, eval_const], by simp [AAt]⟩
    | false =>
      have h2 := hb.v hA (show PathHolds ((false, false) :: q) from And.intro rfl hq)
      exact ⟨.bool y, by simp [execOp, asBool, h1, h2], by simp [AAt]⟩
  | pickAnd hc hb =>
    rename_i c b cb y
    have h1 := hc.v hA hq
    cases cb with
    | false => exact ⟨.bool false, by simp [execOp, asBool, h1, eval_const], by simp [AAt]⟩
    | true =>
      have h2 := hb.v hA (show PathHolds ((true, true) :: q) from And.intro rfl hq)
      exact ⟨.bool y, by simp [execOp, asBool, h1, h2], by simp [AAt]⟩
  | build hg ht hb =>
    have hps := hg.sound hA hq
    rename_i t ps zs cs y
    obtain ⟨u, h1, h2⟩ := hb.sound hT ht (us := ps.map fun x => (x.1, a.eval x.2)) (by simpa using hps)
    exact ⟨u, by simp [execOp, h1], h2⟩
  | nilCheck hg hp =>
    rename_i x
    have h1 := hg.sound hA hq
    have : ∃ ad, a.eval x = .pointer (some ad) := by
      unfold isPtr at hp
      split at hp
      · simp only [AAt] at h1; exact ⟨_, h1⟩
      · simp only [AAt] at h1; obtain ⟨a', c, h1, _⟩ := h1; exact ⟨_, h1⟩
      · simp only [AAt] at h1; obtain ⟨a', n, c, _, _, _, h1⟩ := h1; exact ⟨_, h1⟩
      · cases hp
    obtain ⟨ad, had⟩ := this
    exact ⟨.pointer (some ad), by simp [execOp, had], by rw [had] at h1; exact h1⟩
  | unOp hg hr =>
    exact ⟨_, by simp [execOp, hg.v hA hq, unV_run hT hr], rfl⟩
  | convert hg hr =>
    obtain ⟨u, h1, h2⟩ := hr.sound hT (hg.sound hA hq)
    exact ⟨u, by simp [execOp, h1], h2⟩
  | field hg ht hf hft hr =>
    rename_i t x f off m b ft fs zs yf cs
    have h1 := hg.sound hA hq
    simp only [AAt] at h1
    obtain ⟨arr, h2, h3⟩ := h1
    obtain ⟨fs', h4, h5⟩ := run_und_struct (w := w) (hT _ _ ht)
    rw [← h5, List.getElem?_map] at hf
    obtain ⟨f', hf1, hf2⟩ : ∃ f', fs'[f]? = some f' ∧ (f'.type, f'.offset) = (ft, off) := by simpa using hf
    simp only [Prod.mk.injEq] at hf2
    obtain ⟨rfl, rfl⟩ := hf2
    unfold readB at hr
    cases hagg : yf.k.agg with
    | false =>
      rw [hagg] at hr
      simp only at hr
      obtain ⟨u, h6, h7⟩ := h3.get _ _ hr
      have h6' : arr[f'.offset]? = some u := by simpa using h6
      exact ⟨u, by simp [execOp, Instr.field, h4, hf1, h2, part, run_isAgg (hT _ _ hft), hagg, h6', asAgg], h7⟩
    | true =>
      rw [hagg] at hr
      simp only at hr
      split at hr
      · simp only [Option.some.injEq] at hr
        subst hr
        refine ⟨.agg (arr.extract f'.offset (f'.offset + yf.size)), by simp [execOp, Instr.field, h4, hf1, h2, part, run_isAgg (hT _ _ hft), hagg, asAgg, run_size (hT _ _ hft)], ?_⟩
        simp only [AAt]
        refine ⟨_, rfl, ?_⟩
        simp only [Array.toList_extract, List.extract_eq_take_drop, Nat.add_sub_cancel_left]
        exact (h3.drop _).take _
      · cases hr
  | index hg hi hr =>
    have hgx := hg.sound hA hq
    cases hr with
    | str ht hs =>
      rename_i x i k n s m b z
      obtain ⟨h0, h1⟩ := hs hq
      have hd' : (underlying _).run P w = .ok .string w := run_und_str (hT _ _ ht)
      have hlt : n.toNat < s.size := by omega
      have hb : s[n.toNat]? = some s[n.toNat] := by simp [hlt]
      refine ⟨.int .u8 s[n.toNat].toNat, by simp [execOp, Instr.index, asIntOf, hg.v hA hq, hi.v hA hq, hd', h0, hb], ?_⟩
      have e1 : s.data.toList.getD n.toNat 0 = s[n.toNat] := by
        simp only [List.getD, Array.getElem?_toList]
        have : s.data[n.toNat]? = some s[n.toNat] := by
          rw [Array.getElem?_eq_getElem (by simpa using hlt)]
          rfl
        rw [this]
        rfl
      rw [e1]
      simp [AAt]
    | ints ht he hl hb hs =>
      rename_i t x i k n ki cs xs len e m b b1 z z1
      obtain ⟨h0, h1⟩ := hs hq
      simp only [AAt] at hgx
      obtain ⟨arr, h2, h3⟩ := hgx
      have hlen := Nat.eq_of_beq_eq_true hb
      obtain ⟨dt, it, ht1, _, ht3, _⟩ := hT _ _ ht
      have hu : P.underlying t = some (.array len e) := by
        cases dt <;> simp only [TK.fits] at ht3
        obtain ⟨rfl, rfl⟩ := ht3
        exact ht1
      obtain ⟨u, h6, h7⟩ := h3.get _ _ (hl.get n.toNat (by omega))
      have h6' : arr[n.toNat]? = some u := by simpa using h6
      have h8 : n < len := by omega
      exact ⟨u, by simp [execOp, Instr.index, asIntOf, hi.v hA hq, h2, run_underlying hu, h0, h8, part, run_isAgg (hT _ _ he), run_size (hT _ _ he), h6', TK.agg], h7⟩
  | slice hg hl hh hm hr =>
    obtain ⟨u, h1, h2⟩ := hr.sound hT hA.res hq (hg.sound hA hq)
    refine ⟨u, ?_, h2⟩
    simp only [execOp, hl.sound hA hq, hh.sound hA hq, hm.sound hA hq, Sem.run_bind, h1]
    simp
  | lookMap hx hi ht htk hk he hl =>
    obtain ⟨u, h1, h2⟩ := hl.sound hT ht htk hk he hA.res (hx.sound hA hq) (hi.sound hA hq)
    refine ⟨u, ?_, h2⟩
    simp [execOp, h1]
  | makeFunc h1 h2 =>
    refine ⟨_, ?_, rfl⟩
    have e1 := h1.sound hA hq
    have e2 := h2.sound hA hq
    simp [execOp, Instr.makeFunc, e1, e2]
  | len hg hr =>
    obtain ⟨u, h1, h2⟩ := hr.sound hT (ty := type) hA.res (hg.sound hA hq)
    refine ⟨u, ?_, h2⟩
    simp [execOp, resolve, invoke, builtin, h1]
  | min hx hy =>
    rename_i x y ts k c d
    refine ⟨.int k (Min.min c d), ?_, rfl⟩
    have e : (if d < c then d else c) = Min.min c d := by rw [Int.min_def]; split <;> split <;> omega
    simp [execOp, resolve, invoke, builtin, Builtin.min_, Builtin.min2, hx.v hA hq, hy.v hA hq, e]
  | max hx hy =>
    rename_i x y ts k c d
    refine ⟨.int k (Max.max c d), ?_, rfl⟩
    have e : (if d > c then d else c) = Max.max c d := by rw [Int.max_def]; split <;> split <;> omega
    simp [execOp, resolve, invoke, builtin, Builtin.max_, Builtin.max2, hx.v hA hq, hy.v hA hq]
    first | exact e | (rw [Int.max_def]; split <;> split <;> omega)

end
end Go.Sx
end

section
/- Appending to a row that is owned. -/



set_option linter.unusedSectionVars false
namespace Go.Sx

theorem growsrc_fits {need old bytes : Nat} (h : old < need) (hb : need * bytes ≤ 140737488355328) : Builtin.nextslicecap need old * bytes ≤ 281474976710656 := growslice_fits h hb

/-- A row grows by cells. -/
theorem RowAt.append {P : Program} {w : World} {t tx ty e : TypeId} {i : TypeInfo} {zv : Value} (ht : P.underlying t = some (.slice e)) (hi : P.info? e = some i) (hz : i.zero = some zv) (hzs : zv.cells.size = i.size)
    {v : Value} {vals : List Value} {n : Nat} (hr : RowAt w e i.size v vals) (hn : ∀ A m c, v = .slice A m c → m = n) (hvl : vals.length = n * i.size) (h1 : ∀ u ∈ vals, oneV u = true)
    {x : Value} {m : Nat} {news : List Value} (hs : Src P i.size tx x m news w) (hbytes : (n + m) * i.bytes ≤ 140737488355328) (h63 : n + m ≤ maxLen) :
    ∃ v' w', (Builtin.append_ #[t, tx] ty #[v, x]).run P w = .ok v' w' ∧ RowAt w' e i.size v' (vals ++ news) ∧ (∀ A k c, v' = .slice A k c → k = n + m) ∧ Kept v.ownBlock.toList w w' ∧
      (v' = v ∨ (∃ A c, v = .slice A n c ∧ v' = .slice A (n + m) c) ∨ ∃ k c, v' = .slice (some ⟨w.heap.size, 0, none⟩) k c ∧ Kept [] w w') := by
  have hnl := hs.newsLen
  have hlen : (vals ++ news).length = (n + m) * i.size := by rw [List.length_append, hvl, hnl, Nat.add_mul]
  have grow : ∀ (bs : Option Addr) (sc : Nat), v = .slice bs n sc → sc < n + m → (Builtin.firstCells i.size n (.slice bs n sc)).run P w.drew = .ok vals.toArray w.drew →
      ∃ v' w', (Builtin.append_ #[t, tx] ty #[v, x]).run P w = .ok v' w' ∧ RowAt w' e i.size v' (vals ++ news) ∧ (∀ A k c, v' = .slice A k c → k = n + m) ∧ Kept v.ownBlock.toList w w' ∧
      (v' = v ∨ (∃ A c, v = .slice A n c ∧ v' = .slice A (n + m) c) ∨ ∃ k c, v' = .slice (some ⟨w.heap.size, 0, none⟩) k c ∧ Kept [] w w') := by
    rintro bs sc rfl hg hold
    have hrun := run_append_grow_src (P := P) w t tx ty e i zv ht hi hz bs n sc vals hold x m news hs hg (by simp only [maxLen] at h63; omega) (growslice_fits hg hbytes)
    have hge := grownCap_ge w (n + m) sc e
    have hcm := grownCap_le_maxLen w (n + m) sc e h63
    refine ⟨_, _, hrun, .inr ⟨w.heap.size, 0, _, _, _, rfl, heap_alloc_new w.drew _, hge, hcm, ?_, hlen, ?_⟩, fun A k c h => by simp only [Value.slice.injEq] at h; exact h.2.1.symm, ⟨rfl, rfl, rfl, by simp, fun k hk _ => heapOld w.drew _ k hk⟩, .inr (.inr ⟨_, _, rfl, ⟨rfl, rfl, rfl, by simp, fun k hk _ => heapOld w.drew _ k hk⟩⟩)⟩
    · rw [Array.size_append, List.size_toArray, hlen, size_zeroCells, hzs, ← Nat.add_mul, Nat.zero_add]
      refine Nat.le_of_eq ?_
      congr 1
      omega
    · rw [List.drop_zero, Array.toList_append, ← hlen]
      exact (List.take_left).symm
  have nothing : m = 0 → ∀ (bs : Option Addr) (sc : Nat), v = .slice bs n sc → n ≤ sc →
      ∃ v' w', (Builtin.append_ #[t, tx] ty #[v, x]).run P w = .ok v' w' ∧ RowAt w' e i.size v' (vals ++ news) ∧ (∀ A k c, v' = .slice A k c → k = n + m) ∧ Kept v.ownBlock.toList w w' ∧
      (v' = v ∨ (∃ A c, v = .slice A n c ∧ v' = .slice A (n + m) c) ∨ ∃ k c, v' = .slice (some ⟨w.heap.size, 0, none⟩) k c ∧ Kept [] w w') := by
    rintro rfl bs sc rfl hle
    have hx : news = [] := List.eq_nil_of_length_eq_zero (by simpa using hnl)
    subst hx
    have hrun := run_append_nothing (P := P) w t tx ty e i ht hi bs n sc hle x hs
    exact ⟨_, _, hrun, by simpa using hr, fun A k c h => by simp only [Value.slice.injEq] at h; exact h.2.1.symm, Kept.refl _ _, .inl rfl⟩
  rcases hr with ⟨rfl, rfl⟩ | ⟨g, o, n', cap, cur, rfl, hg, hnc, hcm, hsz, hl, hvals⟩
  · have hn0 : n = 0 := (hn _ _ _ rfl).symm
    subst hn0
    rcases Nat.eq_zero_or_pos m with hm | hm
    · exact nothing hm none 0 rfl (Nat.le_refl _)
    · exact grow none 0 rfl (by omega) (run_firstCells_none w.drew i.size 0 0 0)
  · have hn0 : n' = n := hn _ _ _ rfl
    subst hn0
    by_cases hroom : n' + m ≤ cap
    · have hmul : (n' + m) * i.size ≤ cap * i.size := Nat.mul_le_mul_right _ hroom
      rw [Nat.add_mul] at hmul
      have hst := run_storeCells_at P g (o + n' * i.size) e news 0 cur w hg (by omega) hs.one
      have hrun : (Builtin.append_ #[t, tx] ty #[.slice (some ⟨g, o, none⟩) n' cap, x]).run P w = .ok (.slice (some ⟨g, o, none⟩) (n' + m) cap)
          (w.setRow g (cur.toList.take (o + n' * i.size) ++ news ++ cur.toList.drop (o + n' * i.size + news.length)).toArray) := by
        simp only [Nat.add_zero] at hst
        rcases hs.kind with ⟨e', hk⟩ | hk <;> simp [Builtin.append_, run_underlying ht, run_underlying hk, sizeOf, typeInfo, hi, hs.len, hroom, hs.cells, Addr.add_lit, hst]
      refine ⟨_, _, hrun, .inr ⟨g, o, _, _, _, rfl, setRow_heap w g cur _ e _ hg, hroom, hcm, ?_, hlen, ?_⟩, fun A k c h => by simp only [Value.slice.injEq] at h; exact h.2.1.symm,
        ⟨rfl, rfl, rfl, by simp [World.setRow], fun k _ hk => setRow_other w g k _ (fun e => hk (by simp [Value.ownBlock, e]))⟩, .inr (.inl ⟨_, _, rfl, rfl⟩)⟩
      · simp only [List.size_toArray, List.length_append, List.length_take, List.length_drop, Array.length_toList]
        omega
      · have e1 : (cur.toList.take (o + n' * i.size)).drop o = vals := by rw [hvals, List.drop_take]; congr 1; omega
        have e2 : (cur.toList.take (o + n' * i.size)).length = o + n' * i.size := by simp; omega
        rw [List.append_assoc, List.drop_append_of_le_length (by omega), e1, ← List.append_assoc, ← hlen]
        exact List.take_left.symm
    · refine grow (some ⟨g, o, none⟩) cap rfl (by omega) ?_
      refine run_firstCells_some w.drew i.size n' ⟨g, o, none⟩ n' cap vals hl (fun j u hu => ?_)
      rw [add_none]
      have : w.drew.cell? ⟨g, o + j, none⟩ = w.cell? ⟨g, o + j, none⟩ := rfl
      rw [this, cell_of_heap hg]
      rw [hvals, List.getElem?_take, List.getElem?_drop] at hu
      split at hu
      · simpa using hu
      · cases hu

/-- A row is taken out of the store. -/
inductive Pull {α : Type} (v : Value) (n : Bool) (e : TypeId) (sz : Nat) (enc : α → Nat → DV) (dv : α) (xs : List α) : Sto → Sto → Prop where
  | head {s : Sto} : Pull v n e sz enc dv xs (.row v n e sz enc dv xs :: s) s
  | tail {x : Res} {s s' : Sto} : Pull v n e sz enc dv xs s s' → Pull v n e sz enc dv xs (x :: s) (x :: s')
inductive DstOf {α : Type} (sto : Sto) : AV → Value → Bool → TypeId → Nat → (α → Nat → DV) → α → List α → Sto → Prop where
  | own {v : Value} {n : Bool} {e : TypeId} {sz : Nat} {enc : α → Nat → DV} {dv : α} {xs : List α} {rest : Sto} : Pull v n e sz enc dv xs sto rest → DstOf sto (.o v) v n e sz enc dv xs rest
  | nil {e : TypeId} {sz : Nat} {enc : α → Nat → DV} {dv : α} : DstOf sto (.v (.slice none 0 0)) (.slice none 0 0) true e sz enc dv [] sto
inductive SrcOf (sto : Sto) : {α : Type} → AV → TK → Bool → Nat → (α → Nat → DV) → α → List α → Prop where
  | row {α : Type} {v : Value} {n : Bool} {e e' : TypeId} {sz : Nat} {enc : α → Nat → DV} {dv : α} {ys : List α} : RRow v n e sz enc dv ys sto → SrcOf sto (.o v) (.slice e') n sz enc dv ys
  | sub {α : Type} {v : Value} {n : Bool} {e e' : TypeId} {sz lo hi : Nat} {enc : α → Nat → DV} {dv : α} {ys : List α} : RRow v n e sz enc dv ys sto → SrcOf sto (.s v sz lo hi) (.slice e') n sz enc dv ((ys.take hi).drop lo)
  | dataB {n : Bool} {e' : TypeId} {ys : List UInt8} : SrcOf sto (.d n 1 encB 0 ys) (.slice e') true 1 encB 0 ys
  | dataI {k : IntKind} {n : Bool} {e' : TypeId} {ys : List Int} : SrcOf sto (.d n 1 (encI k) 0 ys) (.slice e') true 1 (encI k) 0 ys
  | data {α : Type} {n : Bool} {e' : TypeId} {sz : Nat} {enc : α → Nat → DV} {dv : α} {ys : List α} : SrcOf sto (.d n sz enc dv ys) (.slice e') n sz enc dv ys
  | nil {α : Type} {e' : TypeId} {sz : Nat} {enc : α → Nat → DV} {dv : α} : SrcOf sto (.v (.slice none 0 0)) (.slice e') true sz enc dv []
  | str {s : ByteArray} : SrcOf sto (.v (.string s)) .str true 1 encB 0 s.data.toList

theorem Pull.mem {α : Type} {v : Value} {n : Bool} {e : TypeId} {sz : Nat} {enc : α → Nat → DV} {dv : α} {xs : List α} {s s' : Sto} (h : Pull v n e sz enc dv xs s s') :
    Res.row v n e sz enc dv xs ∈ s ∧ (∀ r ∈ s', r ∈ s) ∧ (blocksOf s).Perm (v.ownBlock.toList ++ blocksOf s') := by
  induction h with
  | head => exact ⟨by simp, fun r hr => by simp [hr], List.Perm.refl _⟩
  | tail _ ih =>
    rename_i x s s' _
    obtain ⟨h1, h2, h3⟩ := ih
    refine ⟨by simp [h1], fun r hr => by rcases List.mem_cons.1 hr with rfl | hr; simp; simp [h2 r hr], ?_⟩
    show (x.blocks ++ blocksOf s).Perm (v.ownBlock.toList ++ (x.blocks ++ blocksOf s'))
    refine ((List.Perm.append_left x.blocks h3).trans ?_)
    rw [← List.append_assoc, ← List.append_assoc]
    exact List.Perm.append_right _ List.perm_append_comm

theorem DstOf.sound {α : Type} {v : Value} {n : Bool} {e : TypeId} {sz : Nat} {enc : α → Nat → DV} {dv : α} {xs : List α} {s s' : Sto} {z : AV} (h : DstOf s z v n e sz enc dv xs s') :
    (∀ cx w u, AAt cx w z u → u = v) ∧ (∀ cx w, (∀ r ∈ s, RAt cx w r) → RAt cx w (.row v n e sz enc dv xs)) ∧ (∀ r ∈ s', r ∈ s) ∧ (blocksOf s).Perm (v.ownBlock.toList ++ blocksOf s') := by
  cases h with
  | own h =>
    obtain ⟨h1, h2, h3⟩ := h.mem
    exact ⟨fun cx w u hu => by simp only [AAt] at hu; exact hu.1, fun cx w hr => hr _ h1, h2, h3⟩
  | nil =>
    refine ⟨fun cx w u hu => by simpa [AAt] using hu, fun cx w _ => ⟨[], .inl ⟨rfl, rfl⟩, by simp, fun A n c h => by simp at h; simp [← h.2.1], fun i j hi => by simp at hi⟩, fun r hr => hr, by simp [Value.ownBlock]⟩

/-- What is appended: cells. -/
structure NewCells (P : Program) (cx : Cx) (w : World) (tx : TypeId) {α : Type} (u : Value) (n : Bool) (sz : Nat) (enc : α → Nat → DV) (dv : α) (ys : List α) (news : List Value) : Prop where
  src : Src P sz tx u ys.length news w
  cells : ∀ i j, i < ys.length → j < sz → ∃ y, news[i * sz + j]? = some y ∧ DAt (cx.ok n) w (enc (ys.getD i dv) j) y

theorem add_add (a : Addr) (lo sz i j : Nat) : (a.add (lo * sz)).add (i * sz + j) = a.add ((lo + i) * sz + j) := by
  have e : (lo + i) * sz + j = lo * sz + (i * sz + j) := by rw [Nat.add_mul, Nat.add_assoc]
  rw [e]
  unfold Addr.add
  split
  · rename_i h0
    rw [h0]
    simp
  · rename_i h0
    split
    · rename_i h1
      rw [h1]
      simp only [Nat.zero_add, if_neg h0]
    · rw [if_neg (by omega)]
      simp [Nat.add_assoc]

theorem NewCells.ofCells {P : Program} {cx : Cx} {w : World} {tx e' : TypeId} {α : Type} {u : Value} {n : Bool} {sz : Nat} {enc : α → Nat → DV} {dv : α} {ys : List α} (hk : P.underlying tx = some (.slice e'))
    (h : (ys = [] ∧ ∃ A c, u = .slice A 0 c) ∨ ∃ a c, u = .slice (some a) ys.length c ∧ ∀ i j, i < ys.length → j < sz → ∃ y, w.cell? (a.add (i * sz + j)) = some y ∧ DAt (cx.ok n) w (enc (ys.getD i dv) j) y) : ∃ news, NewCells P cx w tx u n sz enc dv ys news := by
  rcases h with ⟨rfl, A, c, rfl⟩ | ⟨a, c, rfl, hY⟩
  · refine ⟨[], ⟨?_, fun i j hi => by simp at hi⟩⟩
    cases A with
    | none => exact Src.ofNil w hk c
    | some a => exact Src.ofSlice w hk a 0 c [] (by simp) (fun j u h => by simp at h) (fun u h => by cases h)
  · have hch : ∃ Y : Nat → Value, ∀ k, k < ys.length * sz → w.cell? (a.add k) = some (Y k) ∧ DAt (cx.ok n) w (enc (ys.getD (k / sz) dv) (k % sz)) (Y k) := by
      have hk' : ∀ k, k < ys.length * sz → ∃ y, w.cell? (a.add k) = some y ∧ DAt (cx.ok n) w (enc (ys.getD (k / sz) dv) (k % sz)) y := by
        intro k hk
        have hsz : 0 < sz := by
          rcases Nat.eq_zero_or_pos sz with h | h
          · subst h; simp at hk
          · exact h
        obtain ⟨y, h1, h2⟩ := hY (k / sz) (k % sz) (Nat.div_lt_of_lt_mul (by rw [Nat.mul_comm]; exact hk)) (Nat.mod_lt _ hsz)
        exact ⟨y, by rw [← h1]; congr 2; rw [Nat.mul_comm]; exact (Nat.div_add_mod k sz).symm, h2⟩
      exact ⟨fun k => if h : k < ys.length * sz then (hk' k h).choose else undef, fun k hk => by simp only [hk, dif_pos]; exact (hk' k hk).choose_spec⟩
    obtain ⟨Y, hYY⟩ := hch
    refine ⟨(List.range (ys.length * sz)).map Y, ⟨Src.ofSlice w hk a ys.length c _ (by simp) (fun j u hu => ?_) (fun u hu => ?_), fun i j hi hj => ?_⟩⟩
    · rw [List.getElem?_map] at hu
      rcases Nat.lt_or_ge j (ys.length * sz) with hj | hj
      · rw [List.getElem?_range hj] at hu
        simp only [Option.map_some, Option.some.injEq] at hu
        subst hu
        exact (hYY j hj).1
      · rw [List.getElem?_eq_none (by simpa using hj)] at hu
        simp at hu
    · obtain ⟨k, hk, rfl⟩ := List.mem_map.1 hu
      have := (hYY k (List.mem_range.1 hk)).2.inv_one
      cases hy : Y k <;> simp_all [oneV, Value.oneCell']
    · have hlt : i * sz + j < ys.length * sz := by
        have : (i + 1) * sz ≤ ys.length * sz := Nat.mul_le_mul_right _ hi
        rw [Nat.add_mul, Nat.one_mul] at this
        omega
      refine ⟨Y (i * sz + j), by rw [List.getElem?_map, List.getElem?_range hlt]; rfl, ?_⟩
      have h2 := (hYY _ hlt).2
      have e1 : (i * sz + j) / sz = i := by rw [Nat.mul_comm, Nat.mul_add_div (by omega), Nat.div_eq_of_lt hj]; rfl
      have e2 : (i * sz + j) % sz = j := by rw [Nat.mul_comm, Nat.mul_add_mod, Nat.mod_eq_of_lt hj]
      rw [e1, e2] at h2
      exact h2

theorem NewCells.ofData {P : Program} {cx : Cx} {w : World} {tx e' : TypeId} {α : Type} {u : Value} {n : Bool} {sz : Nat} {enc : α → Nat → DV} {dv : α} {ys : List α} (hk : P.underlying tx = some (.slice e')) {F : Nat → Prop}
    (h : DAt F w (.sl sz enc dv ys) u) (hF : ∀ i j y, i < ys.length → j < sz → DAt F w (enc (ys.getD i dv) j) y → DAt (cx.ok n) w (enc (ys.getD i dv) j) y) : ∃ news, NewCells P cx w tx u n sz enc dv ys news := by
  refine NewCells.ofCells hk ?_
  rcases h.inv_sl with h | ⟨a, c, h1, hf, hb, hc, hY⟩
  · exact .inl h
  · refine .inr ⟨a, c, h1, fun i j hi hj => ?_⟩
    obtain ⟨y, h2, h3⟩ := hY i j hi hj
    exact ⟨y, h2, hF i j y hi hj h3⟩

theorem NewCells.ofRow {P : Program} {cx : Cx} {w : World} {tx e' : TypeId} {α : Type} {v : Value} {n : Bool} {e : TypeId} {sz : Nat} {enc : α → Nat → DV} {dv : α} {ys : List α} (hk : P.underlying tx = some (.slice e'))
    (h : RAt cx w (.row v n e sz enc dv ys)) {A : Option Addr} {m c lo hi : Nat} (hv : v = .slice A m c) (h1 : lo ≤ hi) (h2 : hi ≤ m) (h3 : m ≤ c) :
    ∃ news, NewCells P cx w tx (.slice (if c = lo then A else A.map (·.add (lo * sz))) (hi - lo) (c - lo)) n sz enc dv ((ys.take hi).drop lo) news := by
  have hm : m = ys.length := by obtain ⟨_, _, _, h5, _⟩ := h; exact h5 _ _ _ hv
  refine NewCells.ofCells hk ?_
  have hlen : ((ys.take hi).drop lo).length = hi - lo := by simp; omega
  by_cases he : hi - lo = 0
  · exact .inl ⟨List.eq_nil_of_length_eq_zero (by omega), _, _, by rw [he]⟩
  · have hA : ∃ a, A = some a := by
      have h' := h
      obtain ⟨vals, h5, _⟩ := h'
      rcases h5 with ⟨h6, _⟩ | ⟨g, o, n', cap, cur, h6, _⟩
      · rw [h6] at hv; simp at hv; omega
      · rw [h6] at hv; simp at hv; exact ⟨_, hv.1.symm⟩
    obtain ⟨a, rfl⟩ := hA
    refine .inr ⟨a.add (lo * sz), c - lo, by rw [hlen, if_neg (by omega)]; rfl, fun i j hi' hj => ?_⟩
    obtain ⟨y, h5, h6⟩ := row_cell h hv (i := lo + i) (j := j) (by omega) hj
    refine ⟨y, by rw [add_add]; exact h5, ?_⟩
    have : ((ys.take hi).drop lo).getD i dv = ys.getD (lo + i) dv := by
      simp only [List.getD, List.getElem?_drop, List.getElem?_take]
      rw [if_pos (by omega)]
    rw [this]
    exact h6

theorem SrcOf.sound {P : Program} {cx : Cx} {w : World} {tx : TypeId} {α : Type} {z : AV} {u : Value} {k : TK} {d : TypeDesc} {n : Bool} {sz : Nat} {enc : α → Nat → DV} {dv : α} {ys : List α} {sto : Sto}
    (h : SrcOf sto z k n sz enc dv ys) (hd : P.underlying tx = some d) (hk : k.fits d) (hz : AAt cx w z u) (hr : ∀ r ∈ sto, RAt cx w r) : ∃ news, NewCells P cx w tx u n sz enc dv ys news := by
  cases h with
  | row h =>
    simp only [AAt] at hz
    obtain ⟨rfl, _⟩ := hz
    cases d <;> simp only [TK.fits] at hk
    subst_vars
    have hR := hr _ h.mem
    obtain ⟨vals, h5, h6, h7, h8⟩ := hR
    refine NewCells.ofCells hd ?_
    rcases h5 with ⟨rfl, rfl⟩ | ⟨g, o, n', cap, cur, rfl, _⟩
    · have hx := h7 _ _ _ rfl
      exact .inl ⟨List.eq_nil_of_length_eq_zero hx.symm, _, _, rfl⟩
    · have hx := h7 _ _ _ rfl
      subst hx
      exact .inr ⟨_, _, rfl, fun i j hi hj => row_cell (hr _ h.mem) rfl hi hj⟩
  | sub h =>
    simp only [AAt] at hz
    obtain ⟨A, m, c, rfl, h1, h2, h3, rfl⟩ := hz
    cases d <;> simp only [TK.fits] at hk
    exact NewCells.ofRow hd (hr _ h.mem) rfl h1 h2 h3
  | dataB =>
    simp only [AAt] at hz
    cases d <;> simp only [TK.fits] at hk
    refine NewCells.ofData hd hz (fun i j y hi hj hd' => ?_)
    have := hd'.inv_v
    have h1 := hd'.inv_one
    subst this
    exact .v _ h1
  | dataI =>
    simp only [AAt] at hz
    cases d <;> simp only [TK.fits] at hk
    refine NewCells.ofData hd hz (fun i j y hi hj hd' => ?_)
    have := hd'.inv_v
    have h1 := hd'.inv_one
    subst this
    exact .v _ h1
  | data =>
    simp only [AAt] at hz
    cases d <;> simp only [TK.fits] at hk
    exact NewCells.ofData hd hz (fun i j y hi hj hd' => hd')
  | nil =>
    simp only [AAt] at hz
    subst hz
    cases d <;> simp only [TK.fits] at hk
    exact ⟨[], ⟨Src.ofNil w hd 0, fun i j hi => by simp at hi⟩⟩
  | str =>
    simp only [AAt] at hz
    subst hz
    cases d <;> simp only [TK.fits] at hk
    rename_i s
    have hsz : s.data.toList.length = s.size := rfl
    refine ⟨byteCells s, ⟨by rw [hsz]; exact Src.ofString w hd s, fun i j hi hj => ?_⟩⟩
    have hj0 : j = 0 := by omega
    subst hj0
    refine ⟨.int .u8 ((s.data.toList.getD i 0).toNat : Int), ?_, .v _ rfl⟩
    unfold byteCells
    rw [show s.data.toList.getD i 0 = s.data.toList[i] from by rw [List.getD, List.getElem?_eq_getElem hi]; rfl]
    rw [Nat.mul_one, Nat.add_zero, List.getElem?_map, List.getElem?_eq_getElem hi]
    rfl

/-- Memory in which a row has grown. -/
theorem Abs.append {P : Program} {T : Tab} (hT : TabOk P T) {C : Ctx} {env : Env} {sto rest : Sto} {a : Act} {w : World} (hA : Abs C env sto a w) {t tx ty e : TypeId} {yt yx ye : Ty} {zx zy : AV} {ux uy : Value} {α : Type} {v : Value} {n n' : Bool} {sz : Nat}
    {enc : α → Nat → DV} {dv : α} {xs ys : List α} (hx : AAt (C.cx sto) w zx ux) (hy : AAt (C.cx sto) w zy uy) (ht : tget t T = some yt) (hte : yt.k = .slice e) (htx : tget tx T = some yx) (he : tget e T = some ye)
    (hd : DstOf sto zx v n e sz enc dv xs rest) (hs : SrcOf sto zy yx.k n' sz enc dv ys) (hsz : ye.size = sz) (hb1 : 1 ≤ ye.bytes) (hb : (xs.length + ys.length) * ye.bytes ≤ 140737488355328) :
    ∃ v' w', (Builtin.append_ #[t, tx] ty #[ux, uy]).run P w = .ok v' w' ∧ Abs C env (.row v' (n && n') e sz enc dv (xs ++ ys) :: rest) a w' ∧ (∃ A m c, v' = .slice A m c) ∧
      ((∃ A c, v = .slice A xs.length c ∧ v' = .slice A (xs.length + ys.length) c) ∨ Abs C env (.row v' (n && n') e sz enc dv (xs ++ ys) :: .row v n e sz enc dv xs :: rest) a w') := by
  obtain ⟨h1, h2, h3, h4⟩ := hd.sound
  have hux := h1 _ _ _ hx
  subst hux
  obtain ⟨d, i, hi1, hi2, hi3, hi4, hi5, hi6, hi7, _⟩ := hT _ _ he
  obtain ⟨dt, it, ht1, _, ht3, _⟩ := hT _ _ ht
  obtain ⟨dx, ix, hx1, _, hx3, _⟩ := hT _ _ htx
  have ht1' : P.underlying t = some (.slice e) := by
    rw [hte] at ht3
    cases dt <;> simp only [TK.fits] at ht3
    subst ht3
    exact ht1
  cases hz : i.zero with
  | none => simp [hz] at hi6
  | some zv =>
    have hzs : zv.cells.size = i.size := by
      simp only [hz, Option.map_some, Option.some.injEq] at hi6
      rw [← Array.length_toList, hi6, hi7, hi4]
    subst hsz
    obtain ⟨news, hN⟩ := hs.sound (P := P) (tx := tx) hx1 hx3 hy hA.res
    obtain ⟨vals, k1, k2, k3, k4⟩ := h2 _ _ hA.res
    rw [← hi4] at k1 k2
    have hone : ∀ u ∈ vals, oneV u = true := by
      intro u hu
      obtain ⟨k, hk, rfl⟩ := List.mem_iff_getElem.1 hu
      have hpos : 0 < ye.size := by
        rcases Nat.eq_zero_or_pos ye.size with h | h
        · rw [hi4, h] at k2; simp at k2; subst k2; simp at hk
        · exact h
      rw [k2, hi4] at hk
      obtain ⟨y, hy1, hy2⟩ := k4 (k / ye.size) (k % ye.size) (Nat.div_lt_of_lt_mul (by rw [Nat.mul_comm]; exact hk)) (Nat.mod_lt _ hpos)
      have e : k / ye.size * ye.size + k % ye.size = k := by rw [Nat.mul_comm]; exact Nat.div_add_mod k _
      rw [e, List.getElem?_eq_getElem (by rw [k2, hi4]; exact hk)] at hy1
      simp only [Option.some.injEq] at hy1
      rw [hy1]
      exact hy2.inv_one
    have hN1 := hN.src
    rw [← hi4] at hN1
    have h63 : xs.length + ys.length ≤ maxLen := by
      have := Nat.le_mul_of_pos_right (xs.length + ys.length) hb1
      simp only [maxLen]
      omega
    obtain ⟨v', w', r1, r2, r3, r4, r5⟩ := RowAt.append (ty := ty) ht1' hi2 hz hzs k1 (fun A m c h => k3 A m c h) k2 hone hN1 (by rw [hi5]; exact hb) h63
    rw [hi4] at r2 k1 k2
    have hnl : news.length = ys.length * ye.size := hN.src.newsLen
    have hown : ∀ b ∈ ux.ownBlock.toList, b ∈ blocksOf sto := fun b hb => h4.mem_iff.2 (List.mem_append_left _ hb)
    have hrest : ∀ b ∈ blocksOf rest, b ∈ blocksOf sto := fun b hb => h4.mem_iff.2 (List.mem_append_right _ hb)
    have hnd := h4.nodup_iff.1 hA.nodup
    obtain ⟨n1, n2, n3⟩ := List.nodup_append.1 hnd
    have hv' : ∃ A m c, v' = .slice A m c := by
      rcases r2 with ⟨h, _⟩ | ⟨_, _, _, _, _, h, _⟩ <;> exact ⟨_, _, _, h⟩
    have hsrc : ∀ b ∈ v'.ownBlock.toList, b ∈ ux.ownBlock.toList ∨ w.heap.size = b := by
      intro b hb
      rcases r5 with h | ⟨A, c, h5, h6⟩ | ⟨k, c, h5, _⟩
      · exact .inl (h ▸ hb)
      · left
        subst h5 h6
        cases A <;> simpa [Value.ownBlock] using hb
      · right
        subst h5
        simp [Value.ownBlock] at hb
        exact hb.symm
    have hF : ∀ m b, b < w.heap.size → (C.cx sto).ok m b → (C.cx (.row v' (n && n') e ye.size enc dv (xs ++ ys) :: rest)).ok m b ∧ w'.heap[b]? = w.heap[b]? := by
      intro m b hlt hok
      refine ⟨⟨fun hm => hok.1 ?_, hok.2⟩, r4.block b hlt (fun h => hok.1 (hown b h))⟩
      rcases List.mem_append.1 (show b ∈ v'.ownBlock.toList ++ blocksOf rest from hm) with h | h
      · rcases hsrc b h with h' | h'
        · exact hown b h'
        · omega
      · exact hrest b h
    have hrow : ∀ cx' : Cx, (∀ m b, b < w.heap.size → (C.cx sto).ok m b → cx'.ok m b ∧ w'.heap[b]? = w.heap[b]?) → RAt cx' w' (.row v' (n && n') e ye.size enc dv (xs ++ ys)) := by
      intro cx' hF
      refine ⟨vals ++ news, r2, by rw [List.length_append, k2, hnl, List.length_append, Nat.add_mul], fun A m c h => by rw [List.length_append]; exact r3 A m c h, fun p j hp hj => ?_⟩
      rcases Nat.lt_or_ge p xs.length with hlt | hge
      · obtain ⟨y, hy1, hy2⟩ := k4 p j hlt hj
        have hl : p * ye.size + j < vals.length := (List.getElem?_eq_some_iff.1 hy1).1
        refine ⟨y, by rw [List.getElem?_append_left hl]; exact hy1, ?_⟩
        rw [show (xs ++ ys).getD p dv = xs.getD p dv by simp [List.getD, List.getElem?_append_left hlt]]
        exact hy2.mono (fun b hb hok => ⟨⟨(hF n b hb hok).1.1, (hF n b hb hok).1.2.1, fun h => (hF n b hb hok).1.2.2 (by simp only [Bool.and_eq_true] at h; exact h.1)⟩, (hF n b hb hok).2⟩) r4.size
      · have hp' : p - xs.length < ys.length := by rw [List.length_append] at hp; omega
        obtain ⟨y, hy1, hy2⟩ := hN.cells (p - xs.length) j hp' hj
        have e1 : p * ye.size + j = vals.length + ((p - xs.length) * ye.size + j) := by
          rw [k2, Nat.sub_mul]
          have : xs.length * ye.size ≤ p * ye.size := Nat.mul_le_mul_right _ hge
          omega
        refine ⟨y, by rw [e1, List.getElem?_append_right (by omega), Nat.add_sub_cancel_left]; exact hy1, ?_⟩
        rw [show (xs ++ ys).getD p dv = ys.getD (p - xs.length) dv by simp [List.getD, List.getElem?_append_right hge]]
        exact hy2.mono (fun b hb hok => ⟨⟨(hF n' b hb hok).1.1, (hF n' b hb hok).1.2.1, fun h => (hF n' b hb hok).1.2.2 (by simp only [Bool.and_eq_true] at h; exact h.2)⟩, (hF n' b hb hok).2⟩) r4.size
    refine ⟨v', w', r1, ?_, hv', ?_⟩
    · refine hA.step ⟨r4.os, r4.tape, r4.output, r4.size, fun k hk hm => r4.block k hk (fun h => hm (hown k h))⟩ ?_ ?_ ?_ ?_
      · show (v'.ownBlock.toList ++ blocksOf rest).Nodup
        refine List.nodup_append.2 ⟨by cases v'.ownBlock <;> simp, n2, fun x hx y hy e => ?_⟩
        rcases hsrc x hx with h' | h'
        · exact n3 x h' y hy e
        · have := hA.lt y (hrest y hy)
          omega
      · intro b hm
        rcases List.mem_append.1 (show b ∈ v'.ownBlock.toList ++ blocksOf rest from hm) with h | h
        · rcases hsrc b h with h' | h'
          · exact .inl (hown b h')
          · exact .inr (by omega)
        · exact .inl (hrest b h)
      · intro r hr
        rcases List.mem_cons.1 hr with rfl | hr
        · exact hrow _ hF
        · refine RAt.mono hF r4.size (fun b hb => r4.block b ((hA.res r (h3 r hr)).lt b hb) (fun hm => ?_)) (hA.res r (h3 r hr))
          exact n3 b hm b (List.mem_flatMap.2 ⟨r, hr, hb⟩) rfl
      · intro b hlt hm
        rcases List.mem_append.1 (show b ∈ v'.ownBlock.toList ++ blocksOf rest from hm) with h | h
        · rcases hsrc b h with h' | h'
          · exact hown b h'
          · omega
        · exact hrest b h
    · rcases r5 with h | ⟨A, c, h5, h6⟩ | ⟨k, c, h5, hkp⟩
      · left
        obtain ⟨A, m, c, hs'⟩ := hv'
        have e1 := r3 A m c hs'
        exact ⟨A, c, by rw [← h, hs', k3 A m c (by rw [← h]; exact hs')], by rw [hs', e1]⟩
      · exact .inl ⟨A, c, h5, h6⟩
      · right
        have hb' : v'.ownBlock.toList = [w.heap.size] := by subst h5; simp [Value.ownBlock]
        have hbs : ∀ b, b ∈ blocksOf (.row v' (n && n') e ye.size enc dv (xs ++ ys) :: .row ux n e ye.size enc dv xs :: rest) ↔ b = w.heap.size ∨ b ∈ blocksOf sto := by
          intro b
          show b ∈ v'.ownBlock.toList ++ (ux.ownBlock.toList ++ blocksOf rest) ↔ _
          rw [hb', List.mem_append, List.mem_singleton, h4.mem_iff]
        have hF2 : ∀ m b, b < w.heap.size → (C.cx sto).ok m b → (C.cx (.row v' (n && n') e ye.size enc dv (xs ++ ys) :: .row ux n e ye.size enc dv xs :: rest)).ok m b ∧ w'.heap[b]? = w.heap[b]? := by
          intro m b hlt hok
          refine ⟨⟨fun hm => ?_, hok.2⟩, hkp.block b hlt (by simp)⟩
          rcases (hbs b).1 hm with h' | h'
          · omega
          · exact hok.1 h'
        refine hA.step ⟨r4.os, r4.tape, r4.output, r4.size, fun k hk _ => hkp.block k hk (by simp)⟩ ?_ ?_ ?_ ?_
        · show (v'.ownBlock.toList ++ (ux.ownBlock.toList ++ blocksOf rest)).Nodup
          rw [hb']
          refine List.nodup_append.2 ⟨by simp, hnd, fun x hx y hy e => ?_⟩
          have := hA.lt y (h4.mem_iff.2 hy)
          simp at hx
          omega
        · intro b hm
          rcases (hbs b).1 hm with h' | h'
          · exact .inr (by omega)
          · exact .inl h'
        · intro r hr
          rcases List.mem_cons.1 hr with rfl | hr
          · exact hrow _ hF2
          · have hr0 : RAt (C.cx sto) w r := by
              rcases List.mem_cons.1 hr with rfl | hr
              · exact h2 _ _ hA.res
              · exact hA.res r (h3 r hr)
            exact RAt.mono hF2 r4.size (fun b hb => hkp.block b (hr0.lt b hb) (by simp)) hr0
        · intro b hlt hm
          rcases (hbs b).1 hm with h' | h'
          · omega
          · exact h'

end Go.Sx
end

section
/- Walking through code: what is left to do, and the rules. -/

namespace Go.Sx

inductive It : Type 1 where
  | c (c : Code)
  | ops (all : Array Oper) (l : List Oper)
  | blk (id : Nat)
  | goal (J : Env → Sto → Prop)
  | beg (l : Nat)

/-- How a panic is told to what is owed. -/
def panEnv (x : Value) : Env := [(0, [], .pan x)]
def postK (P : Program) (C : Ctx) (Q : Env → Sto → Prop) : List It → Exit → Act → World → Prop
  | [], e, a, w => match e with
    | .normal | .ret => ∃ env sto, Q env sto ∧ Abs C env sto a w
    | .panic ch => ∃ x sto, ch = [{ v := x, recovered := false }] ∧ Q (panEnv x) sto ∧ Abs C [] sto a w
    | _ => False
  | .c c :: k, e, a, w => match e with
    | .normal => wpR C.rnd P c (postK P C Q k) a w
    | e => postK P C Q k e a w
  | .ops all l :: k, e, a, w => match e with
    | .normal => wpListR C.rnd P all (postK P C Q k) l a w
    | e => postK P C Q k e a w
  | .blk id :: k, e, a, w => match e with
    | .exit i => if i = id then postK P C Q k .normal a w else postK P C Q k (.exit i) a w
    | e => postK P C Q k e a w
  | .goal J :: k, e, a, w => match e with
    | .normal => ∃ env sto, J env sto ∧ Abs C env sto a w
    | e => postK P C Q k e a w
  | .beg l :: k, e, a, w => match e with
    | .normal => ∃ w', (Instr.beginRound l).run P w = .ok () w' ∧ postK P C Q k .normal a w'
    | e => postK P C Q k e a w

def RunSem (P : Program) (N : Fm) (Q : Env → Sto → Prop) (k : List It) (env : Env) (sto : Sto) : Prop :=
  ∀ C a w, C.fits N → Abs C env sto a w → postK P C Q k .normal a w

def popTo (id : Nat) : List It → Option (List It)
  | [] => none
  | .blk i :: k => match Nat.beq i id with
    | true => some k
    | false => popTo id k
  | _ :: k => popTo id k

theorem postK_exit {P : Program} {C : Ctx} {Q : Env → Sto → Prop} {id : Nat} : ∀ {k k' : List It} {a : Act} {w : World}, popTo id k = some k' → postK P C Q k' .normal a w → postK P C Q k (.exit id) a w
  | [], _, _, _, h, _ => by simp [popTo] at h
  | .blk i :: k, k', a, w, h, hp => by
    simp only [popTo] at h
    simp only [postK]
    split at h
    · rename_i hb
      simp only [Option.some.injEq] at h
      subst h
      rw [if_pos (Nat.eq_of_beq_eq_true hb).symm]
      exact hp
    · rename_i hb
      rw [if_neg (fun h => Nat.ne_of_beq_eq_false hb h.symm)]
      exact postK_exit h hp
  | .c c :: k, k', a, w, h, hp => by simp only [popTo] at h; simp only [postK]; exact postK_exit h hp
  | .ops all l :: k, k', a, w, h, hp => by simp only [popTo] at h; simp only [postK]; exact postK_exit h hp
  | .goal J :: k, k', a, w, h, hp => by simp only [popTo] at h; simp only [postK]; exact postK_exit h hp
  | .beg l :: k, k', a, w, h, hp => by simp only [popTo] at h; simp only [postK]; exact postK_exit h hp

theorem postK_ret {P : Program} {C : Ctx} {Q : Env → Sto → Prop} : ∀ {k : List It} {env : Env} {sto : Sto} {a : Act} {w : World}, Q env sto → Abs C env sto a w → postK P C Q k .ret a w
  | [], env, sto, a, w, hq, hA => ⟨env, sto, hq, hA⟩
  | .blk i :: k, env, sto, a, w, hq, hA => by simp only [postK]; exact postK_ret hq hA
  | .c c :: k, env, sto, a, w, hq, hA => by simp only [postK]; exact postK_ret hq hA
  | .ops all l :: k, env, sto, a, w, hq, hA => by simp only [postK]; exact postK_ret hq hA
  | .goal J :: k, env, sto, a, w, hq, hA => by simp only [postK]; exact postK_ret hq hA
  | .beg l :: k, env, sto, a, w, hq, hA => by simp only [postK]; exact postK_ret hq hA
theorem postK_panic {P : Program} {C : Ctx} {Q : Env → Sto → Prop} {x : Value} : ∀ {k : List It} {sto : Sto} {a : Act} {w : World}, Q (panEnv x) sto → Abs C [] sto a w → postK P C Q k (.panic [{ v := x, recovered := false }]) a w
  | [], sto, a, w, hq, hA => ⟨x, sto, rfl, hq, hA⟩
  | .blk i :: k, sto, a, w, hq, hA => by simp only [postK]; exact postK_panic hq hA
  | .c c :: k, sto, a, w, hq, hA => by simp only [postK]; exact postK_panic hq hA
  | .ops all l :: k, sto, a, w, hq, hA => by simp only [postK]; exact postK_panic hq hA
  | .goal J :: k, sto, a, w, hq, hA => by simp only [postK]; exact postK_panic hq hA
  | .beg l :: k, sto, a, w, hq, hA => by simp only [postK]; exact postK_panic hq hA
/-- A round begins: its record is busy. -/
inductive BegR (l : Nat) : Sto → Sto → Prop where
  | head {N : Nat} {fn : FuncId} {ps : Array Tmp} {as bd : Code} {D : Nat} {env : Env} {r : Sto} : BegR l (.rnd l N .ready fn ps as bd D env :: r) (.rnd l N .busy fn ps as bd D env :: r)
  | tail {x : Res} {r r' : Sto} : BegR l r r' → BegR l (x :: r) (x :: r')

inductive SetBox (b j : Nat) (zs : List AV) : Sto → Sto → Prop where
  | head {cs cs' : List AV} {r : Sto} : Upd cs j zs cs' → SetBox b j zs (.box b cs :: r) (.box b cs' :: r)
  | tail {x : Res} {r r' : Sto} : SetBox b j zs r r' → SetBox b j zs (x :: r) (x :: r')
theorem SetBox.blocks {b j : Nat} {zs : List AV} {s s' : Sto} (h : SetBox b j zs s s') : blocksOf s' = blocksOf s := by
  induction h with
  | head => simp [blocksOf, Res.blocks]
  | tail _ ih => simp only [blocksOf, List.flatMap_cons] at ih ⊢; rw [ih]

/-! ### A literal row -/
def downD : AV → Option (Bool × DV)
  | .v x => match oneV x with | true => some (true, .v x) | false => none
  | .d new sz enc dv xs => some (new, .sl sz enc dv xs)
  | _ => none
/-- Cells that a literal's parts give; of rows that are handed in the row is used up. -/
inductive Freeze : Sto → AV → Bool → DV → Sto → Prop where
  | plain {sto : Sto} {z : AV} {new : Bool} {d : DV} : downD z = some (new, d) → Freeze sto z new d sto
inductive LitCells (env : Env) : Sto → List AV → Bool → List DV → Prop where
  | nil (sto : Sto) : LitCells env sto [] true []
  | cons {sto : Sto} {z : AV} {zs : List AV} {n n' : Bool} {d : DV} {ds : List DV} : downD z = some (n, d) → LitCells env sto zs n' ds → LitCells env sto (z :: zs) (n && n') (d :: ds)

def encLit (cells : List (List DV)) (i : Nat) (j : Nat) : DV := (cells.getD i []).getD j (.v undef)

def isE (env : Env) (x : Operand) : Bool :=
  match x with
  | .tmp t => match lookup t env with
    | some (_, .e ..) => true
    | _ => false
  | _ => false
def isSl (env : Env) (x y : Operand) : Bool :=
  match x, y with
  | .tmp t, .const (.slice none _ _) => match lookup t env with
    | some (_, .d ..) | some (_, .o ..) => true
    | _ => false
  | _, _ => false
/-- The slot of a guard. -/
def gslot (all : Array Oper) (g : Nat) : Option Tmp := (all[g]?).bind (·.dst)

inductive Run (P : Program) (T : Tab) (N : Fm) (Q : Env → Sto → Prop) : List It → Env → Sto → Prop where
  | seq {x y : Code} {k : List It} {env : Env} {sto : Sto} : Run P T N Q (.c x :: .c y :: k) env sto → Run P T N Q (.c (.seq x y) :: k) env sto
  | skip {k : List It} {env : Env} {sto : Sto} : Run P T N Q k env sto → Run P T N Q (.c .skip :: k) env sto
  | block {id : Nat} {c : Code} {k : List It} {env : Env} {sto : Sto} : Run P T N Q (.c c :: .blk id :: k) env sto → Run P T N Q (.c (.block id c) :: k) env sto
  | endBlk {id : Nat} {k : List It} {env : Env} {sto : Sto} : Run P T N Q k env sto → Run P T N Q (.blk id :: k) env sto
  | exit {id : Nat} {k k' : List It} {env : Env} {sto : Sto} : popTo id k = some k' → Run P T N Q k' env sto → Run P T N Q (.c (.exit id) :: k) env sto
  | ret {k : List It} {env : Env} {sto : Sto} : Q env sto → Run P T N Q (.c .ret :: k) env sto
  | done {env : Env} {sto : Sto} : Q env sto → Run P T N Q [] env sto
  | goal {J : Env → Sto → Prop} {k : List It} {env : Env} {sto : Sto} : J env sto → Run P T N Q (.goal J :: k) env sto
  | reg {id : Nat} {ops : Array Oper} {k : List It} {env : Env} {sto : Sto} : Run P T N Q (.ops ops ops.toList :: k) env sto → Run P T N Q (.c (.region id ops false) :: k) env sto
  | cond {c : Operand} {x y : Code} {b : Bool} {k : List It} {env : Env} {sto : Sto} : Get env [] c (.v (.bool b)) → (b = true → Run P T N Q (.c x :: k) env sto) → (b = false → Run P T N Q (.c y :: k) env sto) → Run P T N Q (.c (.cond c x y) :: k) env sto
  | loopStop {c : Code} {k : List It} {env : Env} {sto : Sto} : RunSem P N Q (.c (.loop c) :: k) env sto → Run P T N Q (.c (.loop c) :: k) env sto
  | drawStop {id : Nat} {ops : Array Oper} {k : List It} {env : Env} {sto : Sto} : RunSem P N Q (.c (.region id ops true) :: k) env sto → Run P T N Q (.c (.region id ops true) :: k) env sto
  | rangeStop {f : Operand} {ps : Array Tmp} {x y : Code} {k : List It} {env : Env} {sto : Sto} : RunSem P N Q (.c (.rangeFunc f ps x y) :: k) env sto → Run P T N Q (.c (.rangeFunc f ps x y) :: k) env sto
  | beg {l : Nat} {k : List It} {env : Env} {sto sto' : Sto} : BegR l sto sto' → Run P T N Q k env sto' → Run P T N Q (.beg l :: k) env sto
  | panic {all : Array Oper} {rest : List Oper} {d : Option Tmp} {x : Operand} {ty : TypeId} {pos : String} {af : Array Edge} {k : List It} {env : Env} {sto : Sto} {t : TypeId} {v : Value} : Get env [] x (.v (.iface t v)) → Q (panEnv (.iface t v)) sto →
      Run P T N Q (.ops all ({ dst := d, op := .panic x, type := ty, pos, after := af, guard := none } :: rest) :: k) env sto
  | nilOps {all : Array Oper} {k : List It} {env : Env} {sto : Sto} : Run P T N Q k env sto → Run P T N Q (.ops all [] :: k) env sto
  | callStop {all : Array Oper} {rest : List Oper} {d : Option Tmp} {f : Operand} {as : Array Operand} {ts : Array TypeId} {ty : TypeId} {pos : String} {af : Array Edge} {g : Option (Nat × Bool)} {k : List It} {env : Env} {sto : Sto} :
      RunSem P N Q (.ops all ({ dst := d, op := .call { callee := .value f, args := as, argTypes := ts }, type := ty, pos, after := af, guard := g } :: rest) :: k) env sto →
      Run P T N Q (.ops all ({ dst := d, op := .call { callee := .value f, args := as, argTypes := ts }, type := ty, pos, after := af, guard := g } :: rest) :: k) env sto
  | append {all : Array Oper} {rest : List Oper} {d : Tmp} {x y : Operand} {t tx e : TypeId} {ty : TypeId} {pos : String} {af : Array Edge} {k : List It} {env : Env} {sto sto' : Sto} {zx zy : AV} {yt yx ye : Ty} {α : Type} {v : Value} {n n' : Bool} {sz : Nat} {enc : α → Nat → DV} {dv : α} {xs ys : List α} :
      Nat.blt d N.n = true → Get env [] x zx → Get env [] y zy → tget t T = some yt → yt.k = .slice e → tget tx T = some yx → tget e T = some ye → DstOf sto zx v n e sz enc dv xs sto' → SrcOf sto zy yx.k n' sz enc dv ys → Nat.beq ye.size sz = true → Nat.ble 1 ye.bytes = true →
      Side [] ((xs.length + ys.length) * ye.bytes ≤ 140737488355328) → (∀ v', Run P T N Q (.ops all rest :: k) ((d, [], .o v') :: env) (.row v' (n && n') e sz enc dv (xs ++ ys) :: sto')) →
      Run P T N Q (.ops all ({ dst := some d, op := .call { callee := .builtin .append, args := #[x, y], argTypes := #[t, tx] }, type := ty, pos, after := af, guard := none } :: rest) :: k) env sto
  | sliceStop {all : Array Oper} {rest : List Oper} {d : Option Tmp} {n : Nat} {t : TypeId} {ps : Array (Nat × Operand)} {ty : TypeId} {pos : String} {af : Array Edge} {g : Option (Nat × Bool)} {k : List It} {env : Env} {sto : Sto} :
      RunSem P N Q (.ops all ({ dst := d, op := .buildSlice t n ps, type := ty, pos, after := af, guard := g } :: rest) :: k) env sto →
      Run P T N Q (.ops all ({ dst := d, op := .buildSlice t n ps, type := ty, pos, after := af, guard := g } :: rest) :: k) env sto
  | makeStop {all : Array Oper} {rest : List Oper} {d : Option Tmp} {l c : Operand} {t : TypeId} {ty : TypeId} {pos : String} {af : Array Edge} {g : Option (Nat × Bool)} {k : List It} {env : Env} {sto : Sto} :
      RunSem P N Q (.ops all ({ dst := d, op := .makeSlice t l c, type := ty, pos, after := af, guard := g } :: rest) :: k) env sto →
      Run P T N Q (.ops all ({ dst := d, op := .makeSlice t l c, type := ty, pos, after := af, guard := g } :: rest) :: k) env sto
  | box {all : Array Oper} {rest : List Oper} {d : Tmp} {e : TypeId} {x : Operand} {ty : TypeId} {pos : String} {af : Array Edge} {k : List It} {env : Env} {sto : Sto} {z : AV} {zs : List AV} : Nat.blt d N.n = true → Get env [] x z → cellsA z = some zs →
      (∀ b, Run P T N Q (.ops all rest :: k) ((d, [], .v (.pointer (some ⟨b, 0, none⟩))) :: env) (.box b zs :: sto)) →
      Run P T N Q (.ops all ({ dst := some d, op := .box e x, type := ty, pos, after := af, guard := none } :: rest) :: k) env sto
  | alloc {all : Array Oper} {rest : List Oper} {d : Tmp} {e : TypeId} {ty : TypeId} {pos : String} {af : Array Edge} {k : List It} {env : Env} {sto : Sto} {y : Ty} : Nat.blt d N.n = true → tget e T = some y →
      (∀ b, Run P T N Q (.ops all rest :: k) ((d, [], .v (.pointer (some ⟨b, 0, none⟩))) :: env) (.box b (y.zero.map .v) :: sto)) →
      Run P T N Q (.ops all ({ dst := some d, op := .alloc e, type := ty, pos, after := af, guard := none } :: rest) :: k) env sto
  | store {all : Array Oper} {rest : List Oper} {t : TypeId} {x v : Operand} {ty : TypeId} {pos : String} {af : Array Edge} {k : List It} {env : Env} {sto sto' : Sto} {b j : Nat} {z : AV} {zs : List AV} {y : Ty} :
      Get env [] x (.v (.pointer (some ⟨b, j, none⟩))) → Get env [] v z → cellsA z = some zs → tget t T = some y → Nat.beq zs.length y.size = true → SetBox b j zs sto sto' → Run P T N Q (.ops all rest :: k) env sto' →
      Run P T N Q (.ops all ({ dst := none, op := .store t x v, type := ty, pos, after := af, guard := none } :: rest) :: k) env sto
  | mapStop {all : Array Oper} {rest : List Oper} {d : Option Tmp} {t : TypeId} {m x v : Operand} {ty : TypeId} {pos : String} {af : Array Edge} {g : Option (Nat × Bool)} {k : List It} {env : Env} {sto : Sto} :
      RunSem P N Q (.ops all ({ dst := d, op := .mapUpdate t m x v, type := ty, pos, after := af, guard := g } :: rest) :: k) env sto →
      Run P T N Q (.ops all ({ dst := d, op := .mapUpdate t m x v, type := ty, pos, after := af, guard := g } :: rest) :: k) env sto
  | newMapStop {all : Array Oper} {rest : List Oper} {d : Option Tmp} {t : TypeId} {r : Option Operand} {ty : TypeId} {pos : String} {af : Array Edge} {g : Option (Nat × Bool)} {k : List It} {env : Env} {sto : Sto} :
      RunSem P N Q (.ops all ({ dst := d, op := .makeMap t r, type := ty, pos, after := af, guard := g } :: rest) :: k) env sto →
      Run P T N Q (.ops all ({ dst := d, op := .makeMap t r, type := ty, pos, after := af, guard := g } :: rest) :: k) env sto
  | quiet {all : Array Oper} {rest : List Oper} {d : Tmp} {op : Op} {ty : TypeId} {pos : String} {af : Array Edge} {k : List It} {env : Env} {sto : Sto} {z : AV} : Nat.blt d N.n = true → Quiet T env sto [] op z →
      Run P T N Q (.ops all rest :: k) ((d, [], z) :: env) sto → Run P T N Q (.ops all ({ dst := some d, op, type := ty, pos, after := af, guard := none } :: rest) :: k) env sto
  | guarded {all : Array Oper} {rest : List Oper} {d gs : Tmp} {g : Nat} {b c : Bool} {q : Path} {op : Op} {ty : TypeId} {pos : String} {af : Array Edge} {k : List It} {env : Env} {sto : Sto} {z : AV} : Nat.blt d N.n = true → gslot all g = some gs →
      lookup gs env = some (q, .v (.bool c)) → Quiet T env sto ((c, b) :: q) op z →
      Run P T N Q (.ops all rest :: k) ((d, (c, b) :: q, z) :: env) sto → Run P T N Q (.ops all ({ dst := some d, op, type := ty, pos, after := af, guard := some (g, b) } :: rest) :: k) env sto
  | nilStop {all : Array Oper} {rest : List Oper} {d : Option Tmp} {op : BinOp} {t t' : TypeId} {x y : Operand} {ty : TypeId} {pos : String} {af : Array Edge} {g : Option (Nat × Bool)} {k : List It} {env : Env} {sto : Sto} : isSl env x y = true →
      RunSem P N Q (.ops all ({ dst := d, op := .binOp op t x y t', type := ty, pos, after := af, guard := g } :: rest) :: k) env sto →
      Run P T N Q (.ops all ({ dst := d, op := .binOp op t x y t', type := ty, pos, after := af, guard := g } :: rest) :: k) env sto
  | storeStop {all : Array Oper} {rest : List Oper} {d : Option Tmp} {t : TypeId} {x v : Operand} {ty : TypeId} {pos : String} {af : Array Edge} {g : Option (Nat × Bool)} {k : List It} {env : Env} {sto : Sto} : isE env x = true →
      RunSem P N Q (.ops all ({ dst := d, op := .store t x v, type := ty, pos, after := af, guard := g } :: rest) :: k) env sto →
      Run P T N Q (.ops all ({ dst := d, op := .store t x v, type := ty, pos, after := af, guard := g } :: rest) :: k) env sto
  | semStop {k : List It} {env : Env} {sto : Sto} : RunSem P N Q k env sto → Run P T N Q k env sto

end Go.Sx
end

section
/- Walking through code: the rules hold. -/

set_option linter.unusedSectionVars false
namespace Go.Sx

theorem cx_cons {C : Ctx} {sto : Sto} {r : Res} {w w' : World} (hb : ∀ b ∈ r.blocks, w.heap.size ≤ b) (hw : ∀ b, b < w.heap.size → w'.heap[b]? = w.heap[b]?) :
    ∀ n b, b < w.heap.size → (C.cx sto).ok n b → (C.cx (r :: sto)).ok n b ∧ w'.heap[b]? = w.heap[b]? := by
  intro n b hlt hok
  refine ⟨⟨fun hm => ?_, hok.2⟩, hw b hlt⟩
  rcases List.mem_append.1 (show b ∈ r.blocks ++ blocksOf sto from hm) with h | h
  · have := hb b h; omega
  · exact hok.1 h

/-- New memory comes; all else stays. -/
theorem Abs.fresh {C : Ctx} {env : Env} {sto : Sto} {a : Act} {w w' : World} (h : Abs C env sto a w) {r : Res} (hk : Kept [] w w') (hn : r.blocks.Nodup) (hb : ∀ b ∈ r.blocks, w.heap.size ≤ b)
    (hr : RAt (C.cx (r :: sto)) w' r) : Abs C env (r :: sto) a w' := by
  have hw : ∀ b, b < w.heap.size → w'.heap[b]? = w.heap[b]? := fun b hb => hk.block b hb (by simp)
  refine h.step ⟨hk.os, hk.tape, hk.output, hk.size, fun k hk' _ => hw k hk'⟩ ?_ ?_ ?_ ?_
  · show (r.blocks ++ blocksOf sto).Nodup
    refine List.nodup_append.2 ⟨hn, h.nodup, fun x hx y hy e => ?_⟩
    have h1 := hb x hx
    have h2 := h.lt y hy
    omega
  · intro b hm
    rcases List.mem_append.1 (show b ∈ r.blocks ++ blocksOf sto from hm) with h' | h'
    · exact .inr (hb b h')
    · exact .inl h'
  · intro r' hr'
    rcases List.mem_cons.1 hr' with rfl | hr'
    · exact hr
    · exact RAt.mono (cx_cons hb hw) hk.size (fun b hb' => hw b ((h.res r' hr').lt b hb')) (h.res r' hr')
  · intro b hlt hm
    rcases List.mem_append.1 (show b ∈ r.blocks ++ blocksOf sto from hm) with h' | h'
    · have := hb b h'; omega
    · exact h'

theorem kept_alloc (w : World) (o : Obj) : Kept [] w (w.alloc o) := ⟨rfl, rfl, rfl, by simp, fun k hk _ => heapOld w o k hk⟩

theorem Abs.newBox {C : Ctx} {env : Env} {sto : Sto} {a : Act} {w : World} (h : Abs C env sto a w) {zs : List AV} {arr : Array Value} {e : TypeId} (hz : AAtL (C.cx sto) w zs arr.toList) :
    Abs C env (.box w.heap.size zs :: sto) a (w.alloc (.cells arr e)) := by
  have hb : ∀ b ∈ (Res.box w.heap.size zs).blocks, w.heap.size ≤ b := by simp [Res.blocks]
  refine h.fresh (kept_alloc w _) (by simp [Res.blocks]) hb ⟨arr, e, heap_alloc_new w _, ?_⟩
  exact AAtL.mono (cx_cons hb (fun b hb => heapOld w _ b hb)) (by simp) hz

theorem SetBox.find {b j : Nat} {zs : List AV} {s s' : Sto} (h : SetBox b j zs s s') : ∃ cs cs', Res.box b cs ∈ s ∧ Res.box b cs' ∈ s' ∧ Upd cs j zs cs' ∧ (∀ r ∈ s', r = .box b cs' ∨ r ∈ s) := by
  induction h with
  | head hu => exact ⟨_, _, by simp, by simp, hu, fun r hr => by rcases List.mem_cons.1 hr with rfl | hr <;> simp_all⟩
  | tail _ ih =>
    obtain ⟨cs, cs', h1, h2, h3, h4⟩ := ih
    refine ⟨cs, cs', by simp [h1], by simp [h2], h3, fun r hr => ?_⟩
    rcases List.mem_cons.1 hr with rfl | hr
    · simp
    · rcases h4 r hr with h5 | h5
      · exact .inl h5
      · exact .inr (by simp [h5])

/-- In a store in which no block stands twice, a block's resource is the only one that holds it. -/
theorem only {sto : Sto} (hn : (blocksOf sto).Nodup) {r r' : Res} (hr : r ∈ sto) (hr' : r' ∈ sto) {b : Nat} (hb : b ∈ r.blocks) (hb' : b ∈ r'.blocks) : r = r' := by
  induction sto with
  | nil => cases hr
  | cons x xs ih =>
    have hn' : (x.blocks ++ blocksOf xs).Nodup := hn
    obtain ⟨h1, h2, h3⟩ := List.nodup_append.1 hn'
    rcases List.mem_cons.1 hr with e1 | h4 <;> rcases List.mem_cons.1 hr' with e2 | h5
    · rw [e1, e2]
    · exact absurd rfl (h3 b (e1 ▸ hb) b (List.mem_flatMap.2 ⟨_, h5, hb'⟩))
    · exact absurd rfl (h3 b (e2 ▸ hb') b (List.mem_flatMap.2 ⟨_, h4, hb⟩))
    · exact ih h2 h4 h5

theorem SetBox.nodupOther {b j : Nat} {zs : List AV} {s s' : Sto} (h : SetBox b j zs s s') (hn : (blocksOf s).Nodup) : ∀ cs', Res.box b cs' ∈ s' → ∀ r ∈ s', r ≠ .box b cs' → b ∉ r.blocks ∧ r ∈ s := by
  intro cs' hc r hr hne
  have hn' : (blocksOf s').Nodup := by rw [h.blocks]; exact hn
  have hb : b ∉ r.blocks := fun hb => hne (only hn' hr hc hb (by simp [Res.blocks]))
  obtain ⟨cs, cs'', _, h2, _, h4⟩ := h.find
  rcases h4 r hr with rfl | h5
  · simp [Res.blocks] at hb
  · exact ⟨hb, h5⟩

theorem Abs.setBox {P : Program} {T : Tab} (hT : TabOk P T) {C : Ctx} {env : Env} {sto sto' : Sto} {a : Act} {w : World} (h : Abs C env sto a w) {b j : Nat} {zs : List AV} (hs : SetBox b j zs sto sto') {t : TypeId} {y : Ty} (ht : tget t T = some y)
    {v : Value} (hz : AAtL (C.cx sto) w zs v.cells.toList) (h1 : ∀ u ∈ v.cells.toList, oneV u = true) (hl : zs.length = y.size) :
    ∃ w', (Instr.storeAt t (.pointer (some ⟨b, j, none⟩)) v).run P w = .ok () w' ∧ Abs C env sto' a w' := by
  obtain ⟨cs, cs', hc, hc', hu, hall⟩ := hs.find
  obtain ⟨arr, e, hh, hcs⟩ := h.res _ hc
  obtain ⟨hle, hnew⟩ := hu.at hcs hz
  have hlen := hz.length
  have hrun := run_storeCells_at P b j e v.cells.toList 0 arr w hh (by simpa using hle) (fun u hu => oneV_one (h1 u hu))
  simp only [Nat.add_zero] at hrun
  refine ⟨w.setRow b (arr.toList.take j ++ v.cells.toList ++ arr.toList.drop (j + v.cells.toList.length)).toArray, ?_, ?_⟩
  · have hsz : (sizeOf t).run P w = .ok v.cells.size w := by rw [run_size (hT _ _ ht)]; rw [← hl, hlen]; simp
    simp only [Instr.storeAt, Instr.sureAddr, Sem.run_bind, Sem.run_pure, Result.andThen_ok, storeVar, hsz]
    simpa using hrun
  · have hbs := hs.blocks
    have hlt : b < w.heap.size := (Array.getElem?_eq_some_iff.1 hh).1
    have hown : b ∈ blocksOf sto := List.mem_flatMap.2 ⟨_, hc, by simp [Res.blocks]⟩
    have hcx : C.cx sto' = C.cx sto := by unfold Ctx.cx cxOf; rw [hbs]
    have hF : ∀ n k, k < w.heap.size → (C.cx sto).ok n k → (C.cx sto).ok n k ∧ (w.setRow b (arr.toList.take j ++ v.cells.toList ++ arr.toList.drop (j + v.cells.toList.length)).toArray).heap[k]? = w.heap[k]? := by
      intro n k _ hok
      exact ⟨hok, setRow_other w b k _ (fun e => hok.1 (e ▸ hown))⟩
    have hsize : (w.setRow b (arr.toList.take j ++ v.cells.toList ++ arr.toList.drop (j + v.cells.toList.length)).toArray).heap.size = w.heap.size := by simp [World.setRow]
    refine h.step ⟨rfl, rfl, rfl, by rw [hsize]; exact Nat.le_refl _, fun k _ hk => setRow_other w b k _ (fun e => hk (e ▸ hown))⟩ (by rw [hbs]; exact h.nodup) (fun x hx => .inl (by rw [← hbs]; exact hx)) ?_ (fun x _ hx => by rw [← hbs]; exact hx)
    intro r hr
    rw [hcx]
    by_cases hrb : r = .box b cs'
    · subst hrb
      refine ⟨_, e, setRow_heap w b arr _ e _ hh, AAtL.mono hF (by rw [hsize]; exact Nat.le_refl _) ?_⟩
      simpa using hnew
    · obtain ⟨hnb, hmem⟩ := hs.nodupOther h.nodup cs' hc' r hr hrb
      exact RAt.mono hF (by rw [hsize]; exact Nat.le_refl _) (fun k hk => setRow_other w b k _ (fun e => hnb (e ▸ hk))) (h.res r hmem)

theorem BegR.find {l : Nat} {s s' : Sto} (h : BegR l s s') : ∃ N fn ps as bd D env, Res.rnd l N .ready fn ps as bd D env ∈ s ∧ (∀ r ∈ s', r = .rnd l N .busy fn ps as bd D env ∨ r ∈ s) ∧ blocksOf s' = blocksOf s := by
  induction h with
  | head => exact ⟨_, _, _, _, _, _, _, List.mem_cons_self .., fun r hr => by rcases List.mem_cons.1 hr with rfl | hr; exact .inl rfl; exact .inr (by simp [hr]), by simp [blocksOf, Res.blocks]⟩
  | tail _ ih =>
    obtain ⟨N, fn, ps, as, bd, D, env, h1, h2, h3⟩ := ih
    refine ⟨N, fn, ps, as, bd, D, env, by simp [h1], fun r hr => ?_, by simp only [blocksOf, List.flatMap_cons] at h3 ⊢; rw [h3]⟩
    rcases List.mem_cons.1 hr with rfl | hr
    · exact .inr (by simp)
    · rcases h2 r hr with h | h
      · exact .inl h
      · exact .inr (by simp [h])
theorem BegR.other {l : Nat} {s s' : Sto} (h : BegR l s s') : (blocksOf s).Nodup → ∃ N fn ps as bd D env, Res.rnd l N .ready fn ps as bd D env ∈ s ∧ ∀ r ∈ s', r = .rnd l N .busy fn ps as bd D env ∨ (r ∈ s ∧ l ∉ r.blocks) := by
  induction h with
  | head =>
    intro hn
    refine ⟨_, _, _, _, _, _, _, List.mem_cons_self .., fun r hr => ?_⟩
    rcases List.mem_cons.1 hr with rfl | hr
    · exact .inl rfl
    · refine .inr ⟨by simp [hr], fun hl => ?_⟩
      have := List.nodup_append.1 (show ([l] ++ blocksOf _).Nodup from hn)
      exact this.2.2 l (by simp) l (List.mem_flatMap.2 ⟨r, hr, hl⟩) rfl
  | tail hb ih =>
    rename_i x r r' 
    intro hn
    have hn' := List.nodup_append.1 (show (x.blocks ++ blocksOf r).Nodup from hn)
    obtain ⟨N, fn, ps, as, bd, D, env, h1, h2⟩ := ih hn'.2.1
    refine ⟨N, fn, ps, as, bd, D, env, by simp [h1], fun y hy => ?_⟩
    rcases List.mem_cons.1 hy with rfl | hy
    · refine .inr ⟨by simp, fun hl => hn'.2.2 l hl l (List.mem_flatMap.2 ⟨_, h1, by simp [Res.blocks]⟩) rfl⟩
    · rcases h2 y hy with h | ⟨h, h'⟩
      · exact .inl h
      · exact .inr ⟨by simp [h], h'⟩
/-- A record's state turns. -/
theorem Abs.turnRnd {C : Ctx} {env : Env} {sto sto' : Sto} {a : Act} {w : World} (h : Abs C env sto a w) {l N : Nat} {st st' : LoopState} {fn : FuncId} {ps : Array Tmp} {as bd : Code} {D : Nat} {e : Env} (hm : Res.rnd l N st fn ps as bd D e ∈ sto)
    (h2 : ∀ r ∈ sto', r = .rnd l N st' fn ps as bd D e ∨ (r ∈ sto ∧ l ∉ r.blocks)) (h3 : (blocksOf sto').Nodup) (h4 : ∀ b ∈ blocksOf sto', b ∈ blocksOf sto) {rec : Loop} (hrec : w.heap[l]? = some (.loop rec)) :
    Abs C env sto' a (w.putObj l (.loop { rec with state := st' })) := by
  obtain ⟨tmps, k1, k2, k3⟩ := h.res _ hm
  rw [k1] at hrec
  cases hrec
  have hlt : l < w.heap.size := (Array.getElem?_eq_some_iff.1 k1).1
  have hown : l ∈ blocksOf sto := List.mem_flatMap.2 ⟨_, hm, by simp [Res.blocks]⟩
  have hoth : ∀ b, b ≠ l → (w.putObj l (.loop { state := st', pending := none, fn, tmps, params := ps, assign := as, body := bd, defers := D })).heap[b]? = w.heap[b]? := fun b hb => World.putObj_heap_other hb
  have hF : ∀ m b, b < w.heap.size → (C.cx sto).ok m b → (C.cx sto').ok m b ∧ (w.putObj l (.loop { state := st', pending := none, fn, tmps, params := ps, assign := as, body := bd, defers := D })).heap[b]? = w.heap[b]? := fun m b _ hok =>
    ⟨⟨fun hm => hok.1 (h4 b hm), hok.2⟩, hoth b (fun e => hok.1 (e ▸ hown))⟩
  refine h.step ⟨rfl, rfl, rfl, by simp, fun b _ hb => hoth b (fun e => hb (e ▸ hown))⟩ h3 (fun b hb => .inl (h4 b hb)) (fun r hr => ?_) (fun b _ hb => h4 b hb)
  rcases h2 r hr with rfl | ⟨hr', hl⟩
  · exact ⟨tmps, World.putObj_heap_same hlt, k2, fun s z hz => AAt.mono hF (by simp) (k3 s z hz)⟩
  · exact RAt.mono hF (by simp) (fun b hb => hoth b (fun e => hl (e ▸ hb))) (h.res r hr')
section
variable {P : Program} {T : Tab} (hT : TabOk P T) {N : Fm} {Q : Env → Sto → Prop}
include hT

theorem wpList_quiet {all : Array Oper} {a : Act} {w : World} {K : Exit → Act → World → Prop} {rest : List Oper} {o : Oper} {v : Value} {w' : World}
    {rn : Option Nat} (hnd : isDefer o.op = false) (hg : o.guard = none) (hr : (execOp a.eval o).run P w = .ok (.value v) w') (h : wpListR rn P all K rest (a.put o.dst v) w') : wpListR rn P all K (o :: rest) a w :=
  wpListR_yes (by simp [Region.wanted, hg]) (opR_of hnd hr h)

theorem Run.sound {k : List It} {env : Env} {sto : Sto} (h : Run P T N Q k env sto) : RunSem P N Q k env sto := by
  induction h with
  | seq _ ih =>
    intro C a w hN hA
    have := ih C a w hN hA
    simp only [postK] at this ⊢
    refine wpIn_seq (wpIn_mono this (fun e a w hq => ?_))
    cases e <;> simpa only [Exit.then, postK] using hq
  | semStop h => exact h
  | beg hb _ ih =>
    intro C a w hN hA
    obtain ⟨_, _, _, _, _, _, _, _, _, h3⟩ := hb.find
    obtain ⟨N', fn, ps, as, bd, D, e, h1, h2⟩ := hb.other hA.nodup
    obtain ⟨tmps, k1, k2, k3⟩ := hA.res _ h1
    have hr := run_beginRound (P := P) k1 rfl
    refine ⟨_, hr, ih C a _ hN ?_⟩
    exact hA.turnRnd h1 (st' := .busy) h2 (by rw [h3]; exact hA.nodup) (fun b hb => by rw [← h3]; exact hb) k1
  | panic hx hq =>
    rename_i all rest d x ty pos af k env sto t v
    intro C a w hN hA
    refine wpListR_yes (by simp [Region.wanted]) ?_
    have he : a.eval x = .iface t v := hx.v hA (q := []) trivial
    refine opR_of rfl (show (execOp a.eval _).run P w = .halt (.panic (.iface t v)) w from ?_) ?_
    · simp [execOp, Instr.panic, he, goPanic]
    · exact postK_panic hq (hA.le (fun s q z h => by simp [lookup] at h))
  | skip _ ih => exact fun C a w hN hA => wpIn_skip (ih C a w hN hA)
  | block _ ih =>
    intro C a w hN hA
    have := ih C a w hN hA
    simp only [postK] at this ⊢
    refine wpIn_block (wpIn_mono this (fun e a w hq => ?_))
    cases e <;> simpa only [Exit.inBlock, postK] using hq
  | endBlk _ ih => exact fun C a w hN hA => by simpa only [postK] using ih C a w hN hA
  | exit hp _ ih => exact fun C a w hN hA => wpIn_exit (postK_exit hp (ih C a w hN hA))
  | ret hq => exact fun C a w hN hA => wpIn_ret (postK_ret hq hA)
  | done hq => exact fun C a w hN hA => ⟨_, _, hq, hA⟩
  | goal hj => exact fun C a w hN hA => ⟨_, _, hj, hA⟩
  | reg _ ih => exact fun C a w hN hA => wpIn_region_list (ih C a w hN hA)
  | cond hc _ _ ih1 ih2 =>
    intro C a w hN hA
    exact wpIn_cond_split (hc.v hA (q := []) trivial) (fun h => ih1 h C a w hN hA) (fun h => ih2 h C a w hN hA)
  | loopStop h => exact h
  | drawStop h => exact h
  | rangeStop h => exact h
  | nilOps _ ih => exact fun C a w hN hA => ih C a w hN hA
  | callStop h => exact h
  | append hd hx hy ht hte htx he hdst hsrc hsz hb1 hb _ ih =>
    rename_i all rest d x y t tx e ty pos af k env sto sto' zx zy yt yx ye α v n n' sz enc dv xs ys _
    intro C a w hN hA
    obtain ⟨v', w', hrun, hA', ⟨A, m, c, hv'⟩, _⟩ := hA.append hT (ty := ty) (hx.sound hA (q := []) trivial) (hy.sound hA (q := []) trivial) ht hte htx he hdst hsrc (Nat.eq_of_beq_eq_true hsz) (Nat.le_of_ble_eq_true hb1) (hb trivial)
    refine wpList_quiet hT rfl rfl (v := v') (w' := w') ?_ (ih v' C _ _ hN (hA'.put0 (by rw [hN.1]; exact Nat.le_of_ble_eq_true hd) ⟨rfl, A, m, c, hv'⟩))
    simp [execOp, resolve, invoke, builtin, hrun]
  | sliceStop h => exact h
  | makeStop h => exact h
  | nilStop _ h => exact h
  | storeStop _ h => exact h
  | mapStop h => exact h
  | newMapStop h => exact h
  | box hd hg hz _ ih =>
    rename_i all rest d e x ty pos af k env sto z zs _
    intro C a w hN hA
    have hzz := cellsA_at hz (hg.sound hA (q := []) trivial)
    have hA' := (hA.newBox (e := e) hzz.1)
    refine wpList_quiet hT rfl rfl (v := .pointer (some ⟨w.heap.size, 0, none⟩)) (w' := w.alloc (.cells (a.eval x).cells e)) ?_ (ih w.heap.size C _ _ hN (hA'.put0 (by rw [hN.1]; exact Nat.le_of_ble_eq_true hd) rfl))
    simp only [execOp, Instr.box, newVar, newRow, Sem.run_bind, run_newObj, Result.andThen_ok, Sem.run_pure]
    rfl
  | alloc hd ht _ ih =>
    rename_i all rest d e ty pos af k env sto y _
    intro C a w hN hA
    obtain ⟨i, h1, h2, h3, h4, h5⟩ := (hT _ _ ht).info
    cases hz : i.zero with
    | none => simp [hz] at h4
    | some zv =>
      simp only [hz, Option.map_some, Option.some.injEq] at h4
      have hzz : AAtL (C.cx sto) w (y.zero.map .v) zv.cells.toList := by
        rw [h4]
        exact AAtL.of_get (by simp) (fun j z u hz hu => by
          simp only [List.getElem?_map, hu, Option.map_some, Option.some.injEq] at hz
          subst hz
          rfl)
      have hA' := (hA.newBox (e := e) hzz)
      refine wpList_quiet hT rfl rfl (v := .pointer (some ⟨w.heap.size, 0, none⟩)) (w' := w.alloc (.cells zv.cells e)) ?_ (ih w.heap.size C _ _ hN (hA'.put0 (by rw [hN.1]; exact Nat.le_of_ble_eq_true hd) rfl))
      simp only [execOp, Instr.alloc, zeroValue, typeInfo, Sem.run_bind, run_program, Result.andThen_ok, h1, hz, newVar, newRow, run_newObj, Sem.run_pure]
      rfl
  | store hx hv hz ht hl hs _ ih =>
    rename_i all rest t x v ty pos af k env sto sto' b j z zs y _
    intro C a w hN hA
    have hzz := cellsA_at hz (hv.sound hA (q := []) trivial)
    obtain ⟨w', hrun, hA'⟩ := hA.setBox hT hs ht hzz.1 hzz.2 (Nat.eq_of_beq_eq_true hl)
    refine wpListR_yes (by simp [Region.wanted]) ?_
    have he : a.eval x = .pointer (some ⟨b, j, none⟩) := hx.v hA (q := []) trivial
    have hr : (execOp a.eval { dst := none, op := .store t x v, type := ty, pos, after := af, guard := none }).run P w = .ok .skip w' := by
      simp only [execOp, he, Sem.run_bind, hrun]
      rfl
    exact opR_of rfl hr (ih C _ _ hN hA')
  | quiet hd hq _ ih =>
    rename_i all rest d op ty pos af k env sto z _
    intro C a w hN hA
    obtain ⟨u, hr, hz⟩ := hq.sound (o := { dst := some d, op, type := ty, pos, after := af, guard := none }) hT hA (q := []) trivial
    exact wpList_quiet hT hq.nd rfl hr (ih C _ _ hN (hA.put0 (by rw [hN.1]; exact Nat.le_of_ble_eq_true hd) hz))
  | guarded hd hgs hl hq _ ih =>
    rename_i all rest d gs g b c q op ty pos af k env sto z _
    intro C a w hN hA
    have hdlt : d < C.N := by rw [hN.1]; exact Nat.le_of_ble_eq_true hd
    have hiff : Region.wanted { dst := some d, op, type := ty, pos, after := af, guard := some (g, b) } (yielded all a.tmps) = true ↔ PathHolds ((c, b) :: q) := by
      have hgt : yielded all a.tmps g = match a.tmps[gs]? with | some (.bool b) => some b | _ => none := by
        unfold gslot at hgs
        simp only [yielded, hgs, Option.bind_some]
        rfl
      have hget : a.tmps[gs]? = none ∨ a.tmps[gs]? = some (a.tmps.getD gs undef) := by
        cases h : a.tmps[gs]? with
        | none => exact .inl rfl
        | some v => right; simp [h]
      by_cases hqq : PathHolds q
      · have h1 : a.tmps.getD gs undef = .bool c := hA.slots gs q _ hl hqq
        rw [h1] at hget
        have hget' : a.tmps[gs]? = some (.bool c) := by
          rcases hget with h | h
          · have h2 : a.tmps.getD gs undef = undef := by simp [h]
            rw [h2] at h1
            cases h1
          · exact h
        simp only [Region.wanted, hgt, hget', PathHolds, hqq, and_true, beq_iff_eq, Option.some.injEq]
      · have h1 := hA.envU gs q _ hl hqq
        rw [h1] at hget
        have : yielded all a.tmps g = none := by
          rw [hgt]
          rcases hget with h | h <;> rw [h] <;> rfl
        simp [Region.wanted, this, PathHolds, hqq]
    by_cases hh : PathHolds ((c, b) :: q)
    · refine wpListR_yes (hiff.2 hh) ?_
      obtain ⟨u, hr, hz⟩ := hq.sound (o := { dst := some d, op, type := ty, pos, after := af, guard := some (g, b) }) hT hA hh
      exact opR_of hq.nd hr (ih C _ _ hN (hA.put hdlt (fun _ => hz) (fun hn => absurd hh hn)))
    · refine wpListR_no (fun h => hh (hiff.1 h)) ?_
      exact ih C _ _ hN (hA.put hdlt (fun h => absurd h hh) (fun _ => rfl))

end
end Go.Sx
end

section
/- Contracts, and calls. -/

set_option linter.unusedSectionVars false
namespace Go.Sx

mutual
def freshA : AV → Bool
  | .v _ => true
  | .d new .. => new
  | .o _ => true
  | .g xs => freshL xs
  | .t xs => freshL xs
  | _ => false
def freshL : List AV → Bool
  | [] => true
  | x :: xs => freshA x && freshL xs
end
def freshR : Res → Bool
  | .box _ cs => freshL cs
  | .row _ new .. => new
  | .mp _ new .. => new
  | .rnd .. => false
  | .it .. => true
def freshS : Sto → Bool
  | [] => true
  | r :: s => freshR r && freshS s

/-- A value is handed back, or a panic is passed up. -/
def OutA (cx : Cx) (w' : World) (z : AV) (e : Ending) : Prop :=
  match z with
  | .pan x => e = .panicked [{ v := x, recovered := false }]
  | z => ∃ v, e = .returned v ∧ AAt cx w' z v
theorem OutA.ret {cx : Cx} {w' : World} {z : AV} {v : Value} (h : AAt cx w' z v) : OutA cx w' z (.returned v) := by
  cases z <;> first | exact ⟨v, rfl, h⟩ | simp [AAt] at h
def panA : AV → Bool
  | .pan _ => true
  | _ => false
theorem OutA.inv {cx : Cx} {w' : World} {z : AV} {e : Ending} (h : OutA cx w' z e) (hz : panA z = false) : ∃ v, e = .returned v ∧ AAt cx w' z v := by
  cases z <;> first | exact h | cases hz
theorem OutA.mono {cx cx' : Cx} {w' w'' : World} {z : AV} {e : Ending} (h : OutA cx w' z e) (hm : ∀ u, AAt cx w' z u → AAt cx' w'' z u) : OutA cx' w'' z e := by
  cases z with
  | pan x => exact h
  | _ => obtain ⟨v, h1, h2⟩ := h; exact ⟨v, h1, hm v h2⟩
def Post (w : World) (X : Nat → Prop) (sto : Sto) (R : AV → Sto → Prop) (e : Ending) (w' : World) : Prop :=
  ∃ z sto', R z sto' ∧ Kept (blocksOf sto) w w' ∧ (blocksOf sto').Nodup ∧ (∀ b ∈ blocksOf sto', b ∈ blocksOf sto ∨ w.heap.size ≤ b) ∧
    (∀ r ∈ sto', RAt (cxOf w.heap.size X sto') w' r) ∧ OutA (cxOf w.heap.size X sto') w' z e

/-- **What a function comes to**: called with such arguments, and such memory of its own, it returns, and R tells what. -/
def Sat (P : Program) (f : FuncId) (args : List AV) (sto : Sto) (R : AV → Sto → Prop) : Prop :=
  (∀ (as : Array Value) (w : World), (callFunc f as).run P w = .ok (.enter f as) w) ∧
  ∀ (X : Nat → Prop) (w : World) (vs : List Value), (∀ b, X b → b < w.heap.size) → (∀ b ∈ blocksOf sto, ¬ X b) → (blocksOf sto).Nodup → (∀ r ∈ sto, RAt (cxOf w.heap.size X sto) w r) →
    AAtL (cxOf w.heap.size X sto) w args vs → Calls P f vs.toArray w (Post w X sto R)

theorem Sat.mono {P : Program} {f : FuncId} {args : List AV} {sto : Sto} {R R' : AV → Sto → Prop} (h : Sat P f args sto R) (hr : ∀ z s, R z s → R' z s) : Sat P f args sto R' :=
  ⟨h.1, fun X w vs h1 h2 h3 h4 h5 => (h.2 X w vs h1 h2 h3 h4 h5).mono fun _ _ ⟨z, s, hR, rest⟩ => ⟨z, s, hr _ _ hR, rest⟩⟩

/-! ### What is handed back -/
inductive ResOne (T : Tab) (env : Env) (sto : Sto) : ResultVar → AV → Prop where
  | tmp {t : Tmp} {z : AV} : lookup t env = some ([], z) → ResOne T env sto (.tmp t) z
  | cell {t : Tmp} {ty : TypeId} {b j : Nat} {cs : List AV} {y : Ty} {z : AV} : lookup t env = some ([], .v (.pointer (some ⟨b, j, none⟩))) → RBox b cs sto → tget ty T = some y → readB y.k.agg y.size cs j = some z → ResOne T env sto (.cell t ty) z
inductive ResL (T : Tab) (env : Env) (sto : Sto) : List ResultVar → List AV → Prop where
  | nil : ResL T env sto [] []
  | cons {r : ResultVar} {z : AV} {rs : List ResultVar} {zs : List AV} : ResOne T env sto r z → ResL T env sto rs zs → ResL T env sto (r :: rs) (z :: zs)
def wrapRes : List AV → AV
  | [z] => z
  | zs => .t zs

def resSem (a : Act) : ResultVar → Sem Value
  | .tmp t => pure (a.tmps.getD t undef)
  | .cell ad t => do loadVar t (← asAddr (a.tmps.getD ad undef))
section
variable {P : Program} {T : Tab} (hT : TabOk P T)
include hT

theorem ResOne.sound {C : Ctx} {env : Env} {sto : Sto} {a : Act} {w : World} (hA : Abs C env sto a w) {r : ResultVar} {z : AV} (h : ResOne T env sto r z) :
    ∃ v, (resSem a r).run P w = .ok v w ∧ AAt (C.cx sto) w z v := by
  cases h with
  | tmp hl => exact ⟨_, rfl, hA.slots _ _ _ hl trivial⟩
  | cell hl hb ht hr =>
    rename_i t ty b j cs y
    have h1 : a.tmps.getD t undef = .pointer (some ⟨b, j, none⟩) := hA.slots _ _ _ hl trivial
    obtain ⟨arr, e, h2, h3⟩ := hA.res _ hb.mem
    obtain ⟨u, h4, h5⟩ := readB_at hT ht h3 hr (a := ⟨b, 0, none⟩) (fun m v hv => by rw [add_none, Nat.zero_add, cell_of_heap h2]; simpa using hv)
    refine ⟨u, ?_, h5⟩
    simp only [resSem, h1, asAddr, Sem.run_bind, Sem.run_pure, Result.andThen_ok]
    simpa [Instr.loadAt, Instr.sureAddr, add_none] using h4

theorem ResL.sound {C : Ctx} {env : Env} {sto : Sto} {a : Act} {w : World} (hA : Abs C env sto a w) {rs : List ResultVar} {zs : List AV} (h : ResL T env sto rs zs) :
    ∃ vs : List Value, (rs.mapM (resSem a)).run P w = .ok vs w ∧ AAtL (C.cx sto) w zs vs := by
  induction h with
  | nil => exact ⟨[], by simp, by simp [AAtL]⟩
  | cons h1 _ ih =>
    obtain ⟨v, h2, h3⟩ := h1.sound hT hA
    obtain ⟨vs, h4, h5⟩ := ih
    refine ⟨v :: vs, ?_, by simp only [AAtL]; exact ⟨h3, h5⟩⟩
    simp only [List.mapM_cons, Sem.run_bind]
    rw [h2]
    simp only [Result.andThen_ok]
    rw [h4]
    simp

theorem results_sound {C : Ctx} {env : Env} {sto : Sto} {a : Act} {w : World} (hA : Abs C env sto a w) {fn : Func} {zs : List AV} (h : ResL T env sto fn.results.toList zs) :
    ∃ v, (results fn a.tmps).run P w = .ok v w ∧ AAt (C.cx sto) w (wrapRes zs) v := by
  obtain ⟨vs, h1, h2⟩ := h.sound hT hA
  have h3 : (results fn a.tmps).run P w = .ok (if h : vs.toArray.size = 1 then vs.toArray[0] else .tuple vs.toArray) w := by
    have e : results fn a.tmps = (do let vs ← fn.results.mapM (resSem a); pure (if h : vs.size = 1 then vs[0] else .tuple vs)) := by
      unfold results
      congr 2
    rw [e, ← Array.toArray_toList (xs := fn.results), List.mapM_toArray]
    simp only [Sem.run_bind, Sem.run_map]
    rw [h1]
    simp
  refine ⟨_, h3, ?_⟩
  match zs, vs, h2 with
  | [], [], _ => simp [wrapRes, AAt, AAtL]
  | [z], [v], h => simpa [wrapRes, AAtL] using h
  | z :: z' :: zs, v :: v' :: vs, h =>
    simp only [List.size_toArray, List.length_cons, wrapRes, AAt]
    rw [dif_neg (by omega)]
    exact ⟨_, rfl, h⟩
end

/-! ### Less memory -/
mutual
inductive Age : AV → AV → Prop where
  | v {x y : Value} : x = y → Age (.v x) (.v y)
  | d {α : Type} {n n' : Bool} {sz : Nat} {enc : α → Nat → DV} {dv : α} {xs ys : List α} : (!n' || n) = true → xs = ys → Age (.d n sz enc dv xs) (.d n' sz enc dv ys)
  | nilD {α : Type} {n' : Bool} {sz : Nat} {enc : α → Nat → DV} {dv : α} {ys : List α} : ys = [] → Age (.v (.slice none 0 0)) (.d n' sz enc dv ys)
  | nilO : Age (.v (.slice none 0 0)) (.o (.slice none 0 0))
  | o {v v' : Value} : v = v' → Age (.o v) (.o v')
  | g {xs ys : List AV} : AgeL xs ys → Age (.g xs) (.g ys)
inductive AgeL : List AV → List AV → Prop where
  | nil : AgeL [] []
  | cons {x y : AV} {xs ys : List AV} : Age x y → AgeL xs ys → AgeL (x :: xs) (y :: ys)
end

mutual
theorem Age.sound {cx : Cx} {w : World} : ∀ {z z' : AV} {u : Value}, Age z z' → AAt cx w z u → AAt cx w z' u
  | _, _, u, .v h, hz => h ▸ hz
  | _, _, u, .d (n := n) (n' := n') h h2, hz => by
    simp only [AAt] at hz ⊢
    subst h2
    refine hz.mono (fun b _ hok => ⟨⟨hok.1, hok.2.1, fun hn => hok.2.2 ?_⟩, rfl⟩) (Nat.le_refl _)
    subst hn
    simpa using h
  | _, _, u, .nilD h, hz => by
    simp only [AAt] at hz ⊢
    subst h hz
    exact .nil _ _ _ _ _
  | _, _, u, .nilO, hz => by
    simp only [AAt] at hz ⊢
    exact ⟨hz, _, _, _, rfl⟩
  | _, _, u, .o h, hz => h ▸ hz
  | _, _, u, .g h, hz => by
    simp only [AAt] at hz ⊢
    obtain ⟨arr, h1, h2⟩ := hz
    exact ⟨arr, h1, AgeL.sound h h2⟩
theorem AgeL.sound {cx : Cx} {w : World} : ∀ {xs ys : List AV} {us : List Value}, AgeL xs ys → AAtL cx w xs us → AAtL cx w ys us
  | _, _, us, .nil, h => h
  | _, _, [], .cons _ _, h => by simp [AAtL] at h
  | _, _, u :: us, .cons h1 h2, h => by
    simp only [AAtL] at h ⊢
    exact ⟨Age.sound h1 h.1, AgeL.sound h2 h.2⟩
end

/-- Elements that are values alone. -/
inductive FlatE : {α : Type} → (α → Nat → DV) → Prop where
  | i (k : IntKind) : FlatE (encI k)
  | n : FlatE encN
  | b : FlatE encB
  | bo : FlatE encBo
  | s : FlatE encS
  | v {α : Type} (f : α → Nat → Value) : FlatE (fun x j => .v (f x j))
  | of {α : Type} {enc : α → Nat → DV} (h : ∀ x j, ∃ v, enc x j = .v v) : FlatE enc
theorem FlatE.val {α : Type} {enc : α → Nat → DV} (h : FlatE enc) (x : α) (j : Nat) : ∃ v, enc x j = .v v := by
  cases h with
  | of h => exact h x j
  | _ => exact ⟨_, rfl⟩
inductive FlagOk {α : Type} (enc : α → Nat → DV) : Bool → Prop where
  | le : FlagOk enc true
  | flat {b : Bool} : FlatE enc → FlagOk enc b
theorem FlagOk.data {α : Type} {enc : α → Nat → DV} {n n' : Bool} (h : FlagOk enc (!n' || n)) {cx : Cx} {w : World} (x : α) (j : Nat) {y : Value} (hd : DAt (cx.ok n) w (enc x j) y) : DAt (cx.ok n') w (enc x j) y := by
  generalize hb : (!n' || n) = b at h
  cases h with
  | le => exact hd.mono (fun b _ hok => ⟨⟨hok.1, hok.2.1, fun hn => hok.2.2 (by subst hn; simpa using hb)⟩, rfl⟩) (Nat.le_refl _)
  | flat hf =>
    obtain ⟨v, e⟩ := hf.val x j
    rw [e] at hd ⊢
    cases hd with
    | v _ ho => exact .v _ ho
theorem FlagOk.valA {α : Type} {enc : α → Nat → DV} {n n' : Bool} (h : FlagOk enc (!n' || n)) {cx : Cx} {w : World} (x : α) {agg : Bool} {sz : Nat} {u : Value} (hu : AAt cx w (valA n agg sz (enc x)) u) : AAt cx w (valA n' agg sz (enc x)) u := by
  have one : ∀ j u, AAt cx w (upD n (enc x j)) u → AAt cx w (upD n' (enc x j)) u := by
    intro j u hu
    cases hd : enc x j with
    | v y => rw [hd] at hu; simpa [upD, AAt] using hu
    | sl sz enc' dv xs =>
      have := h.data (cx := cx) (w := w) x j (y := u)
      rw [hd] at this hu
      simp only [upD, AAt] at hu ⊢
      exact this hu
  cases agg with
  | false => exact one 0 u hu
  | true =>
    simp only [Sx.valA, AAt] at hu ⊢
    obtain ⟨arr, h1, h2⟩ := hu
    refine ⟨arr, h1, ?_⟩
    have key : ∀ (js : List Nat) (us : List Value), AAtL cx w (js.map fun j => upD n (enc x j)) us → AAtL cx w (js.map fun j => upD n' (enc x j)) us := by
      intro js
      induction js with
      | nil => intro us h; cases us <;> simp_all [AAtL]
      | cons j js ih =>
        intro us h
        cases us with
        | nil => simp [AAtL] at h
        | cons u us => simp only [List.map_cons, AAtL] at h ⊢; exact ⟨one j u h.1, ih us h.2⟩
    exact key _ _ h2
/-- A resource is picked out of the store (as it is asked for), and the rest. -/
inductive Pick : Sto → Res → Sto → Prop where
  | box {b : Nat} {cs cs' : List AV} {s : Sto} : AgeL cs cs' → Pick (.box b cs :: s) (.box b cs') s
  | row {α : Type} {v : Value} {n n' : Bool} {e sz : Nat} {enc : α → Nat → DV} {dv : α} {xs ys : List α} {s : Sto} : FlagOk enc (!n' || n) → xs = ys → Pick (.row v n e sz enc dv xs :: s) (.row v n' e sz enc dv ys) s
  | mp {κ α : Type} {r : Nat} {n n' : Bool} {kk : κ → Value} {agg : Bool} {sz : Nat} {enc : α → Nat → DV} {es es' : List (κ × α)} {s : Sto} : FlagOk enc (!n' || n) → es = es' → Pick (.mp r n kk agg sz enc es :: s) (.mp r n' kk agg sz enc es') s
  | same {r : Res} {s : Sto} : Pick (r :: s) r s
  | tail {x r : Res} {s s' : Sto} : Pick s r s' → Pick (x :: s) r (x :: s')
  | nilRow {α : Type} {n : Bool} {e sz : Nat} {enc : α → Nat → DV} {dv : α} {ys : List α} {s : Sto} : ys = [] → Pick s (.row (.slice none 0 0) n e sz enc dv ys) s
inductive StoSub : Sto → Sto → Prop where
  | nil (s : Sto) : StoSub s []
  | cons {s s1 s' : Sto} {r : Res} : Pick s r s1 → StoSub s1 s' → StoSub s (r :: s')
  | same (s : Sto) : StoSub s s
  | skip {x : Res} {s s' : Sto} : StoSub s s' → StoSub (x :: s) s'

theorem AAtL.map_upD {cx cx' : Cx} {w w' : World} {n n' : Bool} (h : ∀ (d : DV) (u : Value), DAt (cx.ok n) w d u → DAt (cx'.ok n') w' d u) (f : Nat → DV) : ∀ (js : List Nat) (us : List Value), AAtL cx w (js.map fun j => upD n (f j)) us → AAtL cx' w' (js.map fun j => upD n' (f j)) us
  | [], us, hu => by cases us <;> simp_all [AAtL]
  | j :: js, [], hu => by simp [AAtL] at hu
  | j :: js, u :: us, hu => by
    simp only [List.map_cons, AAtL] at hu ⊢
    refine ⟨?_, AAtL.map_upD h f js us hu.2⟩
    cases hd : f j with
    | v x => rw [hd] at hu; simpa [upD, AAt] using hu.1
    | sl sz enc dv xs =>
      rw [hd] at hu
      have := hu.1
      simp only [upD, AAt] at this ⊢
      exact h _ _ this
theorem valA_mono {cx cx' : Cx} {w w' : World} {n n' : Bool} (h : ∀ (d : DV) (u : Value), DAt (cx.ok n) w d u → DAt (cx'.ok n') w' d u) {agg : Bool} {sz : Nat} {f : Nat → DV} {u : Value} (hu : AAt cx w (valA n agg sz f) u) : AAt cx' w' (valA n' agg sz f) u := by
  cases agg with
  | true =>
    simp only [valA, AAt] at hu ⊢
    obtain ⟨arr, h1, h2⟩ := hu
    exact ⟨arr, h1, AAtL.map_upD h f _ _ h2⟩
  | false =>
    simp only [valA] at hu ⊢
    cases hd : f 0 with
    | v x => rw [hd] at hu; simpa [upD, AAt] using hu
    | sl sz enc dv xs =>
      rw [hd] at hu
      simp only [upD, AAt] at hu ⊢
      exact h _ _ hu

/-- A store holds what another one holds, and garbage. -/
def Holds (cx : Cx) (w : World) (s : Sto) : Prop := ∀ r ∈ s, RAt cx w r

theorem Pick.sound {s : Sto} {r : Res} {s' : Sto} (h : Pick s r s') : (blocksOf s).Perm (r.blocks ++ blocksOf s') ∧ ∀ cx w, Holds cx w s → RAt cx w r ∧ Holds cx w s' := by
  induction h with
  | box h =>
    refine ⟨List.Perm.refl _, fun cx w hs => ⟨?_, fun r hr => hs r (by simp [hr])⟩⟩
    obtain ⟨arr, e, h1, h2⟩ := hs _ (List.mem_cons_self ..)
    exact ⟨arr, e, h1, h.sound h2⟩
  | row h h2 =>
    subst h2
    refine ⟨List.Perm.refl _, fun cx w hs => ⟨?_, fun r hr => hs r (by simp [hr])⟩⟩
    obtain ⟨vals, h1, h2, h3, h4⟩ := hs _ (List.mem_cons_self ..)
    refine ⟨vals, h1, h2, h3, fun i j hi hj => ?_⟩
    obtain ⟨y, hy1, hy2⟩ := h4 i j hi hj
    exact ⟨y, hy1, h.data _ _ hy2⟩
  | mp h h2 =>
    subst h2
    refine ⟨List.Perm.refl _, fun cx w hs => ⟨?_, fun r hr => hs r (by simp [hr])⟩⟩
    obtain ⟨ents, clock, h1, h2, h3⟩ := hs _ (List.mem_cons_self ..)
    refine ⟨ents, clock, h1, ⟨h2.1, fun i m p hm hp => ?_⟩, h3⟩
    obtain ⟨k1, k2⟩ := h2.2 i m p hm hp
    exact ⟨k1, h.valA _ k2⟩
  | same => exact ⟨List.Perm.refl _, fun cx w hs => ⟨hs _ (List.mem_cons_self ..), fun r hr => hs r (by simp [hr])⟩⟩
  | tail _ ih =>
    rename_i x r s s' _
    obtain ⟨h1, h2⟩ := ih
    refine ⟨?_, fun cx w hs => ?_⟩
    · show (x.blocks ++ blocksOf s).Perm (r.blocks ++ (x.blocks ++ blocksOf s'))
      refine ((List.Perm.append_left x.blocks h1).trans ?_)
      rw [← List.append_assoc, ← List.append_assoc]
      exact List.Perm.append_right _ List.perm_append_comm
    · obtain ⟨h3, h4⟩ := h2 cx w (fun r hr => hs r (by simp [hr]))
      exact ⟨h3, fun r hr => by rcases List.mem_cons.1 hr with rfl | hr; exact hs _ (by simp); exact h4 r hr⟩
  | nilRow h =>
    subst h
    refine ⟨by simp [Res.blocks, Value.ownBlock], fun cx w hs => ⟨⟨[], .inl ⟨rfl, rfl⟩, by simp, fun A n c h => by simp at h; simp [← h.2.1], fun i j hi => by simp at hi⟩, hs⟩⟩

theorem StoSub.sound {s s' : Sto} (h : StoSub s s') : ∃ g, (blocksOf s).Perm (blocksOf s' ++ g) ∧ ∀ cx w, Holds cx w s → Holds cx w s' := by
  induction h with
  | nil s => exact ⟨blocksOf s, by simp [blocksOf], fun cx w _ r hr => by cases hr⟩
  | cons h1 _ ih =>
    obtain ⟨g, h2, h3⟩ := ih
    obtain ⟨h4, h5⟩ := h1.sound
    rename_i s s1 s' r _
    refine ⟨g, ?_, fun cx w hs => ?_⟩
    · show (blocksOf s).Perm ((r.blocks ++ blocksOf s') ++ g)
      rw [List.append_assoc]
      exact h4.trans (List.Perm.append_left _ h2)
    · obtain ⟨h6, h7⟩ := h5 cx w hs
      intro r' hr'
      rcases List.mem_cons.1 hr' with rfl | hr'
      · exact h6
      · exact h3 cx w h7 r' hr'
  | same s => exact ⟨[], by simp, fun _ _ h => h⟩
  | skip _ ih =>
    obtain ⟨g, h2, h3⟩ := ih
    rename_i x s s' _
    refine ⟨x.blocks ++ g, ?_, fun cx w hs => h3 cx w (fun r hr => hs r (by simp [hr]))⟩
    show (x.blocks ++ blocksOf s).Perm (blocksOf s' ++ (x.blocks ++ g))
    refine ((List.Perm.append_left x.blocks h2).trans ?_)
    rw [← List.append_assoc, ← List.append_assoc]
    exact List.Perm.append_right _ List.perm_append_comm

theorem Abs.sub {C : Ctx} {env : Env} {s s' : Sto} {a : Act} {w : World} (h : Abs C env s a w) (hs : StoSub s s') : Abs C env s' a w := by
  obtain ⟨g, h1, h2⟩ := hs.sound
  have hmem : ∀ b ∈ blocksOf s', b ∈ blocksOf s := fun b hb => h1.mem_iff.2 (List.mem_append_left _ hb)
  have hn : (blocksOf s').Nodup := (List.nodup_append.1 (h1.nodup_iff.1 h.nodup)).1
  have hF : ∀ n b, b < w.heap.size → (C.cx s).ok n b → (C.cx s').ok n b ∧ w.heap[b]? = w.heap[b]? := fun n b _ hok => ⟨⟨fun hm => hok.1 (hmem b hm), hok.2⟩, rfl⟩
  refine ⟨h.kept, hn, fun b hb => h.src b (hmem b hb), fun r hr => RAt.mono hF (Nat.le_refl _) (fun _ _ => rfl) (h2 _ _ h.res r hr), fun t q z hl hq => AAt.mono hF (Nat.le_refl _) (h.slots t q z hl hq), h.envU, h.tsize, h.defers.sub hmem, h.xlt, h.xown, h.base⟩

end Go.Sx
end

section
/- Cells as data. -/

set_option linter.unusedSectionVars false
namespace Go.Sx
/-- What a list's cells are. -/
def litL {α : Type} (sz : Nat) (enc : α → Nat → DV) (xs : List α) : List DV := xs.flatMap fun x => (List.range sz).map (enc x)
inductive DownL : List AV → Bool → List DV → Prop where
  | nil : DownL [] true []
  | cons {z : AV} {zs : List AV} {n n' : Bool} {d : DV} {ds : List DV} : downD z = some (n, d) → DownL zs n' ds → DownL (z :: zs) (n && n') (d :: ds)

theorem downD_at {cx : Cx} {w : World} {z : AV} {n m : Bool} {d : DV} {u : Value} (h : downD z = some (n, d)) (hz : AAt cx w z u) (hm : m = true → n = true) : DAt (cx.ok m) w d u := by
  cases z with
  | v x =>
    simp only [downD] at h
    split at h
    · rename_i h1
      simp only [Option.some.injEq, Prod.mk.injEq] at h
      obtain ⟨rfl, rfl⟩ := h
      simp only [AAt] at hz
      subst hz
      exact .v _ h1
    · cases h
  | d new sz enc dv xs =>
    simp only [downD, Option.some.injEq, Prod.mk.injEq] at h
    obtain ⟨rfl, rfl⟩ := h
    simp only [AAt] at hz
    exact hz.mono (fun b _ hok => ⟨⟨hok.1, hok.2.1, fun h => hok.2.2 (hm h)⟩, rfl⟩) (Nat.le_refl _)
  | _ => cases h

theorem DownL.sound {cx : Cx} {w : World} {zs : List AV} {n : Bool} {ds : List DV} (h : DownL zs n ds) : ∀ {us : List Value} {m : Bool}, AAtL cx w zs us → (m = true → n = true) →
    ∀ (k : Nat) (d : DV), ds[k]? = some d → ∃ u, us[k]? = some u ∧ DAt (cx.ok m) w d u := by
  induction h with
  | nil => intro us m _ _ k d hd; simp at hd
  | cons h1 _ ih =>
    intro us m hz hm k d hd
    cases us with
    | nil => simp [AAtL] at hz
    | cons u us =>
      simp only [AAtL] at hz
      cases k with
      | zero =>
        simp at hd
        subst hd
        exact ⟨u, by simp, downD_at h1 hz.1 (fun h => by have := hm h; simp at this; exact this.1)⟩
      | succ k => simpa using ih hz.2 (fun h => by have := hm h; simp at this; exact this.2) k d (by simpa using hd)

theorem litL_get {α : Type} {sz : Nat} {enc : α → Nat → DV} {dv : α} : ∀ {xs : List α} {i j : Nat}, i < xs.length → j < sz → (litL sz enc xs)[i * sz + j]? = some (enc (xs.getD i dv) j)
  | [], i, j, h, _ => by simp at h
  | x :: xs, 0, j, _, hj => by
    simp only [litL, List.flatMap_cons, Nat.zero_mul, Nat.zero_add]
    rw [List.getElem?_append_left (by simpa using hj)]
    simp [hj]
  | x :: xs, i + 1, j, h, hj => by
    have ih := litL_get (enc := enc) (dv := dv) (xs := xs) (i := i) (j := j) (by simpa using h) hj
    simp only [litL, List.flatMap_cons] at ih ⊢
    rw [List.getElem?_append_right (by simp [Nat.add_mul]; omega)]
    simp only [List.length_map, List.length_range, Nat.add_mul, Nat.one_mul]
    rw [show i * sz + sz + j - sz = i * sz + j by omega, ih]
    simp [List.getD]

end Go.Sx
end

section
/- A function's contract out of a walk; calls by contract; loops. -/

set_option linter.unusedSectionVars false
namespace Go.Sx

def argEnv : Nat → List AV → Env
  | _, [] => []
  | i, z :: zs => (i, [], z) :: argEnv (i + 1) zs

theorem argEnv_lookup {cx : Cx} {w : World} : ∀ {zs : List AV} {vs : List Value} {i s : Nat} {q : Path} {z : AV}, AAtL cx w zs vs → lookup s (argEnv i zs) = some (q, z) → q = [] ∧ ∃ j v, s = i + j ∧ vs[j]? = some v ∧ AAt cx w z v
  | [], vs, i, s, q, z, _, h => by simp [argEnv, lookup] at h
  | x :: xs, [], i, s, q, z, h, _ => by simp [AAtL] at h
  | x :: xs, u :: us, i, s, q, z, h, hl => by
    simp only [AAtL] at h
    simp only [argEnv, lookup_cons] at hl
    split at hl
    · rename_i e
      simp only [Option.some.injEq, Prod.mk.injEq] at hl
      obtain ⟨rfl, rfl⟩ := hl
      exact ⟨rfl, 0, u, by omega, by simp, h.1⟩
    · obtain ⟨h1, j, v, h2, h3, h4⟩ := argEnv_lookup h.2 hl
      exact ⟨h1, j + 1, v, by omega, by simpa using h3, h4⟩

/-- What is owed where a function ends. -/
def isPanE : Env → Option Value
  | (_, [], .pan x) :: _ => some x
  | _ => none
def Ends (T : Tab) (rs : List ResultVar) (R : AV → Sto → Prop) (env : Env) (sto : Sto) : Prop :=
  match isPanE env with
  | some x => ∃ s, R (.pan x) s ∧ StoSub sto s
  | none => ∃ zs zs' s, ResL T env sto rs zs ∧ AgeL zs zs' ∧ R (wrapRes zs') s ∧ StoSub sto s
theorem wrap_age {cx : Cx} {w : World} {zs zs' : List AV} {u : Value} (h : AgeL zs zs') (hu : AAt cx w (wrapRes zs) u) : AAt cx w (wrapRes zs') u := by
  cases h with
  | nil => exact hu
  | cons h1 h2 =>
    cases h2 with
    | nil => exact h1.sound hu
    | cons h2 h3 =>
      simp only [wrapRes, AAt] at hu ⊢
      obtain ⟨arr, e, h4⟩ := hu
      exact ⟨arr, e, AgeL.sound (.cons h1 (.cons h2 h3)) h4⟩
/-- Results, each by itself. -/
inductive UnwR : List AV → AV → List AV → Prop where
  | nil : UnwR [] (.t []) []
  | one {a z : AV} : UnwR [a] z [z]
  | many {a b z y : AV} {as zs : List AV} : UnwR (a :: b :: as) (.t (z :: y :: zs)) (z :: y :: zs)
theorem UnwR.wrap {zs zs' : List AV} {z : AV} (h : UnwR zs z zs') : wrapRes zs' = z := by cases h <;> rfl

/-- Worlds that differ in blocks that hold no cells, and that nobody owns. -/
theorem DAt.monoC {F F' : Nat → Prop} {w w' : World} {d : DV} {u : Value} (h : DAt F w d u) (hF : ∀ b, F b → F' b) (hc : ∀ a v, w.cell? a = some v → w'.cell? a = some v) (hs : w.heap.size ≤ w'.heap.size) : DAt F' w' d u := by
  induction h with
  | v x h => exact .v x h
  | nil sz enc dv A c => exact .nil sz enc dv A c
  | sl sz enc dv xs a c Y hf hb hl hY _ ih => exact .sl sz enc dv xs a c Y (hF _ hf) (by omega) hl (fun i j hi hj => hc _ _ (hY i j hi hj)) ih
mutual
theorem AAt.monoC {cx cx' : Cx} {w w' : World} (hF : ∀ n b, cx.ok n b → cx'.ok n b) (hc : ∀ a v, w.cell? a = some v → w'.cell? a = some v) (hs : w.heap.size ≤ w'.heap.size) : ∀ {z : AV} {u : Value}, AAt cx w z u → AAt cx' w' z u
  | .v x, u, h => by simpa [AAt] using h
  | .d new sz enc dv xs, u, h => by
    simp only [AAt] at h ⊢
    exact h.monoC (hF new) hc hs
  | .p new sz enc dv xs i j, u, h => by
    simp only [AAt] at h ⊢
    obtain ⟨a, c, h1, h2, h3, h4⟩ := h
    exact ⟨a, c, h1, h2, h3, h4.monoC (hF new) hc hs⟩
  | .o v, u, h => by simpa only [AAt] using h
  | .e v sz i j, u, h => by simpa only [AAt] using h
  | .s v sz lo hi, u, h => by simpa only [AAt] using h
  | .g xs, u, h => by
    simp only [AAt] at h ⊢
    obtain ⟨arr, h1, h2⟩ := h
    exact ⟨arr, h1, AAtL.monoC hF hc hs h2⟩
  | .t xs, u, h => by
    simp only [AAt] at h ⊢
    obtain ⟨arr, h1, h2⟩ := h
    exact ⟨arr, h1, AAtL.monoC hF hc hs h2⟩
  | .pan x, u, h => by simp [AAt] at h
theorem AAtL.monoC {cx cx' : Cx} {w w' : World} (hF : ∀ n b, cx.ok n b → cx'.ok n b) (hc : ∀ a v, w.cell? a = some v → w'.cell? a = some v) (hs : w.heap.size ≤ w'.heap.size) : ∀ {xs : List AV} {us : List Value}, AAtL cx w xs us → AAtL cx' w' xs us
  | [], [], _ => by simp [AAtL]
  | [], _ :: _, h => by simp [AAtL] at h
  | _ :: _, [], h => by simp [AAtL] at h
  | x :: xs, u :: us, h => by
    simp only [AAtL] at h ⊢
    exact ⟨AAt.monoC hF hc hs h.1, AAtL.monoC hF hc hs h.2⟩
end
theorem RAt.monoC {cx cx' : Cx} {w w' : World} {r : Res} (hF : ∀ n b, cx.ok n b → cx'.ok n b) (hc : ∀ a v, w.cell? a = some v → w'.cell? a = some v) (hs : w.heap.size ≤ w'.heap.size) (hr : ∀ b ∈ r.blocks, w'.heap[b]? = w.heap[b]?) (h : RAt cx w r) : RAt cx' w' r := by
  cases r with
  | box b cs =>
    obtain ⟨arr, e, h1, h2⟩ := h
    exact ⟨arr, e, (hr b (by simp [Res.blocks])).trans h1, AAtL.monoC hF hc hs h2⟩
  | row v new e sz enc dv xs =>
    obtain ⟨vals, h1, h2, h3, h4⟩ := h
    refine ⟨vals, ?_, h2, h3, fun i j hi hj => ?_⟩
    · rcases h1 with h1 | ⟨g, o, n, cap, cur, rfl, hg, rest⟩
      · exact .inl h1
      · exact .inr ⟨g, o, n, cap, cur, rfl, (hr g (by simp [Res.blocks, Value.ownBlock])).trans hg, rest⟩
    · obtain ⟨y, hy1, hy2⟩ := h4 i j hi hj
      exact ⟨y, hy1, hy2.monoC (hF new) hc hs⟩
  | mp r new kk agg sz enc es =>
    obtain ⟨ents, clock, h1, h2, h3, h4⟩ := h
    refine ⟨ents, clock, (hr r (by simp [Res.blocks])).trans h1, ⟨h2.1, fun i m p hm hp => ?_⟩, h3, h4⟩
    obtain ⟨k1, k2⟩ := h2.2 i m p hm hp
    exact ⟨k1, AAt.monoC hF hc hs k2⟩
  | rnd l N st fn ps assign body D env =>
    obtain ⟨tmps, h1, h2, h3⟩ := h
    exact ⟨tmps, (hr l (by simp [Res.blocks])).trans h1, h2, fun s z hl => AAt.monoC hF hc hs (h3 s z hl)⟩
  | it b o => exact ⟨(hr b (by simp [Res.blocks])).trans h.1, h.2⟩
theorem Post.monoC {w w' w'' : World} {X : Nat → Prop} {sto : Sto} {R : AV → Sto → Prop} {e : Ending} (h : Post w X sto R e w') (hk : Kept [] w' w'' ∨ (w''.os = w'.os ∧ w''.tape = w'.tape ∧ w''.output = w'.output)) (hc : ∀ a v, w'.cell? a = some v → w''.cell? a = some v)
    (hs : w'.heap.size ≤ w''.heap.size) (hb : ∀ b, (b < w.heap.size ∨ ∀ r, w'.heap[b]? ≠ some (.deferred r)) → b < w'.heap.size → w''.heap[b]? = w'.heap[b]?) (hd : ∀ z s, R z s → ∀ r ∈ s, ∀ cx, RAt cx w' r → ∀ b ∈ r.blocks, ∀ x, w'.heap[b]? ≠ some (.deferred x)) : Post w X sto R e w'' := by
  obtain ⟨z, s, hR, h1, h2, h3, h4, h5⟩ := h
  have ho : w''.os = w'.os ∧ w''.tape = w'.tape ∧ w''.output = w'.output := by
    rcases hk with h | h
    · exact ⟨h.os, h.tape, h.output⟩
    · exact h
  refine ⟨z, s, hR, ⟨ho.1.trans h1.os, ho.2.1.trans h1.tape, ho.2.2.trans h1.output, Nat.le_trans h1.size hs, fun k hk' hn => (hb k (.inl hk') (Nat.lt_of_lt_of_le hk' h1.size)).trans (h1.block k hk' hn)⟩, h2, h3, fun r hr => ?_, h5.mono fun u hu => AAt.monoC (fun _ _ h => h) hc hs hu⟩
  exact RAt.monoC (fun _ _ h => h) hc hs (fun b hbr => hb b (.inr (fun x => hd z s hR r hr _ (h4 r hr) b hbr x)) ((h4 r hr).lt b hbr)) (h4 r hr)
theorem RAt.noDef {cx : Cx} {w : World} {r : Res} (h : RAt cx w r) : ∀ b ∈ r.blocks, ∀ x, w.heap[b]? ≠ some (.deferred x) := by
  intro b hb x hx
  cases r with
  | box b' cs =>
    obtain ⟨arr, e, h1, _⟩ := h
    simp only [Res.blocks, List.mem_singleton] at hb
    subst hb
    rw [h1] at hx
    cases hx
  | row v new e sz enc dv xs =>
    obtain ⟨vals, h1, _⟩ := h
    rcases h1 with ⟨rfl, _⟩ | ⟨g, o, n, cap, cur, rfl, hg, _⟩
    · simp [Res.blocks, Value.ownBlock] at hb
    · simp [Res.blocks, Value.ownBlock] at hb
      subst hb
      rw [hg] at hx
      cases hx
  | mp r new kk agg sz enc es =>
    obtain ⟨ents, clock, h1, _⟩ := h
    simp only [Res.blocks, List.mem_singleton] at hb
    subst hb
    rw [h1] at hx
    cases hx
  | rnd l N st fn ps assign body D env =>
    obtain ⟨tmps, h1, _⟩ := h
    simp only [Res.blocks, List.mem_singleton] at hb
    subst hb
    rw [h1] at hx
    cases hx
  | it b' o =>
    simp only [Res.blocks, List.mem_singleton] at hb
    subst hb
    rw [h.1] at hx
    cases hx
    exact h.2 _ rfl

/-- Marks among deferred calls are taken one by one: the world stays but for their blocks. -/
theorem leaves_marks {P : Program} {fn : Func} {tmps : Array Value} {R : Ending → World → Prop} {u : FrameMode} (hu : u ≠ .run) : ∀ (ds : List Deferred) (w : World), ds.Nodup →
    (∀ d ∈ ds, ∃ r, d = { target := .collected r, args := #[] } ∧ w.heap[r]? = some (.deferred (some []))) →
    (∀ w', w'.os = w.os → w'.tape = w.tape → w'.output = w.output → w'.heap.size = w.heap.size → (∀ b, (∀ d ∈ ds, d.target ≠ .collected b) → w'.heap[b]? = w.heap[b]?) → LeavesIn Fence.wide 0 P fn tmps R [] u w') →
    LeavesInM Fence.wide 0 P fn tmps R ds u w
  | [], w, _, _, h => h w rfl rfl rfl rfl (fun _ _ => rfl)
  | d :: ds, w, hn, hd, h => by
    obtain ⟨r, rfl, hr⟩ := hd d (by simp)
    refine ⟨hu, .inl ⟨r, _, rfl, run_takeDeferred hr, ?_⟩⟩
    have hnd := List.nodup_cons.1 hn
    refine leaves_marks hu ds _ hnd.2 (fun d' hd' => ?_) (fun w' h1 h2 h3 h4 h5 => h w' h1 h2 h3 (h4.trans World.putObj_size) (fun b hb => ?_))
    · obtain ⟨r', rfl, hr'⟩ := hd d' (by simp [hd'])
      refine ⟨r', rfl, ?_⟩
      rw [World.putObj_heap_other (fun e => hnd.1 (by rw [← e]; exact hd'))]
      exact hr'
    · rw [h5 b (fun d hd => hb d (by simp [hd]))]
      exact World.putObj_heap_other (fun e => hb { target := .collected r, args := #[] } (List.mem_cons_self ..) (by rw [e]))

theorem Sat.of {P : Program} {T : Tab} (hT : TabOk P T) {f : FuncId} {fn : Func} {c : Code} {N : Nat} {args : List AV} {sto : Sto} {R : AV → Sto → Prop} (hf : P.funcs[f]? = some fn)
    (hcall : ∀ (as : Array Value) (w : World), (callFunc f as).run P w = .ok (.enter f as) w) (hb : fn.body = some c) (hN : fn.ntmps = N) (hl : Nat.ble args.length N = true)
    (h : Run P T ⟨N, true, sto.isEmpty⟩ (Ends T fn.results.toList R) [.c c] (argEnv 0 args) sto) : Sat P f args sto R := by
  refine ⟨hcall, fun X w vs hx1 hx2 hnd hres hargs => ?_⟩
  have hlen := hargs.length
  have hl' := Nat.le_of_ble_eq_true hl
  refine callsIn_wide (n := 0).1 (callsIn_of_wp_marks (F := Fence.wide) hf hb trivial ?_)
  let C : Ctx := { w0 := w, O := blocksOf sto, X, N, rnd := none, B := w.heap.size }
  have hA : Abs C (argEnv 0 args) sto { tmps := vs.toArray ++ Array.replicate (fn.ntmps - vs.toArray.size) undef, defers := [] } w := by
    refine ⟨Kept.refl _ _, hnd, fun b hb => .inl hb, hres, fun s q z hl hq => ?_, fun s q z hl hq => ?_, ?_, ⟨List.nodup_nil, fun d hd => by cases hd⟩, hx1, hx2, Nat.le_refl _⟩
    · obtain ⟨_, j, v, h1, h2, h3⟩ := argEnv_lookup hargs hl
      have hjl : j < vs.length := (List.getElem?_eq_some_iff.1 h2).1
      have : (vs.toArray ++ Array.replicate (fn.ntmps - vs.toArray.size) undef).getD s undef = v := by
        have hs : s = j := by omega
        subst hs
        rw [Array.getD_eq_getD_getElem?, Array.getElem?_append_left (by simpa using hjl)]
        simp [h2]
      show AAt _ _ _ ((vs.toArray ++ Array.replicate (fn.ntmps - vs.toArray.size) undef).getD s undef)
      rw [this]
      exact h3
    · obtain ⟨h1, _⟩ := argEnv_lookup hargs hl
      subst h1
      exact absurd trivial hq
    · show (vs.toArray ++ Array.replicate (fn.ntmps - vs.toArray.size) undef).size = N
      simp [hN]
      omega
  have hwp : wpR none P c (postK P C (Ends T fn.results.toList R) []) { tmps := vs.toArray ++ Array.replicate (fn.ntmps - vs.toArray.size) undef, defers := [] } w := h.sound hT C _ w ⟨rfl, fun _ => rfl, fun hs => by cases sto with | nil => (intro b hb; cases hb) | cons => cases hs⟩ hA
  refine wpIn_mono hwp (fun e a w' hq => ?_)
  -- behind the body: marks are taken, then the results are read
  have after : ∀ {env : Env} {s : Sto}, Abs C env s a w' → ∀ w'' : World, w''.os = w'.os → w''.tape = w'.tape → w''.output = w'.output → w''.heap.size = w'.heap.size → (∀ b, (∀ d ∈ a.defers, d.target ≠ .collected b) → w''.heap[b]? = w'.heap[b]?) → Abs C env s { a with defers := [] } w'' := by
    intro env s hA' w'' h1 h2 h3 h4 h5
    have hm : ∀ b, (b < w.heap.size ∨ b ∈ blocksOf s ∨ ∃ cs e f, w'.heap[b]? = some (.cells cs e f)) → w''.heap[b]? = w'.heap[b]? := by
      intro b hb
      refine h5 b (fun d hd e => ?_)
      obtain ⟨r, hr1, hr2, hr3, hr4⟩ := hA'.defers.2 d hd
      rw [hr1] at e
      simp only [Target.collected.injEq] at e
      subst e
      rcases hb with hb | hb | ⟨cs, e, f, hb⟩
      · have : w.heap.size ≤ r := hr2
        omega
      · exact hr3 hb
      · rw [hr4] at hb; cases hb
    have hc : ∀ ad v, w'.cell? ad = some v → w''.cell? ad = some v := by
      intro ad v hv
      have hcells : ∃ cs e f, w'.heap[ad.block]? = some (.cells cs e f) := by
        unfold World.cell? at hv
        split at hv
        · rename_i cs e f hh; exact ⟨cs, _, _, hh⟩
        · cases hv
      rw [← hv]
      exact World.cell?_of_block (hm _ (.inr (.inr hcells)))
    refine ⟨⟨h1.trans hA'.kept.os, h2.trans hA'.kept.tape, h3.trans hA'.kept.output, by rw [h4]; exact hA'.kept.size, fun k hk hn => (hm k (.inl hk)).trans (hA'.kept.block k hk hn)⟩, hA'.nodup, hA'.src, fun r hr => ?_, fun s' q z hl hq => ?_, hA'.envU, hA'.tsize, ⟨List.nodup_nil, fun d hd => by cases hd⟩, hA'.xlt, hA'.xown, hA'.base⟩
    · exact RAt.monoC (fun _ _ h => h) hc (by rw [h4]; exact Nat.le_refl _) (fun b hb => hm b (.inr (.inl (List.mem_flatMap.2 ⟨r, hr, hb⟩)))) (hA'.res r hr)
    · exact AAt.monoC (fun _ _ h => h) hc (by rw [h4]; exact Nat.le_refl _) (hA'.slots s' q z hl hq)
  have marks : ∀ {env : Env} {s : Sto}, Abs C env s a w' → ∀ d ∈ a.defers, ∃ r, d = { target := .collected r, args := #[] } ∧ w'.heap[r]? = some (.deferred (some [])) := fun hA' d hd => by
    obtain ⟨r, h1, _, _, h4⟩ := hA'.defers.2 d hd
    exact ⟨r, h1, h4⟩
  have fin : ∀ env s, Ends T fn.results.toList R env s → Abs C env s a w' → LeavesInM Fence.wide 0 P fn a.tmps (Post w X sto R) a.defers .returning w' := by
    intro env s hE hA'
    refine leaves_marks (by simp) a.defers w' hA'.defers.1 (marks hA') (fun w'' h1 h2 h3 h4 h5 => ?_)
    have hA2 := after hA' w'' h1 h2 h3 h4 h5
    unfold Ends at hE
    have hnp : isPanE env = none := by
      cases hi : isPanE env with
      | none => rfl
      | some x =>
        unfold isPanE at hi
        split at hi
        · rename_i t x' e
          exact absurd (hA2.slots t [] (.pan x') (by simp [lookup_cons]) trivial) (by simp [AAt])
        · cases hi
    rw [hnp] at hE
    obtain ⟨zs, zs', s'', h1, hage, h3, h2⟩ := hE
    obtain ⟨v, h4, h5⟩ := results_sound hT hA2 h1
    have hA'' := hA2.sub h2
    obtain ⟨g, hp1, _⟩ := h2.sound
    have hmem : ∀ b ∈ blocksOf s'', b ∈ blocksOf s := fun b hb => hp1.mem_iff.2 (List.mem_append_left _ hb)
    refine ⟨v, h4, _, s'', h3, hA''.kept, hA''.nodup, hA''.src, hA''.res, OutA.ret ?_⟩
    exact AAt.mono (cx := C.cx s) (cx' := C.cx s'') (fun n b _ hok => ⟨⟨fun hm => hok.1 (hmem b hm), hok.2⟩, rfl⟩) (Nat.le_refl _) (wrap_age hage h5)
  cases e with
  | normal => obtain ⟨env, s, h1, h2⟩ := hq; exact fin env s h1 h2
  | ret => obtain ⟨env, s, h1, h2⟩ := hq; exact fin env s h1 h2
  | panic ch =>
    obtain ⟨x, s, rfl, hE, hA'⟩ := hq
    refine leaves_marks (by simp) a.defers w' hA'.defers.1 (marks hA') (fun w'' h1 h2 h3 h4 h5 => ?_)
    have hA2 := after hA' w'' h1 h2 h3 h4 h5
    obtain ⟨s'', hR, hsub⟩ := hE
    have hA'' := hA2.sub hsub
    exact ⟨_, s'', hR, hA''.kept, hA''.nodup, hA''.src, hA''.res, rfl⟩
  | exit id => exact hq.elim
  | goto l => exact hq.elim
  | outgrown => exact hq.elim

/-! ### Calls -/
/-- Values alone. -/
inductive AllV : List AV → Prop where
  | nil : AllV []
  | one (x : Value) : AllV [.v x]
  | map (vs : List Value) : AllV (vs.map .v)
  | app {xs ys : List AV} : AllV xs → AllV ys → AllV (xs ++ ys)
theorem AllV.vals {xs : List AV} (h : AllV xs) : ∃ vs : List Value, xs = vs.map .v := by
  induction h with
  | nil => exact ⟨[], rfl⟩
  | one x => exact ⟨[x], rfl⟩
  | map vs => exact ⟨vs, rfl⟩
  | app _ _ h1 h2 =>
    obtain ⟨a, rfl⟩ := h1
    obtain ⟨b, rfl⟩ := h2
    exact ⟨a ++ b, by simp⟩
theorem AAtL_map_v {cx cx' : Cx} {w w' : World} : ∀ (vs us : List Value), AAtL cx w (vs.map .v) us → AAtL cx' w' (vs.map .v) us
  | [], us, h => by cases us <;> simp_all [AAtL]
  | _ :: _, [], h => by simp [AAtL] at h
  | v :: vs, u :: us, h => by
    simp only [List.map_cons, AAtL, AAt] at h ⊢
    exact ⟨h.1, AAtL_map_v vs us h.2⟩
mutual
/-- What is handed over: deep data as old data; rows may be lent. -/
inductive Pass (lend : Bool) (rest : Sto) : AV → AV → Prop where
  | v {x y : Value} : x = y → Pass lend rest (.v x) (.v y)
  | d {α : Type} {n : Bool} {sz : Nat} {enc : α → Nat → DV} {dv : α} {xs ys : List α} : xs = ys → Pass lend rest (.d n sz enc dv xs) (.d false sz enc dv ys)
  | nilD {α : Type} {sz : Nat} {enc : α → Nat → DV} {dv : α} {ys : List α} : ys = [] → Pass lend rest (.v (.slice none 0 0)) (.d false sz enc dv ys)
  | o {v v' : Value} : v = v' → Pass lend rest (.o v) (.o v')
  | row {α : Type} {v : Value} {n : Bool} {e sz : Nat} {enc : α → Nat → DV} {dv : α} {xs ys : List α} : lend = true → RRow v n e sz enc dv xs rest → xs = ys → Pass lend rest (.o v) (.d false sz enc dv ys)
  | s {α : Type} {v : Value} {n : Bool} {e sz lo hi : Nat} {enc : α → Nat → DV} {dv : α} {xs ys : List α} : lend = true → RRow v n e sz enc dv xs rest → (xs.take hi).drop lo = ys → Pass lend rest (.s v sz lo hi) (.d false sz enc dv ys)
  | boxS {α : Type} {b n c sz : Nat} {cs : List AV} {fl : Bool} {ds : List DV} {enc : α → Nat → DV} {dv : α} {xs : List α} : lend = true → RBox b cs rest → DownL cs fl ds → ds = litL sz enc xs → xs.length = n → n ≤ c → Pass lend rest (.v (.slice (some ⟨b, 0, none⟩) n c)) (.d false sz enc dv xs)
  | g {xs ys : List AV} : PassL lend rest xs ys → Pass lend rest (.g xs) (.g ys)
inductive PassL (lend : Bool) (rest : Sto) : List AV → List AV → Prop where
  | nil : PassL lend rest [] []
  | cons {x y : AV} {xs ys : List AV} : Pass lend rest x y → PassL lend rest xs ys → PassL lend rest (x :: xs) (y :: ys)
  | same {xs : List AV} : AllV xs → PassL lend rest xs xs
end

mutual
def oldA : AV → Bool
  | .d new .. => !new
  | .p new .. => !new
  | .g xs => oldL xs
  | .t xs => oldL xs
  | _ => true
def oldL : List AV → Bool
  | [] => true
  | x :: xs => oldA x && oldL xs
end
def oldR : Res → Bool
  | .box _ cs => oldL cs
  | .row _ new .. => !new
  | .mp _ new .. => !new
  | .rnd _ _ _ _ _ _ _ _ env => env.all fun e => oldA e.2.2
  | .it .. => true
def oldS : Sto → Bool
  | [] => true
  | r :: s => oldR r && oldS s
/-- A resource is handed over. -/
inductive PickP : Sto → Res → Sto → Prop where
  | box {b : Nat} {cs cs' : List AV} {s : Sto} : PassL false [] cs cs' → PickP (.box b cs :: s) (.box b cs') s
  | row {α : Type} {v : Value} {n : Bool} {e sz : Nat} {enc : α → Nat → DV} {dv : α} {xs ys : List α} {s : Sto} : xs = ys → PickP (.row v n e sz enc dv xs :: s) (.row v false e sz enc dv ys) s
  | mp {κ α : Type} {r : Nat} {n : Bool} {kk : κ → Value} {agg : Bool} {sz : Nat} {enc : α → Nat → DV} {es es' : List (κ × α)} {s : Sto} : es = es' → PickP (.mp r n kk agg sz enc es :: s) (.mp r false kk agg sz enc es') s
  | same {r : Res} {s : Sto} : oldR r = true → PickP (r :: s) r s
  | tail {x r : Res} {s s' : Sto} : PickP s r s' → PickP (x :: s) r (x :: s')
  | nilRow {α : Type} {n : Bool} {e sz : Nat} {enc : α → Nat → DV} {dv : α} {ys : List α} {s : Sto} : ys = [] → PickP s (.row (.slice none 0 0) n e sz enc dv ys) s

inductive TakeP : Sto → Sto → Sto → Prop where
  | nil (s : Sto) : TakeP s [] s
  | cons {s s1 fs rest : Sto} {r : Res} : PickP s r s1 → TakeP s1 fs rest → TakeP s (r :: fs) rest
  | all {s : Sto} : oldS s = true → TakeP s s []
  | skip {x : Res} {s fs rest : Sto} : TakeP s fs rest → TakeP (x :: s) fs (x :: rest)

theorem TakeP.perm {s fs rest : Sto} (h : TakeP s fs rest) : (blocksOf s).Perm (blocksOf fs ++ blocksOf rest) ∧ ∀ r ∈ rest, r ∈ s := by
  have pick : ∀ {s r s'}, PickP s r s' → (blocksOf s).Perm (r.blocks ++ blocksOf s') ∧ ∀ r ∈ s', r ∈ s := by
    intro s r s' h
    induction h with
    | box => exact ⟨List.Perm.refl _, fun r hr => by simp [hr]⟩
    | row => exact ⟨List.Perm.refl _, fun r hr => by simp [hr]⟩
    | mp => exact ⟨List.Perm.refl _, fun r hr => by simp [hr]⟩
    | same => exact ⟨List.Perm.refl _, fun r hr => by simp [hr]⟩
    | nilRow => exact ⟨by simp [Res.blocks, Value.ownBlock], fun r hr => hr⟩
    | tail _ ih =>
      rename_i x r s s' _
      refine ⟨?_, fun r' hr => by rcases List.mem_cons.1 hr with rfl | hr; simp; simp [ih.2 _ hr]⟩
      show (x.blocks ++ blocksOf s).Perm (r.blocks ++ (x.blocks ++ blocksOf s'))
      refine ((List.Perm.append_left x.blocks ih.1).trans ?_)
      rw [← List.append_assoc, ← List.append_assoc]
      exact List.Perm.append_right _ List.perm_append_comm
  induction h with
  | nil s => exact ⟨by simp [blocksOf], fun r hr => hr⟩
  | cons h1 _ ih =>
    obtain ⟨h2, h3⟩ := pick h1
    rename_i s s1 fs rest r _
    refine ⟨?_, fun r hr => h3 r (ih.2 r hr)⟩
    show (blocksOf s).Perm ((r.blocks ++ blocksOf fs) ++ blocksOf rest)
    rw [List.append_assoc]
    exact h2.trans (List.Perm.append_left _ ih.1)
  | all => exact ⟨by simp [blocksOf], fun r hr => by cases hr⟩
  | skip _ ih =>
    rename_i x s fs rest _
    refine ⟨?_, fun r hr => by rcases List.mem_cons.1 hr with rfl | hr; simp; simp [ih.2 _ hr]⟩
    show (x.blocks ++ blocksOf s).Perm (blocksOf fs ++ (x.blocks ++ blocksOf rest))
    refine ((List.Perm.append_left x.blocks ih.1).trans ?_)
    rw [← List.append_assoc, ← List.append_assoc]
    exact List.Perm.append_right _ List.perm_append_comm

section
variable {cx cx' : Cx} {w : World} {lend : Bool} {rest : Sto}

mutual
theorem Pass.sound (hF : ∀ n b, b < w.heap.size → cx.ok n b → cx'.ok false b) (hL : lend = true → ∀ {α : Type} {v : Value} {n : Bool} {e sz : Nat} {enc : α → Nat → DV} {dv : α} {xs : List α}, RRow v n e sz enc dv xs rest → RAt cx w (.row v n e sz enc dv xs) ∧ ∀ b ∈ v.ownBlock.toList, cx'.ok false b) (hB : lend = true → ∀ {b : Nat} {cs : List AV}, RBox b cs rest → RAt cx w (.box b cs) ∧ cx'.ok false b) :
    ∀ {z z' : AV} {u : Value}, Pass lend rest z z' → AAt cx w z u → AAt cx' w z' u
  | _, _, u, .v h, hz => by subst h; simpa [AAt] using hz
  | _, _, u, .d h, hz => by
    simp only [AAt] at hz ⊢
    subst h
    exact hz.mono (fun b hb hok => ⟨hF _ b hb hok, rfl⟩) (Nat.le_refl _)
  | _, _, u, .nilD h, hz => by
    simp only [AAt] at hz ⊢
    subst h hz
    exact .nil _ _ _ _ _
  | _, _, u, .o h, hz => by subst h; simpa [AAt] using hz
  | _, _, u, .row (v := v) (sz := sz) (enc := enc) (dv := dv) (xs := xs) hl hr h, hz => by
    simp only [AAt] at hz ⊢
    subst h
    obtain ⟨rfl, _⟩ := hz
    obtain ⟨hR, hok⟩ := hL hl hr
    exact row_data hR (fun b hb hok => hF _ b hb hok) hok
  | _, _, u, .s hl hr h, hz => by
    simp only [AAt] at hz ⊢
    subst h
    obtain ⟨A, n, c, rfl, h1, h2, h3, rfl⟩ := hz
    obtain ⟨hR, hok⟩ := hL hl hr
    exact (row_data hR (fun b hb hok => hF _ b hb hok) hok).part h1 h2 c (by omega) (Nat.le_refl _)
  | _, _, u, .boxS (b := b) (sz := sz) (enc := enc) (dv := dv) (xs := xs) hl hr hd hds hn hc, hz => by
    simp only [AAt] at hz ⊢
    subst hz hn
    obtain ⟨⟨arr, e, hg, hcs⟩, hok⟩ := hB hl hr
    refine .of_cells hok (Array.getElem?_eq_some_iff.1 hg).1 hc (fun i j hi hj => ?_)
    obtain ⟨y, h1, h2⟩ := hd.sound (m := false) hcs (fun h => by cases h) _ _ (by rw [hds]; exact litL_get (dv := dv) hi hj)
    exact ⟨y, by rw [add_none, Nat.zero_add, cell_of_heap hg]; simpa using h1, h2.mono (fun b hb hok => ⟨hF _ b hb hok, rfl⟩) (Nat.le_refl _)⟩
  | _, _, u, .g h, hz => by
    simp only [AAt] at hz ⊢
    obtain ⟨arr, h1, h2⟩ := hz
    exact ⟨arr, h1, PassL.sound hF hL hB h h2⟩
theorem PassL.sound (hF : ∀ n b, b < w.heap.size → cx.ok n b → cx'.ok false b) (hL : lend = true → ∀ {α : Type} {v : Value} {n : Bool} {e sz : Nat} {enc : α → Nat → DV} {dv : α} {xs : List α}, RRow v n e sz enc dv xs rest → RAt cx w (.row v n e sz enc dv xs) ∧ ∀ b ∈ v.ownBlock.toList, cx'.ok false b) (hB : lend = true → ∀ {b : Nat} {cs : List AV}, RBox b cs rest → RAt cx w (.box b cs) ∧ cx'.ok false b) :
    ∀ {xs ys : List AV} {us : List Value}, PassL lend rest xs ys → AAtL cx w xs us → AAtL cx' w ys us
  | _, _, us, .nil, h => by cases us <;> simp_all [AAtL]
  | _, _, [], .cons _ _, h => by simp [AAtL] at h
  | _, _, u :: us, .cons h1 h2, h => by
    simp only [AAtL] at h ⊢
    exact ⟨Pass.sound hF hL hB h1 h.1, PassL.sound hF hL hB h2 h.2⟩
  | _, _, us, .same h1, h => by
    obtain ⟨vs, rfl⟩ := h1.vals
    exact AAtL_map_v vs us h
end
end
end Go.Sx
end
