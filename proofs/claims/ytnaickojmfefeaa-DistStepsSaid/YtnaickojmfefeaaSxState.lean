/- A state as proofs speak of it: slots, and the memory that is owned; what a step keeps of it. -/
import Derived.Test.YtnaickojmfefeaaSxCore
import Derived.Test.YtnaickojmfefeaaSxWp
set_option linter.all false
namespace Go.Sx

abbrev Path := List (Bool × Bool)
abbrev Env := List (Nat × Path × AV)
def lookup (s : Nat) : Env → Option (Path × AV)
  | [] => none
  | (t, q, z) :: e => match Nat.beq s t with
    | true => some (q, z)
    | false => lookup s e
def PathHolds : Path → Prop
  | [] => True
  | (c, b) :: q => c = b ∧ PathHolds q

inductive Res : Type 1 where
  | box (b : Nat) (cs : List AV)
  | row {α : Type} (v : Value) (new : Bool) (e : TypeId) (sz : Nat) (enc : α → Nat → DV) (dv : α) (xs : List α)
  | mp {κ α : Type} (r : Nat) (new : Bool) (kk : κ → Value) (agg : Bool) (sz : Nat) (enc : α → Nat → DV) (es : List (κ × α))
  | rnd (l N : Nat) (st : LoopState) (fn : FuncId) (ps : Array Tmp) (assign body : Code) (D : Nat) (env : Env)
  | it (b : Nat) (o : Obj)

def upD (new : Bool) : DV → AV
  | .v x => .v x
  | .sl sz enc dv xs => .d new sz enc dv xs
theorem upD_at {cx : Cx} {w : World} {new : Bool} {d : DV} {u : Value} (h : DAt (cx.ok new) w d u) : AAt cx w (upD new d) u := by
  cases d with
  | v x => cases h; simp [upD, AAt]
  | sl sz enc dv xs => simpa [upD, AAt] using h
/-- An element as a value: one cell, or an aggregate of cells. -/
def valA (new agg : Bool) (sz : Nat) (f : Nat → DV) : AV :=
  match agg with
  | true => .g ((List.range sz).map fun j => upD new (f j))
  | false => upD new (f 0)

def Res.blocks : Res → List Nat
  | .box b _ => [b]
  | .row v .. => v.ownBlock.toList
  | .mp r .. => [r]
  | .rnd l .. => [l]
  | .it b _ => [b]

/-- 'v' is nil, or a slice of a block that nobody has frozen; 'vals' are its cells. -/
def RowAt (w : World) (e : TypeId) (sz : Nat) (v : Value) (vals : List Value) : Prop :=
  (v = .slice none 0 0 ∧ vals = []) ∨
  ∃ g o n cap cur, v = .slice (some ⟨g, o, none⟩) n cap ∧ w.heap[g]? = some (.cells cur e (0, 0)) ∧ n ≤ cap ∧ cap ≤ maxLen ∧ o + cap * sz ≤ cur.size ∧ vals.length = n * sz ∧ vals = (cur.toList.drop o).take (n * sz)

def MapAt {κ α : Type} (cx : Cx) (w : World) (new : Bool) (kk : κ → Value) (agg : Bool) (sz : Nat) (enc : α → Nat → DV) (es : List (κ × α)) (l : List MapEntry) : Prop :=
  l.length = es.length ∧ ∀ (i : Nat) (m : MapEntry) (p : κ × α), l[i]? = some m → es[i]? = some p → m.key = kk p.1 ∧ AAt cx w (valA new agg sz (enc p.2)) m.val

def RAt (cx : Cx) (w : World) : Res → Prop
  | .box b cs => ∃ arr e, w.heap[b]? = some (.cells arr e (0, 0)) ∧ AAtL cx w cs arr.toList
  | .row v new e sz enc dv xs => ∃ vals, RowAt w e sz v vals ∧ vals.length = xs.length * sz ∧
      (∀ A n c, v = .slice A n c → n = xs.length) ∧
      ∀ i j, i < xs.length → j < sz → ∃ y, vals[i * sz + j]? = some y ∧ DAt (cx.ok new) w (enc (xs.getD i dv) j) y
  | .mp r new kk agg sz enc es => ∃ ents clock, w.heap[r]? = some (.map ents clock) ∧ MapAt cx w new kk agg sz enc es ents.toList ∧ (∀ m ∈ ents.toList, m.born < clock) ∧ (ents.toList.map (·.born)).Nodup
  | .rnd l N st fn ps assign body D env => ∃ tmps, w.heap[l]? = some (.loop { state := st, pending := none, fn, tmps, params := ps, assign, body, defers := D }) ∧ tmps.size = N ∧
      ∀ s z, lookup s env = some ([], z) → AAt cx w z (tmps.getD s undef)
  | .it b o => w.heap[b]? = some o ∧ ∀ x, o ≠ .deferred x

theorem RAt.lt {cx : Cx} {w : World} {r : Res} (h : RAt cx w r) : ∀ b ∈ r.blocks, b < w.heap.size := by
  intro b hb
  cases r with
  | box b' cs =>
    obtain ⟨arr, e, h1, _⟩ := h
    simp only [Res.blocks, List.mem_singleton] at hb
    subst hb
    exact (Array.getElem?_eq_some_iff.1 h1).1
  | row v new e sz enc dv xs =>
    obtain ⟨vals, h1, _⟩ := h
    rcases h1 with ⟨rfl, _⟩ | ⟨g, o, n, cap, cur, rfl, hg, _⟩
    · simp [Res.blocks, Value.ownBlock] at hb
    · simp [Res.blocks, Value.ownBlock] at hb
      subst hb
      exact (Array.getElem?_eq_some_iff.1 hg).1
  | mp r new kk agg sz enc es =>
    obtain ⟨ents, clock, h1, _⟩ := h
    simp only [Res.blocks, List.mem_singleton] at hb
    subst hb
    exact (Array.getElem?_eq_some_iff.1 h1).1
  | rnd l N st fn ps assign body D env =>
    obtain ⟨tmps, h1, _⟩ := h
    simp only [Res.blocks, List.mem_singleton] at hb
    subst hb
    exact (Array.getElem?_eq_some_iff.1 h1).1
  | it b' o =>
    simp only [Res.blocks, List.mem_singleton] at hb
    subst hb
    exact (Array.getElem?_eq_some_iff.1 h.1).1

theorem RAt.mono {cx cx' : Cx} {w w' : World} {r : Res} (hF : ∀ n b, b < w.heap.size → cx.ok n b → cx'.ok n b ∧ w'.heap[b]? = w.heap[b]?) (hs : w.heap.size ≤ w'.heap.size)
    (hr : ∀ b ∈ r.blocks, w'.heap[b]? = w.heap[b]?) (h : RAt cx w r) : RAt cx' w' r := by
  cases r with
  | box b cs =>
    obtain ⟨arr, e, h1, h2⟩ := h
    exact ⟨arr, e, (hr b (by simp [Res.blocks])).trans h1, AAtL.mono hF hs h2⟩
  | row v new e sz enc dv xs =>
    obtain ⟨vals, h1, h2, h3, h4⟩ := h
    refine ⟨vals, ?_, h2, h3, fun i j hi hj => ?_⟩
    · rcases h1 with h1 | ⟨g, o, n, cap, cur, rfl, hg, rest⟩
      · exact .inl h1
      · exact .inr ⟨g, o, n, cap, cur, rfl, (hr g (by simp [Res.blocks, Value.ownBlock])).trans hg, rest⟩
    · obtain ⟨y, hy1, hy2⟩ := h4 i j hi hj
      exact ⟨y, hy1, hy2.mono (fun b => hF new b) hs⟩
  | mp r new kk agg sz enc es =>
    obtain ⟨ents, clock, h1, h2, h3, h4⟩ := h
    refine ⟨ents, clock, (hr r (by simp [Res.blocks])).trans h1, ⟨h2.1, fun i m p hm hp => ?_⟩, h3, h4⟩
    obtain ⟨k1, k2⟩ := h2.2 i m p hm hp
    exact ⟨k1, AAt.mono hF hs k2⟩
  | rnd l N st fn ps assign body D env =>
    obtain ⟨tmps, h1, h2, h3⟩ := h
    exact ⟨tmps, (hr l (by simp [Res.blocks])).trans h1, h2, fun s z hl => AAt.mono hF hs (h3 s z hl)⟩
  | it b o => exact ⟨(hr b (by simp [Res.blocks])).trans h.1, h.2⟩

abbrev Sto := List Res
def blocksOf (sto : Sto) : List Nat := sto.flatMap Res.blocks
def cxOf (B : Nat) (X : Nat → Prop) (sto : Sto) : Cx := { own := fun b => b ∈ blocksOf sto, X, B }

/-- What stays as it was since a call began: all but the blocks that were handed to it. -/
structure Kept (O : List Nat) (w w' : World) : Prop where
  os : w'.os = w.os
  tape : w'.tape = w.tape
  output : w'.output = w.output
  size : w.heap.size ≤ w'.heap.size
  block : ∀ k, k < w.heap.size → k ∉ O → w'.heap[k]? = w.heap[k]?

theorem Kept.refl (O : List Nat) (w : World) : Kept O w w := ⟨rfl, rfl, rfl, Nat.le_refl _, fun _ _ _ => rfl⟩
theorem Kept.trans {O O' : List Nat} {a b c : World} (h : Kept O a b) (k : Kept O' b c) (hO : ∀ x ∈ O', x ∈ O ∨ a.heap.size ≤ x) : Kept O a c :=
  ⟨k.os.trans h.os, k.tape.trans h.tape, k.output.trans h.output, Nat.le_trans h.size k.size, fun i hi hn =>
    (k.block i (Nat.lt_of_lt_of_le hi h.size) (fun hm => by rcases hO i hm with h' | h'; exact hn h'; omega)).trans (h.block i hi hn)⟩

/-- Where a walk stands: the world and the blocks with which the call began, the number of slots. -/
structure Ctx where
  w0 : World
  O : List Nat
  X : Nat → Prop
  N : Nat
  rnd : Option Nat

def Ctx.cx (C : Ctx) (sto : Sto) : Cx := cxOf C.w0.heap.size C.X sto

/-- How many slots; whether this is no round. -/
structure Fm where
  n : Nat
  top : Bool
def Ctx.fits (C : Ctx) (N : Fm) : Prop := C.N = N.n ∧ (N.top = true → C.rnd = none)
/-- Deferred calls: but the marks of ranges over functions. -/
def Marks (C : Ctx) (sto : Sto) (ds : List Deferred) (w : World) : Prop :=
  ds.Nodup ∧ ∀ d ∈ ds, ∃ r, d = { target := .collected r, args := #[] } ∧ C.w0.heap.size ≤ r ∧ r ∉ blocksOf sto ∧ w.heap[r]? = some (.deferred (some []))
theorem Marks.sub {C : Ctx} {s s' : Sto} {ds : List Deferred} {w : World} (h : Marks C s ds w) (hs : ∀ b ∈ blocksOf s', b ∈ blocksOf s) : Marks C s' ds w :=
  ⟨h.1, fun d hd => by obtain ⟨r, h1, h2, h3, h4⟩ := h.2 d hd; exact ⟨r, h1, h2, fun hm => h3 (hs r hm), h4⟩⟩

structure Abs (C : Ctx) (env : Env) (sto : Sto) (a : Act) (w : World) : Prop where
  kept : Kept C.O C.w0 w
  nodup : (blocksOf sto).Nodup
  src : ∀ b ∈ blocksOf sto, b ∈ C.O ∨ C.w0.heap.size ≤ b
  res : ∀ r ∈ sto, RAt (C.cx sto) w r
  slots : ∀ s q z, lookup s env = some (q, z) → PathHolds q → AAt (C.cx sto) w z (a.tmps.getD s undef)
  envU : ∀ s q z, lookup s env = some (q, z) → ¬ PathHolds q → a.tmps.getD s undef = undef
  tsize : a.tmps.size = C.N
  defers : Marks C sto a.defers w
  xlt : ∀ b, C.X b → b < C.w0.heap.size
  xown : ∀ b ∈ C.O, ¬ C.X b

theorem Abs.lt {C : Ctx} {env : Env} {sto : Sto} {a : Act} {w : World} (h : Abs C env sto a w) : ∀ b ∈ blocksOf sto, b < w.heap.size := by
  intro b hb
  obtain ⟨r, hr, hbr⟩ := List.mem_flatMap.1 hb
  exact (h.res r hr).lt b hbr

theorem lookup_cons (s t : Nat) (q : Path) (z : AV) (e : Env) : lookup s ((t, q, z) :: e) = if s = t then some (q, z) else lookup s e := by
  rw [lookup]
  cases h : Nat.beq s t with
  | true => simp [Nat.eq_of_beq_eq_true h]
  | false => simp [Nat.ne_of_beq_eq_false h]

theorem getD_set_same {xs : Array Value} {d : Nat} {v u : Value} (h : d < xs.size) : (xs.setIfInBounds d v).getD d u = v := by
  simp [h]
theorem getD_set_other {xs : Array Value} {d s : Nat} {v u : Value} (h : s ≠ d) : (xs.setIfInBounds d v).getD s u = xs.getD s u := by
  simp [Array.getElem?_setIfInBounds_ne (Ne.symm h)]

/-- A slot gets a value; the world is as it was but for draws. -/
theorem Abs.put {C : Ctx} {env : Env} {sto : Sto} {a : Act} {w : World} (h : Abs C env sto a w) {d : Nat} (hd : d < C.N) {q : Path} {z : AV} {u : Value}
    (hz : PathHolds q → AAt (C.cx sto) w z u) (hu : ¬ PathHolds q → u = undef) : Abs C ((d, q, z) :: env) sto (a.put (some d) u) w := by
  refine ⟨h.kept, h.nodup, h.src, h.res, fun s q' z' hl hq => ?_, fun s q' z' hl hq => ?_, by simp [Act.put, h.tsize], h.defers, h.xlt, h.xown⟩
  · rw [lookup_cons] at hl
    show AAt _ _ _ ((a.tmps.setIfInBounds d u).getD s undef)
    split at hl
    · rename_i e
      simp only [Option.some.injEq, Prod.mk.injEq] at hl
      obtain ⟨rfl, rfl⟩ := hl
      subst e
      rw [getD_set_same (by rw [h.tsize]; exact hd)]
      exact hz hq
    · rename_i e
      rw [getD_set_other e]
      exact h.slots s q' z' hl hq
  · rw [lookup_cons] at hl
    show (a.tmps.setIfInBounds d u).getD s undef = undef
    split at hl
    · rename_i e
      simp only [Option.some.injEq, Prod.mk.injEq] at hl
      obtain ⟨rfl, rfl⟩ := hl
      subst e
      rw [getD_set_same (by rw [h.tsize]; exact hd)]
      exact hu hq
    · rename_i e
      rw [getD_set_other e]
      exact h.envU s q' z' hl hq

theorem Abs.put0 {C : Ctx} {env : Env} {sto : Sto} {a : Act} {w : World} (h : Abs C env sto a w) {d : Nat} (hd : d < C.N) {z : AV} {u : Value}
    (hz : AAt (C.cx sto) w z u) : Abs C ((d, [], z) :: env) sto (a.put (some d) u) w := h.put hd (fun _ => hz) (fun hn => absurd trivial hn)

theorem Abs.put_none {C : Ctx} {env : Env} {sto : Sto} {a : Act} {w : World} (h : Abs C env sto a w) (u : Value) : Abs C env sto (a.put none u) w := h

/-- The world turns: blocks that are owned may turn as told; all others stay. -/
theorem Abs.step {C : Ctx} {env : Env} {sto sto' : Sto} {a : Act} {w w' : World} (h : Abs C env sto a w)
    (hk : Kept (blocksOf sto) w w') (hn : (blocksOf sto').Nodup)
    (hb : ∀ b ∈ blocksOf sto', b ∈ blocksOf sto ∨ w.heap.size ≤ b)
    (hr : ∀ r ∈ sto', RAt (C.cx sto') w' r)
    (hd : ∀ b, b < w.heap.size → b ∈ blocksOf sto' → b ∈ blocksOf sto) : Abs C env sto' a w' := by
  have hF : ∀ n b, b < w.heap.size → (C.cx sto).ok n b → (C.cx sto').ok n b ∧ w'.heap[b]? = w.heap[b]? := by
    intro n b hlt hok
    exact ⟨⟨fun hm => hok.1 (hd b hlt hm), hok.2⟩, hk.block b hlt hok.1⟩
  have hdf : Marks C sto' a.defers w' := by
    refine ⟨h.defers.1, fun d hd' => ?_⟩
    obtain ⟨r, h1, h2, h3, h4⟩ := h.defers.2 d hd'
    have hlt : r < w.heap.size := (Array.getElem?_eq_some_iff.1 h4).1
    refine ⟨r, h1, h2, fun hm => ?_, (hk.block r hlt h3).trans h4⟩
    rcases hb r hm with h' | h'
    · exact h3 h'
    · omega
  refine ⟨h.kept.trans hk (fun x hx => (h.src x hx)), hn, fun b hm => ?_, hr, fun s q z hl hq => AAt.mono hF hk.size (h.slots s q z hl hq), h.envU, h.tsize, hdf, h.xlt, h.xown⟩
  rcases hb b hm with h' | h'
  · exact h.src b h'
  · exact .inr (Nat.le_trans h.kept.size h')

theorem Abs.drew {C : Ctx} {env : Env} {sto : Sto} {a : Act} {w : World} (h : Abs C env sto a w) : Abs C env sto a w.drew := by
  refine h.step ⟨rfl, rfl, rfl, Nat.le_refl _, fun _ _ _ => rfl⟩ h.nodup (fun b hb => .inl hb) (fun r hr => ?_) (fun _ _ h => h)
  exact RAt.mono (w := w) (w' := w.drew) (fun n b _ hok => ⟨hok, rfl⟩) (Nat.le_refl _) (fun _ _ => rfl) (h.res r hr)

theorem Abs.le {C : Ctx} {env env' : Env} {sto : Sto} {a : Act} {w : World} (hA : Abs C env sto a w) (h : ∀ s q z, lookup s env' = some (q, z) → lookup s env = some (q, z)) : Abs C env' sto a w :=
  ⟨hA.kept, hA.nodup, hA.src, hA.res, fun s q z hl hq => hA.slots s q z (h s q z hl) hq, fun s q z hl hq => hA.envU s q z (h s q z hl) hq, hA.tsize, hA.defers, hA.xlt, hA.xown⟩

end Go.Sx
