/- Rules that spare words: conditions as propositions, loops that keep slots. -/
import Derived.Test.YtnaickojmfefeaaSxNil
set_option linter.unusedSectionVars false
set_option linter.all false
namespace Go.Sx
universe u

abbrev iv (n : Int) : AV := .v (.int .i64 n)
abbrev bv (b : Bool) : AV := .v (.bool b)
abbrev DI (l : List Int) : AV := .d false 1 (encI .i64) 0 l
abbrev DB (l : List UInt8) : AV := .d false 1 encB 0 l

/-- What a condition says. -/
inductive BoolP : Bool → Prop → Prop where
  | tt : BoolP true True
  | ff : BoolP false False
  | dec (p : Prop) [Decidable p] : BoolP (decide p) p
  | and {a b : Bool} {p q : Prop} : BoolP a p → BoolP b q → BoolP (a && b) (p ∧ q)
  | or {a b : Bool} {p q : Prop} : BoolP a p → BoolP b q → BoolP (a || b) (p ∨ q)
  | not {a : Bool} {p : Prop} : BoolP a p → BoolP (!a) (¬ p)
  | var (a : Bool) : BoolP a (a = true)
theorem BoolP.iff {b : Bool} {p : Prop} (h : BoolP b p) : b = true ↔ p := by
  induction h with
  | tt => simp
  | ff => simp
  | dec p => simp
  | and _ _ h1 h2 => simp [h1, h2]
  | or _ _ h1 h2 => simp [h1, h2]
  | not _ h => simp only [Bool.not_eq_true', ← h]; simp
  | var a => exact Iff.rfl
section
variable {P : Program} {T : Tab} {N : Fm} {Q : Env → Sto → Prop}
theorem Run.condP {c : Operand} {x y : Code} {b : Bool} {p : Prop} {k : List It} {env : Env} {sto : Sto} (hc : Get env [] c (.v (.bool b))) (hb : BoolP b p) (h1 : p → Run P T N Q (.c x :: k) env sto) (h2 : ¬ p → Run P T N Q (.c y :: k) env sto) : Run P T N Q (.c (.cond c x y) :: k) env sto :=
  .cond hc (fun h => h1 (hb.iff.1 h)) (fun h => h2 (fun hp => by rw [hb.iff.2 hp] at h; cases h))
end

inductive KeepE (env : Env) : List Nat → Env → Prop where
  | nil : KeepE env [] []
  | cons {s : Nat} {z : AV} {ks : List Nat} {e : Env} : lookup s env = some ([], z) → KeepE env ks e → KeepE env (s :: ks) ((s, [], z) :: e)
/-- Resources are taken out as they are told; the others stay. -/
inductive TakeR : Sto → Sto → Sto → Prop where
  | nil (s : Sto) : TakeR s [] s
  | cons {s s1 fs rest : Sto} {r : Res} : Pick s r s1 → TakeR s1 fs rest → TakeR s (r :: fs) rest
  | all (s : Sto) : TakeR s s []

def AgainK {ι : Type u} (E : ι → Env) (S : ι → Sto) (p : ι → Prop) (m : ι → Nat) (kept : Env) (rest : Sto) (x : ι) (env : Env) (sto : Sto) : Prop :=
  ∃ x', m x' < m x ∧ p x' ∧ EnvSub env (E x' ++ kept) ∧ StoSub sto (S x' ++ rest)
theorem AgainK.mk {ι : Type u} {E : ι → Env} {S : ι → Sto} {p : ι → Prop} {m : ι → Nat} {kept : Env} {rest : Sto} {x : ι} {env : Env} {sto : Sto} (x' : ι) (h1 : m x' < m x) (h2 : p x') (h3 : EnvSub env (E x' ++ kept)) (h4 : StoSub sto (S x' ++ rest)) :
    AgainK E S p m kept rest x env sto := ⟨x', h1, h2, h3, h4⟩
theorem TakeR.sub {sto s rest : Sto} (h : TakeR sto s rest) : StoSub sto (s ++ rest) := by
  induction h with
  | nil s => exact .same _
  | cons h1 _ ih => exact .cons h1 ih
  | all s => rw [List.append_nil]; exact .same _
theorem KeepE.look {env : Env} {ks : List Nat} {e : Env} (h : KeepE env ks e) {s : Nat} {q : Path} {z : AV} (hl : lookup s e = some (q, z)) : q = [] ∧ lookup s env = some ([], z) := by
  induction h with
  | nil => simp [lookup] at hl
  | cons h1 _ ih =>
    rw [lookup_cons] at hl
    split at hl
    · rename_i e
      simp only [Option.some.injEq, Prod.mk.injEq] at hl
      obtain ⟨rfl, rfl⟩ := hl
      exact ⟨rfl, e ▸ h1⟩
    · exact ih hl
theorem lookup_append (s : Nat) : ∀ (a b : Env), lookup s (a ++ b) = (lookup s a).or (lookup s b)
  | [], b => by simp [lookup]
  | (t, q, z) :: a, b => by
    rw [List.cons_append, lookup_cons, lookup_cons]
    split
    · simp
    · exact lookup_append s a b
theorem Abs.keep {C : Ctx} {env env0 kept : Env} {ks : List Nat} {sto : Sto} {a : Act} {w : World} (hA : Abs C env sto a w) (he : EnvSub env env0) (hk : KeepE env ks kept) : Abs C (env0 ++ kept) sto a w := by
  have key : ∀ s q z, lookup s (env0 ++ kept) = some (q, z) → q = [] ∧ ∃ z', lookup s env = some ([], z') ∧ ∀ cx w u, AAt cx w z' u → AAt cx w z u := by
    intro s q z hl
    rw [lookup_append] at hl
    cases h0 : lookup s env0 with
    | none => rw [h0] at hl; obtain ⟨h1, h2⟩ := hk.look (by simpa using hl); exact ⟨h1, z, h2, fun _ _ _ h => h⟩
    | some p =>
      obtain ⟨q', z'⟩ := p
      rw [h0] at hl
      simp at hl
      obtain ⟨rfl, rfl⟩ := hl
      obtain ⟨h1, z0, h2, h3⟩ := he.sound h0
      exact ⟨h1, z0, h2, fun _ _ _ h => h3.sound h⟩
  refine ⟨hA.kept, hA.nodup, hA.src, hA.res, fun s q z hl hq => ?_, fun s q z hl hq => ?_, hA.tsize, hA.defers, hA.xlt, hA.xown⟩
  · obtain ⟨_, z', h1, h2⟩ := key s q z hl
    exact h2 _ _ _ (hA.slots s [] z' h1 trivial)
  · obtain ⟨rfl, _⟩ := key s q z hl
    exact absurd trivial hq

section
variable {P : Program} {T : Tab} (hT : TabOk P T) {N : Fm} {Q : Env → Sto → Prop}
include hT
/-- A loop that keeps the slots ks as they are. -/
theorem RunSem.loopK {ι : Type u} {body : Code} {k : List It} {env kept : Env} {sto rest : Sto} (ks : List Nat) (E : ι → Env) (S : ι → Sto) (p : ι → Prop) (m : ι → Nat) (x0 : ι) (h0 : p x0)
    (hk : KeepE env ks kept) (he : EnvSub env (E x0)) (hs : TakeR sto (S x0) rest) (hb : ∀ x, p x → Run P T N Q (.c body :: .goal (AgainK E S p m kept rest x) :: k) (E x ++ kept) (S x ++ rest)) :
    RunSem P N Q (.c (.loop body) :: k) env sto := by
  intro C a w hN hA
  have hA0 := (hA.keep he hk).sub hs.sub
  show wpR C.rnd P (Code.loop body) (postK P C Q k) a w
  refine wpR_loop_ghost (fun n a w => ∃ x, m x = n ∧ p x ∧ Abs C (E x ++ kept) (S x ++ rest) a w) (m x0) ⟨x0, rfl, h0, hA0⟩ ?_
  rintro n a w ⟨x, rfl, hp, hA⟩
  have := (hb x hp).sound hT C a w hN hA
  refine wpIn_mono this (fun e a' w' hq => ?_)
  cases e with
  | normal =>
    obtain ⟨env1, sto1, ⟨x', h1, h2, h3, h4⟩, hA1⟩ := hq
    exact ⟨m x', h1, x', rfl, h2, (hA1.sub h4).envSub h3⟩
  | exit id => exact hq
  | goto l => exact hq
  | ret => exact hq
  | panic ch => exact hq
  | outgrown => exact hq
end

theorem Abs.perm {C : Ctx} {env : Env} {s s' : Sto} {a : Act} {w : World} (h : Abs C env s a w) (hp : s.Perm s') : Abs C env s' a w := by
  have hb : (blocksOf s).Perm (blocksOf s') := hp.flatMap_right _
  have hF : ∀ n b, b < w.heap.size → (C.cx s).ok n b → (C.cx s').ok n b ∧ w.heap[b]? = w.heap[b]? := fun n b _ hok => ⟨⟨fun hm => hok.1 (hb.mem_iff.2 hm), hok.2⟩, rfl⟩
  exact ⟨h.kept, hb.nodup_iff.1 h.nodup, fun b hm => h.src b (hb.mem_iff.2 hm), fun r hr => RAt.mono hF (Nat.le_refl _) (fun _ _ => rfl) (h.res r (hp.mem_iff.2 hr)), fun t q z hl hq => AAt.mono hF (Nat.le_refl _) (h.slots t q z hl hq), h.envU, h.tsize, h.defers.sub (fun b hm => hb.mem_iff.2 hm), h.xlt, h.xown⟩
theorem RunSem.swap {P : Program} {N : Fm} {Q : Env → Sto → Prop} {k : List It} {env : Env} {s s' : Sto} (hp : s.Perm s') (h : RunSem P N Q k env s') : RunSem P N Q k env s := fun C a w hN hA => h C a w hN (hA.perm hp)
section
variable {P : Program} {T : Tab} (hT : TabOk P T) {N : Fm} {Q : Env → Sto → Prop}
include hT
/-- A call by its contract; what it hands back of memory is laid behind what was kept. -/
theorem RunSem.callS {ι : Type} {zf : ι → AV} {sf : ι → Sto} {p : ι → Prop} {all : Array Oper} {rest : List Oper} {d : Tmp} {fo : Operand} {as : Array Operand} {ts : Array TypeId} {ty : TypeId} {pos : String} {af : Array Edge} {k : List It} {env : Env} {sto stoF sto1 : Sto}
    {f : FuncId} {first captured : Array Value} {zs full args : List AV} (hs : Sat P f args stoF (Gives zf sf p)) (hd : Nat.blt d N.n = true) (hf : Get env [] fo (.v (.func (.func f) first captured))) (ha : GetL env [] as.toList zs)
    (hfull : first.toList.map .v ++ zs ++ captured.toList.map .v = full) (ht : TakeP sto stoF sto1) (hp : PassL false sto1 full args) (hnp : ∀ x, panA (zf x) = false)
    (hk : ∀ x, p x → Run P T N Q (.ops all rest :: k) ((d, [], zf x) :: env) (sto1 ++ sf x)) :
    RunSem P N Q (.ops all ({ dst := some d, op := .call { callee := .value fo, args := as, argTypes := ts }, type := ty, pos, after := af, guard := none } :: rest) :: k) env sto := by
  intro C a w hN hA
  refine wpListR_yes (by simp [Region.wanted]) ?_
  have hfv : a.eval fo = .func (.func f) first captured := hf.v hA (q := []) trivial
  have hr : (execOp a.eval { dst := some d, op := .call { callee := .value fo, args := as, argTypes := ts }, type := ty, pos, after := af, guard := none }).run P w = .ok (.enter f (first ++ as.map a.eval ++ captured)) w := by
    simp [execOp, resolve, hfv, Deferred.ofValue, invoke, hs.1]
  refine opR_of rfl hr ?_
  simp only [upR]
  have hz := ((AAtL.vals (cx := C.cx sto) (w := w) first.toList).append (ha.sound hA (q := []) trivial)).append (AAtL.vals captured.toList)
  rw [hfull] at hz
  have he : first ++ as.map a.eval ++ captured = (first.toList ++ as.toList.map a.eval ++ captured.toList).toArray := by
    apply Array.ext'
    simp
  rw [he]
  refine (hA.call ht hz hp hs (fun h => by cases h)).mono ?_
  rintro e w' ⟨z, s, ⟨x, rfl, rfl, hx⟩, hA', hzo⟩
  obtain ⟨v, rfl, hzv⟩ := hzo.inv (hnp x)
  have hA2 := (hA' _ hA).perm (List.perm_append_comm (l₁ := sf x) (l₂ := sto1))
  have hzv2 : AAt (C.cx (sto1 ++ sf x)) w' (zf x) v := by
    have hb : (blocksOf (sf x ++ sto1)).Perm (blocksOf (sto1 ++ sf x)) := List.perm_append_comm.flatMap_right _
    have hF : ∀ n b, b < w'.heap.size → (C.cx (sf x ++ sto1)).ok n b → (C.cx (sto1 ++ sf x)).ok n b ∧ w'.heap[b]? = w'.heap[b]? := fun n b _ hok => ⟨⟨fun hm => hok.1 (hb.mem_iff.2 hm), hok.2⟩, rfl⟩
    exact AAt.mono hF (Nat.le_refl _) hzv
  exact (hk x hx).sound hT C _ _ hN (hA2.put0 (by rw [hN.1]; exact Nat.le_of_ble_eq_true hd) hzv2)
end

/-- A value, and the memory as it was. -/
def isVS (v : Value) (S : Sto) : AV → Sto → Prop := Gives (ι := Unit) (fun _ => .v v) (fun _ => S) (fun _ => True)

/-! ### Calls that only look at memory -/
inductive Out1 : Sto → Res → Sto → Prop where
  | head {r : Res} {s : Sto} : Out1 (r :: s) r s
  | tail {x r : Res} {s s' : Sto} : Out1 s r s' → Out1 (x :: s) r (x :: s')
inductive Outs : Sto → Sto → Sto → Prop where
  | nil (s : Sto) : Outs s [] s
  | cons {s s1 S rest : Sto} {r : Res} : Out1 s r s1 → Outs s1 S rest → Outs s (r :: S) rest
  | all {s : Sto} : Outs s s []
  | skip {x : Res} {s S rest : Sto} : Outs s S rest → Outs (x :: s) S (x :: rest)
theorem Out1.perm {s s' : Sto} {r : Res} (h : Out1 s r s') : s.Perm (r :: s') := by
  induction h with
  | head => exact .refl _
  | tail _ ih => exact (ih.cons _).trans (.swap ..)
theorem Outs.perm {s S rest : Sto} (h : Outs s S rest) : s.Perm (rest ++ S) := by
  induction h with
  | nil s => simp
  | cons h1 _ ih => exact h1.perm.trans ((ih.cons _).trans List.perm_middle.symm)
  | all => simp
  | skip _ ih => exact ih.cons _
theorem TakeP.front {S : Sto} (h : oldS S = true) : ∀ rest : Sto, TakeP (rest ++ S) S rest
  | [] => .all h
  | _ :: rest => .skip (TakeP.front h rest)
theorem AOp.callR {P : Program} {N : Fm} {env : Env} {sto S rst : Sto} {q : Path} {d : Option Tmp} {fo : Operand} {as : Array Operand} {ts : Array TypeId} {ty : TypeId} {pos : String} {af : Array Edge} {g : Option (Nat × Bool)} {f : FuncId} {first captured : Array Value} {zs full args : List AV} {v : Value}
    (hs : Sat P f args S (isVS v S)) (hf : Get env q fo (.v (.func (.func f) first captured))) (ha : GetL env q as.toList zs) (hfull : first.toList.map .v ++ zs ++ captured.toList.map .v = full) (ho : Outs sto S rst) (hold : oldS S = true) (hp : PassL false rst full args) :
    AOp P N env sto { dst := d, op := .call { callee := .value fo, args := as, argTypes := ts }, type := ty, pos, after := af, guard := g } q (.v v) := by
  intro C a w next Q' hN hA hq hnext
  have hfv : a.eval fo = .func (.func f) first captured := hf.v hA hq
  have hr : (execOp a.eval { dst := d, op := .call { callee := .value fo, args := as, argTypes := ts }, type := ty, pos, after := af, guard := g }).run P w = .ok (.enter f (first ++ as.map a.eval ++ captured)) w := by
    simp [execOp, resolve, hfv, Deferred.ofValue, invoke, hs.1]
  refine opR_of rfl hr ?_
  simp only [upR]
  have hperm := ho.perm
  have hA2 := hA.perm hperm
  have hz := ((AAtL.vals (cx := C.cx (rst ++ S)) (w := w) first.toList).append (ha.sound hA2 hq)).append (AAtL.vals captured.toList)
  rw [hfull] at hz
  have he : first ++ as.map a.eval ++ captured = (first.toList ++ as.toList.map a.eval ++ captured.toList).toArray := by
    apply Array.ext'
    simp
  rw [he]
  refine (hA2.call (TakeP.front hold rst) hz hp hs (fun h => by cases h)).mono ?_
  rintro e w' ⟨z, s, ⟨_, rfl, rfl, _⟩, hA', hzo⟩
  obtain ⟨v, rfl, hzv⟩ := hzo.inv rfl
  have back : ∀ env', Abs C env' sto a w → Abs C env' sto a w' := fun env' h => (hA' env' (h.perm hperm)).perm (List.perm_append_comm.trans hperm.symm)
  exact hnext v w' (back _ hA) back hzv
section
variable {P : Program} {T : Tab} (hT : TabOk P T) {N : Fm} {Q : Env → Sto → Prop}
include hT
theorem RunSem.callR {all : Array Oper} {rest : List Oper} {d : Tmp} {fo : Operand} {as : Array Operand} {ts : Array TypeId} {ty : TypeId} {pos : String} {af : Array Edge} {k : List It} {env : Env} {sto S rst : Sto}
    {f : FuncId} {first captured : Array Value} {zs full args : List AV} {v : Value} (hs : Sat P f args S (isVS v S)) (hd : Nat.blt d N.n = true) (hf : Get env [] fo (.v (.func (.func f) first captured))) (ha : GetL env [] as.toList zs)
    (hfull : first.toList.map .v ++ zs ++ captured.toList.map .v = full) (ho : Outs sto S rst) (hold : oldS S = true) (hp : PassL false rst full args) (hk : Run P T N Q (.ops all rest :: k) ((d, [], .v v) :: env) sto) :
    RunSem P N Q (.ops all ({ dst := some d, op := .call { callee := .value fo, args := as, argTypes := ts }, type := ty, pos, after := af, guard := none } :: rest) :: k) env sto := by
  intro C a w hN hA
  refine wpListR_yes (by simp [Region.wanted]) ?_
  exact (AOp.callR (d := some d) (g := none) hs hf ha hfull ho hold hp) C a w _ _ hN hA trivial (fun v w' hA' _ hz => hk.sound hT C _ _ hN (hA'.put0 (by rw [hN.1]; exact Nat.le_of_ble_eq_true hd) hz))
theorem RunSem.callGR {all : Array Oper} {rest : List Oper} {d gs : Tmp} {g : Nat} {b c : Bool} {q : Path} {fo : Operand} {as : Array Operand} {ts : Array TypeId} {ty : TypeId} {pos : String} {af : Array Edge} {k : List It} {env : Env} {sto S rst : Sto}
    {f : FuncId} {first captured : Array Value} {zs full args : List AV} {v : Value} (hs : Sat P f args S (isVS v S)) (hd : Nat.blt d N.n = true) (hgs : gslot all g = some gs) (hl : lookup gs env = some (q, .v (.bool c)))
    (hf : Get env ((c, b) :: q) fo (.v (.func (.func f) first captured))) (ha : GetL env ((c, b) :: q) as.toList zs) (hfull : first.toList.map .v ++ zs ++ captured.toList.map .v = full) (ho : Outs sto S rst) (hold : oldS S = true) (hp : PassL false rst full args)
    (hk : Run P T N Q (.ops all rest :: k) ((d, (c, b) :: q, .v v) :: env) sto) :
    RunSem P N Q (.ops all ({ dst := some d, op := .call { callee := .value fo, args := as, argTypes := ts }, type := ty, pos, after := af, guard := some (g, b) } :: rest) :: k) env sto :=
  RunSem.ofAOpG hT hd hgs hl (AOp.callR hs hf ha hfull ho hold hp) hk
theorem AListSem.callR {all : Array Oper} {rest : List Oper} {d : Tmp} {fo : Operand} {as : Array Operand} {ts : Array TypeId} {ty : TypeId} {pos : String} {af : Array Edge} {K : Env → Prop} {env : Env} {sto S rst : Sto} {v : Value}
    {f : FuncId} {first captured : Array Value} {zs full args : List AV} (hs : Sat P f args S (isVS v S)) (hd : Nat.blt d N.n = true)
    (hf : Get env [] fo (.v (.func (.func f) first captured))) (ha : GetL env [] as.toList zs) (hfull : first.toList.map .v ++ zs ++ captured.toList.map .v = full) (ho : Outs sto S rst) (hold : oldS S = true) (hp : PassL false rst full args)
    (hk : AList P T N all sto K ((d, [], .v v) :: env) rest) :
    AListSem P N all sto K env ({ dst := some d, op := .call { callee := .value fo, args := as, argTypes := ts }, type := ty, pos, after := af, guard := none } :: rest) := by
  obtain ⟨E, h1, h2⟩ := hk.sound hT
  refine ⟨_, .cons rfl (Nat.le_of_ble_eq_true hd) rfl (AOp.callR hs (hf.rs fun t ht => ?_) (ha.rs fun t ht => ?_) hfull ho hold hp) h1, by simpa using h2⟩
  · refine opSlots_looks (mem_opSlots.2 ?_)
    simp [Op.operands, Call.operands, ht]
  · refine opSlots_looks (mem_opSlots.2 ?_)
    simp [Op.operands, Call.operands, ht]
theorem AListSem.callGR {all : Array Oper} {rest : List Oper} {d gs : Tmp} {g : Nat} {b c : Bool} {q : Path} {fo : Operand} {as : Array Operand} {ts : Array TypeId} {ty : TypeId} {pos : String} {af : Array Edge} {K : Env → Prop} {env : Env} {sto S rst : Sto} {v : Value}
    {f : FuncId} {first captured : Array Value} {zs full args : List AV} (hs : Sat P f args S (isVS v S)) (hd : Nat.blt d N.n = true) (hgs : gslot all g = some gs) (hl : lookup gs env = some (q, .v (.bool c)))
    (hf : Get env ((c, b) :: q) fo (.v (.func (.func f) first captured))) (ha : GetL env ((c, b) :: q) as.toList zs) (hfull : first.toList.map .v ++ zs ++ captured.toList.map .v = full) (ho : Outs sto S rst) (hold : oldS S = true) (hp : PassL false rst full args)
    (hk : AList P T N all sto K ((d, (c, b) :: q, .v v) :: env) rest) :
    AListSem P N all sto K env ({ dst := some d, op := .call { callee := .value fo, args := as, argTypes := ts }, type := ty, pos, after := af, guard := some (g, b) } :: rest) := by
  obtain ⟨E, h1, h2⟩ := hk.sound hT
  refine ⟨_, .cons rfl (Nat.le_of_ble_eq_true hd) ⟨_, _, _, hgs, hl, rfl⟩ (AOp.callR hs (hf.rs fun t ht => ?_) (ha.rs fun t ht => ?_) hfull ho hold hp) h1, by simpa using h2⟩
  · refine opSlots_looks (mem_opSlots.2 ?_)
    simp [Op.operands, Call.operands, ht]
  · refine opSlots_looks (mem_opSlots.2 ?_)
    simp [Op.operands, Call.operands, ht]
end

/-! ### A literal of numbers -/
theorem IntsL.down {k : IntKind} {zs : List AV} {xs : List Int} (h : IntsL k zs xs) : DownL zs true (litL 1 (encI k) xs) := by
  induction h with
  | nil => exact .nil
  | @cons n zs xs _ ih => exact DownL.cons (z := .v (.int k n)) (n := true) (n' := true) (d := .v (.int k n)) rfl ih
theorem IntsL.length {k : IntKind} {zs : List AV} {xs : List Int} (h : IntsL k zs xs) : zs.length = xs.length := by
  induction h with
  | nil => rfl
  | cons _ ih => simp [ih]
section
variable {P : Program} {T : Tab} (hT : TabOk P T) {N : Fm} {Q : Env → Sto → Prop}
include hT
theorem RunSem.litI {all : Array Oper} {rest : List Oper} {d : Tmp} {len : Nat} {t e m b m' b' : Nat} {z z' : List Value} {ki : IntKind} {ps : Array (Nat × Operand)} {ty : TypeId} {pos : String} {af : Array Edge} {k : List It} {env : Env} {sto : Sto}
    {zs : List (Nat × AV)} {cs : List AV} {xs : List Int} (hd : Nat.blt d N.n = true) (ht : tget t T = some ⟨.slice e, m, b, z⟩) (he : tget e T = some ⟨.int ki, 1, b', z'⟩) (hki : (ki == .i64) = true) (hsm : Nat.ble (len * 1) 16777216 = true) (hl1 : Nat.ble len 16777216 = true) (hp : GetPs env [] ps.toList zs)
    (hf : Fills 1 (zerosA z' 1 (len * 1)) zs cs) (hx : IntsL ki cs xs) (hlen : Nat.beq xs.length len = true)
    (hk : ∀ v, Run P T N Q (.ops all rest :: k) ((d, [], .o v) :: env) (.row v true e 1 (encI ki) 0 xs :: sto)) :
    RunSem P N Q (.ops all ({ dst := some d, op := .buildSlice t len ps, type := ty, pos, after := af, guard := none } :: rest) :: k) env sto :=
  RunSem.lit hT (encI ki) 0 xs hd ht rfl he hsm hl1 hp hf hx.down rfl (Nat.eq_of_beq_eq_true hlen) hk
theorem AListSem.litI {all : Array Oper} {rest : List Oper} {d : Tmp} {len : Nat} {t e m b b' : Nat} {z z' : List Value} {ki : IntKind} {ps : Array (Nat × Operand)} {ty : TypeId} {pos : String} {af : Array Edge} {K : Env → Prop} {env : Env} {sto : Sto}
    {zs : List (Nat × AV)} {cs : List AV} {xs : List Int} (hd : Nat.blt d N.n = true) (ht : tget t T = some ⟨.slice e, m, b, z⟩) (he : tget e T = some ⟨.int ki, 1, b', z'⟩) (hki : (ki == .i64) = true) (hsm : Nat.ble (len * 1) 16777216 = true) (hp : GetPs env [] ps.toList zs)
    (hf : Fills 1 (zerosA z' 1 (len * 1)) zs cs) (hx : IntsL ki cs xs) (hlen : Nat.beq xs.length len = true)
    (hk : AList P T N all sto K ((d, [], .d true 1 (encI ki) 0 xs) :: env) rest) :
    AListSem P N all sto K env ({ dst := some d, op := .buildSlice t len ps, type := ty, pos, after := af, guard := none } :: rest) :=
  AListSem.lit hT (encI ki) 0 xs hd ht rfl he hsm hp hf hx.down rfl (Nat.eq_of_beq_eq_true hlen) hk
end
end Go.Sx
