/- A statement whose order Go leaves open. -/
import Derived.Test.YtnaickojmfefeaaSxLoop
import Derived.Orders
set_option linter.unusedSectionVars false
set_option linter.all false
namespace Go.Sx

def rs (ts : List Tmp) (env : Env) : Env := env.filter fun e => ts.contains e.1
theorem lookup_rs (ts : List Tmp) : ∀ (env : Env) (s : Nat), lookup s (rs ts env) = if s ∈ ts then lookup s env else none
  | [], s => by simp [rs, lookup]
  | (t, q, z) :: e, s => by
    have ih := lookup_rs ts e s
    unfold rs at ih ⊢
    rw [List.filter_cons]
    by_cases ht : t ∈ ts
    · rw [if_pos (by simpa using ht), lookup_cons, ih, lookup_cons]
      by_cases hs : s = t
      · subst hs; simp [ht]
      · simp [hs]
    · rw [if_neg (by simpa using ht), ih, lookup_cons]
      by_cases hs : s = t
      · subst hs; simp [ht]
      · simp [hs]

/-- What an operation comes to that turns nothing that is owned, whatever else has been done. -/
def AOp (P : Program) (N : Fm) (env : Env) (sto : Sto) (o : Oper) (q : Path) (z : AV) : Prop :=
  ∀ C a w (next : Act → World → Prop) (Q' : Exit → Act → World → Prop), C.fits N → Abs C env sto a w → PathHolds q →
    (∀ v w', Abs C env sto a w' → (∀ env', Abs C env' sto a w → Abs C env' sto a w') → AAt (C.cx sto) w' z v → next (a.put o.dst v) w') → opR C.rnd P o a w next Q'

inductive AFacts (P : Program) (N : Fm) (all : Array Oper) (sto : Sto) : Env → List Oper → List (Nat × Path × AV) → Prop where
  | nil (env : Env) : AFacts P N all sto env [] []
  | cons {env : Env} {o : Oper} {d : Tmp} {q : Path} {z : AV} {rest : List Oper} {E : List (Nat × Path × AV)} : o.dst = some d → d < N.n →
      (match o.guard with
        | none => q = []
        | some (g, b) => ∃ gs q0 c, gslot all g = some gs ∧ lookup gs env = some (q0, .v (.bool c)) ∧ q = (c, b) :: q0) →
      AOp P N (rs (o.looksAt all) env) sto o q z → AFacts P N all sto ((d, q, z) :: env) rest E → AFacts P N all sto env (o :: rest) ((d, q, z) :: E)

def AListSem (P : Program) (N : Fm) (all : Array Oper) (sto : Sto) (K : Env → Prop) (env : Env) (l : List Oper) : Prop := ∃ E, AFacts P N all sto env l E ∧ K (E.reverse ++ env)

inductive AList (P : Program) (T : Tab) (N : Fm) (all : Array Oper) (sto : Sto) (K : Env → Prop) : Env → List Oper → Prop where
  | nil {env : Env} : K env → AList P T N all sto K env []
  | callStop {env : Env} {rest : List Oper} {d : Option Tmp} {f : Operand} {as : Array Operand} {ts : Array TypeId} {ty : TypeId} {pos : String} {af : Array Edge} {g : Option (Nat × Bool)} :
      AListSem P N all sto K env ({ dst := d, op := .call { callee := .value f, args := as, argTypes := ts }, type := ty, pos, after := af, guard := g } :: rest) →
      AList P T N all sto K env ({ dst := d, op := .call { callee := .value f, args := as, argTypes := ts }, type := ty, pos, after := af, guard := g } :: rest)
  | sliceStop {env : Env} {rest : List Oper} {d : Option Tmp} {n : Nat} {t : TypeId} {ps : Array (Nat × Operand)} {ty : TypeId} {pos : String} {af : Array Edge} {g : Option (Nat × Bool)} :
      AListSem P N all sto K env ({ dst := d, op := .buildSlice t n ps, type := ty, pos, after := af, guard := g } :: rest) →
      AList P T N all sto K env ({ dst := d, op := .buildSlice t n ps, type := ty, pos, after := af, guard := g } :: rest)
  | quiet {env : Env} {rest : List Oper} {d : Tmp} {op : Op} {ty : TypeId} {pos : String} {af : Array Edge} {z : AV} : Nat.blt d N.n = true → Quiet T env sto [] op z → AList P T N all sto K ((d, [], z) :: env) rest →
      AList P T N all sto K env ({ dst := some d, op, type := ty, pos, after := af, guard := none } :: rest)
  | guarded {env : Env} {rest : List Oper} {d gs : Tmp} {g : Nat} {b c : Bool} {q : Path} {op : Op} {ty : TypeId} {pos : String} {af : Array Edge} {z : AV} : Nat.blt d N.n = true → gslot all g = some gs → lookup gs env = some (q, .v (.bool c)) →
      Quiet T env sto ((c, b) :: q) op z → AList P T N all sto K ((d, (c, b) :: q, z) :: env) rest →
      AList P T N all sto K env ({ dst := some d, op, type := ty, pos, after := af, guard := some (g, b) } :: rest)

/-- The slots that an operation looks at, but for its guard's. -/
def opSlots (o : Op) : List Tmp := o.operands.toList.filterMap fun | .tmp t => some t | _ => none

theorem Get.congr {env env' : Env} {q : Path} {x : Operand} {z : AV} (h : Get env q x z) (hl : ∀ t, x = .tmp t → lookup t env' = lookup t env) : Get env' q x z := by
  cases h with
  | tmp h1 h2 => exact .tmp ((hl _ rfl).trans h1) h2
  | const v => exact .const v
  | func f => exact .func f
  | global g => exact .global g
theorem GetO.congr {env env' : Env} {q : Path} {x : Option Operand} {v : Option Value} (h : GetO env q x v) (hl : ∀ t, x = Option.some (Operand.tmp t) → lookup t env' = lookup t env) : GetO env' q x v := by
  cases h with
  | none => exact .none
  | some h => exact .some (h.congr (fun t ht => hl t (by rw [ht])))
theorem GetVs.congr {env env' : Env} {q : Path} {xs : List Operand} {vs : List Value} (h : GetVs env q xs vs) (hl : ∀ t, Operand.tmp t ∈ xs → lookup t env' = lookup t env) : GetVs env' q xs vs := by
  induction h with
  | nil => exact .nil
  | cons h1 _ ih => exact .cons (h1.congr (fun t ht => hl t (by simp [ht]))) (ih (fun t ht => hl t (by simp [ht])))

theorem GetPs.congr {env env' : Env} {q : Path} {ps : List (Nat × Operand)} {zs : List (Nat × AV)} (h : GetPs env q ps zs) (hl : ∀ t, Operand.tmp t ∈ ps.map (·.2) → lookup t env' = lookup t env) : GetPs env' q ps zs := by
  induction h with
  | nil => exact .nil
  | cons h _ ih => exact .cons (h.congr (fun t ht => hl t (by simp [ht]))) (ih (fun t ht => hl t (by simp only [List.map_cons, List.mem_cons]; exact .inr ht)))
theorem mem_opSlots {o : Op} {t : Tmp} : t ∈ opSlots o ↔ Operand.tmp t ∈ o.operands.toList := by
  unfold opSlots
  rw [List.mem_filterMap]
  constructor
  · rintro ⟨x, hx, he⟩
    cases x <;> simp at he
    subst he
    exact hx
  · intro h
    exact ⟨_, h, rfl⟩

theorem Quiet.congr {T : Tab} {env env' : Env} {sto : Sto} {q : Path} {op : Op} {z : AV} (h : Quiet T env sto q op z) (hl : ∀ t ∈ opSlots op, lookup t env' = lookup t env) : Quiet T env' sto q op z := by
  have hl' : ∀ t, Operand.tmp t ∈ op.operands.toList → lookup t env' = lookup t env := fun t ht => hl t (mem_opSlots.2 ht)
  cases h with
  | move h1 => exact .move (h1.congr (fun t ht => hl' t (by simp [Op.operands, ht])))
  | assign h1 => exact .assign (h1.congr (fun t ht => hl' t (by simp [Op.operands, ht])))
  | load h1 h2 => exact .load (h1.congr (fun t ht => hl' t (by simp [Op.operands, ht]))) h2
  | fieldAddr h1 h2 h3 h4 h5 h6 => exact .fieldAddr (h1.congr (fun t ht => hl' t (by simp [Op.operands, ht]))) h2 h3 h4 h5 h6
  | indexAddr h1 h2 h3 => exact .indexAddr (h1.congr (fun t ht => hl' t (by simp [Op.operands, ht]))) (h2.congr (fun t ht => hl' t (by simp [Op.operands, ht]))) h3
  | binOp h1 h2 h3 h4 => exact .binOp (h1.congr (fun t ht => hl' t (by simp [Op.operands, ht]))) (h2.congr (fun t ht => hl' t (by simp [Op.operands, ht]))) h3 h4
  | extract h1 h2 => exact .extract (h1.congr (fun t ht => hl' t (by simp [Op.operands, ht]))) h2
  | pickOr h1 h2 => exact .pickOr (h1.congr (fun t ht => hl' t (by simp [Op.operands, ht]))) (h2.congr (fun t ht => hl' t (by simp [Op.operands, ht])))
  | pickAnd h1 h2 => exact .pickAnd (h1.congr (fun t ht => hl' t (by simp [Op.operands, ht]))) (h2.congr (fun t ht => hl' t (by simp [Op.operands, ht])))
  | build h1 h2 h3 => exact .build (h1.congr (fun t ht => hl' t (by simpa [Op.operands] using ht))) h2 h3
  | nilCheck h1 h2 => exact .nilCheck (h1.congr (fun t ht => hl' t (by simp [Op.operands, ht]))) h2
  | unOp h1 h2 => exact .unOp (h1.congr (fun t ht => hl' t (by simp [Op.operands, ht]))) h2
  | convert h1 h2 => exact .convert (h1.congr (fun t ht => hl' t (by simp [Op.operands, ht]))) h2
  | field h1 h2 h3 h4 h5 => exact .field (h1.congr (fun t ht => hl' t (by simp [Op.operands, ht]))) h2 h3 h4 h5
  | index h1 h2 h3 => exact .index (h1.congr (fun t ht => hl' t (by simp [Op.operands, ht]))) (h2.congr (fun t ht => hl' t (by simp [Op.operands, ht]))) h3
  | slice h1 h2 h3 h4 h5 =>
    exact .slice (h1.congr (fun t ht => hl' t (by simp [Op.operands, ht]))) (h2.congr (fun t ht => hl' t (by simp [Op.operands, ht]))) (h3.congr (fun t ht => hl' t (by simp [Op.operands, ht]))) (h4.congr (fun t ht => hl' t (by simp [Op.operands, ht]))) h5
  | lookMap h1 h2 h3 h4 h5 h6 h7 => exact .lookMap (h1.congr (fun t ht => hl' t (by simp [Op.operands, ht]))) (h2.congr (fun t ht => hl' t (by simp [Op.operands, ht]))) h3 h4 h5 h6 h7
  | makeFunc h1 h2 => exact .makeFunc (h1.congr (fun t ht => hl' t (by simp [Op.operands, ht]))) (h2.congr (fun t ht => hl' t (by simp [Op.operands, ht])))
  | len h1 h2 => exact .len (h1.congr (fun t ht => hl' t (by simp [Op.operands, Call.operands, ht]))) h2
  | min h1 h2 => exact .min (h1.congr (fun t ht => hl' t (by simp [Op.operands, Call.operands, ht]))) (h2.congr (fun t ht => hl' t (by simp [Op.operands, Call.operands, ht])))
  | max h1 h2 => exact .max (h1.congr (fun t ht => hl' t (by simp [Op.operands, Call.operands, ht]))) (h2.congr (fun t ht => hl' t (by simp [Op.operands, Call.operands, ht])))

theorem opSlots_looks {all : Array Oper} {o : Oper} {t : Tmp} (h : t ∈ opSlots o.op) : t ∈ o.looksAt all := by
  unfold Oper.looksAt
  exact List.mem_append_left _ h

section
variable {P : Program} {T : Tab} (hT : TabOk P T) {N : Fm}
include hT

theorem Quiet.aop {all : Array Oper} {env : Env} {sto : Sto} {q : Path} {o : Oper} {z : AV} (h : Quiet T env sto q o.op z) : AOp P N (rs (o.looksAt all) env) sto o q z := by
  intro C a w next Q' hN hA hq hnext
  have h' : Quiet T (rs (o.looksAt all) env) sto q o.op z := h.congr (fun t ht => by rw [lookup_rs, if_pos (opSlots_looks ht)])
  obtain ⟨u, hr, hz⟩ := h'.sound hT hA hq
  exact opR_of h.nd hr (hnext u w hA (fun _ h => h) hz)

theorem AList.sound {all : Array Oper} {sto : Sto} {K : Env → Prop} {env : Env} {l : List Oper} (h : AList P T N all sto K env l) : AListSem P N all sto K env l := by
  induction h with
  | nil hk => exact ⟨[], .nil _, by simpa using hk⟩
  | callStop h => exact h
  | sliceStop h => exact h
  | quiet hd hq _ ih =>
    obtain ⟨E, h1, h2⟩ := ih
    exact ⟨_, .cons rfl (Nat.le_of_ble_eq_true hd) rfl (Quiet.aop (o := { dst := some _, op := _, type := _, pos := _, after := _, guard := none }) hT hq) h1, by simpa using h2⟩
  | guarded hd hg hl hq _ ih =>
    obtain ⟨E, h1, h2⟩ := ih
    exact ⟨_, .cons rfl (Nat.le_of_ble_eq_true hd) ⟨_, _, _, hg, hl, rfl⟩ (Quiet.aop (o := { dst := some _, op := _, type := _, pos := _, after := _, guard := some _ }) hT hq) h1, by simpa using h2⟩
end

/-! ### Whatever order is drawn -/
def edgeTo (o : Oper) (j : Nat) : Bool := o.after.toList.any fun e => Region.binds .any e && e.on == j
def backward (o : Oper) (i : Nat) : Bool := o.after.toList.all fun e => !Region.binds .any e || Nat.blt e.on i
/-- The first m operations only read, and stand apart where their order is open; each later one waits for all ahead of it. -/
def drawOk (ops : Array Oper) (m : Nat) : Bool :=
  Nat.ble m ops.size && ops.toList.zipIdx.all fun x => backward x.1 x.2 && (ops.toList.take x.2).zipIdx.all fun y => edgeTo x.1 y.2 || (Nat.blt x.2 m && x.1.apart ops y.1)

abbrev Ent := Nat × Path × AV
def envD : Nat → List Ent → Array Bool → Env → Env
  | _, [], _, env => env
  | i, e :: E, listed, env => envD (i + 1) E listed (if listed.getD i false then e :: env else env)

theorem envD_append : ∀ (E1 E2 : List Ent) (i : Nat) (listed : Array Bool) (env : Env), envD i (E1 ++ E2) listed env = envD (i + E1.length) E2 listed (envD i E1 listed env)
  | [], E2, i, listed, env => by simp [envD]
  | e :: E1, E2, i, listed, env => by
    simp only [List.cons_append, envD]
    rw [envD_append E1 E2 (i + 1)]
    simp only [List.length_cons]
    congr 1
    omega
theorem envD_congr {s : Nat} : ∀ (E : List Ent) (i : Nat) (listed : Array Bool) (X Y : Env), lookup s X = lookup s Y → lookup s (envD i E listed X) = lookup s (envD i E listed Y)
  | [], i, listed, X, Y, h => by simpa [envD] using h
  | (d, q, z) :: E, i, listed, X, Y, h => by
    simp only [envD]
    refine envD_congr E (i + 1) listed _ _ ?_
    split
    · rw [lookup_cons, lookup_cons, h]
    · exact h
theorem envD_skip {s : Nat} : ∀ (E : List Ent) (i : Nat) (listed : Array Bool) (X : Env), (∀ j e, E[j]? = some e → listed.getD (i + j) false = true → e.1 ≠ s) → lookup s (envD i E listed X) = lookup s X
  | [], i, listed, X, h => by simp [envD]
  | (d, q, z) :: E, i, listed, X, h => by
    simp only [envD]
    rw [envD_skip E (i + 1) listed _ (fun j e hj hl => h (j + 1) e (by simpa using hj) (by rw [show i + (j + 1) = i + 1 + j by omega]; exact hl))]
    split
    · rename_i hl
      rw [lookup_cons, if_neg (fun e => h 0 (d, q, z) (by simp) (by simpa using hl) e.symm)]
    · rfl
theorem envD_all {s : Nat} : ∀ (E : List Ent) (i : Nat) (listed : Array Bool) (X Y : Env), lookup s X = lookup s Y → (∀ j e, E[j]? = some e → e.1 = s → listed.getD (i + j) false = true) → lookup s (envD i E listed X) = lookup s (E.reverse ++ Y)
  | [], i, listed, X, Y, h, _ => by simpa [envD] using h
  | (d, q, z) :: E, i, listed, X, Y, h, hl => by
    simp only [envD, List.reverse_cons, List.append_assoc, List.singleton_append]
    refine envD_all E (i + 1) listed _ _ ?_ (fun j e hj he => by have := hl (j + 1) e (by simpa using hj) he; rwa [show i + (j + 1) = i + 1 + j by omega] at this)
    rw [lookup_cons]
    by_cases hd : d = s
    · have hi : listed.getD i false = true := hl 0 (d, q, z) (by simp) hd
      rw [if_pos hi, lookup_cons, if_pos hd.symm, if_pos hd.symm]
    · rw [if_neg (show ¬ s = d from fun e => hd e.symm)]
      split
      · rw [lookup_cons, if_neg (show ¬ s = d from fun e => hd e.symm), h]
      · exact h
theorem envD_listed : ∀ (E : List Ent) (i : Nat) (l l' : Array Bool) (X : Env), (∀ j, j < E.length → l.getD (i + j) false = l'.getD (i + j) false) → envD i E l X = envD i E l' X
  | [], i, l, l', X, _ => by simp [envD]
  | e :: E, i, l, l', X, h => by
    simp only [envD]
    rw [show l.getD i false = l'.getD i false from h 0 (by simp)]
    exact envD_listed E (i + 1) l l' _ (fun j hj => by have := h (j + 1) (by simpa using hj); rwa [show i + (j + 1) = i + 1 + j by omega] at this)

theorem AFacts.get {P : Program} {N : Fm} {all : Array Oper} {sto : Sto} {env : Env} {l : List Oper} {E : List Ent} (h : AFacts P N all sto env l E) : l.length = E.length ∧ ∀ (k : Nat) (d : Nat) (q : Path) (z : AV), E[k]? = some (d, q, z) →
    ∃ o, l[k]? = some o ∧ o.dst = some d ∧ d < N.n ∧ (match o.guard with
        | none => q = []
        | some (g, b) => ∃ gs q0 c, gslot all g = some gs ∧ lookup gs ((E.take k).reverse ++ env) = some (q0, .v (.bool c)) ∧ q = (c, b) :: q0) ∧
      AOp P N (rs (o.looksAt all) ((E.take k).reverse ++ env)) sto o q z := by
  induction h with
  | nil env => exact ⟨rfl, fun k d q z h => by simp at h⟩
  | cons h1 h2 h3 h4 _ ih =>
    obtain ⟨ih1, ih2⟩ := ih
    refine ⟨by simp [ih1], fun k d q z hk => ?_⟩
    cases k with
    | zero =>
      simp only [List.getElem?_cons_zero, Option.some.injEq, Prod.mk.injEq] at hk
      obtain ⟨rfl, rfl, rfl⟩ := hk
      exact ⟨_, by simp, h1, h2, by simpa using h3, by simpa using h4⟩
    | succ k =>
      obtain ⟨o, g1, g2, g3, g4, g5⟩ := ih2 k d q z (by simpa using hk)
      exact ⟨o, by simpa using g1, g2, g3, by simpa using g4, by simpa using g5⟩

theorem wanted_iff {C : Ctx} {env : Env} {sto : Sto} {a : Act} {w : World} (hA : Abs C env sto a w) {all : Array Oper} {o : Oper} {g gs : Nat} {b c : Bool} {q : Path} (hg : o.guard = some (g, b)) (hgs : gslot all g = some gs)
    (hl : lookup gs env = some (q, .v (.bool c))) : Region.wanted o (yielded all a.tmps) = true ↔ PathHolds ((c, b) :: q) := by
  have hgt : yielded all a.tmps g = match a.tmps[gs]? with | some (.bool b) => some b | _ => none := by
    unfold gslot at hgs
    simp only [yielded, hgs, Option.bind_some]
    rfl
  have hget : a.tmps[gs]? = none ∨ a.tmps[gs]? = some (a.tmps.getD gs undef) := by
    cases h : a.tmps[gs]? with
    | none => exact .inl rfl
    | some v => right; simp [h]
  by_cases hqq : PathHolds q
  · have h1 : a.tmps.getD gs undef = .bool c := hA.slots gs q _ hl hqq
    rw [h1] at hget
    have hget' : a.tmps[gs]? = some (.bool c) := by
      rcases hget with h | h
      · have h2 : a.tmps.getD gs undef = undef := by simp [h]
        rw [h2] at h1
        cases h1
      · exact h
    simp only [Region.wanted, hg, hgt, hget', PathHolds, hqq, and_true, beq_iff_eq, Option.some.injEq]
  · have h1 := hA.envU gs q _ hl hqq
    rw [h1] at hget
    have : yielded all a.tmps g = none := by
      rw [hgt]
      rcases hget with h | h <;> rw [h] <;> rfl
    simp [Region.wanted, hg, this, PathHolds, hqq]

theorem getD_ft {l : Array Bool} {i : Nat} (h : i < l.size) : l.getD i false = l.getD i true := by
  simp [h]
theorem set_get {l : Array Bool} {i j : Nat} (hi : i < l.size) : (l.setIfInBounds i true).getD j false = if j = i then true else l.getD j false := by
  by_cases h : j = i
  · subst h; simp [hi]
  · rw [if_neg h]; simp [Array.getElem?_setIfInBounds_ne (Ne.symm h)]

theorem count_same {l : Array Bool} {i : Nat} (hi : i < l.size) : ∀ m, m ≤ i → ((List.range m).filter fun j => !(l.setIfInBounds i true).getD j false) = ((List.range m).filter fun j => !l.getD j false) := by
  intro m hm
  apply List.filter_congr
  intro j hj
  rw [set_get hi, if_neg (by have := List.mem_range.1 hj; omega)]
theorem count_set {l : Array Bool} {i : Nat} (hi : i < l.size) (hf : l.getD i false = false) : ∀ m, i < m → ((List.range m).filter fun j => !l.getD j false).length = ((List.range m).filter fun j => !(l.setIfInBounds i true).getD j false).length + 1 := by
  intro m
  induction m with
  | zero => intro h; omega
  | succ m ih =>
    intro him
    rw [List.range_succ, List.filter_append, List.filter_append, List.length_append, List.length_append]
    by_cases h : i = m
    · subst h
      rw [count_same hi i (Nat.le_refl _)]
      rw [List.filter_cons, List.filter_cons, set_get hi, if_pos rfl, hf]
      simp
    · rw [ih (by omega)]
      rw [List.filter_cons, List.filter_cons, set_get hi, if_neg (show ¬ m = i from fun e => h e.symm)]
      split <;> simp <;> omega

section
variable {P : Program} {N : Fm} {C : Ctx} {ops : Array Oper} {m : Nat} {env : Env} {sto : Sto} {E : List Ent} {K : Exit → Act → World → Prop}

theorem drawOk_spec (h : drawOk ops m = true) : m ≤ ops.size ∧ ∀ (i : Nat) (oi : Oper), ops[i]? = some oi → (∀ e ∈ oi.after, Region.binds .any e = true → e.on < i) ∧
    ∀ (j : Nat) (oj : Oper), j < i → ops[j]? = some oj → (∃ e ∈ oi.after, Region.binds .any e = true ∧ e.on = j) ∨ (i < m ∧ oi.apart ops oj = true) := by
  unfold drawOk at h
  rw [Bool.and_eq_true] at h
  refine ⟨Nat.le_of_ble_eq_true h.1, fun i oi hi => ?_⟩
  have h1 := List.all_eq_true.1 h.2 (oi, i) (by
    rw [List.mem_iff_getElem?]
    exact ⟨i, by simp [List.getElem?_zipIdx, hi]⟩)
  rw [Bool.and_eq_true] at h1
  refine ⟨fun e he hb => ?_, fun j oj hj hoj => ?_⟩
  · have h2 := List.all_eq_true.1 h1.1 e (by simpa using he)
    simp only [hb, Bool.not_true, Bool.false_or] at h2
    exact Nat.le_of_ble_eq_true h2
  · have h2 := List.all_eq_true.1 h1.2 (oj, j) (by
      rw [List.mem_iff_getElem?]
      exact ⟨j, by simp [List.getElem?_zipIdx, hj, hoj]⟩)
    rw [Bool.or_eq_true] at h2
    rcases h2 with h2 | h2
    · left
      obtain ⟨e, he, hb⟩ := List.any_eq_true.1 h2
      rw [Bool.and_eq_true] at hb
      exact ⟨e, by simpa using he, hb.1, by simpa using hb.2⟩
    · right
      rw [Bool.and_eq_true] at h2
      exact ⟨Nat.le_of_ble_eq_true h2.1, h2.2⟩

theorem least_ready (h : drawOk ops m = true) {listed : Array Bool} (hsz : listed.size = ops.size) {p : Nat} (hp : p < ops.size) (hl : ∀ j, j < p → listed.getD j false = true) (hpu : listed.getD p false = false) : p ∈ Region.ready .any ops listed := by
  rw [mem_ready]
  refine ⟨by rw [← getD_ft (by omega)]; exact hpu, ops[p], by simp [hp], fun e he hb => ?_⟩
  exact hl _ (((drawOk_spec h).2 p _ (by simp [hp])).1 e he hb)

/-- The tail, in the text's order. -/
theorem draw_tail {rn : Option Nat} (h : drawOk ops m = true) : ∀ (n p : Nat) (listed : Array Bool) (a : Act) (w : World), n + p = ops.size → m ≤ p → listed.size = ops.size → (∀ j, j < p → listed.getD j false = true) → (∀ j, p ≤ j → j < ops.size → listed.getD j false = false) →
    wpListR rn P ops K (ops.toList.drop p) a w → wpAnyIn (fr rn) 0 P .any ops K n listed a w
  | 0, p, listed, a, w, hn, hm, hsz, h1, h2, hw => by
    have hr : Region.ready .any ops listed = [] := by
      rw [List.eq_nil_iff_forall_not_mem]
      intro i hi
      obtain ⟨h3, o, ho, _⟩ := mem_ready.1 hi
      have hlt : i < ops.size := (Array.getElem?_eq_some_iff.1 ho).1
      rw [← getD_ft (by omega), h1 i (by omega)] at h3
      cases h3
    have hd : ops.toList.drop p = [] := List.drop_eq_nil_of_le (by simp; omega)
    rw [hd] at hw
    exact ⟨hr, hw⟩
  | n + 1, p, listed, a, w, hn, hm, hsz, h1, h2, hw => by
    have hp : p < ops.size := by omega
    have hrp := least_ready h hsz hp h1 (h2 p (Nat.le_refl _) hp)
    refine ⟨fun h0 => (by rw [h0] at hrp; cases hrp), fun i hi => ?_⟩
    obtain ⟨h3, o, ho, hall⟩ := mem_ready.1 hi
    have hlt : i < ops.size := (Array.getElem?_eq_some_iff.1 ho).1
    have hip : i = p := by
      rcases Nat.lt_trichotomy i p with hlt' | heq | hgt
      · rw [← getD_ft (by omega), h1 i hlt'] at h3
        cases h3
      · exact heq
      · rcases ((drawOk_spec h).2 i o ho).2 p ops[p] hgt (by simp) with ⟨e, he, hb, heq⟩ | ⟨hm', _⟩
        · have := hall e he hb
          rw [heq, h2 p (Nat.le_refl _) hp] at this
          cases this
        · omega
    subst hip
    have hdrop : ops.toList.drop i = o :: ops.toList.drop (i + 1) := by
      have : i < ops.toList.length := by simpa using hp
      rw [List.drop_eq_getElem_cons this]
      congr 1
      have := (Array.getElem?_eq_some_iff.1 ho).2
      simpa using this
    rw [hdrop] at hw
    have hw' : wpOpIn (fr rn) 0 P ops K i (wpListR rn P ops K (ops.toList.drop (i + 1))) a w := by
      unfold wpOpIn
      rw [ho]
      change wpListIn _ _ _ _ _ _ _ _ at hw
      unfold wpListIn at hw
      exact hw
    refine wpOpIn_mono (fun a' w' h' => ?_) hw'
    refine draw_tail h n (i + 1) _ a' w' (by omega) (by omega) (by simp [hsz]) (fun j hj => ?_) (fun j hj hj' => ?_) h'
    · rw [set_get (by omega)]
      split
      · rfl
      · exact h1 j (by omega)
    · rw [set_get (by omega), if_neg (by omega)]
      exact h2 j (by omega) hj'

/-- The head, in whatever order. -/
theorem draw_head (h : drawOk ops m = true) (hCN : C.fits N) (hf : AFacts P N ops sto env (ops.toList.take m) E)
    (hK : ∀ a w, Abs C (E.reverse ++ env) sto a w → wpListR C.rnd P ops K (ops.toList.drop m) a w) :
    ∀ (n : Nat) (listed : Array Bool) (a : Act) (w : World), n = (ops.size - m) + ((List.range m).filter fun j => !listed.getD j false).length → listed.size = ops.size → (∀ j, m ≤ j → j < ops.size → listed.getD j false = false) →
      (∀ j oj, ops[j]? = some oj → listed.getD j false = true → ∀ e ∈ oj.after, Region.binds .any e = true → listed.getD e.on false = true) →
      Abs C (envD 0 E listed env) sto a w → wpAnyIn (fr C.rnd) 0 P .any ops K n listed a w := by
  obtain ⟨hms, hspec⟩ := drawOk_spec h
  obtain ⟨hlen, hget⟩ := hf.get
  have hEl : E.length = m := by rw [← hlen]; simp; omega
  intro n
  induction n with
  | zero =>
    intro listed a w hn hsz htail hclosed hA
    have hm : ops.size = m := by omega
    have hall : ∀ j, j < m → listed.getD j false = true := by
      intro j hj
      have h0 : ((List.range m).filter fun j => !listed.getD j false) = [] := List.eq_nil_of_length_eq_zero (by omega)
      have := (List.filter_eq_nil_iff.1 h0) j (by simpa using hj)
      simpa using this
    refine draw_tail h 0 m listed a w (by omega) (Nat.le_refl _) hsz hall htail (hK a w (hA.le fun s q z hl => ?_))
    rw [envD_all E 0 listed env env rfl (fun j e hj _ => by rw [Nat.zero_add]; exact hall j (by rw [← hEl]; exact (List.getElem?_eq_some_iff.1 hj).1))]
    exact hl
  | succ n ih =>
    intro listed a w hn hsz htail hclosed hA
    by_cases hall : ∀ j, j < m → listed.getD j false = true
    · have h0 : ((List.range m).filter fun j => !listed.getD j false) = [] := by
        rw [List.filter_eq_nil_iff]
        intro j hj
        simp [hall j (by simpa using hj)]
      rw [h0] at hn
      refine draw_tail h (n + 1) m listed a w (by simp at hn; omega) (Nat.le_refl _) hsz hall htail (hK a w (hA.le fun s q z hl => ?_))
      rw [envD_all E 0 listed env env rfl (fun j e hj _ => by rw [Nat.zero_add]; exact hall j (by rw [← hEl]; exact (List.getElem?_eq_some_iff.1 hj).1))]
      exact hl
    · -- the least that has not come
      have hex : ∃ p, (p < m ∧ listed.getD p false = false) ∧ ∀ j, j < p → listed.getD j false = true := by
        have hex0 : ∃ p, p < m ∧ listed.getD p false = false := by
          apply Classical.byContradiction
          intro hc
          apply hall
          intro j hj
          cases hb : listed.getD j false with
          | true => rfl
          | false => exact absurd ⟨j, hj, hb⟩ hc
        obtain ⟨p, hp, hmin⟩ := exists_least hex0
        refine ⟨p, hp, fun j hj => ?_⟩
        cases hb : listed.getD j false with
        | true => rfl
        | false => have := hmin j ⟨by omega, hb⟩; omega
      obtain ⟨p, ⟨hpm, hpu⟩, hpl⟩ := hex
      have hrp := least_ready h hsz (by omega) hpl hpu
      refine ⟨fun h0 => (by rw [h0] at hrp; cases hrp), fun i hi => ?_⟩
      obtain ⟨h3, o, ho, hedges⟩ := mem_ready.1 hi
      have hlt : i < ops.size := (Array.getElem?_eq_some_iff.1 ho).1
      have hiu : listed.getD i false = false := by rw [getD_ft (by omega)]; exact h3
      have him : i < m := by
        rcases Nat.lt_or_ge i m with h' | h'
        · exact h'
        · exfalso
          rcases (hspec i o ho).2 p ops[p] (by omega) (by simp) with ⟨e, he, hb, heq⟩ | ⟨h1, _⟩
          · have := hedges e he hb
            rw [heq, hpu] at this
            cases this
          · omega
      have hEi : i < E.length := by omega
      obtain ⟨d, q, z, hE⟩ : ∃ d q z, E[i]? = some (d, q, z) := ⟨_, _, _, List.getElem?_eq_getElem hEi⟩
      obtain ⟨o', ho', hdst, hdN, hguard, haop⟩ := hget i d q z hE
      have hoo : o' = o := by
        rw [List.getElem?_take, if_pos him] at ho'
        have : ops.toList[i]? = some o := by simpa using ho
        rw [this] at ho'
        exact (Option.some.inj ho').symm
      subst hoo
      -- the entries of others
      have hother : ∀ (j : Nat) (e : Ent), E[j]? = some e → ∃ oj, ops[j]? = some oj ∧ oj.dst = some e.1 ∧ j < m := by
        intro j e hj
        obtain ⟨oj, h1, h2, _⟩ := hget j e.1 e.2.1 e.2.2 hj
        have hjm : j < m := by rw [← hEl]; exact (List.getElem?_eq_some_iff.1 hj).1
        rw [List.getElem?_take, if_pos hjm] at h1
        exact ⟨oj, by simpa using h1, h2, hjm⟩
      -- what stands behind it and has come does not write what it looks at, or writes
      have hlater : ∀ (j : Nat) (e : Ent), E[j]? = some e → i < j → listed.getD j false = true → e.1 ≠ d ∧ e.1 ∉ o'.looksAt ops := by
        intro j e hj hij hl
        obtain ⟨oj, h1, h2, h3⟩ := hother j e hj
        rcases (hspec j oj h1).2 i o' hij ho with ⟨e', he', hb, heq⟩ | ⟨_, hap⟩
        · have := hclosed j oj h1 hl e' he' hb
          rw [heq, hiu] at this
          cases this
        · obtain ⟨g1, g2, _⟩ := Oper.apart_spec hap
          refine ⟨fun heq => g2 _ h2 ?_, g1 _ h2⟩
          rw [hdst, heq]
      have hearlier : ∀ (j : Nat) (e : Ent), E[j]? = some e → j < i → e.1 ∈ o'.looksAt ops → listed.getD j false = true := by
        intro j e hj hji hmem
        obtain ⟨oj, h1, h2, h3⟩ := hother j e hj
        rcases (hspec i o' ho).2 j oj hji h1 with ⟨e', he', hb, heq⟩ | ⟨_, hap⟩
        · have := hedges e' he' hb
          rwa [heq] at this
        · obtain ⟨_, _, g3⟩ := Oper.apart_spec hap
          exact absurd hmem (g3 _ h2)
      have hsplit : E = E.take i ++ (d, q, z) :: E.drop (i + 1) := by
        rw [← (Option.some.inj ((List.getElem?_eq_getElem hEi).symm.trans hE)), ← List.drop_eq_getElem_cons hEi, List.take_append_drop]
      have htl : (E.take i).length = i := by simp; omega
      have hD : ∀ (l : Array Bool) (b : Bool), l.getD i false = b → envD 0 E l env = envD (i + 1) (E.drop (i + 1)) l (if b then (d, q, z) :: envD 0 (E.take i) l env else envD 0 (E.take i) l env) := by
        intro l b hb
        conv => lhs; rw [hsplit]
        rw [envD_append, htl, Nat.zero_add, envD, hb]
      have hlater' : ∀ (s : Nat), (∀ (j : Nat) (e : Ent), E[j]? = some e → i < j → listed.getD j false = true → e.1 ≠ s) → ∀ (j : Nat) (e : Ent), (E.drop (i + 1))[j]? = some e → listed.getD (i + 1 + j) false = true → e.1 ≠ s := by
        intro s hs j e hj hl
        rw [List.getElem?_drop] at hj
        exact hs (i + 1 + j) e hj (by omega) hl
      have hslots : ∀ t ∈ o'.looksAt ops, lookup t (envD 0 E listed env) = lookup t ((E.take i).reverse ++ env) := by
        intro t ht
        rw [hD listed false hiu, if_neg (by simp), envD_skip _ _ _ _ (hlater' t (fun j e hj hij hl he => (hlater j e hj hij hl).2 (he ▸ ht)))]
        refine envD_all (E.take i) 0 listed env env rfl (fun j e hj he => ?_)
        rw [List.getElem?_take] at hj
        split at hj
        · rename_i hji
          rw [Nat.zero_add]
          exact hearlier j e hj hji (he ▸ ht)
        · cases hj
      have hA0 : Abs C (rs (o'.looksAt ops) ((E.take i).reverse ++ env)) sto a w := hA.le (fun s q z hl => by
        rw [lookup_rs] at hl
        split at hl
        · rename_i hs
          rw [hslots s hs]
          exact hl
        · cases hl)
      have hset : ∀ s, lookup s (envD 0 E (listed.setIfInBounds i true) env) = lookup s ((d, q, z) :: envD 0 E listed env) := by
        intro s
        have hsame : ∀ j, j ≠ i → (listed.setIfInBounds i true).getD j false = listed.getD j false := fun j hj => by rw [set_get (by omega), if_neg hj]
        have e1 : envD 0 (E.take i) (listed.setIfInBounds i true) env = envD 0 (E.take i) listed env := envD_listed _ _ _ _ _ (fun j hj => by rw [Nat.zero_add]; exact hsame j (by omega))
        have e2 : ∀ X, envD (i + 1) (E.drop (i + 1)) (listed.setIfInBounds i true) X = envD (i + 1) (E.drop (i + 1)) listed X := fun X => envD_listed _ _ _ _ _ (fun j _ => hsame _ (by omega))
        rw [hD (listed.setIfInBounds i true) true (by rw [set_get (by omega), if_pos rfl]), hD listed false hiu, if_pos rfl, if_neg (by simp), e1, e2]
        by_cases hs : s = d
        · subst hs
          rw [envD_skip _ _ _ _ (hlater' s (fun j e hj hij hl => (hlater j e hj hij hl).1)), lookup_cons, lookup_cons, if_pos rfl, if_pos rfl]
        · rw [lookup_cons, if_neg hs]
          exact envD_congr _ _ _ _ _ (by rw [lookup_cons, if_neg hs])
      have hgo : ∀ v w', Abs C ((d, q, z) :: envD 0 E listed env) sto (a.put (some d) v) w' → wpAnyIn (fr C.rnd) 0 P .any ops K n (listed.setIfInBounds i true) (a.put (some d) v) w' := by
        intro v w' hA'
        refine ih _ _ _ ?_ (by simp [hsz]) (fun j hj hj' => ?_) (fun j oj hoj hl e he hb => ?_) (hA'.le (fun s q z hl => by rw [← hset]; exact hl))
        · have := count_set (l := listed) (i := i) (by omega) hiu m him
          omega
        · rw [set_get (by omega), if_neg (by omega)]
          exact htail j hj hj'
        · rw [set_get (by omega)] at hl ⊢
          split at hl
          · rename_i hji
            subst hji
            have hoo : oj = o' := Option.some.inj (hoj.symm.trans ho)
            subst hoo
            split
            · rfl
            · exact hedges e he hb
          · split
            · rfl
            · exact hclosed j oj hoj hl e he hb
      have hwp : PathHolds q → opR C.rnd P o' a w (wpAnyIn (fr C.rnd) 0 P .any ops K n (listed.setIfInBounds i true)) K := fun hq =>
        haop C a w _ _ hCN hA0 hq (fun v w' _ htrans hz => by
          rw [hdst]
          exact hgo v w' ((htrans _ hA).put (by rw [hCN.1]; exact hdN) (fun _ => hz) (fun hn => absurd hq hn)))
      unfold wpOpIn
      rw [ho]
      simp only
      cases hg : o'.guard with
      | none =>
        rw [hg] at hguard
        simp only at hguard
        subst hguard
        rw [if_pos (by simp [Region.wanted, hg])]
        exact hwp trivial
      | some gb =>
        obtain ⟨g, b⟩ := gb
        rw [hg] at hguard
        obtain ⟨gs, q0, c, h5, h6, rfl⟩ := hguard
        have hgsl : gs ∈ o'.looksAt ops := by
          unfold Oper.looksAt
          refine List.mem_append_right _ ?_
          rw [hg]
          unfold gslot at h5
          simp [h5]
        have hiff := wanted_iff hA hg h5 ((hslots gs hgsl).trans h6)
        by_cases hp : PathHolds ((c, b) :: q0)
        · rw [if_pos (hiff.2 hp)]
          exact hwp hp
        · rw [if_neg (fun h => hp (hiff.1 h)), hdst]
          refine ⟨fun _ _ => trivial, ?_⟩
          exact hgo undef w (hA.put (by rw [hCN.1]; exact hdN) (fun h => absurd h hp) (fun _ => rfl))


theorem RunSem.drawBy {P : Program} {T : Tab} (hT : TabOk P T) (hmix : P.follows .mixedOrders = true) {N : Fm} {Q : Env → Sto → Prop} {id : Nat} {ops : Array Oper} {k : List It} {env : Env} {sto : Sto} (m : Nat) (h : drawOk ops m = true)
    (hl : AList P T N ops sto (fun env' => Run P T N Q (.ops ops (ops.toList.drop m) :: k) env' sto) env (ops.toList.take m)) : RunSem P N Q (.c (.region id ops true) :: k) env sto := by
  intro C a w hN hA
  obtain ⟨E, hf, hK⟩ := hl.sound hT
  refine wpIn_region_any hmix ?_
  have hsz : (Array.replicate ops.size false).size = ops.size := by simp
  have hno : ∀ j, (Array.replicate ops.size false).getD j false = false := by
    intro j
    simp [Array.getElem?_replicate]
    split <;> rfl
  have hms := (drawOk_spec h).1
  have hEl : E.length = m := by rw [← hf.get.1]; simp; omega
  refine draw_head h hN hf (fun a w hA => hK.sound hT C a w hN hA) ops.size _ a _ ?_ hsz (fun j _ _ => hno j) (fun j oj _ hl => by rw [hno] at hl; cases hl) ?_
  · have : ((List.range m).filter fun j => !(Array.replicate ops.size false).getD j false) = List.range m := by
      rw [List.filter_eq_self]
      intro j _
      simp [hno j]
    rw [this]
    simp
    omega
  · refine Abs.le (hA.drew) (fun s q z hl => ?_)
    rw [envD_skip _ _ _ _ (fun j e _ hl => by rw [hno] at hl; cases hl)] at hl
    exact hl
end

end Go.Sx
