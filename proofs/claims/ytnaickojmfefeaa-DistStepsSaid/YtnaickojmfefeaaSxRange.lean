/- Function values; ranges over functions. -/
import Derived.Test.YtnaickojmfefeaaSxMore
set_option linter.unusedSectionVars false
set_option linter.all false
namespace Go.Sx

/-- A function value is called. -/
def CallV (P : Program) (fv : Value) (vs : List Value) (w : World) (R : Ending → World → Prop) : Prop :=
  match fv with
  | .func (.func f) first captured => (∀ (as : Array Value) (w : World), (callFunc f as).run P w = .ok (.enter f as) w) ∧ Calls P f (first.toList ++ vs ++ captured.toList).toArray w R
  | .func (.yield l) first captured => first = #[] ∧ captured = #[] ∧ ∃ fn tmps assign body, (Instr.yield l vs.toArray).run P w = .ok (.round l fn tmps assign body) w ∧ RoundIn (fr none) 0 P l fn tmps assign body w R
  | _ => False
theorem CallV.mono {P : Program} {fv : Value} {vs : List Value} {w : World} {R R' : Ending → World → Prop} (h : CallV P fv vs w R) (hr : ∀ e w', R e w' → R' e w') : CallV P fv vs w R' := by
  unfold CallV at h
  split at h
  · exact ⟨h.1, h.2.mono hr⟩
  · obtain ⟨e1, e2, fn, tmps, as, bd, h1, h2⟩ := h
    exact ⟨e1, e2, fn, tmps, as, bd, h1, h2.mono hr⟩
  · exact h.elim
/-- A function value's contract. -/
def SatV (P : Program) (fv : Value) (args : List AV) (sto : Sto) (R : AV → Sto → Prop) : Prop := Asks (fun vs w R => CallV P fv vs w R) args sto R
theorem SatV.of {P : Program} {f : FuncId} {first captured : Array Value} {args : List AV} {sto : Sto} {R : AV → Sto → Prop} (h : Sat P f (first.toList.map .v ++ args ++ captured.toList.map .v) sto R) : SatV P (.func (.func f) first captured) args sto R :=
  fun X w vs h1 h2 h3 h4 h5 => ⟨h.1, h.2 X w _ h1 h2 h3 h4 (((AAtL.vals first.toList).append h5).append (AAtL.vals captured.toList))⟩
theorem SatV.mono {P : Program} {fv : Value} {args : List AV} {sto : Sto} {R R' : AV → Sto → Prop} (h : SatV P fv args sto R) (hr : ∀ z s, R z s → R' z s) : SatV P fv args sto R' :=
  fun X w vs h1 h2 h3 h4 h5 => CallV.mono (h X w vs h1 h2 h3 h4 h5) fun _ _ ⟨z, s, hR, rest⟩ => ⟨z, s, hr _ _ hR, rest⟩

section
variable {P : Program} {T : Tab} (hT : TabOk P T) {N : Fm} {Q : Env → Sto → Prop}
include hT
omit hT in
theorem callV_opR {C : Ctx} {a : Act} {w : World} {all : Array Oper} {rest : List Oper} {q : Path} {d : Option Tmp} {fo : Operand} {as : Array Operand} {ts : Array TypeId} {ty : TypeId} {pos : String} {af : Array Edge} {g : Option (Nat × Bool)} {k : List It} {env : Env} {sto stoF sto1 : Sto}
    {fv : Value} {zs args : List AV} {R : AV → Sto → Prop} (hN : C.fits N) (hA : Abs C env sto a w) (hq : PathHolds q) (hs : SatV P fv args stoF R) (hf : Get env q fo (.v fv)) (ha : GetL env q as.toList zs)
    (ht : TakeP sto stoF sto1) (hp : PassL false sto1 zs args) (hnp : ∀ z s, R z s → panA z = false)
    (hk : ∀ z s v w', R z s → (∀ env', Abs C env' sto a w → Abs C env' (sto1 ++ s) a w') → AAt (C.cx (sto1 ++ s)) w' z v → wpListR C.rnd P all (postK P C Q k) rest (a.put d v) w') :
    opR C.rnd P { dst := d, op := .call { callee := .value fo, args := as, argTypes := ts }, type := ty, pos, after := af, guard := g } a w (wpListR C.rnd P all (postK P C Q k) rest) (postK P C Q k) := by
  have hfv : a.eval fo = fv := hf.v hA hq
  have hz := ha.sound hA hq
  have hc := Abs.callK (K := fun vs w R => CallV P fv vs w R) hA (fun h h' => h.mono h') ht hz hp hs (fun h => by cases h)
  have fin : ∀ (e : Ending) (w' : World), (∃ z s, R z s ∧ (∀ env', Abs C env' sto a w → Abs C env' (s ++ sto1) a w') ∧ OutA (C.cx (s ++ sto1)) w' z e) →
      ∃ v, e = .returned v ∧ wpListR C.rnd P all (postK P C Q k) rest (a.put d v) w' := by
    rintro e w' ⟨z, s, hR, hA', hzo⟩
    obtain ⟨v, rfl, hzv⟩ := hzo.inv (hnp z s hR)
    refine ⟨v, rfl, ?_⟩
    have hzv2 : AAt (C.cx (sto1 ++ s)) w' z v := by
      have hb : (blocksOf (s ++ sto1)).Perm (blocksOf (sto1 ++ s)) := List.perm_append_comm.flatMap_right _
      have hF : ∀ n b, b < w'.heap.size → (C.cx (s ++ sto1)).ok n b → (C.cx (sto1 ++ s)).ok n b ∧ w'.heap[b]? = w'.heap[b]? := fun n b _ hok => ⟨⟨fun hm => hok.1 (hb.mem_iff.2 hm), hok.2⟩, rfl⟩
      exact AAt.mono hF (Nat.le_refl _) hzv
    exact hk z s v w' hR (fun env' h => (hA' env' h).perm (List.perm_append_comm (l₁ := s) (l₂ := sto1))) hzv2
  unfold CallV at hc
  split at hc
  · rename_i f first captured
    have hr : (execOp a.eval { dst := d, op := .call { callee := .value fo, args := as, argTypes := ts }, type := ty, pos, after := af, guard := g }).run P w = .ok (.enter f (first ++ as.map a.eval ++ captured)) w := by
      simp [execOp, resolve, hfv, Deferred.ofValue, invoke, hc.1]
    refine opR_of rfl hr ?_
    simp only [upR]
    have he : first ++ as.map a.eval ++ captured = (first.toList ++ as.toList.map a.eval ++ captured.toList).toArray := by
      apply Array.ext'
      simp
    rw [he]
    refine hc.2.mono ?_
    intro e w' h
    obtain ⟨v, rfl, h'⟩ := fin e w' h
    exact h'
  · rename_i l first captured
    obtain ⟨rfl, rfl, fn, tmps, as', bd, h1, h2⟩ := hc
    have hr : (execOp a.eval { dst := d, op := .call { callee := .value fo, args := as, argTypes := ts }, type := ty, pos, after := af, guard := g }).run P w = .ok (.round l fn tmps as' bd) w := by
      have he : #[] ++ as.map a.eval ++ #[] = (as.toList.map a.eval).toArray := by
        apply Array.ext'
        simp
      simp only [Array.empty_append, Array.append_empty] at he
      simp [execOp, resolve, hfv, Deferred.ofValue, invoke]
      rw [← he] at h1
      simpa using h1
    refine opR_of rfl hr ?_
    simp only [upR]
    refine (roundIn_fr.1 h2).mono ?_
    intro e w' h
    obtain ⟨v, rfl, h'⟩ := fin e w' h
    exact h'
  · exact hc.elim
/-- A call of a function value by its contract. -/
theorem RunSem.callV {all : Array Oper} {rest : List Oper} {d : Option Tmp} {fo : Operand} {as : Array Operand} {ts : Array TypeId} {ty : TypeId} {pos : String} {af : Array Edge} {k : List It} {env : Env} {sto stoF sto1 : Sto}
    {fv : Value} {zs args : List AV} {R : AV → Sto → Prop} (hs : SatV P fv args stoF R) (hd : ∀ s, d = some s → Nat.blt s N.n = true) (hf : Get env [] fo (.v fv)) (ha : GetL env [] as.toList zs)
    (ht : TakeP sto stoF sto1) (hp : PassL false sto1 zs args) (hnp : ∀ z s, R z s → panA z = false)
    (hk : ∀ z s, R z s → Run P T N Q (.ops all rest :: k) (match d with | some d => (d, [], z) :: env | none => env) (sto1 ++ s)) :
    RunSem P N Q (.ops all ({ dst := d, op := .call { callee := .value fo, args := as, argTypes := ts }, type := ty, pos, after := af, guard := none } :: rest) :: k) env sto := by
  intro C a w hN hA
  refine wpListR_yes (by simp [Region.wanted]) ?_
  refine callV_opR (q := []) hN hA trivial hs hf ha ht hp hnp (fun z s v w' hR hA' hz => ?_)
  cases d with
  | none => exact (hk z s hR).sound hT C _ _ hN (hA' _ hA)
  | some d => exact (hk z s hR).sound hT C _ _ hN ((hA' _ hA).put0 (by rw [hN.1]; exact Nat.le_of_ble_eq_true (hd d rfl)) hz)
/-- A guarded one. -/
theorem RunSem.callVG {all : Array Oper} {rest : List Oper} {d gs : Tmp} {g : Nat} {b c : Bool} {q : Path} {fo : Operand} {as : Array Operand} {ts : Array TypeId} {ty : TypeId} {pos : String} {af : Array Edge} {k : List It} {env : Env} {sto stoF sto1 : Sto}
    {fv : Value} {zs args : List AV} {R : AV → Sto → Prop} (hgs : gslot all g = some gs) (hl : lookup gs env = some (q, .v (.bool c))) (hs : PathHolds ((c, b) :: q) → SatV P fv args stoF R) (hd : Nat.blt d N.n = true) (hf : Get env ((c, b) :: q) fo (.v fv)) (ha : GetL env ((c, b) :: q) as.toList zs)
    (ht : TakeP sto stoF sto1) (hp : PassL false sto1 zs args) (hnp : ∀ z s, R z s → panA z = false)
    (hk : ∀ z s, PathHolds ((c, b) :: q) → R z s → Run P T N Q (.ops all rest :: k) ((d, (c, b) :: q, z) :: env) (sto1 ++ s))
    (hn : ¬ PathHolds ((c, b) :: q) → Run P T N Q (.ops all rest :: k) ((d, (c, b) :: q, .v (.bool true)) :: env) sto) :
    RunSem P N Q (.ops all ({ dst := some d, op := .call { callee := .value fo, args := as, argTypes := ts }, type := ty, pos, after := af, guard := some (g, b) } :: rest) :: k) env sto := by
  intro C a w hN hA
  have hdlt : d < C.N := by rw [hN.1]; exact Nat.le_of_ble_eq_true hd
  have hiff := wanted_iff (o := { dst := some d, op := .call { callee := .value fo, args := as, argTypes := ts }, type := ty, pos, after := af, guard := some (g, b) }) hA rfl hgs hl
  by_cases hh : PathHolds ((c, b) :: q)
  · refine wpListR_yes (hiff.2 hh) ?_
    exact callV_opR (q := (c, b) :: q) hN hA hh (hs hh) hf ha ht hp hnp (fun z s v w' hR hA' hz => (hk z s hh hR).sound hT C _ _ hN ((hA' _ hA).put hdlt (fun _ => hz) (fun h => absurd hh h)))
  · refine wpListR_no (fun h => hh (hiff.1 h)) ?_
    exact (hn hh).sound hT C _ _ hN (hA.put hdlt (fun h => absurd h hh) (fun _ => rfl))
end

/-- What an iterator does: it hands each of xs to yield, one behind the other, while yield says true (it always does). -/
def Iter (P : Program) (gf : FuncId) (lb : Array Value) (SI : Sto) {α : Type} (ea : α → List AV) (xs : List α) : Prop :=
  ∀ (fv : Value) (J : List α → Sto → Prop) (S0 : Sto), (∀ pre S, J pre S → oldS S = true) → J [] S0 →
    (∀ pre x S, (∃ r, xs = pre ++ x :: r) → J pre S → SatV P fv (ea x) S (fun z s => z = .v (.bool true) ∧ J (pre ++ [x]) s)) →
    Sat P gf (.v fv :: lb.toList.map .v) (SI ++ S0) (fun z s => z = .t [] ∧ ∃ S, J xs S ∧ s = SI ++ S)

theorem KeepE.mem {env : Env} {ks : List Nat} {e : Env} (h : KeepE env ks e) {s : Nat} {q : Path} {z : AV} (hl : lookup s e = some (q, z)) : s ∈ ks := by
  induction h with
  | nil => simp [lookup] at hl
  | cons h1 _ ih =>
    rw [lookup_cons] at hl
    split at hl
    · rename_i e; simp [e]
    · simp [ih hl]
/-- A round's parameters. -/
def parEnv : List Tmp → List AV → Env
  | t :: ts, z :: zs => (t, [], z) :: parEnv ts zs
  | _, _ => []
theorem parEnv_lookup {cx : Cx} {w : World} : ∀ (ts : List Tmp) (zs : List AV) (vs : List Value) (tmps : Array Value), AAtL cx w zs vs → ts.Nodup → ts.length = zs.length → (∀ t ∈ ts, t < tmps.size) → ∀ s q z, lookup s (parEnv ts zs) = some (q, z) →
    q = [] ∧ AAt cx w z (((ts.zip vs).foldl (fun t (p, v) => t.setIfInBounds p v) tmps).getD s undef)
  | [], zs, vs, tmps, h, hn, hl, hb, s, q, z, hlk => by simp [parEnv, lookup] at hlk
  | t :: ts, [], vs, tmps, h, hn, hl, hb, s, q, z, hlk => by simp [parEnv, lookup] at hlk
  | t :: ts, z0 :: zs, [], tmps, h, hn, hl, hb, s, q, z, hlk => by simp [AAtL] at h
  | t :: ts, z0 :: zs, v :: vs, tmps, h, hn, hl, hb, s, q, z, hlk => by
    simp only [AAtL] at h
    have hn' := List.nodup_cons.1 hn
    rw [parEnv, lookup_cons] at hlk
    simp only [List.zip_cons_cons, List.foldl_cons]
    have other : ∀ (ts : List Tmp) (vs : List Value) (tmps : Array Value), s ∉ ts → ((ts.zip vs).foldl (fun t (p, v) => t.setIfInBounds p v) tmps).getD s undef = tmps.getD s undef := by
      intro ts
      induction ts with
      | nil => intro vs tmps _; simp
      | cons t ts ih =>
        intro vs tmps hs
        cases vs with
        | nil => simp
        | cons v vs =>
          simp only [List.zip_cons_cons, List.foldl_cons]
          rw [ih vs _ (fun h => hs (by simp [h])), getD_set_other (fun e => hs (by simp [e]))]
    split at hlk
    · rename_i e
      simp only [Option.some.injEq, Prod.mk.injEq] at hlk
      obtain ⟨rfl, rfl⟩ := hlk
      subst e
      refine ⟨rfl, ?_⟩
      rw [other ts vs _ hn'.1, getD_set_same (hb s (by simp))]
      exact h.1
    · exact parEnv_lookup ts zs vs _ h.2 hn'.2 (by simpa using hl) (fun t ht => by simp; exact hb t (by simp [ht])) s q z hlk
theorem par_size (ts : List Tmp) : ∀ (vs : List Value) (tmps : Array Value), ((ts.zip vs).foldl (fun t (p, v) => t.setIfInBounds p v) tmps).size = tmps.size := by
  induction ts with
  | nil => intro vs tmps; simp
  | cons t ts ih =>
    intro vs tmps
    cases vs with
    | nil => simp
    | cons v vs => simp only [List.zip_cons_cons, List.foldl_cons]; rw [ih]; simp
theorem par_other (ts : List Tmp) {s : Nat} (hs : s ∉ ts) : ∀ (vs : List Value) (tmps : Array Value), ((ts.zip vs).foldl (fun t (p, v) => t.setIfInBounds p v) tmps).getD s undef = tmps.getD s undef := by
  induction ts with
  | nil => intro vs tmps; simp
  | cons t ts ih =>
    intro vs tmps
    cases vs with
    | nil => simp
    | cons v vs =>
      simp only [List.zip_cons_cons, List.foldl_cons]
      rw [ih (fun h => hs (by simp [h])), getD_set_other (fun e => hs (by simp [e]))]

/-- A block that nobody owned, that is no data, turns. -/
theorem Abs.turnFree {C : Ctx} {env : Env} {sto : Sto} {a : Act} {w w' : World} (h : Abs C env sto a w) {l : Nat} (ho : w'.os = w.os) (ht : w'.tape = w.tape) (hu : w'.output = w.output) (hs : w'.heap.size = w.heap.size) (hb : ∀ b, b ≠ l → w'.heap[b]? = w.heap[b]?)
    (hl : C.w0.heap.size ≤ l) (hn : l ∉ blocksOf sto) (hc : ∃ rec, w.heap[l]? = some (.loop rec)) : Abs C env sto a w' := by
  obtain ⟨rec, hrec⟩ := hc
  have hcell : ∀ ad v, w.cell? ad = some v → w'.cell? ad = some v := by
    intro ad v hv
    by_cases hbl : ad.block = l
    · unfold World.cell? at hv
      rw [hbl, hrec] at hv
      cases hv
    · rw [← hv]; exact World.cell?_of_block (hb _ hbl)
  refine ⟨⟨ho.trans h.kept.os, ht.trans h.kept.tape, hu.trans h.kept.output, by rw [hs]; exact h.kept.size, fun k hk hkn => (hb k (by omega)).trans (h.kept.block k hk hkn)⟩, h.nodup, h.src, fun r hr => ?_, fun s' q z hl hq => ?_, h.envU, h.tsize, ⟨h.defers.1, fun d hd => ?_⟩, h.xlt, h.xown⟩
  · exact RAt.monoC (fun _ _ h => h) hcell (by rw [hs]; exact Nat.le_refl _) (fun b hbr => hb b (fun e => hn (e ▸ List.mem_flatMap.2 ⟨r, hr, hbr⟩))) (h.res r hr)
  · exact AAt.monoC (fun _ _ h => h) hcell (by rw [hs]; exact Nat.le_refl _) (h.slots s' q z hl hq)
  · obtain ⟨r, h1, h2, h3, h4⟩ := h.defers.2 d hd
    refine ⟨r, h1, h2, h3, (hb r (fun e => ?_)).trans h4⟩
    rw [e, hrec] at h4
    cases h4

theorem runEnter (P : Program) (w : World) (fn : FuncId) (tmps : Array Value) (ps : Array Tmp) (assign body : Code) :
    (Instr.enterLoop fn tmps ps assign body none).run P w =
      .ok (w.heap.size + 1, [{ target := .collected w.heap.size, args := #[] }])
        ((w.alloc (.deferred (some []))).alloc (.loop { state := .ready, pending := none, fn, tmps, params := ps, assign, body, defers := w.heap.size })) := run_enterLoop_outer ..

section
variable {P : Program} {T : Tab} (hT : TabOk P T) {N : Nat} {Q : Env → Sto → Prop}
include hT
/-- **A range over a function**, outside of rounds. -/
theorem RunSem.range {α ι : Type} {f : Operand} {ps : Array Tmp} {assign body : Code} {k : List It} {env kept : Env} {sto rest : Sto} {gf : FuncId} {lb : Array Value} {SI : Sto} {ea : α → List AV} {xs : List α}
    (hit : Iter P gf lb SI ea xs) (ks : List Nat) (Sb : ι → Sto) (p : List α → ι → Prop) (y0 : ι) (h0 : p [] y0) (hg : Get env [] f (.v (.func (.func gf) #[] lb))) (hkept : KeepE env ks kept) (hko : (kept.all fun e => oldA e.2.2) = true)
    (hs : TakeR sto (SI ++ Sb y0) rest) (hold : ∀ y, oldS (Sb y) = true) (holdI : oldS SI = true) (hps : ps.toList.Nodup) (hpl : ∀ t ∈ ps.toList, t < N) (hea : ∀ x, (ea x).length = ps.size) (hdis : ∀ t ∈ ps.toList, t ∉ ks)
    (hbody : ∀ pre x y l fn D, (∃ r, xs = pre ++ x :: r) → p pre y →
      Run P T ⟨N, false⟩ (fun _ _ => False) [.c assign, .beg l, .c body, .goal (fun _ s => ∃ y', p (pre ++ [x]) y' ∧ StoSub s (.rnd l N .busy fn ps assign body D kept :: Sb y'))] (parEnv ps.toList (ea x) ++ kept) (.rnd l N .ready fn ps assign body D kept :: Sb y))
    (hk : ∀ y, p xs y → Run P T ⟨N, true⟩ Q k env (SI ++ Sb y ++ rest)) : RunSem P ⟨N, true⟩ Q (.c (.rangeFunc f ps assign body) :: k) env sto := by
  intro C a w hN hA
  have hrnd := hN.2 rfl
  have hNN : C.N = N := hN.1
  have hA1 := hA.sub hs.sub
  show wpR C.rnd P (.rangeFunc f ps assign body) (postK P C Q k) a w
  refine wpIn_rangeFunc (fun fn _ => ?_)
  have hround : (fr C.rnd).round = none := hrnd
  rw [hround]
  -- the record is laid
  let rec0 : LoopState → Loop := fun st => { state := st, pending := none, fn, tmps := a.tmps, params := ps, assign, body, defers := w.heap.size }
  let w1 := (w.alloc (.deferred (some []))).alloc (.loop (rec0 .ready))
  have hsz1 : w1.heap.size = w.heap.size + 2 := by simp [w1]
  have hL1 : w1.heap[w.heap.size + 1]? = some (.loop (rec0 .ready)) := by
    have := World.alloc_heap_new (w.alloc (.deferred (some []))) (.loop (rec0 .ready))
    rwa [World.size_alloc] at this
  have hK1 : w1.heap[w.heap.size]? = some (.deferred (some [])) := by
    have h1 := World.alloc_heap_new w (.deferred (some []))
    rw [← h1]
    exact heapOld _ _ _ (by simp)
  have hold1 : ∀ b, b < w.heap.size → w1.heap[b]? = w.heap[b]? := fun b hb => (heapOld _ _ _ (by simp; omega)).trans (heapOld _ _ _ hb)
  have hkept1 : Kept [] w w1 := ⟨rfl, rfl, rfl, by omega, fun b hb _ => hold1 b hb⟩
  let a1 : Act := { a with defers := [({ target := .collected w.heap.size, args := #[] } : Deferred)] ++ a.defers }
  have hgrow := hA1.grow hkept1
  have hnotin : w.heap.size + 1 ∉ blocksOf (SI ++ Sb y0 ++ rest) := fun h => by have := hA1.lt _ h; omega
  have hA2 : Abs C env (.rnd (w.heap.size + 1) N .ready fn ps assign body w.heap.size kept :: (SI ++ Sb y0 ++ rest)) a1 w1 := by
    have hk0 := hA1.kept.size
    have hcx : ∀ n b, b < w.heap.size → (C.cx (SI ++ Sb y0 ++ rest)).ok n b → (C.cx (.rnd (w.heap.size + 1) N .ready fn ps assign body w.heap.size kept :: (SI ++ Sb y0 ++ rest))).ok n b ∧ w1.heap[b]? = w.heap[b]? := fun n b hb hok =>
      ⟨⟨fun hm => by
        rcases List.mem_append.1 (show b ∈ [w.heap.size + 1] ++ blocksOf (SI ++ Sb y0 ++ rest) from hm) with h | h
        · simp at h; omega
        · exact hok.1 h, hok.2⟩, hold1 b hb⟩
    refine ⟨hgrow.kept, ?_, ?_, ?_, fun s q z hl hq => AAt.mono hcx (by omega) (hA1.slots s q z hl hq), hA1.envU, hA1.tsize, ⟨?_, ?_⟩, hA1.xlt, hA1.xown⟩
    · exact List.nodup_append.2 ⟨by simp [Res.blocks], hA1.nodup, fun x hx y hy e => by simp [Res.blocks] at hx; subst hx; subst e; exact hnotin hy⟩
    · intro b hb
      rcases List.mem_append.1 (show b ∈ [w.heap.size + 1] ++ blocksOf (SI ++ Sb y0 ++ rest) from hb) with h | h
      · simp at h; right; omega
      · exact hA1.src b h
    · intro r hr
      rcases List.mem_cons.1 hr with rfl | hr
      · refine ⟨a.tmps, hL1, hA1.tsize.trans hNN, fun s z hl => ?_⟩
        obtain ⟨_, hl'⟩ := hkept.look hl
        exact AAt.mono hcx (by omega) (hA1.slots s [] z hl' trivial)
      · exact RAt.mono hcx (by omega) (fun b hb => hold1 b ((hA1.res r hr).lt b hb)) (hA1.res r hr)
    · refine List.nodup_cons.2 ⟨fun hd => ?_, hA1.defers.1⟩
      obtain ⟨r, h1, _, _, h4⟩ := hA1.defers.2 _ hd
      simp only [Deferred.mk.injEq, Target.collected.injEq, and_true] at h1
      subst h1
      have := (Array.getElem?_eq_some_iff.1 h4).1
      omega
    · intro d hd
      rcases List.mem_cons.1 hd with rfl | hd
      · refine ⟨w.heap.size, rfl, hk0, fun hm => ?_, hK1⟩
        rcases List.mem_append.1 (show w.heap.size ∈ [w.heap.size + 1] ++ blocksOf (SI ++ Sb y0 ++ rest) from hm) with h | h
        · simp at h
        · have := hA1.lt _ h; omega
      · obtain ⟨r, h1, h2, h3, h4⟩ := hA1.defers.2 d hd
        have hlt := (Array.getElem?_eq_some_iff.1 h4).1
        refine ⟨r, h1, h2, fun hm => ?_, (hold1 r hlt).trans h4⟩
        rcases List.mem_append.1 (show r ∈ [w.heap.size + 1] ++ blocksOf (SI ++ Sb y0 ++ rest) from hm) with h | h
        · simp at h; omega
        · exact h3 h
  -- the iterator's contract
  let R : List α → Sto → Prop := fun pre S => ∃ y, p pre y ∧ S = .rnd (w.heap.size + 1) N .ready fn ps assign body w.heap.size kept :: Sb y
  have hRold : ∀ pre S, R pre S → oldS S = true := by
    rintro pre S ⟨y, _, rfl⟩
    simp only [oldS, oldR, hko, hold y, Bool.and_self]
  have hyield : ∀ pre x S, (∃ r, xs = pre ++ x :: r) → R pre S → SatV P (.func (.yield (w.heap.size + 1)) #[] #[]) (ea x) S (fun z s => z = .v (.bool true) ∧ R (pre ++ [x]) s) := by
    rintro pre x S hpre ⟨y, hp, rfl⟩
    intro X W vs hX1 hX2 hnd hres hargs
    obtain ⟨tmps, k1, k2, k3⟩ := hres _ (List.mem_cons_self ..)
    have hlen : vs.toArray.size = ps.size := by rw [List.size_toArray, ← hargs.length]; exact hea x
    refine ⟨rfl, rfl, fn, _, assign, body, run_yield k1 hlen, ?_⟩
    let C' : Ctx := { w0 := W, O := blocksOf (.rnd (w.heap.size + 1) N .ready fn ps assign body w.heap.size kept :: Sb y), X, N, rnd := some (w.heap.size + 1) }
    let tm := (ps.zip vs.toArray).foldl (fun tmps (t, a) => tmps.setIfInBounds t a) tmps
    have htm : tm = (ps.toList.zip vs).foldl (fun t (p, v) => t.setIfInBounds p v) tmps := by
      simp only [tm]
      rw [← Array.foldl_toList]
      congr 1
      simp
    have hA' : Abs C' (parEnv ps.toList (ea x) ++ kept) (.rnd (w.heap.size + 1) N .ready fn ps assign body w.heap.size kept :: Sb y) { tmps := tm, defers := [] } W := by
      have key : ∀ s q z, lookup s (parEnv ps.toList (ea x) ++ kept) = some (q, z) → q = [] ∧ AAt (C'.cx (.rnd (w.heap.size + 1) N .ready fn ps assign body w.heap.size kept :: Sb y)) W z (tm.getD s undef) := by
        intro s q z hl
        rw [lookup_append] at hl
        cases hpe : lookup s (parEnv ps.toList (ea x)) with
        | some qz =>
          obtain ⟨q', z'⟩ := qz
          rw [hpe] at hl
          simp at hl
          obtain ⟨rfl, rfl⟩ := hl
          rw [htm]
          exact parEnv_lookup ps.toList (ea x) vs tmps hargs hps (by rw [hea x]; simp) (fun t ht => by rw [k2]; exact hpl t ht) s q' z' hpe
        | none =>
          rw [hpe] at hl
          simp at hl
          obtain ⟨rfl, hl'⟩ := hkept.look hl
          have hsk : s ∈ ks := hkept.mem hl
          have hsn : s ∉ ps.toList := fun h => hdis s h hsk
          rw [htm, par_other ps.toList hsn vs tmps]
          exact ⟨rfl, k3 s z hl⟩
      refine ⟨Kept.refl _ _, hnd, fun b hb => .inl hb, hres, fun s q z hl hq => (key s q z hl).2, fun s q z hl hq => ?_, ?_, ⟨List.nodup_nil, fun d hd => by cases hd⟩, hX1, hX2⟩
      · obtain ⟨rfl, _⟩ := key s q z hl
        exact absurd trivial hq
      · show tm.size = N
        rw [htm, par_size, k2]
    have hrun := (hbody pre x y (w.heap.size + 1) fn w.heap.size hpre hp).sound hT C' _ W ⟨rfl, fun h => by cases h⟩ hA'
    refine roundIn_of_wpIn (F := fr none) (n := 0) trivial ?_
    refine wpIn_mono (show wpR (some (w.heap.size + 1)) P assign (postK P C' (fun _ _ => False) [.beg (w.heap.size + 1), .c body, .goal _]) _ W from hrun) (fun e a2 w2 hq => ?_)
    cases e with
    | normal =>
      obtain ⟨w3, hb, hq⟩ := hq
      refine ⟨w3, hb, ?_⟩
      refine wpIn_mono (show wpR (some (w.heap.size + 1)) P body (postK P C' (fun _ _ => False) [.goal _]) a2 w3 from hq) (fun e a3 w4 hq => ?_)
      cases e with
      | normal =>
        obtain ⟨env4, sto4, ⟨y', hp', hsub⟩, hA4⟩ := hq
        have hA5 := hA4.sub hsub
        obtain ⟨tm5, j1, j2, j3⟩ := hA5.res _ (List.mem_cons_self ..)
        refine ⟨_, _, run_endRound none j1, ?_⟩
        have hn5 := hA5.nodup
        have hA6 : Abs C' env4 (.rnd (w.heap.size + 1) N .ready fn ps assign body w.heap.size kept :: Sb y') a3 _ := hA5.turnRnd (List.mem_cons_self ..) (st' := .ready) (sto' := .rnd (w.heap.size + 1) N .ready fn ps assign body w.heap.size kept :: Sb y') (fun r hr => by
          rcases List.mem_cons.1 hr with rfl | hr
          · exact .inl rfl
          · refine .inr ⟨by simp [hr], fun hl => ?_⟩
            exact (List.nodup_append.1 (show ([w.heap.size + 1] ++ blocksOf (Sb y')).Nodup from hn5)).2.2 _ (by simp) _ (List.mem_flatMap.2 ⟨r, hr, hl⟩) rfl) hn5 (fun b hb => hb) j1
        exact ⟨_, _, ⟨rfl, y', hp', rfl⟩, hA6.kept, hA6.nodup, hA6.src, hA6.res, OutA.ret rfl⟩
      | ret => obtain ⟨_, _, h, _⟩ := hq; exact h.elim
      | exit id => exact hq.elim
      | goto l => exact hq.elim
      | panic ch => obtain ⟨_, _, _, h, _⟩ := hq; exact h.elim
      | outgrown => exact hq.elim
    | ret => obtain ⟨_, _, h, _⟩ := hq; exact h.elim
    | exit id => exact hq.elim
    | goto l => exact hq.elim
    | panic ch => obtain ⟨_, _, _, h, _⟩ := hq; exact h.elim
    | outgrown => exact hq.elim
  have hsat := hit (.func (.yield (w.heap.size + 1)) #[] #[]) R _ hRold ⟨y0, h0, rfl⟩ hyield
  have hgv : a.eval f = .func (.func gf) #[] lb := hg.v hA (q := []) trivial
  refine ⟨w.heap.size + 1, [{ target := .collected w.heap.size, args := #[] }], w1, { target := .fn (.func gf) lb, args := #[.func (.yield (w.heap.size + 1)) #[] #[]] }, w1, gf, #[.func (.yield (w.heap.size + 1)) #[] #[]] ++ lb, w1, runEnter .., ?_, fun _ _ => trivial, ?_, fun h => (by cases h), ?_⟩
  · simp only [resolve, rangeCall, hgv, Deferred.ofValue, Sem.run_pure]
    simp [Act.eval]
  · simp [invoke, hsat.1]
  rw [callsIn_fr]
  have hperm : (Res.rnd (w.heap.size + 1) N .ready fn ps assign body w.heap.size kept :: (SI ++ Sb y0 ++ rest)).Perm (rest ++ (SI ++ (Res.rnd (w.heap.size + 1) N .ready fn ps assign body w.heap.size kept :: Sb y0))) := by
    refine List.Perm.trans ?_ List.perm_append_comm
    refine List.Perm.trans ?_ (List.Perm.append_right rest List.perm_middle.symm)
    exact List.Perm.refl _
  have hA3 := hA2.perm hperm
  have hto : oldS (SI ++ (Res.rnd (w.heap.size + 1) N .ready fn ps assign body w.heap.size kept :: Sb y0)) = true := by
    have happ : ∀ s t : Sto, oldS s = true → oldS t = true → oldS (s ++ t) = true := by
      intro s t hs ht
      induction s with
      | nil => exact ht
      | cons x s ih => simp only [List.cons_append, oldS, Bool.and_eq_true] at hs ⊢; exact ⟨hs.1, ih hs.2⟩
    exact happ _ _ holdI (hRold [] _ ⟨y0, h0, rfl⟩)
  have hvals : AAtL (C.cx (rest ++ (SI ++ (Res.rnd (w.heap.size + 1) N .ready fn ps assign body w.heap.size kept :: Sb y0)))) w1 (.v (.func (.yield (w.heap.size + 1)) #[] #[]) :: lb.toList.map .v) (.func (.yield (w.heap.size + 1)) #[] #[] :: lb.toList) := ⟨rfl, AAtL.vals _⟩
  have hcall := hA3.call (lend := false) (TakeP.front hto rest) hvals (PassL.same (AllV.app (.one _) (.map lb.toList))) hsat (fun h => by cases h)
  have he : (#[.func (.yield (w.heap.size + 1)) #[] #[]] ++ lb : Array Value) = (Value.func (.yield (w.heap.size + 1)) #[] #[] :: lb.toList).toArray := by
    apply Array.ext'
    simp
  rw [he]
  refine hcall.mono ?_
  rintro e w5 ⟨z, s, ⟨rfl, S, ⟨y, hp, rfl⟩, rfl⟩, hA5, hzo⟩
  obtain ⟨v, rfl, _⟩ := hzo.inv rfl
  have hA6 := hA5 _ hA3
  have hm6 : Res.rnd (w.heap.size + 1) N .ready fn ps assign body w.heap.size kept ∈ (SI ++ (Res.rnd (w.heap.size + 1) N .ready fn ps assign body w.heap.size kept :: Sb y)) ++ rest := by simp
  obtain ⟨tm6, j1, j2, j3⟩ := hA6.res _ hm6
  refine ⟨none, _, run_endLoop j1 (by simp), ?_⟩
  have hp6 : ((SI ++ (Res.rnd (w.heap.size + 1) N .ready fn ps assign body w.heap.size kept :: Sb y)) ++ rest).Perm (Res.rnd (w.heap.size + 1) N .ready fn ps assign body w.heap.size kept :: (SI ++ Sb y ++ rest)) := by
    rw [← List.cons_append]
    exact List.Perm.append_right rest List.perm_middle
  have hA7 := hA6.perm hp6
  have hn7 := List.nodup_append.1 (show ([w.heap.size + 1] ++ blocksOf (SI ++ Sb y ++ rest)).Nodup from hA7.nodup)
  have hA8 : Abs C env (SI ++ Sb y ++ rest) a1 w5 := hA7.sub (.skip (.same _))
  have hA9 := hA8.turnFree (l := w.heap.size + 1) (w' := w5.putObj (w.heap.size + 1) (.loop { state := .exhausted, pending := none, fn, tmps := tm6, params := ps, assign, body, defers := w.heap.size })) rfl rfl rfl (by simp) (fun b hb => World.putObj_heap_other hb)
    (by have := hA1.kept.size; omega) (fun hm => hn7.2.2 _ (by simp) _ hm rfl) ⟨_, j1⟩
  exact (hk y hp).sound hT C _ _ hN hA9
end

/-! ### Strings, letter by letter; functions without a body -/
inductive PullI (b : Nat) (o : Obj) : Sto → Sto → Prop where
  | head {s : Sto} : PullI b o (.it b o :: s) s
  | tail {x : Res} {s s' : Sto} : PullI b o s s' → PullI b o (x :: s) (x :: s')
theorem PullI.perm {b : Nat} {o : Obj} {s s' : Sto} (h : PullI b o s s') : s.Perm (.it b o :: s') := by
  induction h with
  | head => exact .refl _
  | tail _ ih => exact (ih.cons _).trans (.swap ..)
/-- An iterator's block turns. -/
theorem Abs.setIt {C : Ctx} {env : Env} {sto rest : Sto} {a : Act} {w : World} (hA : Abs C env sto a w) {b : Nat} {o o' : Obj} (hp : PullI b o sto rest) (ho : ∀ x, o' ≠ .deferred x) : Abs C env (.it b o' :: rest) a (w.putObj b o') := by
  have hA1 := hA.perm hp.perm
  have hR := hA1.res _ (List.mem_cons_self ..)
  have hlt : b < w.heap.size := hA1.lt b (by simp [blocksOf, Res.blocks])
  have hnd := hA1.nodup
  have hoth : ∀ k, k ≠ b → (w.putObj b o').heap[k]? = w.heap[k]? := fun k hk => World.putObj_heap_other hk
  have hown : b ∈ blocksOf (Res.it b o :: rest) := by simp [blocksOf, Res.blocks]
  have hF : ∀ m k, k < w.heap.size → (C.cx (Res.it b o :: rest)).ok m k → (C.cx (Res.it b o' :: rest)).ok m k ∧ (w.putObj b o').heap[k]? = w.heap[k]? := fun m k _ hok => ⟨hok, hoth k (fun e => hok.1 (e ▸ hown))⟩
  refine hA1.step ⟨rfl, rfl, rfl, by simp, fun k _ hk => hoth k (fun e => hk (e ▸ hown))⟩ hnd (fun k hk => .inl hk) (fun r hr => ?_) (fun k _ hk => hk)
  rcases List.mem_cons.1 hr with rfl | hr
  · exact ⟨World.putObj_heap_same hlt, ho⟩
  · refine RAt.mono hF (by simp) (fun k hk => hoth k (fun e => ?_)) (hA1.res r (by simp [hr]))
    exact (List.nodup_append.1 (show ([b] ++ blocksOf rest).Nodup from hnd)).2.2 b (by simp) b (List.mem_flatMap.2 ⟨r, hr, e ▸ hk⟩) rfl
/-- What a function without a body hands back. -/
def Ext (P : Program) (f : FuncId) (vs : List Value) (v : Value) : Prop := ∀ w, (callFunc f vs.toArray).run P w = .ok (.value v) w
section
variable {P : Program} {T : Tab} (hT : TabOk P T) {N : Fm} {Q : Env → Sto → Prop}
include hT
theorem RunSem.rangeStr {all : Array Oper} {rest : List Oper} {d : Tmp} {t : TypeId} {x : Operand} {ty : TypeId} {pos : String} {af : Array Edge} {k : List It} {env : Env} {sto : Sto} {s : ByteArray} {m b : Nat} {z : List Value} (hd : Nat.blt d N.n = true)
    (hx : Get env [] x (.v (.string s))) (ht : tget t T = some ⟨.str, m, b, z⟩) (hk : ∀ r, Run P T N Q (.ops all rest :: k) ((d, [], .v (.pointer (some ⟨r, 0, none⟩))) :: env) (.it r (.stringIter s 0) :: sto)) :
    RunSem P N Q (.ops all ({ dst := some d, op := .range t x, type := ty, pos, after := af, guard := none } :: rest) :: k) env sto := by
  intro C a w hN hA
  have he : a.eval x = .string s := hx.v hA (q := []) trivial
  have hA' : Abs C env (.it w.heap.size (.stringIter s 0) :: sto) a (w.alloc (.stringIter s 0)) := hA.fresh (kept_alloc w _) (by simp [Res.blocks]) (by simp [Res.blocks]) ⟨heap_alloc_new w _, fun x h => by cases h⟩
  refine wpList_quiet hT rfl rfl (v := .pointer (some ⟨w.heap.size, 0, none⟩)) (w' := w.alloc (.stringIter s 0)) ?_ ((hk _).sound hT C _ _ hN (hA'.put0 (by rw [hN.1]; exact Nat.le_of_ble_eq_true hd) rfl))
  simp only [execOp, Instr.range, he, Sem.run_bind, run_und_str (hT _ _ ht), Result.andThen_ok]
  rfl
theorem RunSem.nextStr {all : Array Oper} {rest : List Oper} {d : Tmp} {x : Operand} {ty : TypeId} {pos : String} {af : Array Edge} {k : List It} {env : Env} {sto sto' : Sto} {r : Nat} {s : ByteArray} {i : Nat} (hd : Nat.blt d N.n = true) (hx : Get env [] x (.v (.pointer (some ⟨r, 0, none⟩))))
    (hp : PullI r (.stringIter s i) sto sto')
    (h1 : i < s.size → Run P T N Q (.ops all rest :: k) ((d, [], .t [.v (.bool true), iv i, .v (.int .i32 (Utf8.decode s i).1)]) :: env) (.it r (.stringIter s (i + (Utf8.decode s i).2)) :: sto'))
    (h2 : ¬ i < s.size → Run P T N Q (.ops all rest :: k) ((d, [], .t [.v (.bool false)]) :: env) (.it r (.stringIter s i) :: sto')) :
    RunSem P N Q (.ops all ({ dst := some d, op := .next x true, type := ty, pos, after := af, guard := none } :: rest) :: k) env sto := by
  intro C a w hN hA
  have he : a.eval x = .pointer (some ⟨r, 0, none⟩) := hx.v hA (q := []) trivial
  have hA1 := hA.perm hp.perm
  have hR := hA1.res _ (List.mem_cons_self ..)
  have hg : (getObj r).run P w = .ok (.stringIter s i) w := by simp [getObj, Sem.run, hR.1]
  have hdl : d < C.N := by rw [hN.1]; exact Nat.le_of_ble_eq_true hd
  by_cases hlt : i < s.size
  · have hA2 := hA.setIt hp (o' := .stringIter s (i + (Utf8.decode s i).2)) (fun x h => by cases h)
    refine wpList_quiet hT rfl rfl (v := .tuple #[.bool true, goInt i, .int .i32 (Utf8.decode s i).1]) (w' := w.putObj r (.stringIter s (i + (Utf8.decode s i).2))) ?_ ((h1 hlt).sound hT C _ _ hN (hA2.put0 hdl ⟨_, rfl, rfl, rfl, rfl, trivial⟩))
    have hs : (setObj r (.stringIter s (i + (Utf8.decode s i).2))).run P w = .ok () (w.putObj r (.stringIter s (i + (Utf8.decode s i).2))) := by simp [setObj, Sem.run, hR.1, World.putObj]
    simp only [execOp, Instr.next, he, Sem.run_bind, hg, Result.andThen_ok, if_pos hlt, hs]
    rfl
  · refine wpList_quiet hT rfl rfl (v := .tuple #[.bool false]) (w' := w) ?_ ((h2 hlt).sound hT C _ _ hN (hA1.put0 hdl ⟨_, rfl, rfl, trivial⟩))
    simp only [execOp, Instr.next, he, Sem.run_bind, hg, Result.andThen_ok, if_neg hlt]
    rfl
theorem RunSem.ext {all : Array Oper} {rest : List Oper} {d : Tmp} {fo : Operand} {as : Array Operand} {ts : Array TypeId} {ty : TypeId} {pos : String} {af : Array Edge} {k : List It} {env : Env} {sto : Sto} {f : FuncId} {vs : List Value} {v : Value} (hs : Ext P f vs v) (ho : oneV v = true) (hd : Nat.blt d N.n = true)
    (hf : Get env [] fo (.v (.func (.func f) #[] #[]))) (ha : GetVs env [] as.toList vs) (hk : Run P T N Q (.ops all rest :: k) ((d, [], .v v) :: env) sto) :
    RunSem P N Q (.ops all ({ dst := some d, op := .call { callee := .value fo, args := as, argTypes := ts }, type := ty, pos, after := af, guard := none } :: rest) :: k) env sto := by
  intro C a w hN hA
  have hfv : a.eval fo = .func (.func f) #[] #[] := hf.v hA (q := []) trivial
  have hvs := ha.sound hA (q := []) trivial
  have he : as.map a.eval = vs.toArray := by
    apply Array.ext'
    simpa using hvs
  refine wpList_quiet hT rfl rfl (v := v) (w' := w) ?_ (hk.sound hT C _ _ hN (hA.put0 (by rw [hN.1]; exact Nat.le_of_ble_eq_true hd) rfl))
  simp only [execOp, resolve, hfv, Deferred.ofValue, Sem.run_bind, Sem.run_pure, Result.andThen_ok, invoke, Array.empty_append, Array.append_empty, he]
  exact hs w
end
end Go.Sx
