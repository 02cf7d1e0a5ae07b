/- Calls that turn nothing that is owned: under a guard, and among operations whose order is open. -/
import Derived.Test.YtnaickojmfefeaaSxArith
set_option linter.unusedSectionVars false
set_option linter.all false
namespace Go.Sx

/-- A function that yields one value, and nothing else. -/
def Fun1 (P : Program) (f : FuncId) (args : List AV) (z : AV) : Prop := Sat P f args [] (fun z' s => z' = z ∧ s = [])
theorem Fun1.of {P : Program} {f : FuncId} {args : List AV} {zf : Unit → AV} {sf : Unit → Sto} {p : Unit → Prop} (h : Sat P f args [] (Gives zf sf p)) (hs : sf () = []) : Fun1 P f args (zf ()) :=
  h.mono (by rintro _ _ ⟨x, rfl, rfl, _⟩; exact ⟨rfl, hs⟩)

theorem AOp.call {P : Program} {N : Fm} {env : Env} {sto : Sto} {q : Path} {lend : Bool} {d : Option Tmp} {fo : Operand} {as : Array Operand} {ts : Array TypeId} {ty : TypeId} {pos : String} {af : Array Edge} {g : Option (Nat × Bool)} {f : FuncId} {first captured : Array Value} {zs full args : List AV} {z : AV}
    (hs : Fun1 P f args z) (hf : Get env q fo (.v (.func (.func f) first captured))) (ha : GetL env q as.toList zs) (hfull : first.toList.map .v ++ zs ++ captured.toList.map .v = full) (hp : PassL lend sto full args) (hfr : lend = true → freshA z = true) (hnp : panA z = false) :
    AOp P N env sto { dst := d, op := .call { callee := .value fo, args := as, argTypes := ts }, type := ty, pos, after := af, guard := g } q z := by
  intro C a w next Q' hN hA hq hnext
  have hfv : a.eval fo = .func (.func f) first captured := hf.v hA hq
  have hr : (execOp a.eval { dst := d, op := .call { callee := .value fo, args := as, argTypes := ts }, type := ty, pos, after := af, guard := g }).run P w = .ok (.enter f (first ++ as.map a.eval ++ captured)) w := by
    simp [execOp, resolve, hfv, Deferred.ofValue, invoke, hs.1]
  refine opR_of rfl hr ?_
  simp only [upR]
  have hz := ((AAtL.vals (cx := C.cx sto) (w := w) first.toList).append (ha.sound hA hq)).append (AAtL.vals captured.toList)
  rw [hfull] at hz
  have he : first ++ as.map a.eval ++ captured = (first.toList ++ as.toList.map a.eval ++ captured.toList).toArray := by
    apply Array.ext'
    simp
  rw [he]
  refine (hA.call (.nil sto) hz hp hs (fun h z' s hR => by obtain ⟨rfl, rfl⟩ := hR; exact ⟨hfr h, rfl⟩)).mono ?_
  rintro e w' ⟨z', s, ⟨rfl, rfl⟩, hA', hzo⟩
  obtain ⟨v, rfl, hzv⟩ := hzo.inv hnp
  exact hnext v w' (hA' _ hA) hA' hzv

section
variable {P : Program} {T : Tab} (hT : TabOk P T) {N : Fm} {Q : Env → Sto → Prop}
include hT

theorem RunSem.ofAOpG {all : Array Oper} {rest : List Oper} {d gs : Tmp} {g : Nat} {b c : Bool} {q : Path} {op : Op} {ty : TypeId} {pos : String} {af : Array Edge} {k : List It} {env : Env} {sto : Sto} {z : AV} (hd : Nat.blt d N.n = true) (hgs : gslot all g = some gs)
    (hl : lookup gs env = some (q, .v (.bool c))) (hop : AOp P N env sto { dst := some d, op, type := ty, pos, after := af, guard := some (g, b) } ((c, b) :: q) z)
    (hk : Run P T N Q (.ops all rest :: k) ((d, (c, b) :: q, z) :: env) sto) : RunSem P N Q (.ops all ({ dst := some d, op, type := ty, pos, after := af, guard := some (g, b) } :: rest) :: k) env sto := by
  intro C a w hN hA
  have hdlt : d < C.N := by rw [hN.1]; exact Nat.le_of_ble_eq_true hd
  have hiff := wanted_iff (o := { dst := some d, op, type := ty, pos, after := af, guard := some (g, b) }) hA rfl hgs hl
  by_cases hh : PathHolds ((c, b) :: q)
  · refine wpListR_yes (hiff.2 hh) ?_
    exact hop C a w _ _ hN hA hh (fun v w' hA' _ hz => hk.sound hT C _ _ hN (hA'.put hdlt (fun _ => hz) (fun hn => absurd hh hn)))
  · refine wpListR_no (fun h => hh (hiff.1 h)) ?_
    exact hk.sound hT C _ _ hN (hA.put hdlt (fun h => absurd h hh) (fun _ => rfl))

/-- A guarded call. -/
theorem RunSem.callG {lend : Bool} {all : Array Oper} {rest : List Oper} {d gs : Tmp} {g : Nat} {b c : Bool} {q : Path} {fo : Operand} {as : Array Operand} {ts : Array TypeId} {ty : TypeId} {pos : String} {af : Array Edge} {k : List It} {env : Env} {sto : Sto} {z : AV}
    {f : FuncId} {first captured : Array Value} {zs full args : List AV} (hs : Fun1 P f args z) (hfr : lend = true → freshA z = true) (hnp : panA z = false) (hd : Nat.blt d N.n = true) (hgs : gslot all g = some gs) (hl : lookup gs env = some (q, .v (.bool c)))
    (hf : Get env ((c, b) :: q) fo (.v (.func (.func f) first captured))) (ha : GetL env ((c, b) :: q) as.toList zs) (hfull : first.toList.map .v ++ zs ++ captured.toList.map .v = full) (hp : PassL lend sto full args)
    (hk : Run P T N Q (.ops all rest :: k) ((d, (c, b) :: q, z) :: env) sto) :
    RunSem P N Q (.ops all ({ dst := some d, op := .call { callee := .value fo, args := as, argTypes := ts }, type := ty, pos, after := af, guard := some (g, b) } :: rest) :: k) env sto :=
  RunSem.ofAOpG hT hd hgs hl (AOp.call hs hf ha hfull hp hfr hnp) hk
end

theorem Get.rs {env : Env} {q : Path} {x : Operand} {z : AV} {ts : List Tmp} (h : Get env q x z) (hm : ∀ t, x = .tmp t → t ∈ ts) : Get (rs ts env) q x z := h.congr (fun t ht => by rw [lookup_rs, if_pos (hm t ht)])
theorem GetL.rs {env : Env} {q : Path} {xs : List Operand} {zs : List AV} {ts : List Tmp} (h : GetL env q xs zs) (hm : ∀ t, Operand.tmp t ∈ xs → t ∈ ts) : GetL (rs ts env) q xs zs := by
  induction h with
  | nil => exact .nil
  | cons h1 _ ih => exact .cons (h1.rs (fun t ht => hm t (by simp [ht]))) (ih (fun t ht => hm t (by simp [ht])))

section
variable {P : Program} {T : Tab} (hT : TabOk P T) {N : Fm}
include hT

theorem AListSem.call {lend : Bool} {all : Array Oper} {rest : List Oper} {d : Tmp} {fo : Operand} {as : Array Operand} {ts : Array TypeId} {ty : TypeId} {pos : String} {af : Array Edge} {K : Env → Prop} {env : Env} {sto : Sto} {z : AV}
    {f : FuncId} {first captured : Array Value} {zs full args : List AV} (hs : Fun1 P f args z) (hfr : lend = true → freshA z = true) (hnp : panA z = false) (hd : Nat.blt d N.n = true)
    (hf : Get env [] fo (.v (.func (.func f) first captured))) (ha : GetL env [] as.toList zs) (hfull : first.toList.map .v ++ zs ++ captured.toList.map .v = full) (hp : PassL lend sto full args)
    (hk : AList P T N all sto K ((d, [], z) :: env) rest) :
    AListSem P N all sto K env ({ dst := some d, op := .call { callee := .value fo, args := as, argTypes := ts }, type := ty, pos, after := af, guard := none } :: rest) := by
  obtain ⟨E, h1, h2⟩ := hk.sound hT
  refine ⟨_, .cons rfl (Nat.le_of_ble_eq_true hd) rfl (AOp.call hs (hf.rs fun t ht => ?_) (ha.rs fun t ht => ?_) hfull hp hfr hnp) h1, by simpa using h2⟩
  · refine opSlots_looks (mem_opSlots.2 ?_)
    simp [Op.operands, Call.operands, ht]
  · refine opSlots_looks (mem_opSlots.2 ?_)
    simp [Op.operands, Call.operands, ht]

theorem AListSem.callG {lend : Bool} {all : Array Oper} {rest : List Oper} {d gs : Tmp} {g : Nat} {b c : Bool} {q : Path} {fo : Operand} {as : Array Operand} {ts : Array TypeId} {ty : TypeId} {pos : String} {af : Array Edge} {K : Env → Prop} {env : Env} {sto : Sto} {z : AV}
    {f : FuncId} {first captured : Array Value} {zs full args : List AV} (hs : Fun1 P f args z) (hfr : lend = true → freshA z = true) (hnp : panA z = false) (hd : Nat.blt d N.n = true) (hgs : gslot all g = some gs) (hl : lookup gs env = some (q, .v (.bool c)))
    (hf : Get env ((c, b) :: q) fo (.v (.func (.func f) first captured))) (ha : GetL env ((c, b) :: q) as.toList zs) (hfull : first.toList.map .v ++ zs ++ captured.toList.map .v = full) (hp : PassL lend sto full args)
    (hk : AList P T N all sto K ((d, (c, b) :: q, z) :: env) rest) :
    AListSem P N all sto K env ({ dst := some d, op := .call { callee := .value fo, args := as, argTypes := ts }, type := ty, pos, after := af, guard := some (g, b) } :: rest) := by
  obtain ⟨E, h1, h2⟩ := hk.sound hT
  refine ⟨_, .cons rfl (Nat.le_of_ble_eq_true hd) ⟨_, _, _, hgs, hl, rfl⟩ (AOp.call hs (hf.rs fun t ht => ?_) (ha.rs fun t ht => ?_) hfull hp hfr hnp) h1, by simpa using h2⟩
  · refine opSlots_looks (mem_opSlots.2 ?_)
    simp [Op.operands, Call.operands, ht]
  · refine opSlots_looks (mem_opSlots.2 ?_)
    simp [Op.operands, Call.operands, ht]
end

/-! ### What is new, as data -/
theorem Abs.grow {C : Ctx} {env : Env} {sto : Sto} {a : Act} {w w' : World} (h : Abs C env sto a w) (hk : Kept [] w w') : Abs C env sto a w' := by
  have hb : ∀ b, b < w.heap.size → w'.heap[b]? = w.heap[b]? := fun b hb => hk.block b hb (by simp)
  exact h.step ⟨hk.os, hk.tape, hk.output, hk.size, fun k hk' _ => hb k hk'⟩ h.nodup (fun b hb => .inl hb)
    (fun r hr => RAt.mono (fun n b hlt hok => ⟨hok, hb b hlt⟩) hk.size (fun b hb' => hb b ((h.res r hr).lt b hb')) (h.res r hr)) (fun _ _ h => h)

theorem Abs.newData {C : Ctx} {env : Env} {sto : Sto} {a : Act} {w : World} (hA : Abs C env sto a w) {α : Type} {n : Bool} {e : TypeId} {sz len : Nat} {enc : α → Nat → DV} {dv : α} {xs : List α} {cells : Array Value} (hl : xs.length = len)
    (hc : ∀ i j, i < xs.length → j < sz → ∃ y, cells[i * sz + j]? = some y ∧ DAt ((C.cx sto).ok n) w (enc (xs.getD i dv) j) y) :
    AAt (C.cx sto) (w.alloc (.cells cells e)) (.d n sz enc dv xs) (.slice (some ⟨w.heap.size, 0, none⟩) len len) := by
  subst hl
  simp only [AAt]
  refine DAt.of_cells ⟨fun hm => ?_, fun hx => ?_, fun _ => hA.kept.size⟩ (by simp) (Nat.le_refl _) (fun i j hi hj => ?_)
  · have := hA.lt _ hm
    simp at this
  · have h1 := hA.xlt _ hx
    have h2 := hA.kept.size
    simp at h1
    omega
  · obtain ⟨y, h1, h2⟩ := hc i j hi hj
    refine ⟨y, by rw [add_none, Nat.zero_add, cell_of_heap (heap_alloc_new w _)]; exact h1, h2.mono (fun b hb hok => ⟨hok, heapOld w _ b hb⟩) (by simp)⟩

/-- What a function hands back as a row of its own is new data. -/
theorem Sat.freeze {P : Program} {f : FuncId} {args : List AV} {α : Type} {e : TypeId} {sz : Nat} {enc : α → Nat → DV} {dv : α} {xs : List α}
    (h : Sat P f args [] (Gives (fun v => .o v) (fun v => [.row v true e sz enc dv xs]) (fun _ => True))) : Fun1 P f args (.d true sz enc dv xs) := by
  refine ⟨h.1, fun X w vs h1 h2 h3 h4 h5 => (h.2 X w vs h1 h2 h3 h4 h5).mono ?_⟩
  rintro e' w' ⟨z, s, ⟨v, rfl, rfl, _⟩, hk, hn, hsrc, hres, ho⟩
  obtain ⟨u, rfl, hu⟩ := ho.inv rfl
  refine ⟨_, [], ⟨rfl, rfl⟩, hk, by simp [blocksOf], fun b hb => by simp [blocksOf] at hb, (fun r hr => by cases hr), OutA.ret (v := u) ?_⟩
  simp only [AAt] at hu ⊢
  obtain ⟨rfl, _⟩ := hu
  refine row_data (hres _ (List.mem_cons_self ..)) (fun b _ hok => ⟨by simp [cxOf, blocksOf], hok.2⟩) (fun b hb => ?_)
  have hb' : w.heap.size ≤ b := by
    rcases hsrc b (by simpa [blocksOf, Res.blocks] using hb) with h | h
    · simp [blocksOf] at h
    · exact h
  exact ⟨by simp [cxOf, blocksOf], fun hx => by have := h1 b hx; omega, fun _ => hb'⟩

section
variable {P : Program} {T : Tab} (hT : TabOk P T) {N : Fm}
include hT
theorem GetPs.rs {env : Env} {q : Path} {ps : List (Nat × Operand)} {zs : List (Nat × AV)} {ts : List Tmp} (h : GetPs env q ps zs) (hm : ∀ t, Operand.tmp t ∈ ps.map (·.2) → t ∈ ts) : GetPs (Go.Sx.rs ts env) q ps zs := by
  induction h with
  | nil => exact .nil
  | cons h1 _ ih => exact .cons (h1.rs (fun t ht => hm t (by simp [ht]))) (ih (fun t ht => hm t (by simp only [List.map_cons, List.mem_cons]; exact .inr ht)))

theorem AListSem.lit {α : Type} (enc : α → Nat → DV) (dv : α) (xs : List α) {all : Array Oper} {rest : List Oper} {d : Tmp} {len : Nat} {t e : TypeId} {ps : Array (Nat × Operand)} {ty : TypeId} {pos : String} {af : Array Edge} {K : Env → Prop} {env : Env} {sto : Sto} {yt ye : Ty}
    {zs : List (Nat × AV)} {cs : List AV} {n : Bool} {ds : List DV} (hd : Nat.blt d N.n = true) (ht : tget t T = some yt) (hte : yt.k = .slice e) (he : tget e T = some ye) (hsm : Nat.ble (len * ye.size) 16777216 = true) (hp : GetPs env [] ps.toList zs)
    (hf : Fills ye.size (zerosA ye.zero ye.size (len * ye.size)) zs cs) (hdn : DownL cs n ds) (hds : ds = litL ye.size enc xs) (hlen : xs.length = len)
    (hk : AList P T N all sto K ((d, [], .d n ye.size enc dv xs) :: env) rest) :
    AListSem P N all sto K env ({ dst := some d, op := .buildSlice t len ps, type := ty, pos, after := af, guard := none } :: rest) := by
  obtain ⟨E, h1, h2⟩ := hk.sound hT
  refine ⟨_, .cons rfl (Nat.le_of_ble_eq_true hd) rfl ?_ h1, by simpa using h2⟩
  intro C a w next Q' hN hA hq hnext
  have hp' := hp.rs hT (ts := ({ dst := some d, op := .buildSlice t len ps, type := ty, pos, after := af, guard := none } : Oper).looksAt all) (fun t ht => by
    refine opSlots_looks (mem_opSlots.2 ?_)
    simpa [Op.operands] using ht)
  obtain ⟨cells, hrun, _, hcells⟩ := lit_run hT enc dv xs hA hq ht hte he hsm hp' hf hdn hds
  have hr : (execOp a.eval { dst := some d, op := .buildSlice t len ps, type := ty, pos, after := af, guard := none }).run P w = .ok (.value (.slice (some ⟨w.heap.size, 0, none⟩) len len)) (w.alloc (.cells cells e)) := by
    simp only [execOp, Sem.run_bind]
    rw [hrun]
    rfl
  refine opR_of rfl hr ?_
  exact hnext _ _ (hA.grow (kept_alloc w _)) (fun env' h => h.grow (kept_alloc w _)) (hA.newData hlen hcells)
end
end Go.Sx
