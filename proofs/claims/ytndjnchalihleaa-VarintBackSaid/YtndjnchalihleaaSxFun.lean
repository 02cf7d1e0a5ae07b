/- Calls that turn nothing that is owned: under a guard, and among operations whose order is open. -/
import Derived.Test.YtndjnchalihleaaSxArith
set_option linter.unusedSectionVars false
set_option linter.all false
namespace Go.Sx

/-- A function that yields one value, and nothing else. -/
def Fun1 (P : Program) (f : FuncId) (args : List AV) (z : AV) : Prop := Sat P f args [] (fun z' s => z' = z ∧ s = [])
theorem Fun1.of {P : Program} {f : FuncId} {args : List AV} {zf : Unit → AV} {sf : Unit → Sto} {p : Unit → Prop} (h : Sat P f args [] (Gives zf sf p)) (hs : sf () = []) : Fun1 P f args (zf ()) :=
  h.mono (by rintro _ _ ⟨x, rfl, rfl, _⟩; exact ⟨rfl, hs⟩)

theorem AOp.call {P : Program} {N : Nat} {env : Env} {sto : Sto} {q : Path} {lend : Bool} {d : Option Tmp} {fo : Operand} {as : Array Operand} {ts : Array TypeId} {ty : TypeId} {pos : String} {af : Array Edge} {g : Option (Nat × Bool)} {f : FuncId} {first captured : Array Value} {zs full args : List AV} {z : AV}
    (hs : Fun1 P f args z) (hf : Get env q fo (.v (.func (.func f) first captured))) (ha : GetL env q as.toList zs) (hfull : first.toList.map .v ++ zs ++ captured.toList.map .v = full) (hp : PassL lend sto full args) (hfr : lend = true → freshA z = true) :
    AOp P N env sto { dst := d, op := .call { callee := .value fo, args := as, argTypes := ts }, type := ty, pos, after := af, guard := g } q z := by
  intro C a w next Q' hN hA hq hnext
  have hfv : a.eval fo = .func (.func f) first captured := hf.v hA hq
  have hr : (execOp a.eval { dst := d, op := .call { callee := .value fo, args := as, argTypes := ts }, type := ty, pos, after := af, guard := g }).run P w = .ok (.enter f (first ++ as.map a.eval ++ captured)) w := by
    simp [execOp, resolve, hfv, Deferred.ofValue, invoke, hs.1]
  simp only [Oper.wp, hr, Oper.upon]
  have hz := ((AAtL.vals (cx := C.cx sto) (w := w) first.toList).append (ha.sound hA hq)).append (AAtL.vals captured.toList)
  rw [hfull] at hz
  have he : first ++ as.map a.eval ++ captured = (first.toList ++ as.toList.map a.eval ++ captured.toList).toArray := by
    apply Array.ext'
    simp
  rw [he]
  refine (hA.call (.nil sto) hz hp hs (fun h z' s hR => by obtain ⟨rfl, rfl⟩ := hR; exact ⟨hfr h, rfl⟩)).mono ?_
  rintro e w' ⟨v, z', s, ⟨rfl, rfl⟩, rfl, hA', hzv⟩
  exact hnext v w' (hA' _ hA) hA' hzv

section
variable {P : Program} {T : Tab} (hT : TabOk P T) {N : Nat} {Q : Env → Sto → Prop}
include hT

theorem RunSem.ofAOpG {all : Array Oper} {rest : List Oper} {d gs : Tmp} {g : Nat} {b c : Bool} {q : Path} {op : Op} {ty : TypeId} {pos : String} {af : Array Edge} {k : List It} {env : Env} {sto : Sto} {z : AV} (hd : Nat.blt d N = true) (hgs : gslot all g = some gs)
    (hl : lookup gs env = some (q, .v (.bool c))) (hop : AOp P N env sto { dst := some d, op, type := ty, pos, after := af, guard := some (g, b) } ((c, b) :: q) z)
    (hk : Run P T N Q (.ops all rest :: k) ((d, (c, b) :: q, z) :: env) sto) : RunSem P N Q (.ops all ({ dst := some d, op, type := ty, pos, after := af, guard := some (g, b) } :: rest) :: k) env sto := by
  intro C a w hN hA
  show wpList P all _ _ a w
  unfold wpList
  have hdlt : d < C.N := by rw [hN]; exact Nat.le_of_ble_eq_true hd
  have hiff := wanted_iff (o := { dst := some d, op, type := ty, pos, after := af, guard := some (g, b) }) hA rfl hgs hl
  by_cases hh : PathHolds ((c, b) :: q)
  · rw [if_pos (hiff.2 hh)]
    left
    exact hop C a w _ _ hN hA hh (fun v w' hA' _ hz => hk.sound hT C _ _ hN (hA'.put hdlt (fun _ => hz) (fun hn => absurd hh hn)))
  · rw [if_neg (fun h => hh (hiff.1 h))]
    exact hk.sound hT C _ _ hN (hA.put hdlt (fun h => absurd h hh) (fun _ => rfl))

/-- A guarded call. -/
theorem RunSem.callG {lend : Bool} {all : Array Oper} {rest : List Oper} {d gs : Tmp} {g : Nat} {b c : Bool} {q : Path} {fo : Operand} {as : Array Operand} {ts : Array TypeId} {ty : TypeId} {pos : String} {af : Array Edge} {k : List It} {env : Env} {sto : Sto} {z : AV}
    {f : FuncId} {first captured : Array Value} {zs full args : List AV} (hs : Fun1 P f args z) (hfr : lend = true → freshA z = true) (hd : Nat.blt d N = true) (hgs : gslot all g = some gs) (hl : lookup gs env = some (q, .v (.bool c)))
    (hf : Get env ((c, b) :: q) fo (.v (.func (.func f) first captured))) (ha : GetL env ((c, b) :: q) as.toList zs) (hfull : first.toList.map .v ++ zs ++ captured.toList.map .v = full) (hp : PassL lend sto full args)
    (hk : Run P T N Q (.ops all rest :: k) ((d, (c, b) :: q, z) :: env) sto) :
    RunSem P N Q (.ops all ({ dst := some d, op := .call { callee := .value fo, args := as, argTypes := ts }, type := ty, pos, after := af, guard := some (g, b) } :: rest) :: k) env sto :=
  RunSem.ofAOpG hT hd hgs hl (AOp.call hs hf ha hfull hp hfr) hk
end

theorem Get.rs {env : Env} {q : Path} {x : Operand} {z : AV} {ts : List Tmp} (h : Get env q x z) (hm : ∀ t, x = .tmp t → t ∈ ts) : Get (rs ts env) q x z := h.congr (fun t ht => by rw [lookup_rs, if_pos (hm t ht)])
theorem GetL.rs {env : Env} {q : Path} {xs : List Operand} {zs : List AV} {ts : List Tmp} (h : GetL env q xs zs) (hm : ∀ t, Operand.tmp t ∈ xs → t ∈ ts) : GetL (rs ts env) q xs zs := by
  induction h with
  | nil => exact .nil
  | cons h1 _ ih => exact .cons (h1.rs (fun t ht => hm t (by simp [ht]))) (ih (fun t ht => hm t (by simp [ht])))

section
variable {P : Program} {T : Tab} (hT : TabOk P T) {N : Nat}
include hT

theorem AListSem.call {lend : Bool} {all : Array Oper} {rest : List Oper} {d : Tmp} {fo : Operand} {as : Array Operand} {ts : Array TypeId} {ty : TypeId} {pos : String} {af : Array Edge} {K : Env → Prop} {env : Env} {sto : Sto} {z : AV}
    {f : FuncId} {first captured : Array Value} {zs full args : List AV} (hs : Fun1 P f args z) (hfr : lend = true → freshA z = true) (hd : Nat.blt d N = true)
    (hf : Get env [] fo (.v (.func (.func f) first captured))) (ha : GetL env [] as.toList zs) (hfull : first.toList.map .v ++ zs ++ captured.toList.map .v = full) (hp : PassL lend sto full args)
    (hk : AList P T N all sto K ((d, [], z) :: env) rest) :
    AListSem P N all sto K env ({ dst := some d, op := .call { callee := .value fo, args := as, argTypes := ts }, type := ty, pos, after := af, guard := none } :: rest) := by
  obtain ⟨E, h1, h2⟩ := hk.sound hT
  refine ⟨_, .cons rfl (Nat.le_of_ble_eq_true hd) rfl (AOp.call hs (hf.rs fun t ht => ?_) (ha.rs fun t ht => ?_) hfull hp hfr) h1, by simpa using h2⟩
  · refine opSlots_looks (mem_opSlots.2 ?_)
    simp [Op.operands, Call.operands, ht]
  · refine opSlots_looks (mem_opSlots.2 ?_)
    simp [Op.operands, Call.operands, ht]

theorem AListSem.callG {lend : Bool} {all : Array Oper} {rest : List Oper} {d gs : Tmp} {g : Nat} {b c : Bool} {q : Path} {fo : Operand} {as : Array Operand} {ts : Array TypeId} {ty : TypeId} {pos : String} {af : Array Edge} {K : Env → Prop} {env : Env} {sto : Sto} {z : AV}
    {f : FuncId} {first captured : Array Value} {zs full args : List AV} (hs : Fun1 P f args z) (hfr : lend = true → freshA z = true) (hd : Nat.blt d N = true) (hgs : gslot all g = some gs) (hl : lookup gs env = some (q, .v (.bool c)))
    (hf : Get env ((c, b) :: q) fo (.v (.func (.func f) first captured))) (ha : GetL env ((c, b) :: q) as.toList zs) (hfull : first.toList.map .v ++ zs ++ captured.toList.map .v = full) (hp : PassL lend sto full args)
    (hk : AList P T N all sto K ((d, (c, b) :: q, z) :: env) rest) :
    AListSem P N all sto K env ({ dst := some d, op := .call { callee := .value fo, args := as, argTypes := ts }, type := ty, pos, after := af, guard := some (g, b) } :: rest) := by
  obtain ⟨E, h1, h2⟩ := hk.sound hT
  refine ⟨_, .cons rfl (Nat.le_of_ble_eq_true hd) ⟨_, _, _, hgs, hl, rfl⟩ (AOp.call hs (hf.rs fun t ht => ?_) (ha.rs fun t ht => ?_) hfull hp hfr) h1, by simpa using h2⟩
  · refine opSlots_looks (mem_opSlots.2 ?_)
    simp [Op.operands, Call.operands, ht]
  · refine opSlots_looks (mem_opSlots.2 ?_)
    simp [Op.operands, Call.operands, ht]
end
end Go.Sx
