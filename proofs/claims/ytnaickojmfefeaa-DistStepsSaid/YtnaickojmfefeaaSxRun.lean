/- Walking through code: what is left to do, and the rules. -/
import Derived.Test.YtnaickojmfefeaaSxAppend
set_option linter.all false
namespace Go.Sx

inductive It : Type 1 where
  | c (c : Code)
  | ops (all : Array Oper) (l : List Oper)
  | blk (id : Nat)
  | goal (J : Env → Sto → Prop)
  | beg (l : Nat)

/-- How a panic is told to what is owed. -/
def panEnv (x : Value) : Env := [(0, [], .pan x)]
def postK (P : Program) (C : Ctx) (Q : Env → Sto → Prop) : List It → Exit → Act → World → Prop
  | [], e, a, w => match e with
    | .normal | .ret => ∃ env sto, Q env sto ∧ Abs C env sto a w
    | .panic ch => ∃ x sto, ch = [{ v := x, recovered := false }] ∧ Q (panEnv x) sto ∧ Abs C [] sto a w
    | _ => False
  | .c c :: k, e, a, w => match e with
    | .normal => wpR C.rnd P c (postK P C Q k) a w
    | e => postK P C Q k e a w
  | .ops all l :: k, e, a, w => match e with
    | .normal => wpListR C.rnd P all (postK P C Q k) l a w
    | e => postK P C Q k e a w
  | .blk id :: k, e, a, w => match e with
    | .exit i => if i = id then postK P C Q k .normal a w else postK P C Q k (.exit i) a w
    | e => postK P C Q k e a w
  | .goal J :: k, e, a, w => match e with
    | .normal => ∃ env sto, J env sto ∧ Abs C env sto a w
    | e => postK P C Q k e a w
  | .beg l :: k, e, a, w => match e with
    | .normal => ∃ w', (Instr.beginRound l).run P w = .ok () w' ∧ postK P C Q k .normal a w'
    | e => postK P C Q k e a w

def RunSem (P : Program) (N : Fm) (Q : Env → Sto → Prop) (k : List It) (env : Env) (sto : Sto) : Prop :=
  ∀ C a w, C.fits N → Abs C env sto a w → postK P C Q k .normal a w

def popTo (id : Nat) : List It → Option (List It)
  | [] => none
  | .blk i :: k => match Nat.beq i id with
    | true => some k
    | false => popTo id k
  | _ :: k => popTo id k

theorem postK_exit {P : Program} {C : Ctx} {Q : Env → Sto → Prop} {id : Nat} : ∀ {k k' : List It} {a : Act} {w : World}, popTo id k = some k' → postK P C Q k' .normal a w → postK P C Q k (.exit id) a w
  | [], _, _, _, h, _ => by simp [popTo] at h
  | .blk i :: k, k', a, w, h, hp => by
    simp only [popTo] at h
    simp only [postK]
    split at h
    · rename_i hb
      simp only [Option.some.injEq] at h
      subst h
      rw [if_pos (Nat.eq_of_beq_eq_true hb).symm]
      exact hp
    · rename_i hb
      rw [if_neg (fun h => Nat.ne_of_beq_eq_false hb h.symm)]
      exact postK_exit h hp
  | .c c :: k, k', a, w, h, hp => by simp only [popTo] at h; simp only [postK]; exact postK_exit h hp
  | .ops all l :: k, k', a, w, h, hp => by simp only [popTo] at h; simp only [postK]; exact postK_exit h hp
  | .goal J :: k, k', a, w, h, hp => by simp only [popTo] at h; simp only [postK]; exact postK_exit h hp
  | .beg l :: k, k', a, w, h, hp => by simp only [popTo] at h; simp only [postK]; exact postK_exit h hp

theorem postK_ret {P : Program} {C : Ctx} {Q : Env → Sto → Prop} : ∀ {k : List It} {env : Env} {sto : Sto} {a : Act} {w : World}, Q env sto → Abs C env sto a w → postK P C Q k .ret a w
  | [], env, sto, a, w, hq, hA => ⟨env, sto, hq, hA⟩
  | .blk i :: k, env, sto, a, w, hq, hA => by simp only [postK]; exact postK_ret hq hA
  | .c c :: k, env, sto, a, w, hq, hA => by simp only [postK]; exact postK_ret hq hA
  | .ops all l :: k, env, sto, a, w, hq, hA => by simp only [postK]; exact postK_ret hq hA
  | .goal J :: k, env, sto, a, w, hq, hA => by simp only [postK]; exact postK_ret hq hA
  | .beg l :: k, env, sto, a, w, hq, hA => by simp only [postK]; exact postK_ret hq hA
theorem postK_panic {P : Program} {C : Ctx} {Q : Env → Sto → Prop} {x : Value} : ∀ {k : List It} {sto : Sto} {a : Act} {w : World}, Q (panEnv x) sto → Abs C [] sto a w → postK P C Q k (.panic [{ v := x, recovered := false }]) a w
  | [], sto, a, w, hq, hA => ⟨x, sto, rfl, hq, hA⟩
  | .blk i :: k, sto, a, w, hq, hA => by simp only [postK]; exact postK_panic hq hA
  | .c c :: k, sto, a, w, hq, hA => by simp only [postK]; exact postK_panic hq hA
  | .ops all l :: k, sto, a, w, hq, hA => by simp only [postK]; exact postK_panic hq hA
  | .goal J :: k, sto, a, w, hq, hA => by simp only [postK]; exact postK_panic hq hA
  | .beg l :: k, sto, a, w, hq, hA => by simp only [postK]; exact postK_panic hq hA
/-- A round begins: its record is busy. -/
inductive BegR (l : Nat) : Sto → Sto → Prop where
  | head {N : Nat} {fn : FuncId} {ps : Array Tmp} {as bd : Code} {D : Nat} {env : Env} {r : Sto} : BegR l (.rnd l N .ready fn ps as bd D env :: r) (.rnd l N .busy fn ps as bd D env :: r)
  | tail {x : Res} {r r' : Sto} : BegR l r r' → BegR l (x :: r) (x :: r')

inductive SetBox (b j : Nat) (zs : List AV) : Sto → Sto → Prop where
  | head {cs cs' : List AV} {r : Sto} : Upd cs j zs cs' → SetBox b j zs (.box b cs :: r) (.box b cs' :: r)
  | tail {x : Res} {r r' : Sto} : SetBox b j zs r r' → SetBox b j zs (x :: r) (x :: r')
theorem SetBox.blocks {b j : Nat} {zs : List AV} {s s' : Sto} (h : SetBox b j zs s s') : blocksOf s' = blocksOf s := by
  induction h with
  | head => simp [blocksOf, Res.blocks]
  | tail _ ih => simp only [blocksOf, List.flatMap_cons] at ih ⊢; rw [ih]

/-! ### A literal row -/
def downD : AV → Option (Bool × DV)
  | .v x => match oneV x with | true => some (true, .v x) | false => none
  | .d new sz enc dv xs => some (new, .sl sz enc dv xs)
  | _ => none
/-- Cells that a literal's parts give; of rows that are handed in the row is used up. -/
inductive Freeze : Sto → AV → Bool → DV → Sto → Prop where
  | plain {sto : Sto} {z : AV} {new : Bool} {d : DV} : downD z = some (new, d) → Freeze sto z new d sto
inductive LitCells (env : Env) : Sto → List AV → Bool → List DV → Prop where
  | nil (sto : Sto) : LitCells env sto [] true []
  | cons {sto : Sto} {z : AV} {zs : List AV} {n n' : Bool} {d : DV} {ds : List DV} : downD z = some (n, d) → LitCells env sto zs n' ds → LitCells env sto (z :: zs) (n && n') (d :: ds)

def encLit (cells : List (List DV)) (i : Nat) (j : Nat) : DV := (cells.getD i []).getD j (.v undef)

def isE (env : Env) (x : Operand) : Bool :=
  match x with
  | .tmp t => match lookup t env with
    | some (_, .e ..) => true
    | _ => false
  | _ => false
def isSl (env : Env) (x y : Operand) : Bool :=
  match x, y with
  | .tmp t, .const (.slice none _ _) => match lookup t env with
    | some (_, .d ..) | some (_, .o ..) => true
    | _ => false
  | _, _ => false
/-- The slot of a guard. -/
def gslot (all : Array Oper) (g : Nat) : Option Tmp := (all[g]?).bind (·.dst)

inductive Run (P : Program) (T : Tab) (N : Fm) (Q : Env → Sto → Prop) : List It → Env → Sto → Prop where
  | seq {x y : Code} {k : List It} {env : Env} {sto : Sto} : Run P T N Q (.c x :: .c y :: k) env sto → Run P T N Q (.c (.seq x y) :: k) env sto
  | skip {k : List It} {env : Env} {sto : Sto} : Run P T N Q k env sto → Run P T N Q (.c .skip :: k) env sto
  | block {id : Nat} {c : Code} {k : List It} {env : Env} {sto : Sto} : Run P T N Q (.c c :: .blk id :: k) env sto → Run P T N Q (.c (.block id c) :: k) env sto
  | endBlk {id : Nat} {k : List It} {env : Env} {sto : Sto} : Run P T N Q k env sto → Run P T N Q (.blk id :: k) env sto
  | exit {id : Nat} {k k' : List It} {env : Env} {sto : Sto} : popTo id k = some k' → Run P T N Q k' env sto → Run P T N Q (.c (.exit id) :: k) env sto
  | ret {k : List It} {env : Env} {sto : Sto} : Q env sto → Run P T N Q (.c .ret :: k) env sto
  | done {env : Env} {sto : Sto} : Q env sto → Run P T N Q [] env sto
  | goal {J : Env → Sto → Prop} {k : List It} {env : Env} {sto : Sto} : J env sto → Run P T N Q (.goal J :: k) env sto
  | reg {id : Nat} {ops : Array Oper} {k : List It} {env : Env} {sto : Sto} : Run P T N Q (.ops ops ops.toList :: k) env sto → Run P T N Q (.c (.region id ops false) :: k) env sto
  | cond {c : Operand} {x y : Code} {b : Bool} {k : List It} {env : Env} {sto : Sto} : Get env [] c (.v (.bool b)) → (b = true → Run P T N Q (.c x :: k) env sto) → (b = false → Run P T N Q (.c y :: k) env sto) → Run P T N Q (.c (.cond c x y) :: k) env sto
  | loopStop {c : Code} {k : List It} {env : Env} {sto : Sto} : RunSem P N Q (.c (.loop c) :: k) env sto → Run P T N Q (.c (.loop c) :: k) env sto
  | drawStop {id : Nat} {ops : Array Oper} {k : List It} {env : Env} {sto : Sto} : RunSem P N Q (.c (.region id ops true) :: k) env sto → Run P T N Q (.c (.region id ops true) :: k) env sto
  | rangeStop {f : Operand} {ps : Array Tmp} {x y : Code} {k : List It} {env : Env} {sto : Sto} : RunSem P N Q (.c (.rangeFunc f ps x y) :: k) env sto → Run P T N Q (.c (.rangeFunc f ps x y) :: k) env sto
  | beg {l : Nat} {k : List It} {env : Env} {sto sto' : Sto} : BegR l sto sto' → Run P T N Q k env sto' → Run P T N Q (.beg l :: k) env sto
  | panic {all : Array Oper} {rest : List Oper} {d : Option Tmp} {x : Operand} {ty : TypeId} {pos : String} {af : Array Edge} {k : List It} {env : Env} {sto : Sto} {t : TypeId} {v : Value} : Get env [] x (.v (.iface t v)) → Q (panEnv (.iface t v)) sto →
      Run P T N Q (.ops all ({ dst := d, op := .panic x, type := ty, pos, after := af, guard := none } :: rest) :: k) env sto
  | nilOps {all : Array Oper} {k : List It} {env : Env} {sto : Sto} : Run P T N Q k env sto → Run P T N Q (.ops all [] :: k) env sto
  | callStop {all : Array Oper} {rest : List Oper} {d : Option Tmp} {f : Operand} {as : Array Operand} {ts : Array TypeId} {ty : TypeId} {pos : String} {af : Array Edge} {g : Option (Nat × Bool)} {k : List It} {env : Env} {sto : Sto} :
      RunSem P N Q (.ops all ({ dst := d, op := .call { callee := .value f, args := as, argTypes := ts }, type := ty, pos, after := af, guard := g } :: rest) :: k) env sto →
      Run P T N Q (.ops all ({ dst := d, op := .call { callee := .value f, args := as, argTypes := ts }, type := ty, pos, after := af, guard := g } :: rest) :: k) env sto
  | append {all : Array Oper} {rest : List Oper} {d : Tmp} {x y : Operand} {t tx e : TypeId} {ty : TypeId} {pos : String} {af : Array Edge} {k : List It} {env : Env} {sto sto' : Sto} {zx zy : AV} {yt yx ye : Ty} {α : Type} {v : Value} {n n' : Bool} {sz : Nat} {enc : α → Nat → DV} {dv : α} {xs ys : List α} :
      Nat.blt d N.n = true → Get env [] x zx → Get env [] y zy → tget t T = some yt → yt.k = .slice e → tget tx T = some yx → tget e T = some ye → DstOf sto zx v n e sz enc dv xs sto' → SrcOf sto zy yx.k n' sz enc dv ys → Nat.beq ye.size sz = true → Nat.ble 1 ye.bytes = true →
      Side [] ((xs.length + ys.length) * ye.bytes ≤ 140737488355328) → (∀ v', Run P T N Q (.ops all rest :: k) ((d, [], .o v') :: env) (.row v' (n && n') e sz enc dv (xs ++ ys) :: sto')) →
      Run P T N Q (.ops all ({ dst := some d, op := .call { callee := .builtin .append, args := #[x, y], argTypes := #[t, tx] }, type := ty, pos, after := af, guard := none } :: rest) :: k) env sto
  | sliceStop {all : Array Oper} {rest : List Oper} {d : Option Tmp} {n : Nat} {t : TypeId} {ps : Array (Nat × Operand)} {ty : TypeId} {pos : String} {af : Array Edge} {g : Option (Nat × Bool)} {k : List It} {env : Env} {sto : Sto} :
      RunSem P N Q (.ops all ({ dst := d, op := .buildSlice t n ps, type := ty, pos, after := af, guard := g } :: rest) :: k) env sto →
      Run P T N Q (.ops all ({ dst := d, op := .buildSlice t n ps, type := ty, pos, after := af, guard := g } :: rest) :: k) env sto
  | makeStop {all : Array Oper} {rest : List Oper} {d : Option Tmp} {l c : Operand} {t : TypeId} {ty : TypeId} {pos : String} {af : Array Edge} {g : Option (Nat × Bool)} {k : List It} {env : Env} {sto : Sto} :
      RunSem P N Q (.ops all ({ dst := d, op := .makeSlice t l c, type := ty, pos, after := af, guard := g } :: rest) :: k) env sto →
      Run P T N Q (.ops all ({ dst := d, op := .makeSlice t l c, type := ty, pos, after := af, guard := g } :: rest) :: k) env sto
  | box {all : Array Oper} {rest : List Oper} {d : Tmp} {e : TypeId} {x : Operand} {ty : TypeId} {pos : String} {af : Array Edge} {k : List It} {env : Env} {sto : Sto} {z : AV} {zs : List AV} : Nat.blt d N.n = true → Get env [] x z → cellsA z = some zs →
      (∀ b, Run P T N Q (.ops all rest :: k) ((d, [], .v (.pointer (some ⟨b, 0, none⟩))) :: env) (.box b zs :: sto)) →
      Run P T N Q (.ops all ({ dst := some d, op := .box e x, type := ty, pos, after := af, guard := none } :: rest) :: k) env sto
  | alloc {all : Array Oper} {rest : List Oper} {d : Tmp} {e : TypeId} {ty : TypeId} {pos : String} {af : Array Edge} {k : List It} {env : Env} {sto : Sto} {y : Ty} : Nat.blt d N.n = true → tget e T = some y →
      (∀ b, Run P T N Q (.ops all rest :: k) ((d, [], .v (.pointer (some ⟨b, 0, none⟩))) :: env) (.box b (y.zero.map .v) :: sto)) →
      Run P T N Q (.ops all ({ dst := some d, op := .alloc e, type := ty, pos, after := af, guard := none } :: rest) :: k) env sto
  | store {all : Array Oper} {rest : List Oper} {t : TypeId} {x v : Operand} {ty : TypeId} {pos : String} {af : Array Edge} {k : List It} {env : Env} {sto sto' : Sto} {b j : Nat} {z : AV} {zs : List AV} {y : Ty} :
      Get env [] x (.v (.pointer (some ⟨b, j, none⟩))) → Get env [] v z → cellsA z = some zs → tget t T = some y → Nat.beq zs.length y.size = true → SetBox b j zs sto sto' → Run P T N Q (.ops all rest :: k) env sto' →
      Run P T N Q (.ops all ({ dst := none, op := .store t x v, type := ty, pos, after := af, guard := none } :: rest) :: k) env sto
  | mapStop {all : Array Oper} {rest : List Oper} {d : Option Tmp} {t : TypeId} {m x v : Operand} {ty : TypeId} {pos : String} {af : Array Edge} {g : Option (Nat × Bool)} {k : List It} {env : Env} {sto : Sto} :
      RunSem P N Q (.ops all ({ dst := d, op := .mapUpdate t m x v, type := ty, pos, after := af, guard := g } :: rest) :: k) env sto →
      Run P T N Q (.ops all ({ dst := d, op := .mapUpdate t m x v, type := ty, pos, after := af, guard := g } :: rest) :: k) env sto
  | newMapStop {all : Array Oper} {rest : List Oper} {d : Option Tmp} {t : TypeId} {r : Option Operand} {ty : TypeId} {pos : String} {af : Array Edge} {g : Option (Nat × Bool)} {k : List It} {env : Env} {sto : Sto} :
      RunSem P N Q (.ops all ({ dst := d, op := .makeMap t r, type := ty, pos, after := af, guard := g } :: rest) :: k) env sto →
      Run P T N Q (.ops all ({ dst := d, op := .makeMap t r, type := ty, pos, after := af, guard := g } :: rest) :: k) env sto
  | quiet {all : Array Oper} {rest : List Oper} {d : Tmp} {op : Op} {ty : TypeId} {pos : String} {af : Array Edge} {k : List It} {env : Env} {sto : Sto} {z : AV} : Nat.blt d N.n = true → Quiet T env sto [] op z →
      Run P T N Q (.ops all rest :: k) ((d, [], z) :: env) sto → Run P T N Q (.ops all ({ dst := some d, op, type := ty, pos, after := af, guard := none } :: rest) :: k) env sto
  | guarded {all : Array Oper} {rest : List Oper} {d gs : Tmp} {g : Nat} {b c : Bool} {q : Path} {op : Op} {ty : TypeId} {pos : String} {af : Array Edge} {k : List It} {env : Env} {sto : Sto} {z : AV} : Nat.blt d N.n = true → gslot all g = some gs →
      lookup gs env = some (q, .v (.bool c)) → Quiet T env sto ((c, b) :: q) op z →
      Run P T N Q (.ops all rest :: k) ((d, (c, b) :: q, z) :: env) sto → Run P T N Q (.ops all ({ dst := some d, op, type := ty, pos, after := af, guard := some (g, b) } :: rest) :: k) env sto
  | nilStop {all : Array Oper} {rest : List Oper} {d : Option Tmp} {op : BinOp} {t t' : TypeId} {x y : Operand} {ty : TypeId} {pos : String} {af : Array Edge} {g : Option (Nat × Bool)} {k : List It} {env : Env} {sto : Sto} : isSl env x y = true →
      RunSem P N Q (.ops all ({ dst := d, op := .binOp op t x y t', type := ty, pos, after := af, guard := g } :: rest) :: k) env sto →
      Run P T N Q (.ops all ({ dst := d, op := .binOp op t x y t', type := ty, pos, after := af, guard := g } :: rest) :: k) env sto
  | storeStop {all : Array Oper} {rest : List Oper} {d : Option Tmp} {t : TypeId} {x v : Operand} {ty : TypeId} {pos : String} {af : Array Edge} {g : Option (Nat × Bool)} {k : List It} {env : Env} {sto : Sto} : isE env x = true →
      RunSem P N Q (.ops all ({ dst := d, op := .store t x v, type := ty, pos, after := af, guard := g } :: rest) :: k) env sto →
      Run P T N Q (.ops all ({ dst := d, op := .store t x v, type := ty, pos, after := af, guard := g } :: rest) :: k) env sto
  | semStop {k : List It} {env : Env} {sto : Sto} : RunSem P N Q k env sto → Run P T N Q k env sto

end Go.Sx
