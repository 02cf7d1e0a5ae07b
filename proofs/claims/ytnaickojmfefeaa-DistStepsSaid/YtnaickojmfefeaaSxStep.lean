/- Operations that leave memory as it is: the rules. -/
import Derived.Test.YtnaickojmfefeaaSxParts
set_option linter.all false
namespace Go.Sx

/-- What is owed on the way on which q holds. -/
def Side (q : Path) (s : Prop) : Prop := PathHolds q → s
theorem sp {q : Path} {s : Prop} (h : PathHolds q → s) : Side q s := h
theorem sd {q : Path} {s : Prop} (h : s) : Side q s := fun _ => h

def encI (k : IntKind) (x : Int) (_ : Nat) : DV := .v (.int k x)
def encN (x : Nat) (_ : Nat) : DV := .v (.int .i64 (x : Int))
def encB (x : UInt8) (_ : Nat) : DV := .v (.int .u8 (x.toNat : Int))
def encS (x : ByteArray) (_ : Nat) : DV := .v (.string x)
def encL {α : Type} (sz : Nat) (enc : α → Nat → DV) (dv : α) (xs : List α) (_ : Nat) : DV := .sl sz enc dv xs

inductive GetO (env : Env) (q : Path) : Option Operand → Option Value → Prop where
  | none : GetO env q none none
  | some {x : Operand} {v : Value} : Get env q x (.v v) → GetO env q (some x) (some v)
theorem GetO.sound {C : Ctx} {env : Env} {sto : Sto} {a : Act} {w : World} (h : Abs C env sto a w) {q : Path} (hq : PathHolds q) {x : Option Operand} {v : Option Value} (hg : GetO env q x v) :
    x.map a.eval = v := by
  cases hg with
  | none => rfl
  | some hg => simp [hg.v h hq]

inductive GetVs (env : Env) (q : Path) : List Operand → List Value → Prop where
  | nil : GetVs env q [] []
  | cons {x : Operand} {v : Value} {xs : List Operand} {vs : List Value} : Get env q x (.v v) → GetVs env q xs vs → GetVs env q (x :: xs) (v :: vs)
theorem GetVs.sound {C : Ctx} {env : Env} {sto : Sto} {a : Act} {w : World} (h : Abs C env sto a w) {q : Path} (hq : PathHolds q) {xs : List Operand} {vs : List Value} (hg : GetVs env q xs vs) :
    xs.map a.eval = vs := by
  induction hg with
  | nil => rfl
  | cons hx _ ih => simp [hx.v h hq, ih]

inductive Conv (T : Tab) (s d : TypeId) : AV → AV → Prop where
  | int {k k' : IntKind} {n : Int} {m b : Nat} {z : List Value} {ys : Ty} : tget s T = some ys → tget d T = some ⟨.int k, m, b, z⟩ → Conv T s d (.v (.int k' n)) (.v (.int k (k.wrap n)))
  | str {x : ByteArray} {m b : Nat} {z : List Value} {ys : Ty} : tget s T = some ys → tget d T = some ⟨.str, m, b, z⟩ → Conv T s d (.v (.string x)) (.v (.string x))
  | bytes {new : Bool} {xs : List UInt8} {e m b m' b' m'' b'' : Nat} {z z' z'' : List Value} : tget s T = some ⟨.slice e, m, b, z⟩ → tget e T = some ⟨.int .u8, m', b', z'⟩ → tget d T = some ⟨.str, m'', b'', z''⟩ →
      Conv T s d (.d new 1 encB 0 xs) (.v (.string ⟨xs.toArray⟩))

inductive Idx (T : Tab) (sto : Sto) (q : Path) (t : TypeId) : AV → Int → AV → Prop where
  | dN {α : Type} {new : Bool} {sz : Nat} {enc : α → Nat → DV} {dv : α} {xs : List α} {i : Nat} {e m b b' : Nat} {z z' : List Value} {ke : TK} :
      tget t T = some ⟨.slice e, m, b, z⟩ → tget e T = some ⟨ke, sz, b', z'⟩ → Nat.blt 0 sz = true → Side q (i < xs.length) → Idx T sto q t (.d new sz enc dv xs) (i : Int) (.p new sz enc dv xs i 0)
  | rowN {α : Type} {v : Value} {new : Bool} {et sz : Nat} {enc : α → Nat → DV} {dv : α} {xs : List α} {i : Nat} {e m b b' : Nat} {z z' : List Value} {ke : TK} :
      RRow v new et sz enc dv xs sto → tget t T = some ⟨.slice e, m, b, z⟩ → tget e T = some ⟨ke, sz, b', z'⟩ → Nat.blt 0 sz = true → Side q (i < xs.length) → Idx T sto q t (.o v) (i : Int) (.e v sz i 0)
  | arrN {b j len : Nat} {i : Nat} {e m by' : Nat} {z : List Value} {ye : Ty} : tget t T = some ⟨.array len e, m, by', z⟩ → tget e T = some ye → Side q (i < len) → Idx T sto q t (.v (.pointer (some ⟨b, j, none⟩))) (i : Int) (.v (.pointer (some ⟨b, j + i * ye.size, none⟩)))
  | d {α : Type} {new : Bool} {sz : Nat} {enc : α → Nat → DV} {dv : α} {xs : List α} {i : Int} {e m b b' : Nat} {z z' : List Value} {ke : TK} :
      tget t T = some ⟨.slice e, m, b, z⟩ → tget e T = some ⟨ke, sz, b', z'⟩ → Nat.blt 0 sz = true → Side q (0 ≤ i ∧ i < xs.length) → Idx T sto q t (.d new sz enc dv xs) i (.p new sz enc dv xs i.toNat 0)
  | row {α : Type} {v : Value} {new : Bool} {et sz : Nat} {enc : α → Nat → DV} {dv : α} {xs : List α} {i : Int} {e m b b' : Nat} {z z' : List Value} {ke : TK} :
      RRow v new et sz enc dv xs sto → tget t T = some ⟨.slice e, m, b, z⟩ → tget e T = some ⟨ke, sz, b', z'⟩ → Nat.blt 0 sz = true → Side q (0 ≤ i ∧ i < xs.length) → Idx T sto q t (.o v) i (.e v sz i.toNat 0)
  | arr {b j len : Nat} {i : Int} {e m by' : Nat} {z : List Value} {ye : Ty} : tget t T = some ⟨.array len e, m, by', z⟩ → tget e T = some ye → Side q (0 ≤ i ∧ i < len) → Idx T sto q t (.v (.pointer (some ⟨b, j, none⟩))) i (.v (.pointer (some ⟨b, j + i.toNat * ye.size, none⟩)))

inductive Load (T : Tab) (sto : Sto) (t : TypeId) : AV → AV → Prop where
  | box {b j : Nat} {cs : List AV} {y : Ty} {r : AV} : RBox b cs sto → tget t T = some y → readB y.k.agg y.size cs j = some r → Load T sto t (.v (.pointer (some ⟨b, j, none⟩))) r
  | p {α : Type} {new : Bool} {sz : Nat} {enc : α → Nat → DV} {dv : α} {xs : List α} {i j : Nat} {y : Ty} {r : AV} :
      tget t T = some y → readP y.k.agg y.size new sz (enc (xs.getD i dv)) j = some r → Load T sto t (.p new sz enc dv xs i j) r
  | e {α : Type} {v : Value} {new : Bool} {et sz : Nat} {enc : α → Nat → DV} {dv : α} {xs : List α} {i j : Nat} {y : Ty} {r : AV} :
      RRow v new et sz enc dv xs sto → tget t T = some y → readP y.k.agg y.size new sz (enc (xs.getD i dv)) j = some r → Load T sto t (.e v sz i j) r

inductive Fa (off : Nat) : AV → AV → Prop where
  | v {b j : Nat} : Fa off (.v (.pointer (some ⟨b, j, none⟩))) (.v (.pointer (some ⟨b, j + off, none⟩)))
  | p {α : Type} {new : Bool} {sz : Nat} {enc : α → Nat → DV} {dv : α} {xs : List α} {i j : Nat} : Nat.blt (j + off) sz = true → Fa off (.p new sz enc dv xs i j) (.p new sz enc dv xs i (j + off))
  | e {v : Value} {sz i j : Nat} : Nat.blt (j + off) sz = true → Fa off (.e v sz i j) (.e v sz i (j + off))

inductive Len (T : Tab) (sto : Sto) (t : TypeId) : AV → AV → Prop where
  | d {α : Type} {new : Bool} {sz : Nat} {enc : α → Nat → DV} {dv : α} {xs : List α} {e m b : Nat} {z : List Value} : tget t T = some ⟨.slice e, m, b, z⟩ → Len T sto t (.d new sz enc dv xs) (.v (.int .i64 xs.length))
  | str {s : ByteArray} {m b : Nat} {z : List Value} : tget t T = some ⟨.str, m, b, z⟩ → Len T sto t (.v (.string s)) (.v (.int .i64 s.size))
  | sl {A : Option Addr} {n c : Nat} {e m b : Nat} {z : List Value} : tget t T = some ⟨.slice e, m, b, z⟩ → Len T sto t (.v (.slice A n c)) (.v (.int .i64 n))
  | row {α : Type} {v : Value} {new : Bool} {et sz : Nat} {enc : α → Nat → DV} {dv : α} {xs : List α} {e m b : Nat} {z : List Value} : RRow v new et sz enc dv xs sto → tget t T = some ⟨.slice e, m, b, z⟩ →
      Len T sto t (.o v) (.v (.int .i64 xs.length))
  | s {v : Value} {sz lo hi : Nat} {e m b : Nat} {z : List Value} : tget t T = some ⟨.slice e, m, b, z⟩ → Len T sto t (.s v sz lo hi) (.v (.int .i64 (hi - lo : Nat)))

def mxOk : Option Value → Int → Prop
  | none, _ => True
  | some (.int _ i), u => i = u
  | some _, _ => False
inductive Sl (T : Tab) (sto : Sto) (q : Path) (t : TypeId) (lo hi mx : Option Value) : AV → AV → Prop where
  | str {s : ByteArray} {l u : Int} {m b : Nat} {z : List Value} : tget t T = some ⟨.str, m, b, z⟩ → boundI lo 0 = some l → boundI hi s.size = some u → mx = none → Side q (0 ≤ l ∧ l ≤ u ∧ u ≤ s.size) →
      Sl T sto q t lo hi mx (.v (.string s)) (.v (.string (s.extract l.toNat u.toNat)))
  | d {α : Type} {new : Bool} {sz : Nat} {enc : α → Nat → DV} {dv : α} {xs : List α} {l u : Int} {e m b b' : Nat} {z z' : List Value} {ke : TK} : tget t T = some ⟨.slice e, m, b, z⟩ → tget e T = some ⟨ke, sz, b', z'⟩ →
      boundI lo 0 = some l → boundI hi xs.length = some u → mxOk mx u → (mx.isSome = true → hi.isSome = true) → Side q (0 ≤ l ∧ l ≤ u ∧ u ≤ xs.length) → Sl T sto q t lo hi mx (.d new sz enc dv xs) (.d new sz enc dv ((xs.take u.toNat).drop l.toNat))
  | row {α : Type} {v : Value} {new : Bool} {et sz : Nat} {enc : α → Nat → DV} {dv : α} {xs : List α} {l u : Int} {e m b b' : Nat} {z z' : List Value} {ke : TK} : RRow v new et sz enc dv xs sto → tget t T = some ⟨.slice e, m, b, z⟩ → tget e T = some ⟨ke, sz, b', z'⟩ →
      boundI lo 0 = some l → boundI hi xs.length = some u → mx = none → Side q (0 ≤ l ∧ l ≤ u ∧ u ≤ xs.length) → Sl T sto q t lo hi mx (.o v) (.s v sz l.toNat u.toNat)

def encBo (x : Bool) (_ : Nat) : DV := .v (.bool x)
def lookV (ok : Bool) (v : AV) (b : Bool) : AV :=
  match ok with
  | true => .t [v, .v (.bool b)]
  | false => v
/-- What stands for the zero of a type. -/
inductive ZeroD : DV → Value → Prop where
  | v {x y : Value} : x = y → ZeroD (.v x) y
  | nil {α : Type} {sz : Nat} {enc : α → Nat → DV} {dv : α} : ZeroD (.sl sz enc dv []) (.slice none 0 0)
inductive ZeroL (f : Nat → DV) : Nat → List Value → Prop where
  | nil (j : Nat) : ZeroL f j []
  | cons {j : Nat} {v : Value} {vs : List Value} : ZeroD (f j) v → ZeroL f (j + 1) vs → ZeroL f j (v :: vs)
/-- A key, as a value. -/
inductive KeyA {κ : Type} (kk : κ → Value) : AV → κ → Prop where
  | v {x : Value} {k : κ} : x = kk k → KeyA kk (.v x) k
  | g {xs : List Value} {k : κ} : .agg xs.toArray = kk k → KeyA kk (.g (xs.map .v)) k
inductive KeyT (T : Tab) : Ty → {κ : Type} → [DecidableEq κ] → (κ → Value) → Prop where
  | int {k : IntKind} {m b : Nat} {z : List Value} : KeyT T ⟨.int k, m, b, z⟩ (kInt k)
  | str {m b : Nat} {z : List Value} : KeyT T ⟨.str, m, b, z⟩ kStr
/-- What is looked up in a map. -/
inductive LookK (T : Tab) (sto : Sto) (ok : Bool) (yk ye : Ty) : AV → AV → AV → Prop where
  | mp {κ α : Type} {dec : DecidableEq κ} {r : Nat} {new : Bool} {kk : κ → Value} {enc : α → Nat → DV} {es : List (κ × α)} {k : κ} {zi : AV} (d : α) : RMap r new kk ye.k.agg ye.size enc es sto → KeyT T yk kk → KeyA kk zi k → ye.zero.all oneV = true → ZeroL (enc d) 0 ye.zero →
      LookK T sto ok yk ye (.v (.map (some r))) zi (lookV ok (valA new ye.k.agg ye.size (enc ((mget es k).getD d))) (mget es k).isSome)

inductive Bin (T : Tab) (t : TypeId) : BinOp → AV → AV → Prop → AV → Prop where
  | eqB {a c : Bool} {m b : Nat} {z : List Value} : tget t T = some ⟨.bool, m, b, z⟩ → Bin T t .eql (.v (.bool a)) (.v (.bool c)) True (.v (.bool (a == c)))
  | neB {a c : Bool} {m b : Nat} {z : List Value} : tget t T = some ⟨.bool, m, b, z⟩ → Bin T t .neq (.v (.bool a)) (.v (.bool c)) True (.v (.bool (!(a == c))))
  | v {op : BinOp} {u v r : Value} {s : Prop} : binV op u v = some (s, r) → Bin T t op (.v u) (.v v) s (.v r)
  | x {op : BinOp} {u v r : Value} {s : Prop} : binX op u v = some (s, r) → Bin T t op (.v u) (.v v) s (.v r)

def unV (op : UnOp) (x : Value) : Option Value :=
  match op, x with
  | .not, .bool b => some (.bool !b)
  | .neg, .int k n => some (.int k (k.wrap (0 - n)))
  | .xor, .int k n => some (.int k (k.wrap (BitVec.ofInt k.bits (if k.signed then -1 else k.max) ^^^ BitVec.ofInt k.bits n).toNat))
  | _, _ => none

def isPtr : AV → Bool
  | .v (.pointer (some _)) | .p .. | .e .. => true
  | _ => false

inductive IntsL (k : IntKind) : List AV → List Int → Prop where
  | nil : IntsL k [] []
  | cons {n : Int} {zs : List AV} {xs : List Int} : IntsL k zs xs → IntsL k (.v (.int k n) :: zs) (n :: xs)
theorem IntsL.get {k : IntKind} {zs : List AV} {xs : List Int} (h : IntsL k zs xs) : ∀ i, i < xs.length → zs[i]? = some (.v (.int k (xs.getD i 0))) := by
  induction h with
  | nil => intro i hi; simp at hi
  | @cons n zs xs _ ih =>
    intro i hi
    cases i with
    | zero => simp
    | succ i => simpa using ih i (by simpa using hi)
inductive Ix (T : Tab) (q : Path) (t : TypeId) : AV → Int → AV → Prop where
  | str {s : ByteArray} {n : Int} {m b : Nat} {z : List Value} : tget t T = some ⟨.str, m, b, z⟩ → Side q (0 ≤ n ∧ n < s.size) → Ix T q t (.v (.string s)) n (.v (.int .u8 ((s.data.toList.getD n.toNat 0).toNat : Int)))
  | ints {k : IntKind} {cs : List AV} {xs : List Int} {n : Int} {len e m b b' : Nat} {z z' : List Value} : tget t T = some ⟨.array len e, m, b, z⟩ → tget e T = some ⟨.int k, 1, b', z'⟩ → IntsL k cs xs → Nat.beq xs.length len = true → Side q (0 ≤ n ∧ n < xs.length) →
      Ix T q t (.g cs) n (.v (.int k (xs.getD n.toNat 0)))

inductive Quiet (T : Tab) (env : Env) (sto : Sto) (q : Path) : Op → AV → Prop where
  | move {x : Operand} {z : AV} : Get env q x z → Quiet T env sto q (.move x) z
  | assign {x : Operand} {z : AV} : Get env q x z → Quiet T env sto q (.assign x) z
  | load {t : TypeId} {x : Operand} {z r : AV} : Get env q x z → Load T sto t z r → Quiet T env sto q (.load t x) r
  | fieldAddr {s : TypeId} {x : Operand} {f off m b : Nat} {ft : TypeId} {fs : List (TypeId × Nat)} {zs : List Value} {yf : Ty} {z r : AV} : Get env q x z → tget s T = some ⟨.struct fs, m, b, zs⟩ → fs[f]? = some (ft, off) →
      tget ft T = some yf → Nat.blt 0 yf.size = true → Fa off z r → Quiet T env sto q (.fieldAddr s x f) r
  | indexAddr {t : TypeId} {x i : Operand} {z r : AV} {k : IntKind} {n : Int} : Get env q x z → Get env q i (.v (.int k n)) → Idx T sto q t z n r → Quiet T env sto q (.indexAddr t x i) r
  | binOp {op : BinOp} {t t' : TypeId} {x y : Operand} {u v r : AV} {s : Prop} : Get env q x u → Get env q y v → Bin T t op u v s r → Side q s → Quiet T env sto q (.binOp op t x y t') r
  | extract {x : Operand} {i : Nat} {zs : List AV} {z : AV} : Get env q x (.t zs) → zs[i]? = some z → Quiet T env sto q (.extract x i) z
  | pickOr {c b : Operand} {cb y : Bool} : Get env q c (.v (.bool cb)) → Get env ((cb, false) :: q) b (.v (.bool y)) → Quiet T env sto q (.pick c (.const (.bool true)) b) (.v (.bool (cb || y)))
  | pickAnd {c b : Operand} {cb y : Bool} : Get env q c (.v (.bool cb)) → Get env ((cb, true) :: q) b (.v (.bool y)) → Quiet T env sto q (.pick c b (.const (.bool false))) (.v (.bool (cb && y)))
  | build {t : TypeId} {ps : Array (Nat × Operand)} {zs : List (Nat × AV)} {cs : List AV} {y : Ty} : GetPs env q ps.toList zs → tget t T = some y → Bld T y zs cs → Quiet T env sto q (.build t ps) (.g cs)
  | nilCheck {x : Operand} {z : AV} : Get env q x z → isPtr z = true → Quiet T env sto q (.nilCheck x) z
  | unOp {op : UnOp} {t : TypeId} {x : Operand} {u r : Value} : Get env q x (.v u) → unV op u = some r → Quiet T env sto q (.unOp op t x) (.v r)
  | convert {s d : TypeId} {x : Operand} {z r : AV} : Get env q x z → Conv T s d z r → Quiet T env sto q (.convert s d x) r
  | field {t : TypeId} {x : Operand} {f off m b : Nat} {ft : TypeId} {fs : List (TypeId × Nat)} {zs : List Value} {yf : Ty} {cs : List AV} {r : AV} : Get env q x (.g cs) → tget t T = some ⟨.struct fs, m, b, zs⟩ → fs[f]? = some (ft, off) →
      tget ft T = some yf → readB yf.k.agg yf.size cs off = some r → Quiet T env sto q (.field t x f) r
  | index {t : TypeId} {x i : Operand} {k : IntKind} {n : Int} {z r : AV} : Get env q x z → Get env q i (.v (.int k n)) → Ix T q t z n r → Quiet T env sto q (.index t x i) r
  | slice {t : TypeId} {x : Operand} {lo hi mx : Option Operand} {vl vh vm : Option Value} {z r : AV} : Get env q x z → GetO env q lo vl → GetO env q hi vh → GetO env q mx vm → Sl T sto q t vl vh vm z r → Quiet T env sto q (.slice t x lo hi mx) r
  | lookMap {t kt et : TypeId} {x i : Operand} {ok : Bool} {z zi r : AV} {yt yk ye : Ty} : Get env q x z → Get env q i zi → tget t T = some yt → yt.k = .map kt et → tget kt T = some yk → tget et T = some ye → LookK T sto ok yk ye z zi r → Quiet T env sto q (.lookup t x i ok) r
  | makeFunc {fn : Fn} {first captured : List Operand} {vs us : List Value} : GetVs env q first vs → GetVs env q captured us → Quiet T env sto q (.makeFunc fn first.toArray captured.toArray) (.v (.func fn vs.toArray us.toArray))
  | len {x : Operand} {t : TypeId} {z r : AV} : Get env q x z → Len T sto t z r → Quiet T env sto q (.call { callee := .builtin .len, args := #[x], argTypes := #[t] }) r
  | min {x y : Operand} {ts : Array TypeId} {k : IntKind} {a b : Int} : Get env q x (.v (.int k a)) → Get env q y (.v (.int k b)) → Quiet T env sto q (.call { callee := .builtin .min, args := #[x, y], argTypes := ts }) (.v (.int k (Min.min a b)))
  | max {x y : Operand} {ts : Array TypeId} {k : IntKind} {a b : Int} : Get env q x (.v (.int k a)) → Get env q y (.v (.int k b)) → Quiet T env sto q (.call { callee := .builtin .max, args := #[x, y], argTypes := ts }) (.v (.int k (Max.max a b)))

theorem Quiet.nd {T : Tab} {env : Env} {sto : Sto} {q : Path} {op : Op} {z : AV} (h : Quiet T env sto q op z) : isDefer op = false := by cases h <;> rfl
end Go.Sx
