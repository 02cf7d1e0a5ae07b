/- Operations that leave memory as it is: what they yield. -/
import Derived.Test.YtnaickojmfefeaaSxState
import Derived.Laws.Cells
import Derived.Laws.Rows
set_option linter.all false
namespace Go.Sx

/-! ### Types -/
inductive TK where
  | bool | int (k : IntKind) | str | ptr (e : TypeId) | slice (e : TypeId) | array (n : Nat) (e : TypeId) | map (k e : TypeId) | struct (fs : List (TypeId × Nat)) | func | iface | other
structure Ty where
  k : TK
  size : Nat
  bytes : Nat
  zero : List Value
abbrev Tab := List (Nat × Ty)
def tget (t : Nat) : Tab → Option Ty
  | [] => none
  | (s, y) :: e => match Nat.beq t s with
    | true => some y
    | false => tget t e
def TK.fits : TK → TypeDesc → Prop
  | .bool, .bool => True
  | .int k, .int k' => k = k'
  | .str, .string => True
  | .ptr e, .pointer e' => e = e'
  | .slice e, .slice e' => e = e'
  | .array n e, .array n' e' => n = n' ∧ e = e'
  | .map k e, .map k' e' => k = k' ∧ e = e'
  | .struct fs, .struct fs' => fs'.toList.map (fun f => (f.type, f.offset)) = fs
  | .func, .func .. => True
  | .iface, .interface _ => True
  | _, _ => False
def Ty.ok (P : Program) (t : TypeId) (y : Ty) : Prop :=
  ∃ d i, P.underlying t = some d ∧ P.info? t = some i ∧ y.k.fits d ∧ i.size = y.size ∧ i.bytes = y.bytes ∧ i.zero.map (·.cells.toList) = some y.zero ∧ y.zero.length = y.size ∧ (match y.k with | .struct _ | .array .. => ∃ arr, i.zero = some (.agg arr) | _ => y.size = 1 ∧ i.zero = y.zero.head?)
def TabOk (P : Program) (T : Tab) : Prop := ∀ t y, tget t T = some y → y.ok P t
def TK.agg : TK → Bool
  | .struct _ | .array .. => true
  | _ => false

/-! ### Operands -/
inductive PMem (c b : Bool) : Path → Prop where
  | head (q : Path) : PMem c b ((c, b) :: q)
  | tail (x : Bool × Bool) (q : Path) : PMem c b q → PMem c b (x :: q)
inductive SubPath : Path → Path → Prop where
  | nil (q : Path) : SubPath [] q
  | cons {c b : Bool} {p q : Path} : PMem c b q → SubPath p q → SubPath ((c, b) :: p) q
theorem PMem.holds {c b : Bool} {q : Path} (h : PMem c b q) (hq : PathHolds q) : c = b := by
  induction h with
  | head q => exact hq.1
  | tail x q _ ih => exact ih (by cases x; exact hq.2)
theorem SubPath.holds {p q : Path} (h : SubPath p q) (hq : PathHolds q) : PathHolds p := by
  induction h with
  | nil q => trivial
  | cons hm _ ih => exact ⟨hm.holds hq, ih hq⟩

inductive Get (env : Env) (q : Path) : Operand → AV → Prop where
  | tmp {t : Tmp} {q' : Path} {z : AV} : lookup t env = some (q', z) → SubPath q' q → Get env q (.tmp t) z
  | const (v : Value) : Get env q (.const v) (.v v)
  | func (f : FuncId) : Get env q (.func f) (.v (.func (.func f) #[] #[]))
  | global (g : Nat) : Get env q (.global g) (.v (.pointer (some ⟨g, 0, none⟩)))

theorem Get.sound {C : Ctx} {env : Env} {sto : Sto} {a : Act} {w : World} (h : Abs C env sto a w) {q : Path} (hq : PathHolds q) {x : Operand} {z : AV} (hg : Get env q x z) :
    AAt (C.cx sto) w z (a.eval x) := by
  cases hg with
  | tmp hl hs => exact h.slots _ _ _ hl (hs.holds hq)
  | const v => simp [AAt, Act.eval]
  | func f => simp [AAt, Act.eval]
  | global g => simp [AAt, Act.eval]

theorem Get.v {C : Ctx} {env : Env} {sto : Sto} {a : Act} {w : World} (h : Abs C env sto a w) {q : Path} (hq : PathHolds q) {x : Operand} {v : Value} (hg : Get env q x (.v v)) :
    a.eval x = v := by simpa [AAt] using hg.sound h hq

/-! ### What two values come to -/
def binV (op : BinOp) (x y : Value) : Option (Prop × Value) :=
  match x, y with
  | .int k a, .int k' b =>
    match op with
    | .shl => some (0 ≤ b, .int k (k.wrap (a * 2 ^ (min b.toNat k.bits))))
    | .shr => some (0 ≤ b, .int k (a.fdiv (2 ^ (min b.toNat k.bits))))
    | .add => some (k = k', .int k (k.wrap (a + b)))
    | .sub => some (k = k', .int k (k.wrap (a - b)))
    | .mul => some (k = k', .int k (k.wrap (a * b)))
    | .quo => some (k = k' ∧ b ≠ 0, .int k (k.wrap (a.tdiv b)))
    | .rem => some (k = k' ∧ b ≠ 0, .int k (a.tmod b))
    | .and => some (k = k', .int k (k.wrap (BitVec.ofInt k.bits a &&& BitVec.ofInt k.bits b).toNat))
    | .or => some (k = k', .int k (k.wrap (BitVec.ofInt k.bits a ||| BitVec.ofInt k.bits b).toNat))
    | .xor => some (k = k', .int k (k.wrap (BitVec.ofInt k.bits a ^^^ BitVec.ofInt k.bits b).toNat))
    | .andNot => some (k = k', .int k (k.wrap (BitVec.ofInt k.bits a &&& ~~~(BitVec.ofInt k.bits b)).toNat))
    | .eql => some (k = k', .bool (a == b))
    | .neq => some (k = k', .bool (a != b))
    | .lss => some (k = k', .bool (decide (a < b)))
    | .leq => some (k = k', .bool (decide (a ≤ b)))
    | .gtr => some (k = k', .bool (decide (a > b)))
    | .geq => some (k = k', .bool (decide (a ≥ b)))
  | .string a, .string b =>
    match op with
    | .eql => some (True, .bool (a.toList == b.toList))
    | .neq => some (True, .bool (!(a.toList == b.toList)))
    | .add => some (((a.size + b.size : Nat) : Int) ≤ IntKind.i64.max, .string (a ++ b))
    | _ => none
  | _, _ => none

theorem binV_run {P : Program} {op : BinOp} {t : TypeId} {x y : Operand} {u v r : Value} {s : Prop} (h : binV op u v = some (s, r)) (hs : s) (w : World) :
    (do eqGuard op t x y u v; binOp op t u v : Sem Value).run P w = .ok r w := by
  have hg : (eqGuard op t x y u v).run P w = .ok () w := by
    unfold binV at h
    split at h
    · cases op <;> simp [eqGuard, go_sem]
    · cases op <;> simp [eqGuard, go_sem]
    · cases h
  rw [Sem.run_bind, hg]
  simp only [Result.andThen_ok]
  unfold binV at h
  split at h
  · cases op <;> simp only [Option.some.injEq, Prod.mk.injEq, reduceCtorEq] at h <;> (try cases h) <;> simp only [binOp]
    all_goals (first
      | (rename_i k a k' b h1 h2; subst h1 h2; first
          | (subst hs; simp [Op.intArith, Op.intBits, Op.intCmp, go_sem]; done)
          | (obtain ⟨rfl, hb⟩ := hs; simp [Op.intDiv, hb, go_sem]; done)
          | (simp [Op.shift, Int.not_lt.2 hs, go_sem]; done))
      | skip)
  · cases op <;> simp only [Option.some.injEq, Prod.mk.injEq, reduceCtorEq] at h <;> (try cases h) <;> simp only [binOp, Op.stringOp]
    all_goals (first
      | (rename_i a b h1 h2; subst h1 h2; first
          | (simp [go_sem]; done)
          | (rw [if_neg (Int.not_lt.2 hs)]; simp [go_sem]; done))
      | skip)
  · cases h

/-- Numbers that do not overflow. -/
def binX (op : BinOp) (x y : Value) : Option (Prop × Value) :=
  match op, x, y with
  | .add, .int .i64 a, .int .i64 b => some (-9223372036854775808 ≤ a + b ∧ a + b ≤ 9223372036854775807, .int .i64 (a + b))
  | .sub, .int .i64 a, .int .i64 b => some (-9223372036854775808 ≤ a - b ∧ a - b ≤ 9223372036854775807, .int .i64 (a - b))
  | .mul, .int .i64 a, .int .i64 b => some (-9223372036854775808 ≤ a * b ∧ a * b ≤ 9223372036854775807, .int .i64 (a * b))
  | .rem, .int .i64 a, .int .i64 b => some (0 ≤ a ∧ 0 < b, .int .i64 (a % b))
  | .quo, .int .i64 a, .int .i64 b => some (0 ≤ a ∧ 0 < b ∧ a ≤ 9223372036854775807, .int .i64 (a / b))
  | _, _, _ => none
theorem wrap_in {x : Int} (h : -9223372036854775808 ≤ x ∧ x ≤ 9223372036854775807) : IntKind.i64.wrap x = x := by rw [IntKind.wrap_i64]; omega
theorem binX_run {P : Program} {op : BinOp} {t : TypeId} {x y : Operand} {u v r : Value} {s : Prop} (h : binX op u v = some (s, r)) (hs : s) (w : World) :
    (do eqGuard op t x y u v; binOp op t u v : Sem Value).run P w = .ok r w := by
  unfold binX at h
  split at h
  · simp only [Option.some.injEq, Prod.mk.injEq] at h
    obtain ⟨rfl, rfl⟩ := h
    rw [binV_run (s := IntKind.i64 = IntKind.i64) rfl rfl w, wrap_in hs]
  · simp only [Option.some.injEq, Prod.mk.injEq] at h
    obtain ⟨rfl, rfl⟩ := h
    rw [binV_run (s := IntKind.i64 = IntKind.i64) rfl rfl w, wrap_in hs]
  · simp only [Option.some.injEq, Prod.mk.injEq] at h
    obtain ⟨rfl, rfl⟩ := h
    rw [binV_run (s := IntKind.i64 = IntKind.i64) rfl rfl w, wrap_in hs]
  · rename_i a b
    simp only [Option.some.injEq, Prod.mk.injEq] at h
    obtain ⟨rfl, rfl⟩ := h
    rw [binV_run (s := IntKind.i64 = IntKind.i64 ∧ b ≠ 0) rfl ⟨rfl, by omega⟩ w, Int.tmod_eq_emod_of_nonneg hs.1]
  · rename_i a b
    simp only [Option.some.injEq, Prod.mk.injEq] at h
    obtain ⟨rfl, rfl⟩ := h
    have h1 : 0 ≤ a / b := Int.ediv_nonneg hs.1 (by omega)
    have h2 : a / b ≤ a := Int.ediv_le_self _ hs.1
    rw [binV_run (s := IntKind.i64 = IntKind.i64 ∧ b ≠ 0) rfl ⟨rfl, by omega⟩ w, Int.tdiv_eq_ediv_of_nonneg hs.1, wrap_in (by omega)]
  · cases h

/-! ### What memory holds -/
inductive RBox (b : Nat) (cs : List AV) : Sto → Prop where
  | head (r : Sto) : RBox b cs (.box b cs :: r)
  | tail (x : Res) (r : Sto) : RBox b cs r → RBox b cs (x :: r)
inductive RRow {α : Type} (v : Value) (new : Bool) (e : TypeId) (sz : Nat) (enc : α → Nat → DV) (dv : α) (xs : List α) : Sto → Prop where
  | head (r : Sto) : RRow v new e sz enc dv xs (.row v new e sz enc dv xs :: r)
  | tail (x : Res) (r : Sto) : RRow v new e sz enc dv xs r → RRow v new e sz enc dv xs (x :: r)
inductive RMap {κ α : Type} (m : Nat) (new : Bool) (kk : κ → Value) (agg : Bool) (sz : Nat) (enc : α → Nat → DV) (es : List (κ × α)) : Sto → Prop where
  | head (r : Sto) : RMap m new kk agg sz enc es (.mp m new kk agg sz enc es :: r)
  | tail (x : Res) (r : Sto) : RMap m new kk agg sz enc es r → RMap m new kk agg sz enc es (x :: r)
theorem RBox.mem {b : Nat} {cs : List AV} {sto : Sto} (h : RBox b cs sto) : Res.box b cs ∈ sto := by
  induction h with
  | head => simp
  | tail _ _ _ ih => simp [ih]
theorem RRow.mem {α : Type} {v : Value} {new : Bool} {e : TypeId} {sz : Nat} {enc : α → Nat → DV} {dv : α} {xs : List α} {sto : Sto} (h : RRow v new e sz enc dv xs sto) : Res.row v new e sz enc dv xs ∈ sto := by
  induction h with
  | head => simp
  | tail _ _ _ ih => simp [ih]
theorem RMap.mem {κ α : Type} {m : Nat} {new : Bool} {kk : κ → Value} {agg : Bool} {sz : Nat} {enc : α → Nat → DV} {es : List (κ × α)} {sto : Sto} (h : RMap m new kk agg sz enc es sto) : Res.mp m new kk agg sz enc es ∈ sto := by
  induction h with
  | head => simp
  | tail _ _ _ ih => simp [ih]

/-- What is read at cell j of an element: one cell, or n of them. -/
def readP (agg : Bool) (n : Nat) (new : Bool) (sz : Nat) (f : Nat → DV) (j : Nat) : Option AV :=
  match agg with
  | false => match Nat.blt j sz with | true => some (upD new (f j)) | false => none
  | true => match Nat.ble (j + n) sz with | true => some (.g ((List.range n).map fun m => upD new (f (j + m)))) | false => none
def readB (agg : Bool) (n : Nat) (cs : List AV) (j : Nat) : Option AV :=
  match agg with
  | false => cs[j]?
  | true => match Nat.ble (j + n) cs.length with | true => some (.g ((cs.drop j).take n)) | false => none

theorem AAtL.length {cx : Cx} {w : World} : ∀ {xs : List AV} {us : List Value}, AAtL cx w xs us → xs.length = us.length
  | [], [], _ => rfl
  | [], _ :: _, h => by simp [AAtL] at h
  | _ :: _, [], h => by simp [AAtL] at h
  | x :: xs, u :: us, h => by simp only [AAtL] at h; simp [AAtL.length h.2]
theorem AAtL.get {cx : Cx} {w : World} : ∀ {xs : List AV} {us : List Value}, AAtL cx w xs us → ∀ (j : Nat) (z : AV), xs[j]? = some z → ∃ u, us[j]? = some u ∧ AAt cx w z u
  | [], [], _, j, z, h => by simp at h
  | [], _ :: _, h, _, _, _ => by simp [AAtL] at h
  | _ :: _, [], h, _, _, _ => by simp [AAtL] at h
  | x :: xs, u :: us, h, 0, z, hz => by simp only [AAtL] at h; simp at hz; subst hz; exact ⟨u, by simp, h.1⟩
  | x :: xs, u :: us, h, j + 1, z, hz => by simp only [AAtL] at h; simpa using AAtL.get h.2 j z (by simpa using hz)
theorem AAtL.drop {cx : Cx} {w : World} : ∀ {xs : List AV} {us : List Value} (j : Nat), AAtL cx w xs us → AAtL cx w (xs.drop j) (us.drop j)
  | xs, us, 0, h => by simpa using h
  | [], [], j + 1, _ => by simp [AAtL]
  | [], _ :: _, _, h => by simp [AAtL] at h
  | _ :: _, [], _, h => by simp [AAtL] at h
  | x :: xs, u :: us, j + 1, h => by simp only [AAtL] at h; simpa using AAtL.drop j h.2
theorem AAtL.take {cx : Cx} {w : World} : ∀ {xs : List AV} {us : List Value} (j : Nat), AAtL cx w xs us → AAtL cx w (xs.take j) (us.take j)
  | xs, us, 0, _ => by simp [AAtL]
  | [], [], j + 1, _ => by simp [AAtL]
  | [], _ :: _, _, h => by simp [AAtL] at h
  | _ :: _, [], _, h => by simp [AAtL] at h
  | x :: xs, u :: us, j + 1, h => by simp only [AAtL] at h; simp only [List.take_succ_cons, AAtL]; exact ⟨h.1, AAtL.take j h.2⟩
theorem AAtL.of_get {cx : Cx} {w : World} : ∀ {xs : List AV} {us : List Value}, xs.length = us.length → (∀ (j : Nat) (z : AV) (u : Value), xs[j]? = some z → us[j]? = some u → AAt cx w z u) → AAtL cx w xs us
  | [], [], _, _ => by simp [AAtL]
  | [], _ :: _, h, _ => by simp at h
  | _ :: _, [], h, _ => by simp at h
  | x :: xs, u :: us, hl, h => by
    simp only [AAtL]
    exact ⟨h 0 x u (by simp) (by simp), AAtL.of_get (by simpa using hl) (fun j z u hz hu => h (j + 1) z u (by simpa using hz) (by simpa using hu))⟩

theorem cell_of_heap {w : World} {b j : Nat} {arr : Array Value} {e : TypeId} {fr : Nat × Nat} (h : w.heap[b]? = some (.cells arr e fr)) : w.cell? ⟨b, j, none⟩ = arr[j]? := by
  simp [World.cell?, h]
theorem add_none (b o n : Nat) : (⟨b, o, none⟩ : Addr).add n = ⟨b, o + n, none⟩ := by
  unfold Addr.add
  split
  · simp_all
  · rfl

theorem row_cell {cx : Cx} {w : World} {α : Type} {v : Value} {new : Bool} {e : TypeId} {sz : Nat} {enc : α → Nat → DV} {dv : α} {xs : List α}
    (h : RAt cx w (.row v new e sz enc dv xs)) {a : Addr} {n c : Nat} (hv : v = .slice (some a) n c) {i j : Nat} (hi : i < xs.length) (hj : j < sz) :
    ∃ y, w.cell? (a.add (i * sz + j)) = some y ∧ DAt (cx.ok new) w (enc (xs.getD i dv) j) y := by
  obtain ⟨vals, h1, h2, h3, h4⟩ := h
  obtain ⟨y, hy1, hy2⟩ := h4 i j hi hj
  refine ⟨y, ?_, hy2⟩
  rcases h1 with ⟨rfl, _⟩ | ⟨g, o, n', cap, cur, rfl, hg, hn, hm, hc, hl, hvals⟩
  · simp at hv
  · simp only [Value.slice.injEq, Option.some.injEq] at hv
    obtain ⟨rfl, rfl, rfl⟩ := hv
    rw [add_none, cell_of_heap hg]
    rw [hvals, List.getElem?_take, List.getElem?_drop] at hy1
    split at hy1
    · simpa using hy1
    · cases hy1

theorem DAt.of_cells {F : Nat → Prop} {w : World} {α : Type} {sz : Nat} {enc : α → Nat → DV} {dv : α} {xs : List α} {a : Addr} {c : Nat} (hf : F a.block) (hb : a.block < w.heap.size) (hc : xs.length ≤ c)
    (h : ∀ i j, i < xs.length → j < sz → ∃ y, w.cell? (a.add (i * sz + j)) = some y ∧ DAt F w (enc (xs.getD i dv) j) y) : DAt F w (.sl sz enc dv xs) (.slice (some a) xs.length c) := by
  have hch : ∃ Y : Nat → Nat → Value, ∀ i j, i < xs.length → j < sz → w.cell? (a.add (i * sz + j)) = some (Y i j) ∧ DAt F w (enc (xs.getD i dv) j) (Y i j) := by
    refine ⟨fun i j => if h' : i < xs.length ∧ j < sz then (h i j h'.1 h'.2).choose else undef, fun i j hi hj => ?_⟩
    have hij : i < xs.length ∧ j < sz := ⟨hi, hj⟩
    simp only [hij, and_self, dif_pos]
    exact (h i j hi hj).choose_spec
  obtain ⟨Y, hY⟩ := hch
  exact .sl sz enc dv xs a c Y hf hb hc (fun i j hi hj => (hY i j hi hj).1) (fun i j hi hj => (hY i j hi hj).2)

/-- An owned row, seen as data. -/
theorem row_data {cx : Cx} {F : Nat → Prop} {w : World} {α : Type} {v : Value} {new : Bool} {e : TypeId} {sz : Nat} {enc : α → Nat → DV} {dv : α} {xs : List α}
    (h : RAt cx w (.row v new e sz enc dv xs)) (hF : ∀ b, b < w.heap.size → cx.ok new b → F b) (hv : ∀ b ∈ v.ownBlock.toList, F b) : DAt F w (.sl sz enc dv xs) v := by
  have h' := h
  obtain ⟨vals, h1, h2, h3, h4⟩ := h'
  rcases h1 with ⟨rfl, rfl⟩ | ⟨g, o, n', cap, cur, rfl, hg, hn, hm, hc, hl, hvals⟩
  · have hx := h3 _ _ _ rfl
    have : xs = [] := List.eq_nil_of_length_eq_zero hx.symm
    subst this
    exact .nil _ _ _ _ _
  · have hx := h3 _ _ _ rfl
    subst hx
    refine .of_cells (hv g (by simp [Value.ownBlock])) (Array.getElem?_eq_some_iff.1 hg).1 hn (fun i j hi hj => ?_)
    obtain ⟨y, hy1, hy2⟩ := row_cell h rfl hi hj
    exact ⟨y, hy1, hy2.mono (fun b hb hok => ⟨hF b hb hok, rfl⟩) (Nat.le_refl _)⟩

/-- A part of data. -/
theorem DAt.part {F : Nat → Prop} {w : World} {α : Type} {sz : Nat} {enc : α → Nat → DV} {dv : α} {xs : List α} {A : Option Addr} {n c lo hi : Nat} (h : DAt F w (.sl sz enc dv xs) (.slice A n c)) (h1 : lo ≤ hi) (h2 : hi ≤ n) (m : Nat) (hm : hi ≤ m) (hmc : m ≤ c) :
    DAt F w (.sl sz enc dv ((xs.take hi).drop lo)) (.slice (if m = lo then A else A.map (·.add (lo * sz))) (hi - lo) (m - lo)) := by
  rcases h.inv_sl with ⟨rfl, A', c', h'⟩ | ⟨a, c', h', hf, hb, hc, hY⟩
  · simp only [Value.slice.injEq] at h'
    obtain ⟨rfl, rfl, rfl⟩ := h'
    have : hi - lo = 0 := by omega
    rw [this]
    simpa using DAt.nil sz enc dv _ _
  · simp only [Value.slice.injEq] at h'
    obtain ⟨rfl, rfl, rfl⟩ := h'
    have hlen : ((xs.take hi).drop lo).length = hi - lo := by simp; omega
    by_cases he : (xs.take hi).drop lo = []
    · have : hi - lo = 0 := by rw [← hlen, he]; rfl
      rw [he, this]
      exact .nil _ _ _ _ _
    · have hpos : 0 < ((xs.take hi).drop lo).length := List.length_pos_iff.2 he
      rw [if_neg (by omega), ← hlen]
      refine .of_cells (by simpa [add_block] using hf) (by simpa [add_block] using hb) (by omega) (fun i j hi' hj => ?_)
      obtain ⟨y, hy1, hy2⟩ := hY (lo + i) j (by omega) hj
      refine ⟨y, ?_, ?_⟩
      · have hadd : (a.add (lo * sz)).add (i * sz + j) = a.add ((lo + i) * sz + j) := by
          have e : (lo + i) * sz + j = lo * sz + (i * sz + j) := by rw [Nat.add_mul, Nat.add_assoc]
          rw [e]
          unfold Addr.add
          split
          · rename_i h0
            rw [h0]
            simp
          · rename_i h0
            split
            · rename_i h1
              rw [h1]
              simp only [Nat.zero_add, if_neg h0]
            · rw [if_neg (by omega)]
              simp [Nat.add_assoc]
        rw [hadd]
        exact hy1
      · have : ((xs.take hi).drop lo).getD i dv = xs.getD (lo + i) dv := by
          simp only [List.getD, List.getElem?_drop, List.getElem?_take]
          rw [if_pos (by omega)]
        rw [this]
        exact hy2

end Go.Sx
