/- What single operations come to, told of the model's own functions. -/
import Derived.Test.YtnaickojmfefeaaSxQuiet
set_option linter.all false
namespace Go.Sx
section
variable {P : Program} {t : TypeId} {y : Ty} {w : World}

theorem Ty.ok.und (h : y.ok P t) : ∃ d, P.underlying t = some d ∧ y.k.fits d := by obtain ⟨d, i, h1, h2, h3, _⟩ := h; exact ⟨d, h1, h3⟩
theorem Ty.ok.info (h : y.ok P t) : ∃ i, P.info? t = some i ∧ i.size = y.size ∧ i.bytes = y.bytes ∧ i.zero.map (·.cells.toList) = some y.zero ∧ y.zero.length = y.size := by
  obtain ⟨d, i, h1, h2, h3, h4, h5, h6, h7, _⟩ := h; exact ⟨i, h2, h4, h5, h6, h7⟩
theorem run_und (h : y.ok P t) : ∃ d, (underlying t).run P w = .ok d w ∧ y.k.fits d := by
  obtain ⟨d, h1, h2⟩ := h.und
  exact ⟨d, run_underlying h1 w, h2⟩
theorem run_isAgg (h : y.ok P t) : (isAgg t).run P w = .ok y.k.agg w := by
  obtain ⟨d, h1, h2⟩ := h.und
  simp only [isAgg, Sem.run_bind, run_underlying h1, Result.andThen_ok]
  cases hk : y.k <;> cases d <;> simp_all [TK.fits, TK.agg]
theorem run_size (h : y.ok P t) : (sizeOf t).run P w = .ok y.size w := by
  obtain ⟨i, h1, h2, _⟩ := h.info
  simp [sizeOf, typeInfo, h1, h2]
theorem run_und_slice {e : TypeId} {n b : Nat} {z : List Value} (h : (Ty.mk (.slice e) n b z).ok P t) : (underlying t).run P w = .ok (.slice e) w := by
  obtain ⟨d, h1, h2⟩ := run_und (w := w) h
  cases d <;> simp_all [TK.fits]
theorem run_und_int {k : IntKind} {n b : Nat} {z : List Value} (h : (Ty.mk (.int k) n b z).ok P t) : (underlying t).run P w = .ok (.int k) w := by
  obtain ⟨d, h1, h2⟩ := run_und (w := w) h
  cases d <;> simp_all [TK.fits]
theorem run_und_str {n b : Nat} {z : List Value} (h : (Ty.mk .str n b z).ok P t) : (underlying t).run P w = .ok .string w := by
  obtain ⟨d, h1, h2⟩ := run_und (w := w) h
  cases d <;> simp_all [TK.fits]
theorem run_und_array {m : Nat} {e : TypeId} {n b : Nat} {z : List Value} (h : (Ty.mk (.array m e) n b z).ok P t) : (underlying t).run P w = .ok (.array m e) w := by
  obtain ⟨d, h1, h2⟩ := run_und (w := w) h
  cases d <;> simp_all [TK.fits]
theorem run_und_map {ke e : TypeId} {n b : Nat} {z : List Value} (h : (Ty.mk (.map ke e) n b z).ok P t) : (underlying t).run P w = .ok (.map ke e) w := by
  obtain ⟨d, h1, h2⟩ := run_und (w := w) h
  cases d <;> simp_all [TK.fits]
theorem run_und_struct {fs : List (TypeId × Nat)} {n b : Nat} {z : List Value} (h : (Ty.mk (.struct fs) n b z).ok P t) : ∃ fs', (underlying t).run P w = .ok (.struct fs') w ∧ fs'.toList.map (fun f => (f.type, f.offset)) = fs := by
  obtain ⟨d, h1, h2⟩ := run_und (w := w) h
  cases d <;> simp_all [TK.fits]

theorem run_load_one (h : y.ok P t) (ha : y.k.agg = false) {a : Addr} {v : Value} (hc : w.cell? a = some v) : (Instr.loadAt t (.pointer (some a))).run P w = .ok v w := by
  simp [Instr.loadAt, Instr.sureAddr, loadVar, run_isAgg h, ha, hc]
theorem run_load_agg (h : y.ok P t) (ha : y.k.agg = true) {a : Addr} {f : Nat → Value} (hc : ∀ j, j < y.size → w.cell? (a.add j) = some (f j)) :
    (Instr.loadAt t (.pointer (some a))).run P w = .ok (.agg ((List.range y.size).map f).toArray) w := by
  simp [Instr.loadAt, Instr.sureAddr, loadVar, run_isAgg h, ha, run_size h, run_loadCells w a y.size f hc]

theorem run_fieldAt {fs : List (TypeId × Nat)} {n b : Nat} {z : List Value} (h : (Ty.mk (.struct fs) n b z).ok P t) {f : Nat} {ft : TypeId} {off : Nat} (hf : fs[f]? = some (ft, off))
    {yf : Ty} (hy : yf.ok P ft) (h0 : yf.size ≠ 0) (a : Addr) : (Instr.fieldAt t (.pointer (some a)) f).run P w = .ok (.pointer (some (a.add off))) w := by
  obtain ⟨fs', h1, h2⟩ := run_und_struct (w := w) h
  rw [← h2, List.getElem?_map] at hf
  obtain ⟨f', hf1, hf2⟩ : ∃ f', fs'[f]? = some f' ∧ (f'.type, f'.offset) = (ft, off) := by simpa using hf
  simp only [Prod.mk.injEq] at hf2
  obtain ⟨rfl, rfl⟩ := hf2
  simp [Instr.fieldAt, h1, hf1, Instr.sureAddr, fieldPlace, run_size hy, h0]

theorem run_indexAt {e : TypeId} {n b : Nat} {z : List Value} (h : (Ty.mk (.slice e) n b z).ok P t) {ye : Ty} (hy : ye.ok P e) {a : Addr} {len cap : Nat} {k : IntKind} {i : Int} (h0 : 0 ≤ i) (h1 : i < len) :
    (Instr.indexAt t (.slice (some a) len cap) (.int k i)).run P w = .ok (.pointer (some (a.add (i.toNat * ye.size)))) w := by
  simp [Instr.indexAt, asIntOf, run_und_slice h, h0, h1, run_size hy]

theorem run_indexAt_arr {e len : Nat} {n b : Nat} {z : List Value} (h : (Ty.mk (.array len e) n b z).ok P t) {ye : Ty} (hy : ye.ok P e) {a : Addr} {k : IntKind} {i : Int} (h0 : 0 ≤ i) (h1 : i < len) :
    (Instr.indexAt t (.pointer (some a)) (.int k i)).run P w = .ok (.pointer (some (a.add (i.toNat * ye.size)))) w := by
  simp [Instr.indexAt, asIntOf, run_und_array h, h0, h1, run_size hy, Instr.sureAddr]

theorem run_sliceBound {x : Value} {k : IntKind} {i : Int} {n : Nat} {code : BoundsCode} (hx : x = .int k i) (h0 : 0 ≤ i) (h1 : i ≤ n) : (Instr.sliceBound x n code).run P w = .ok i.toNat w := by
  subst hx
  simp [Instr.sliceBound, asIntOf, h0, h1]

/-- Where a cut begins and ends. -/
def boundI : Option Value → Nat → Option Int
  | none, d => some d
  | some (.int _ i), _ => some i
  | some _, _ => none

theorem run_bounds {isSlice : Bool} {len cap : Nat} {lo hi mx : Option Value} {l u m : Int}
    (hl : boundI lo 0 = some l) (hu : boundI hi len = some u) (hm : boundI mx cap = some m) (hmx : mx.isSome = true → hi.isSome = true) (h0 : 0 ≤ l) (h1 : l ≤ u) (h2 : u ≤ m) (h3 : m ≤ cap) :
    (Instr.sliceBounds isSlice len cap lo hi mx).run P w = .ok (l.toNat, u.toNat, m.toNat) w := by
  have hm' : mx = none ∧ m = cap ∨ ∃ k, mx = some (.int k m) := by
    cases mx with
    | none => simp [boundI] at hm; exact .inl ⟨rfl, hm.symm⟩
    | some v => cases v <;> simp [boundI] at hm; exact .inr ⟨_, by rw [hm]⟩
  have hu' : hi = none ∧ u = len ∨ ∃ k, hi = some (.int k u) := by
    cases hi with
    | none => simp [boundI] at hu; exact .inl ⟨rfl, hu.symm⟩
    | some v => cases v <;> simp [boundI] at hu; exact .inr ⟨_, by rw [hu]⟩
  have hl' : lo = none ∧ l = 0 ∨ ∃ k, lo = some (.int k l) := by
    cases lo with
    | none => simp [boundI] at hl; exact .inl ⟨rfl, hl.symm⟩
    | some v => cases v <;> simp [boundI] at hl; exact .inr ⟨_, by rw [hl]⟩
  have e0 : ((m.toNat : Nat) : Int) = m := Int.toNat_of_nonneg (by omega)
  have e1 : ((u.toNat : Nat) : Int) = u := Int.toNat_of_nonneg (by omega)
  rcases hm' with ⟨rfl, rfl⟩ | ⟨km, rfl⟩ <;> rcases hu' with ⟨rfl, rfl⟩ | ⟨ku, rfl⟩ <;> rcases hl' with ⟨rfl, rfl⟩ | ⟨kl, rfl⟩ <;>
    first
    | (simp at hmx; done)
    | (simp [Instr.sliceBounds, Instr.sliceBound, asIntOf, h0, h1, h2, h3, e0, e1, Int.le_trans h0 h1, Int.le_trans (Int.le_trans h0 h1) h2]; done)
    | (simp only [Int.toNat_natCast] at e0 e1 ⊢; simp [Instr.sliceBounds, Instr.sliceBound, asIntOf, h0, h1, h2, h3, e0, e1, Int.le_trans h0 h1, Int.le_trans (Int.le_trans h0 h1) h2])

theorem run_sliceAt_slice {e : TypeId} {n b : Nat} {z : List Value} (h : (Ty.mk (.slice e) n b z).ok P t) {ye : Ty} (hy : ye.ok P e) {A : Option Addr} {len cap : Nat} {lo hi mx : Option Value} {l u m : Int}
    (hl : boundI lo 0 = some l) (hu : boundI hi len = some u) (hm : boundI mx cap = some m) (hmx : mx.isSome = true → hi.isSome = true) (h0 : 0 ≤ l) (h1 : l ≤ u) (h2 : u ≤ m) (h3 : m ≤ cap) :
    (Instr.sliceAt t (.slice A len cap) lo hi mx).run P w = .ok (.slice (if m.toNat = l.toNat then A else A.map (·.add (l.toNat * ye.size))) (u.toNat - l.toNat) (m.toNat - l.toNat)) w := by
  simp [Instr.sliceAt, Instr.slice, run_und_slice h, run_bounds hl hu hm hmx h0 h1 h2 h3, run_size hy]

theorem run_sliceAt_string {n b : Nat} {z : List Value} (h : (Ty.mk .str n b z).ok P t) {s : ByteArray} {lo hi : Option Value} {l u : Int}
    (hl : boundI lo 0 = some l) (hu : boundI hi s.size = some u) (h0 : 0 ≤ l) (h1 : l ≤ u) (h2 : u ≤ s.size) :
    (Instr.sliceAt t (.string s) lo hi none).run P w = .ok (.string (s.extract l.toNat u.toNat)) w := by
  simp [Instr.sliceAt, Instr.slice, run_und_str h, run_bounds (mx := none) hl hu rfl (by simp) h0 h1 h2 (by omega)]

end
end Go.Sx
