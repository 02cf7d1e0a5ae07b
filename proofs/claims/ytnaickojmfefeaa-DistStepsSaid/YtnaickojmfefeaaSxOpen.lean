/- Arguments that came in, of whatever plain type, as data. -/
import Derived.Test.YtnaickojmfefeaaSxLaw
import Derived.OpenShut
import Derived.ShutString
import Derived.ChangeOld
import Derived.ProofKit
set_option linter.unusedSectionVars false
set_option linter.all false
namespace Go.Sx
open Go.RowKit

/-- What a type is like. -/
inductive TC where
  | int (k : IntKind) | byte | bool | str | sl (c : TC) | nil | cons (c r : TC)
def TC.ty : TC → Type
  | .int _ => Int
  | .byte => UInt8
  | .bool => Bool
  | .str => ByteArray
  | .sl c => List c.ty
  | .nil => Unit
  | .cons c r => c.ty × r.ty
def TC.size : TC → Nat
  | .nil => 0
  | .cons c r => c.size + r.size
  | _ => 1
def TC.dflt : (c : TC) → c.ty
  | .int _ => (0 : Int)
  | .byte => (0 : UInt8)
  | .bool => false
  | .str => ByteArray.empty
  | .sl _ => []
  | .nil => ()
  | .cons c r => (c.dflt, r.dflt)
def TC.enc : (c : TC) → c.ty → Nat → DV
  | .int k => encI k
  | .byte => encB
  | .bool => encBo
  | .str => encS
  | .sl c => fun xs _ => .sl c.size c.enc c.dflt xs
  | .nil => fun _ _ => .v undef
  | .cons c r => fun x j => if j < c.size then c.enc x.1 j else r.enc x.2 (j - c.size)
def TC.wf : (c : TC) → c.ty → Prop
  | .int k, x => (Lit.int k x).wf = true
  | .byte, _ => True
  | .bool, _ => True
  | .str, s => s.size ≤ maxLen
  | .sl c, xs => List.length (α := c.ty) xs ≤ maxLen ∧ ∀ x, List.Mem (α := c.ty) x xs → c.wf x
  | .nil, _ => True
  | .cons c r, x => c.wf x.1 ∧ r.wf x.2
def fieldsOf (T : Tab) (y : Ty) : List (TypeId × Nat) :=
  match y.k with
  | .struct fs => fs
  | .array n e => match tget e T with
    | some ye => (List.range n).map fun i => (e, i * ye.size)
    | none => []
  | _ => []
mutual
def TC.ok (T : Tab) : TC → TypeId → Bool
  | .int k, t => match tget t T with | some ⟨.int k', 1, _, _⟩ => k == k' | _ => false
  | .byte, t => match tget t T with | some ⟨.int .u8, 1, _, _⟩ => true | _ => false
  | .bool, t => match tget t T with | some ⟨.bool, 1, _, _⟩ => true | _ => false
  | .str, t => match tget t T with | some ⟨.str, 1, _, _⟩ => true | _ => false
  | .sl c, t => match tget t T with | some ⟨.slice e, 1, _, _⟩ => c.ok T e | _ => false
  | .nil, _ => false
  | .cons c r, t => match tget t T with
    | some y => match fieldsOf T y with
      | (ft, o) :: fs => o == 0 && (c.ok T ft && (r.okF T fs c.size && (c.size + r.size == y.size)))
      | [] => false
    | none => false
def TC.okF (T : Tab) : TC → List (TypeId × Nat) → Nat → Bool
  | .nil, [], _ => true
  | .cons c r, (ft, o) :: fs, off => o == off && (c.ok T ft && r.okF T fs (off + c.size))
  | _, _, _ => false
end

theorem TC.pos {T : Tab} : ∀ {c : TC} {t : TypeId}, c.ok T t = true → c.size ≠ 0
  | .int _, _, _ => by simp [TC.size]
  | .byte, _, _ => by simp [TC.size]
  | .bool, _, _ => by simp [TC.size]
  | .str, _, _ => by simp [TC.size]
  | .sl _, _, _ => by simp [TC.size]
  | .nil, _, h => by simp [TC.ok] at h
  | .cons c r, t, h => by
    simp only [TC.ok] at h
    split at h
    · split at h
      · simp only [Bool.and_eq_true] at h
        have := TC.pos h.2.1
        simp only [TC.size]
        omega
      · cases h
    · cases h
theorem cells?_get {w : World} {a : Addr} {n : Nat} {row : List Value} (h : w.cells? 0 a n = some row) {j : Nat} (hj : j < n) {u : Value} (hu : row[j]? = some u) : w.cell? (a.add j) = some u := by
  unfold World.cells? at h
  rw [if_pos (Nat.zero_le _)] at h
  have key : ∀ (l : List Nat) (r : List Value), l.mapM (fun i => w.cell? (a.add i)) = some r → ∀ (i x : Nat) (u : Value), l[i]? = some x → r[i]? = some u → w.cell? (a.add x) = some u := by
    intro l
    induction l with
    | nil => intro r h i x u h1; simp at h1
    | cons y l ih =>
      intro r h i x u h1 h2
      rw [List.mapM_cons] at h
      cases hy : w.cell? (a.add y) with
      | none => simp [hy] at h
      | some v =>
        cases hl : l.mapM (fun i => w.cell? (a.add i)) with
        | none => simp [hy, hl] at h
        | some r' =>
          simp [hy, hl] at h
          subst h
          cases i with
          | zero => simp at h1 h2; subst h1 h2; exact hy
          | succ i => exact ih r' hl i x u (by simpa using h1) (by simpa using h2)
  exact key _ _ h j j u (List.getElem?_range hj) hu
section
variable {H : Type} {enc : TypeId × Value → H} {P : Program} {T : Tab} (hT : TabOk P T) {w : World} {spare : Nat → Bool} {held : Bool} {F : Nat → Prop} (hF : ∀ b, F b)
include hT
theorem cellsOf_eq {t : TypeId} {y : Ty} (h : tget t T = some y) : P.cellsOf t = y.size := by
  obtain ⟨d, i, h1, h2, h3, h4, _⟩ := hT _ _ h
  simp [Program.cellsOf, h2, h4]
theorem TC.size_eq {c : TC} {t : TypeId} (h : c.ok T t = true) : P.cellsOf t = c.size := by
  cases c <;> simp only [TC.ok] at h <;> (try cases h) <;> split at h <;> (try cases h)
  all_goals first
    | (rename_i hg; exact cellsOf_eq hT hg)
    | (rename_i y hg
       split at h
       · simp only [Bool.and_eq_true, beq_iff_eq] at h
         rw [cellsOf_eq hT hg, ← h.2.2.2]; rfl
       · cases h)
theorem fields_trod {t : TypeId} {y : Ty} (hg : tget t T = some y) {f : TypeId × Nat} {fs : List (TypeId × Nat)} (hf : fieldsOf T y = f :: fs) {fuel : Nat} {cs : List Value} {x : DataW H × List MemPlace} (h : DataW.trod enc P w 0 spare held fuel t cs = some x) :
    ∃ m, cs.length = P.cellsOf t ∧ ∀ (i : Nat) ft o, (f :: fs)[i]? = some (ft, o) → ∃ x, DataW.trod enc P w 0 spare held m ft ((cs.drop o).take (P.cellsOf ft)) = some x := by
  obtain ⟨d, i, h1, h2, h3, _⟩ := hT _ _ hg
  rw [← hf]
  unfold fieldsOf at hf ⊢
  split at hf
  · rename_i fs' hk
    rw [hk] at h3
    cases d <;> simp only [TK.fits] at h3
    rename_i fa
    obtain ⟨xs, m, rfl, _, hl, hxl, hall⟩ := DataW.trod_struct h1 h
    refine ⟨m, hl, fun i ft o hi => ?_⟩
    rw [← h3, List.getElem?_map] at hi
    cases he : fa.toList[i]? with
    | none => simp [he] at hi
    | some fi =>
      rw [he] at hi
      simp at hi
      obtain ⟨rfl, rfl⟩ := hi
      have he' : fa[i]? = some fi := by simpa using he
      rw [hall i fi he']
      have : i < xs.length := by rw [hxl]; exact (Array.getElem?_eq_some_iff.1 he').1
      exact ⟨xs[i], List.getElem?_eq_getElem this⟩
  · rename_i n e hk
    rw [hk] at h3
    cases d <;> simp only [TK.fits] at h3
    obtain ⟨rfl, rfl⟩ := h3
    split at hf
    · rename_i ye hge
      obtain ⟨xs, m, rfl, _, hl, hxl, hall⟩ := DataW.trod_array h1 h
      refine ⟨m, hl, fun i ft o hi => ?_⟩
      have hsz := cellsOf_eq hT hge
      rw [List.getElem?_map] at hi
      cases he : (List.range n)[i]? with
      | none => simp [he] at hi
      | some i' =>
        rw [he] at hi
        simp at hi
        obtain ⟨rfl, rfl⟩ := hi
        have hii : i' = i ∧ i < n := by
          obtain ⟨h1, h2⟩ := List.getElem?_eq_some_iff.1 he
          exact ⟨by simpa using h2.symm, by simpa using h1⟩
        obtain ⟨rfl, hin⟩ := hii
        rw [← hsz, hall i' hin]
        exact ⟨xs[i'], List.getElem?_eq_getElem (by omega)⟩
    · cases hf
  · cases hf
include hF
mutual
theorem TC.open : ∀ (c : TC) {t : TypeId} {fuel : Nat} {cs : List Value} {x : DataW H × List MemPlace}, c.ok T t = true → DataW.trod enc P w 0 spare held fuel t cs = some x →
    ∃ v : c.ty, c.wf v ∧ cs.length = c.size ∧ ∀ j, j < c.size → ∃ u, cs[j]? = some u ∧ DAt F w (c.enc v j) u
  | .int k, t, fuel, cs, x, ho, h => by
    simp only [TC.ok] at ho
    split at ho
    · rename_i k' b z hg
      have hk : k = k' := by simpa using ho
      subst hk
      obtain ⟨d, i, h1, _, h3, _⟩ := hT _ _ hg
      cases d <;> simp only [TK.fits] at h3
      subst h3
      obtain ⟨n, rfl, _, hw⟩ := DataW.trod_int h1 h
      refine ⟨n, hw, rfl, fun j hj => ?_⟩
      have : j = 0 := by simp [TC.size] at hj; omega
      subst this
      exact ⟨_, rfl, .v _ rfl⟩
    · cases ho
  | .byte, t, fuel, cs, x, ho, h => by
    simp only [TC.ok] at ho
    split at ho
    · rename_i b z hg
      obtain ⟨d, i, h1, _, h3, _⟩ := hT _ _ hg
      cases d <;> simp only [TK.fits] at h3
      subst h3
      obtain ⟨n, rfl, _, hw⟩ := DataW.trod_int h1 h
      refine ⟨UInt8.ofNat n.toNat, trivial, rfl, fun j hj => ?_⟩
      have : j = 0 := by simp [TC.size] at hj; omega
      subst this
      have hb := bounds_u8 hw
      have e : ((UInt8.ofNat n.toNat).toNat : Int) = n := by simp; omega
      refine ⟨_, rfl, ?_⟩
      simp only [TC.enc, encB, e]
      exact .v _ rfl
    · cases ho
  | .bool, t, fuel, cs, x, ho, h => by
    simp only [TC.ok] at ho
    split at ho
    · rename_i b z hg
      obtain ⟨d, i, h1, _, h3, _⟩ := hT _ _ hg
      cases d <;> simp only [TK.fits] at h3
      obtain ⟨n, rfl, _⟩ := DataW.trod_bool h1 h
      refine ⟨n, trivial, rfl, fun j hj => ?_⟩
      have : j = 0 := by simp [TC.size] at hj; omega
      subst this
      exact ⟨_, rfl, .v _ rfl⟩
    · cases ho
  | .str, t, fuel, cs, x, ho, h => by
    simp only [TC.ok] at ho
    split at ho
    · rename_i b z hg
      obtain ⟨d, i, h1, _, h3, _⟩ := hT _ _ hg
      cases d <;> simp only [TK.fits] at h3
      obtain ⟨s, rfl, _, hw⟩ := DataW.trod_string h1 h
      refine ⟨s, hw, rfl, fun j hj => ?_⟩
      have : j = 0 := by simp [TC.size] at hj; omega
      subst this
      exact ⟨_, rfl, .v _ rfl⟩
    · cases ho
  | .sl c, t, fuel, cs, x, ho, h => by
    simp only [TC.ok] at ho
    split at ho
    · rename_i e b z hg
      obtain ⟨d, i, h1, _, h3, _⟩ := hT _ _ hg
      cases d <;> simp only [TK.fits] at h3
      subst h3
      have hsz := TC.size_eq hT ho
      rcases DataW.trod_slice h1 h with ⟨rfl, _⟩ | ⟨a, len, cap, elems, rest, n, _, rfl, _, _, hl, hm, hlen, hel, _⟩
      · refine ⟨[], ⟨by simp, fun x hx => by cases hx⟩, rfl, fun j hj => ?_⟩
        have : j = 0 := by simp [TC.size] at hj; omega
        subst this
        exact ⟨_, rfl, .nil _ _ _ _ _⟩
      · have each : ∀ i, ∃ v : c.ty, i < len → c.wf v ∧ ∀ j, j < c.size → ∃ u, w.cell? (a.add (i * c.size + j)) = some u ∧ DAt F w (c.enc v j) u := by
          intro i
          by_cases hi : i < len
          · have h2 := hel i hi
            have h3 : ∃ y, elems[i]? = some y := ⟨elems[i], List.getElem?_eq_getElem (by omega)⟩
            obtain ⟨y, hy⟩ := h3
            rw [hy] at h2
            cases hr : w.cells? 0 (a.add (i * P.cellsOf e)) (P.cellsOf e) with
            | none => simp [hr] at h2
            | some row =>
              rw [hr] at h2
              simp only [Option.bind_some] at h2
              obtain ⟨v, hv1, hv2, hv3⟩ := TC.open c ho h2
              refine ⟨v, fun _ => ⟨hv1, fun j hj => ?_⟩⟩
              obtain ⟨u, hu1, hu2⟩ := hv3 j hj
              refine ⟨u, ?_, hu2⟩
              have hc := cells?_get hr (by rw [hsz]; exact hj) hu1
              have ha := add_add a i c.size 0 j
              rw [Nat.zero_mul, Nat.zero_add, Nat.add_zero] at ha
              rw [← ha, ← hsz]
              exact hc
          · exact ⟨c.dflt, fun h => absurd h hi⟩
        let vs : List c.ty := (List.range len).map fun i => (each i).choose
        have hvl : vs.length = len := by simp [vs]
        have hvg : ∀ i, i < len → vs.getD i c.dflt = (each i).choose := fun i hi => by simp [vs, List.getD, hi]
        refine ⟨vs, ⟨?_, fun x hx => ?_⟩, rfl, fun j hj => ?_⟩
        · show vs.length ≤ maxLen
          omega
        · obtain ⟨i, hi, rfl⟩ := List.mem_map.1 hx
          exact ((each i).choose_spec (by simpa using hi)).1
        · have : j = 0 := by simp [TC.size] at hj; omega
          subst this
          refine ⟨_, rfl, ?_⟩
          show DAt F w (.sl c.size c.enc c.dflt vs) _
          rcases Nat.eq_zero_or_pos len with h0 | h0
          · have : vs = [] := List.eq_nil_of_length_eq_zero (by omega)
            rw [this, h0]
            exact .nil _ _ _ _ _
          · rcases Nat.eq_zero_or_pos c.size with hz | hz
            · exact absurd hz (TC.pos ho)
            · obtain ⟨u, hu, _⟩ := ((each 0).choose_spec h0).2 0 hz
              rw [← hvl]
              refine DAt.of_cells (hF _) ?_ (by omega) (fun i j hi hj => ?_)
              · have := World.block_lt_of_cell? w _ hu
                rwa [add_block] at this
              · rw [hvl] at hi
                rw [hvg i hi]
                exact ((each i).choose_spec hi).2 j hj
    · cases ho
  | .nil, t, fuel, cs, x, ho, h => by simp [TC.ok] at ho
  | .cons c r, t, fuel, cs, x, ho, h => by
    have hsz := TC.size_eq hT ho
    simp only [TC.ok] at ho
    split at ho
    · rename_i y hg
      split at ho
      · rename_i ft o fs hfo
        simp only [Bool.and_eq_true, beq_iff_eq] at ho
        obtain ⟨rfl, h2, h3, h4⟩ := ho
        obtain ⟨m, hl, hall⟩ := fields_trod hT hg hfo h
        obtain ⟨x0, hx0⟩ := hall 0 ft 0 rfl
        obtain ⟨v, hv1, hv2, hv3⟩ := TC.open c h2 hx0
        obtain ⟨v', hr1, hr2⟩ := TC.openF r h3 (fun i ft o hi => hall (i + 1) ft o hi)
        refine ⟨(v, v'), ⟨hv1, hr1⟩, by rw [hl, hsz], fun j hj => ?_⟩
        simp only [TC.enc]
        split
        · rename_i hjc
          obtain ⟨u, hu1, hu2⟩ := hv3 j hjc
          refine ⟨u, ?_, hu2⟩
          rw [List.drop_zero, List.getElem?_take] at hu1
          split at hu1
          · exact hu1
          · cases hu1
        · rename_i hjc
          obtain ⟨u, hu1, hu2⟩ := hr2 (j - c.size) (by simp only [TC.size] at hj; omega)
          refine ⟨u, ?_, hu2⟩
          rw [← hu1]
          congr 1
          omega
      · cases ho
    · cases ho
theorem TC.openF : ∀ (c : TC) {fs : List (TypeId × Nat)} {off fuel : Nat} {cs : List Value}, c.okF T fs off = true → (∀ (i : Nat) ft o, fs[i]? = some (ft, o) → ∃ x, DataW.trod enc P w 0 spare held fuel ft ((cs.drop o).take (P.cellsOf ft)) = some x) →
    ∃ v : c.ty, c.wf v ∧ ∀ j, j < c.size → ∃ u, cs[off + j]? = some u ∧ DAt F w (c.enc v j) u
  | .nil, fs, off, fuel, cs, ho, h => ⟨(), trivial, fun j hj => by simp [TC.size] at hj⟩
  | .cons c r, [], off, fuel, cs, ho, h => by simp [TC.okF] at ho
  | .cons c r, (ft, o) :: fs, off, fuel, cs, ho, h => by
    simp only [TC.okF, Bool.and_eq_true, beq_iff_eq] at ho
    obtain ⟨rfl, h2, h3⟩ := ho
    obtain ⟨x0, hx0⟩ := h 0 ft o rfl
    obtain ⟨v, hv1, hv2, hv3⟩ := TC.open c h2 hx0
    obtain ⟨v', hr1, hr2⟩ := TC.openF r h3 (fun i ft o hi => h (i + 1) ft o hi)
    refine ⟨(v, v'), ⟨hv1, hr1⟩, fun j hj => ?_⟩
    simp only [TC.enc]
    split
    · rename_i hjc
      obtain ⟨u, hu1, hu2⟩ := hv3 j hjc
      refine ⟨u, ?_, hu2⟩
      rw [List.getElem?_take] at hu1
      split at hu1
      · rw [List.getElem?_drop] at hu1; exact hu1
      · cases hu1
    · rename_i hjc
      obtain ⟨u, hu1, hu2⟩ := hr2 (j - c.size) (by simp only [TC.size] at hj; omega)
      refine ⟨u, ?_, hu2⟩
      rw [← hu1]
      congr 1
      omega
  | .int _, fs, off, fuel, cs, ho, h => by cases fs <;> simp [TC.okF] at ho
  | .byte, fs, off, fuel, cs, ho, h => by cases fs <;> simp [TC.okF] at ho
  | .bool, fs, off, fuel, cs, ho, h => by cases fs <;> simp [TC.okF] at ho
  | .str, fs, off, fuel, cs, ho, h => by cases fs <;> simp [TC.okF] at ho
  | .sl _, fs, off, fuel, cs, ho, h => by cases fs <;> simp [TC.okF] at ho
end
end

def TC.agg : TC → Bool
  | .cons .. => true
  | _ => false
open Go.ChangeShapes Go.WideShapes in
theorem TC.arg {H : Type} {enc : TypeId × Value → H} {P : Program} {T : Tab} (hT : TabOk P T) {w : World} {spare : Nat → Bool} {held : Bool} (c : TC) {t : TypeId} {v : Value} {r : Reach} {b0 : Nat} {d : DataW H} {p : List MemPlace} (ho : c.ok T t = true)
    (hv : Value.okWide P w r b0 t v) (hd : DataW.Trod enc P w 0 spare held t v d p) : ∃ x : c.ty, c.wf x ∧ AAt (cxOf w.heap.size (fun _ => False) []) w (valA false c.agg c.size (c.enc x)) v := by
  obtain ⟨fuel, hf⟩ := hd
  have hF : ∀ b, (cxOf w.heap.size (fun _ => False) []).ok false b := fun b => ⟨by simp [cxOf, blocksOf], fun h => h, fun h => by cases h⟩
  obtain ⟨x, hw, hl, hall⟩ := TC.open hT hF c ho hf
  refine ⟨x, hw, ?_⟩
  have one : c.agg = false → c.size = 1 → v.cells = #[v] → AAt (cxOf w.heap.size (fun _ => False) []) w (valA false c.agg c.size (c.enc x)) v := by
    intro ha hs hc
    obtain ⟨u, hu1, hu2⟩ := hall 0 (by omega)
    rw [hc] at hu1
    simp at hu1
    subst hu1
    rw [ha]
    exact upD_at hu2
  cases c with
  | int k =>
    simp only [TC.ok] at ho
    split at ho
    · rename_i hg
      obtain ⟨dd, i, h1, _, h3, _⟩ := hT _ _ hg
      cases dd <;> simp only [TK.fits] at h3
      obtain ⟨n, rfl⟩ := okWide_int h1 hv
      exact one rfl rfl rfl
    · cases ho
  | byte =>
    simp only [TC.ok] at ho
    split at ho
    · rename_i hg
      obtain ⟨dd, i, h1, _, h3, _⟩ := hT _ _ hg
      cases dd <;> simp only [TK.fits] at h3
      obtain ⟨n, rfl⟩ := okWide_int h1 hv
      exact one rfl rfl rfl
    · cases ho
  | bool =>
    simp only [TC.ok] at ho
    split at ho
    · rename_i hg
      obtain ⟨dd, i, h1, _, h3, _⟩ := hT _ _ hg
      cases dd <;> simp only [TK.fits] at h3
      obtain ⟨n, rfl⟩ := okWide_bool h1 hv
      exact one rfl rfl rfl
    · cases ho
  | str =>
    simp only [TC.ok] at ho
    split at ho
    · rename_i hg
      obtain ⟨dd, i, h1, _, h3, _⟩ := hT _ _ hg
      cases dd <;> simp only [TK.fits] at h3
      obtain ⟨n, rfl⟩ := okWide_string h1 hv
      exact one rfl rfl rfl
    · cases ho
  | sl c =>
    simp only [TC.ok] at ho
    split at ho
    · rename_i hg
      obtain ⟨dd, i, h1, _, h3, _⟩ := hT _ _ hg
      cases dd <;> simp only [TK.fits] at h3
      obtain ⟨a, len, cap, rfl⟩ := okWide_slice h1 hv
      exact one rfl rfl rfl
    · cases ho
  | nil => simp [TC.ok] at ho
  | cons c r =>
    simp only [TC.ok] at ho
    split at ho
    · rename_i y hg
      obtain ⟨dd, i, h1, _, h3, _⟩ := hT _ _ hg
      have hagg : ∃ cs, v = .agg cs := by
        split at ho
        · rename_i ft o fs hfo
          unfold fieldsOf at hfo
          split at hfo
          · rename_i hk
            rw [hk] at h3
            cases dd <;> simp only [TK.fits] at h3
            simp only [Value.okWide, h1] at hv
            obtain ⟨cs, rfl, _⟩ := hv
            exact ⟨cs, rfl⟩
          · rename_i hk
            rw [hk] at h3
            cases dd <;> simp only [TK.fits] at h3
            simp only [Value.okWide, h1] at hv
            obtain ⟨cs, rfl, _⟩ := hv
            exact ⟨cs, rfl⟩
          · cases hfo
        · cases ho
      obtain ⟨arr, rfl⟩ := hagg
      show AAt _ w (.g ((List.range (TC.cons c r).size).map fun j => upD false ((TC.cons c r).enc x j))) _
      simp only [AAt]
      simp only [Value.cells] at hl hall
      refine ⟨arr, rfl, AAtL.of_get (by rw [List.length_map, List.length_range]; exact hl.symm) (fun j z u hz hu => ?_)⟩
      rw [List.getElem?_map] at hz
      cases hj : (List.range (TC.cons c r).size)[j]? with
      | none => simp [hj] at hz
      | some j' =>
        rw [hj] at hz
        have hjj : j < (TC.cons c r).size ∧ j' = j := by
          rw [List.getElem?_eq_some_iff] at hj
          obtain ⟨h1, h2⟩ := hj
          exact ⟨by simpa using h1, by simpa using h2.symm⟩
        obtain ⟨hlt, rfl⟩ := hjj
        simp at hz
        subst hz
        obtain ⟨u', k1, k2⟩ := hall j' hlt
        rw [k1] at hu
        cases hu
        exact upD_at k2
    · cases ho
end Go.Sx
