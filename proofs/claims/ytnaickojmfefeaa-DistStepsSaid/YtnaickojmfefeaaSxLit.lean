/- Literals of slices, and slices that are made. -/
import Derived.Test.YtnaickojmfefeaaSxDraw
import Derived.Laws.MakeOwn
set_option linter.unusedSectionVars false
set_option linter.all false
namespace Go.Sx

def zerosA (z : List Value) (sz n : Nat) : List AV := (List.range n).map fun k => .v (z.getD (k % sz) undef)

/-- What a list's cells are. -/
def litL {α : Type} (sz : Nat) (enc : α → Nat → DV) (xs : List α) : List DV := xs.flatMap fun x => (List.range sz).map (enc x)
inductive DownL : List AV → Bool → List DV → Prop where
  | nil : DownL [] true []
  | cons {z : AV} {zs : List AV} {n n' : Bool} {d : DV} {ds : List DV} : downD z = some (n, d) → DownL zs n' ds → DownL (z :: zs) (n && n') (d :: ds)

theorem downD_at {cx : Cx} {w : World} {z : AV} {n m : Bool} {d : DV} {u : Value} (h : downD z = some (n, d)) (hz : AAt cx w z u) (hm : m = true → n = true) : DAt (cx.ok m) w d u := by
  cases z with
  | v x =>
    simp only [downD] at h
    split at h
    · rename_i h1
      simp only [Option.some.injEq, Prod.mk.injEq] at h
      obtain ⟨rfl, rfl⟩ := h
      simp only [AAt] at hz
      subst hz
      exact .v _ h1
    · cases h
  | d new sz enc dv xs =>
    simp only [downD, Option.some.injEq, Prod.mk.injEq] at h
    obtain ⟨rfl, rfl⟩ := h
    simp only [AAt] at hz
    exact hz.mono (fun b _ hok => ⟨⟨hok.1, hok.2.1, fun h => hok.2.2 (hm h)⟩, rfl⟩) (Nat.le_refl _)
  | _ => cases h

theorem DownL.sound {cx : Cx} {w : World} {zs : List AV} {n : Bool} {ds : List DV} (h : DownL zs n ds) : ∀ {us : List Value} {m : Bool}, AAtL cx w zs us → (m = true → n = true) →
    ∀ (k : Nat) (d : DV), ds[k]? = some d → ∃ u, us[k]? = some u ∧ DAt (cx.ok m) w d u := by
  induction h with
  | nil => intro us m _ _ k d hd; simp at hd
  | cons h1 _ ih =>
    intro us m hz hm k d hd
    cases us with
    | nil => simp [AAtL] at hz
    | cons u us =>
      simp only [AAtL] at hz
      cases k with
      | zero =>
        simp at hd
        subst hd
        exact ⟨u, by simp, downD_at h1 hz.1 (fun h => by have := hm h; simp at this; exact this.1)⟩
      | succ k => simpa using ih hz.2 (fun h => by have := hm h; simp at this; exact this.2) k d (by simpa using hd)

theorem litL_get {α : Type} {sz : Nat} {enc : α → Nat → DV} {dv : α} : ∀ {xs : List α} {i j : Nat}, i < xs.length → j < sz → (litL sz enc xs)[i * sz + j]? = some (enc (xs.getD i dv) j)
  | [], i, j, h, _ => by simp at h
  | x :: xs, 0, j, _, hj => by
    simp only [litL, List.flatMap_cons, Nat.zero_mul, Nat.zero_add]
    rw [List.getElem?_append_left (by simpa using hj)]
    simp [hj]
  | x :: xs, i + 1, j, h, hj => by
    have ih := litL_get (enc := enc) (dv := dv) (xs := xs) (i := i) (j := j) (by simpa using h) hj
    simp only [litL, List.flatMap_cons] at ih ⊢
    rw [List.getElem?_append_right (by simp [Nat.add_mul]; omega)]
    simp only [List.length_map, List.length_range, Nat.add_mul, Nat.one_mul]
    rw [show i * sz + sz + j - sz = i * sz + j by omega, ih]
    simp [List.getD]

/-- A new row. -/
theorem Abs.newRow {C : Ctx} {env : Env} {sto : Sto} {a : Act} {w : World} (hA : Abs C env sto a w) {α : Type} {n : Bool} {e : TypeId} {sz len cap : Nat} {enc : α → Nat → DV} {dv : α} {xs : List α} {cells : Array Value} (hl : xs.length = len) (hlc : len ≤ cap) (hcap : cap ≤ maxLen) (hcs : cap * sz ≤ cells.size)
    (hc : ∀ i j, i < xs.length → j < sz → ∃ y, cells[i * sz + j]? = some y ∧ DAt ((C.cx sto).ok n) w (enc (xs.getD i dv) j) y) :
    Abs C env (.row (.slice (some ⟨w.heap.size, 0, none⟩) len cap) n e sz enc dv xs :: sto) a (w.alloc (.cells cells e)) := by
  have hb : ∀ b ∈ (Res.row (.slice (some ⟨w.heap.size, 0, none⟩) len cap) n e sz enc dv xs).blocks, w.heap.size ≤ b := by simp [Res.blocks, Value.ownBlock]
  refine hA.fresh (kept_alloc w _) (by simp [Res.blocks, Value.ownBlock]) hb ⟨(cells.toList.take (len * sz)), .inr ⟨w.heap.size, 0, _, _, _, rfl, heap_alloc_new w _, hlc, hcap, by omega, ?_, by rw [List.drop_zero]⟩, ?_, fun A k c h => by simp at h; rw [hl]; exact h.2.1.symm, fun i j hi hj => ?_⟩
  · have : len * sz ≤ cap * sz := Nat.mul_le_mul_right _ hlc
    simp; omega
  · have : len * sz ≤ cap * sz := Nat.mul_le_mul_right _ hlc
    simp [hl]; omega
  · obtain ⟨y, h1, h2⟩ := hc i j hi hj
    have hlt : i * sz + j < len * sz := by
      have : (i + 1) * sz ≤ xs.length * sz := Nat.mul_le_mul_right _ hi
      rw [Nat.add_mul, Nat.one_mul, hl] at this
      omega
    refine ⟨y, by rw [List.getElem?_take, if_pos hlt]; simpa using h1, h2.mono (fun b hlt hok => ?_) (by simp)⟩
    exact cx_cons hb (fun b hb => heapOld w _ b hb) n b hlt hok

section
variable {P : Program} {T : Tab} (hT : TabOk P T) {N : Fm} {Q : Env → Sto → Prop}
include hT

theorem lit_run {α : Type} {C : Ctx} {a : Act} {w : World} (enc : α → Nat → DV) (dv : α) (xs : List α) {len : Nat} {t e : TypeId} {ps : Array (Nat × Operand)} {q : Path} {env : Env} {sto : Sto} {yt ye : Ty}
    {zs : List (Nat × AV)} {cs : List AV} {n : Bool} {ds : List DV} (hA : Abs C env sto a w) (hq : PathHolds q) (ht : tget t T = some yt) (hte : yt.k = .slice e) (he : tget e T = some ye) (hsm : Nat.ble (len * ye.size) 16777216 = true) (hp : GetPs env q ps.toList zs)
    (hf : Fills ye.size (zerosA ye.zero ye.size (len * ye.size)) zs cs) (hdn : DownL cs n ds) (hds : ds = litL ye.size enc xs) :
    ∃ cells : Array Value, (Instr.buildSlice t len (ps.map fun x => (x.1, a.eval x.2))).run P w = .ok (.slice (some ⟨w.heap.size, 0, none⟩) len len) (w.alloc (.cells cells e)) ∧ cells.size = len * ye.size ∧
      ∀ i j, i < xs.length → j < ye.size → ∃ y, cells[i * ye.size + j]? = some y ∧ DAt ((C.cx sto).ok n) w (enc (xs.getD i dv) j) y := by
  obtain ⟨de, ie, hi1, hi2, hi3, hi4, hi5, hi6, hi7, _⟩ := hT _ _ he
  obtain ⟨dt, it, ht1, _, ht3, _⟩ := hT _ _ ht
  have ht1' : P.underlying t = some (.slice e) := by
    rw [hte] at ht3
    cases dt <;> simp only [TK.fits] at ht3
    subst ht3
    exact ht1
  cases hz : ie.zero with
  | none => simp [hz] at hi6
  | some zv =>
    simp only [hz, Option.map_some, Option.some.injEq] at hi6
    have hzsz : zv.cells.size = ye.size := by rw [← Array.length_toList, hi6, hi7]
    let zero : Array Value := if len * ye.size = 0 then #[] else zv.cells
    have hzeros : AAtL (C.cx sto) w (zerosA ye.zero ye.size (len * ye.size)) ((Array.range (len * ye.size)).map (zero[· % zero.size]!)).toList := by
      refine AAtL.of_get (by simp [zerosA]) (fun j z u hz' hu => ?_)
      rcases Nat.lt_or_ge j (len * ye.size) with hj | hj
      · have hne : len * ye.size ≠ 0 := by omega
        have hzero : zero = zv.cells := if_neg hne
        rw [hzero, hzsz] at hu
        simp only [zerosA, List.getElem?_map, List.getElem?_range hj, Option.map_some, Option.some.injEq] at hz'
        subst hz'
        have hpos : 0 < ye.size := Nat.pos_of_ne_zero (fun h => hne (by simp [h]))
        have hm := Nat.mod_lt j hpos
        have hjj : j % ye.size < zv.cells.size := by omega
        simp only [Array.toList_map, Array.toList_range, List.getElem?_map, List.getElem?_range hj, Option.map_some, Option.some.injEq] at hu
        subst hu
        simp only [AAt]
        rw [← hi6]
        simp [List.getD, hjj]
      · rw [List.getElem?_eq_none (by simp [zerosA]; omega)] at hz'
        cases hz'
    have hps := hp.sound hA hq
    obtain ⟨cells, h1, h2⟩ := hf.sound hps hzeros
    have hxd := hdn.sound h2 (m := n) (fun h => h)
    have hsm' := Nat.le_of_ble_eq_true hsm
    have hfill : ∀ (cells : Array Value) (us : List (Nat × Value)) (r : Array Value), Instr.fill (fun i => some (i * ye.size, ye.size)) cells us = some r → r.size = cells.size := by
      intro cells us
      induction us generalizing cells with
      | nil => intro r h; simp [Instr.fill] at h; rw [h]
      | cons p us ih =>
        intro r h
        obtain ⟨i, v⟩ := p
        rw [Instr.fill] at h
        simp only at h
        split at h
        · cases h
        · rw [ih _ _ h]
          have : ∀ (l : List (Value × Nat)) (c : Array Value), (l.foldl (fun cs x => cs.setIfInBounds (i * ye.size + x.2) x.1) c).size = c.size := by
            intro l
            induction l with
            | nil => intro c; rfl
            | cons x l ih => intro c; rw [List.foldl_cons, ih]; simp
          rw [← Array.foldl_toList]
          exact this _ _
    have hsize : cells.size = len * ye.size := by rw [hfill _ _ _ h1]; simp
    have hrun : (Instr.buildSlice t len (ps.map fun x => (x.1, a.eval x.2))).run P w = .ok (.slice (some ⟨w.heap.size, 0, none⟩) len len) (w.alloc (.cells cells e)) := by
      have hps' : (ps.map fun x => (x.1, a.eval x.2)).toList = ps.toList.map fun x => (x.1, a.eval x.2) := by simp
      have hns : ¬ (16777216 < len * ye.size) := by omega
      by_cases h0 : len * ye.size = 0
      · have hzero : zero = #[] := if_pos h0
        rw [hzero] at h1
        simp only [h0] at h1
        simp [Instr.buildSlice, run_underlying ht1', sizeOf, typeInfo, hi2, hi4, h0]
        simp only [Array.size_empty] at h1
        simp at h1
        rw [h1]
        simp [Go.newRow]
      · have hzero : zero = zv.cells := if_neg h0
        rw [hzero] at h1
        simp [Instr.buildSlice, run_underlying ht1', sizeOf, typeInfo, zeroValue, hi2, hi4, hz, h0, hns, h1, Go.newRow]
    exact ⟨cells, hrun, hsize, fun i j hi hj => by
      obtain ⟨u, hu, hd'⟩ := hxd (i * ye.size + j) _ (by rw [hds]; exact litL_get (dv := dv) hi hj)
      exact ⟨u, by simpa using hu, hd'⟩⟩

theorem RunSem.lit {α : Type} (enc : α → Nat → DV) (dv : α) (xs : List α) {all : Array Oper} {rest : List Oper} {d : Tmp} {len : Nat} {t e : TypeId} {ps : Array (Nat × Operand)} {ty : TypeId} {pos : String} {af : Array Edge} {k : List It} {env : Env} {sto : Sto} {yt ye : Ty}
    {zs : List (Nat × AV)} {cs : List AV} {n : Bool} {ds : List DV} (hd : Nat.blt d N.n = true) (ht : tget t T = some yt) (hte : yt.k = .slice e) (he : tget e T = some ye) (hsm : Nat.ble (len * ye.size) 16777216 = true) (hl1 : Nat.ble len 16777216 = true) (hp : GetPs env [] ps.toList zs)
    (hf : Fills ye.size (zerosA ye.zero ye.size (len * ye.size)) zs cs) (hdn : DownL cs n ds) (hds : ds = litL ye.size enc xs) (hlen : xs.length = len)
    (hk : ∀ v, Run P T N Q (.ops all rest :: k) ((d, [], .o v) :: env) (.row v n e ye.size enc dv xs :: sto)) :
    RunSem P N Q (.ops all ({ dst := some d, op := .buildSlice t len ps, type := ty, pos, after := af, guard := none } :: rest) :: k) env sto := by
  intro C a w hN hA
  obtain ⟨cells, hrun, hsize, hcells⟩ := lit_run hT enc dv xs hA (q := []) trivial ht hte he hsm hp hf hdn hds
  have hl1' := Nat.le_of_ble_eq_true hl1
  have hA' := hA.newRow (n := n) (e := e) (sz := ye.size) (len := len) (cap := len) (enc := enc) (dv := dv) (xs := xs) (cells := cells) hlen (Nat.le_refl _) (by simp only [maxLen]; omega) (by rw [hsize]; exact Nat.le_refl _) hcells
  refine wpList_quiet hT rfl rfl (v := .slice (some ⟨w.heap.size, 0, none⟩) len len) (w' := w.alloc (.cells cells e)) ?_ ((hk _).sound hT C _ _ hN (hA'.put0 (by rw [hN.1]; exact Nat.le_of_ble_eq_true hd) ⟨rfl, _, _, _, rfl⟩))
  simp only [execOp, Sem.run_bind]
  rw [hrun]
  rfl
end
end Go.Sx
