/- Operations that leave memory as it is: the rules hold. -/
import Derived.Test.YtnaickojmfefeaaSxStep
import Derived.Laws.IdiomStrings
set_option linter.unusedSectionVars false
set_option linter.all false
namespace Go.Sx
theorem eval_const (a : Act) (v : Value) : a.eval (.const v) = v := rfl
theorem ZeroL.get {f : Nat → DV} {j : Nat} {vs : List Value} (h : ZeroL f j vs) : ∀ i v, vs[i]? = some v → ZeroD (f (j + i)) v := by
  induction h with
  | nil => intro i v h; simp at h
  | cons h1 _ ih =>
    intro i v hv
    cases i with
    | zero => simp at hv; subst hv; exact h1
    | succ i => rw [show ∀ j, j + (i + 1) = j + 1 + i by omega]; exact ih i v (by simpa using hv)
theorem ZeroD.at {F : Nat → Prop} {w : World} {d : DV} {v : Value} (h : ZeroD d v) (ho : oneV v = true) : DAt F w d v := by
  cases h with
  | v e => subst e; exact .v _ ho
  | nil => exact .nil _ _ _ _ _
theorem KeyA.at {κ : Type} {kk : κ → Value} {zi : AV} {k : κ} (h : KeyA kk zi k) {cx : Cx} {w : World} {u : Value} (hu : AAt cx w zi u) : u = kk k := by
  cases h with
  | v e => simp only [AAt] at hu; rw [hu, e]
  | g e =>
    rename_i xs
    simp only [AAt] at hu
    obtain ⟨arr, rfl, h2⟩ := hu
    rw [← e]
    congr 1
    have : ∀ (xs us : List Value), AAtL cx w (xs.map .v) us → us = xs := by
      intro xs
      induction xs with
      | nil => intro us h; cases us <;> simp_all [AAtL]
      | cons x xs ih =>
        intro us h
        cases us with
        | nil => simp [AAtL] at h
        | cons u us => simp only [List.map_cons, AAtL, AAt] at h; rw [h.1, ih us h.2]
    rw [← this xs _ h2]
section
variable {P : Program} {T : Tab} (hT : TabOk P T) {C : Ctx} {env : Env} {sto : Sto} {a : Act} {w : World} (hA : Abs C env sto a w) {q : Path} (hq : PathHolds q)
include hT

theorem und_of {t : TypeId} {y : Ty} (h : tget t T = some y) : ∃ d, P.underlying t = some d ∧ y.k.fits d := (hT t y h).und

theorem Conv.sound {cx : Cx} {s d : TypeId} {z r : AV} (h : Conv T s d z r) {u : Value} (hu : AAt cx w z u) : ∃ u', (convert s d u).run P w = .ok u' w ∧ AAt cx w r u' := by
  cases h with
  | int hs hd =>
    simp only [AAt] at hu
    subst hu
    obtain ⟨ds, h1, _⟩ := run_und (w := w) (hT _ _ hs)
    refine ⟨_, ?_, rfl⟩
    simp [convert, h1, run_und_int (w := w) (hT _ _ hd), Conv.intToInt]
  | str hs hd =>
    simp only [AAt] at hu
    subst hu
    obtain ⟨ds, h1, _⟩ := run_und (w := w) (hT _ _ hs)
    refine ⟨_, ?_, rfl⟩
    simp [convert, h1, run_und_str (w := w) (hT _ _ hd)]
  | bytes hs he hd =>
    rename_i xs e m b m' b' m'' b'' z z' z''
    simp only [AAt] at hu
    obtain ⟨ds, h1, h1'⟩ := und_of hT hs
    obtain ⟨de, h2, h2'⟩ := und_of hT he
    obtain ⟨dd, h3, h3'⟩ := und_of hT hd
    have e1 : P.underlying s = some (.slice e) := by cases ds <;> simp_all [TK.fits]
    have e2 : P.underlying e = some (.int .u8) := by cases de <;> simp_all [TK.fits]
    have e3 : P.underlying d = some .string := by cases dd <;> simp_all [TK.fits]
    rcases hu.inv_sl with ⟨rfl, A, c, rfl⟩ | ⟨a, c, rfl, hf, hb, hc, hY⟩
    · refine ⟨_, ?_, rfl⟩
      cases A with
      | none => rw [run_convert_bytes_string w s d e none 0 c e1 e2 e3]; simp [Conv.bytesToString]; rfl
      | some a => exact run_convert_bytes_back w s d e a c [] e1 e2 e3 (by simp)
    · refine ⟨_, run_convert_bytes_back w s d e a c xs e1 e2 e3 (fun j hj => ?_), rfl⟩
      obtain ⟨y, h4, h5⟩ := hY j 0 hj (by omega)
      simp only [encB, List.getD, List.getElem?_eq_getElem hj, Option.getD_some] at h5
      rw [h5.inv_v] at h4
      simpa using h4

theorem Idx.sound {t : TypeId} {z r : AV} {n : Int} (h : Idx T sto q t z n r) (hr : ∀ r ∈ sto, RAt (C.cx sto) w r) (hq : PathHolds q) {u : Value} {k : IntKind} (hu : AAt (C.cx sto) w z u) :
    ∃ u', (Instr.indexAt t u (.int k n)).run P w = .ok u' w ∧ AAt (C.cx sto) w r u' := by
  cases h with
  | dN ht he hz hs =>
    rename_i α new sz enc dv xs NN e m b b' z z' ke
    have h0 : (0 : Int) ≤ (NN : Int) := Int.natCast_nonneg _
    have h1 := hs hq
    replace h1 : (NN : Int) < _ := Int.ofNat_lt.2 h1
    have hz' : 0 < sz := Nat.le_of_ble_eq_true hz
    simp only [AAt] at hu
    have hu' := hu
    rcases hu.inv_sl with ⟨rfl, A, c, rfl⟩ | ⟨a, c, rfl, hf, hb, hc, hY⟩
    · simp at h1; omega
    · refine ⟨_, run_indexAt (hT _ _ ht) (hT _ _ he) h0 h1, ?_⟩
      simp only [AAt]
      exact ⟨a, c, by simp, by omega, hz', hu'⟩
  | rowN hrow ht he hz hs =>
    rename_i α v new et sz enc dv xs NN e m b b' z z' ke
    have h0 : (0 : Int) ≤ (NN : Int) := Int.natCast_nonneg _
    have h1 := hs hq
    replace h1 : (NN : Int) < _ := Int.ofNat_lt.2 h1
    have hz' : 0 < sz := Nat.le_of_ble_eq_true hz
    simp only [AAt] at hu
    obtain ⟨rfl, _⟩ := hu
    have hv := hr _ hrow.mem
    obtain ⟨vals, hr1, hr2, hr3, _⟩ := hv
    rcases hr1 with ⟨rfl, rfl⟩ | ⟨g, o, n', cap, cur, rfl, hg, hn, hm, hc, hl, hvals⟩
    · have := hr3 none 0 0 rfl
      omega
    · have hn' := hr3 _ _ _ rfl
      subst hn'
      refine ⟨_, run_indexAt (hT _ _ ht) (hT _ _ he) h0 h1, ?_⟩
      simp only [AAt]
      exact ⟨⟨g, o, none⟩, xs.length, cap, rfl, by omega, hz', by simp⟩
  | arrN ht he hs =>
    rename_i b j len NN e m by' z ye
    have h0 : (0 : Int) ≤ (NN : Int) := Int.natCast_nonneg _
    have h1 := hs hq
    replace h1 : (NN : Int) < _ := Int.ofNat_lt.2 h1
    simp only [AAt] at hu ⊢
    subst hu
    refine ⟨_, run_indexAt_arr (hT _ _ ht) (hT _ _ he) h0 h1, ?_⟩
    rw [add_none]
    simp

  | d ht he hz hs =>
    rename_i α new sz enc dv xs e m b b' z z' ke
    obtain ⟨h0, h1⟩ := hs hq
    have hz' : 0 < sz := Nat.le_of_ble_eq_true hz
    simp only [AAt] at hu
    have hu' := hu
    rcases hu.inv_sl with ⟨rfl, A, c, rfl⟩ | ⟨a, c, rfl, hf, hb, hc, hY⟩
    · simp at h1; omega
    · refine ⟨_, run_indexAt (hT _ _ ht) (hT _ _ he) h0 h1, ?_⟩
      simp only [AAt]
      exact ⟨a, c, by simp, by omega, hz', hu'⟩
  | row hrow ht he hz hs =>
    rename_i α v new et sz enc dv xs e m b b' z z' ke
    obtain ⟨h0, h1⟩ := hs hq
    have hz' : 0 < sz := Nat.le_of_ble_eq_true hz
    simp only [AAt] at hu
    obtain ⟨rfl, _⟩ := hu
    have hv := hr _ hrow.mem
    obtain ⟨vals, hr1, hr2, hr3, _⟩ := hv
    rcases hr1 with ⟨rfl, rfl⟩ | ⟨g, o, n', cap, cur, rfl, hg, hn, hm, hc, hl, hvals⟩
    · have := hr3 none 0 0 rfl
      omega
    · have hn' := hr3 _ _ _ rfl
      subst hn'
      refine ⟨_, run_indexAt (hT _ _ ht) (hT _ _ he) h0 h1, ?_⟩
      simp only [AAt]
      exact ⟨⟨g, o, none⟩, xs.length, cap, rfl, by omega, hz', by simp⟩
  | arr ht he hs =>
    obtain ⟨h0, h1⟩ := hs hq
    simp only [AAt] at hu ⊢
    subst hu
    refine ⟨_, run_indexAt_arr (hT _ _ ht) (hT _ _ he) h0 h1, ?_⟩
    rw [add_none]

theorem readP_at {cx : Cx} {t : TypeId} {y : Ty} (ht : tget t T = some y) {new : Bool} {sz : Nat} {f : Nat → DV} {i j : Nat} {r : AV} (hr : readP y.k.agg y.size new sz f j = some r) {a : Addr}
    (hc : ∀ j, j < sz → ∃ v, w.cell? (a.add (i * sz + j)) = some v ∧ DAt (cx.ok new) w (f j) v) :
    ∃ u', (Instr.loadAt t (.pointer (some (a.add (i * sz + j))))).run P w = .ok u' w ∧ AAt cx w r u' := by
  unfold readP at hr
  cases hagg : y.k.agg with
  | false =>
    rw [hagg] at hr
    simp only at hr
    split at hr
    · rename_i hj
      simp only [Option.some.injEq] at hr
      subst hr
      have hj' : j < sz := Nat.le_of_ble_eq_true hj
      obtain ⟨v, h1, h2⟩ := hc j hj'
      exact ⟨v, run_load_one (hT _ _ ht) hagg h1, upD_at h2⟩
    · cases hr
  | true =>
    rw [hagg] at hr
    simp only at hr
    split at hr
    · rename_i hj
      simp only [Option.some.injEq] at hr
      subst hr
      have hj' : j + y.size ≤ sz := Nat.le_of_ble_eq_true hj
      have hadd : ∀ m, (a.add (i * sz + j)).add m = a.add (i * sz + (j + m)) := by
        intro m
        unfold Addr.add
        split
        · rename_i h0
          subst h0
          simp
        · rename_i h0
          split
          · rename_i h1
            rw [if_neg (by omega)]
            simp [show i * sz + (j + m) = m by omega]
          · rw [if_neg (by omega)]
            simp [Nat.add_assoc]
      have hex : ∃ F : Nat → Value, ∀ m, m < y.size → w.cell? ((a.add (i * sz + j)).add m) = some (F m) ∧ DAt (cx.ok new) w (f (j + m)) (F m) := by
        refine ⟨fun m => if h : m < y.size then (hc (j + m) (by omega)).choose else undef, fun m hm => ?_⟩
        simp only [hm, dif_pos]
        rw [hadd]
        exact (hc (j + m) (by omega)).choose_spec
      obtain ⟨F, hF⟩ := hex
      refine ⟨_, run_load_agg (hT _ _ ht) hagg (fun m hm => (hF m hm).1), ?_⟩
      simp only [AAt]
      refine ⟨_, rfl, AAtL.of_get (by simp) (fun m z u hz hu => ?_)⟩
      simp only [List.getElem?_map] at hz hu
      have hm : m < y.size := by
        rcases Nat.lt_or_ge m y.size with h | h
        · exact h
        · simp [List.getElem?_eq_none (show (List.range y.size).length ≤ m by simpa using h)] at hz
      simp only [List.getElem?_range hm, Option.map_some, Option.some.injEq] at hz hu
      subst hz hu
      exact upD_at (hF m hm).2
    · cases hr

theorem readB_at {cx : Cx} {t : TypeId} {y : Ty} (ht : tget t T = some y) {cs : List AV} {us : List Value} (hcs : AAtL cx w cs us) {j : Nat} {r : AV} (hr : readB y.k.agg y.size cs j = some r) {a : Addr}
    (hc : ∀ m v, us[m]? = some v → w.cell? (a.add m) = some v) :
    ∃ u', (Instr.loadAt t (.pointer (some (a.add j)))).run P w = .ok u' w ∧ AAt cx w r u' := by
  unfold readB at hr
  cases hagg : y.k.agg with
  | false =>
    rw [hagg] at hr
    simp only at hr
    obtain ⟨u, h1, h2⟩ := hcs.get j r hr
    exact ⟨u, run_load_one (hT _ _ ht) hagg (hc j u h1), h2⟩
  | true =>
    rw [hagg] at hr
    simp only at hr
    split at hr
    · rename_i hj
      simp only [Option.some.injEq] at hr
      subst hr
      have hj' : j + y.size ≤ cs.length := Nat.le_of_ble_eq_true hj
      have hlen := hcs.length
      have hadd : ∀ m, (a.add j).add m = a.add (j + m) := by
        intro m
        unfold Addr.add
        split
        · rename_i h0
          subst h0
          simp
        · rename_i h0
          split
          · rename_i h1
            subst h1
            rw [if_neg (by omega)]
            simp
          · rw [if_neg (by omega)]
            simp [Nat.add_assoc]
      refine ⟨_, run_load_agg (f := fun m => us.getD (j + m) undef) (hT _ _ ht) hagg (fun m hm => ?_), ?_⟩
      · rw [hadd]
        exact hc _ _ (by simp [List.getD, List.getElem?_eq_getElem (show j + m < us.length by omega)])
      · simp only [AAt]
        refine ⟨_, rfl, AAtL.of_get (by simp; omega) (fun m z u hz hu => ?_)⟩
        have hm : m < y.size := by
          rcases Nat.lt_or_ge m y.size with h | h
          · exact h
          · simp [List.getElem?_map, List.getElem?_eq_none (show (List.range y.size).length ≤ m by simpa using h)] at hu
        simp only [List.getElem?_map, List.getElem?_range hm, Option.map_some, Option.some.injEq] at hu
        rw [List.getElem?_take, if_pos hm, List.getElem?_drop] at hz
        obtain ⟨u', h1, h2⟩ := hcs.get _ _ hz
        rw [← hu]
        simp only [List.getD, h1, Option.getD_some]
        exact h2
    · cases hr

theorem Load.sound {t : TypeId} {z r : AV} (h : Load T sto t z r) (hr : ∀ r ∈ sto, RAt (C.cx sto) w r) {u : Value} (hu : AAt (C.cx sto) w z u) :
    ∃ u', (Instr.loadAt t u).run P w = .ok u' w ∧ AAt (C.cx sto) w r u' := by
  cases h with
  | box hb ht hrd =>
    simp only [AAt] at hu
    subst hu
    rename_i b j cs y
    obtain ⟨arr, e, h1, h2⟩ := hr _ hb.mem
    have := readB_at hT ht h2 hrd (a := ⟨b, 0, none⟩) (fun m v hv => by rw [add_none, Nat.zero_add, cell_of_heap h1]; simpa using hv)
    simpa [add_none] using this
  | p ht hrd =>
    simp only [AAt] at hu
    obtain ⟨a, c, rfl, hi, hj, hD⟩ := hu
    refine readP_at hT ht hrd (fun j hj => ?_)
    rcases hD.inv_sl with ⟨rfl, A, c', h⟩ | ⟨a', c', h, hf, hb, hc, hY⟩
    · simp at hi
    · simp only [Value.slice.injEq, Option.some.injEq] at h
      obtain ⟨rfl, _, rfl⟩ := h
      exact hY _ _ hi hj
  | e hrow ht hrd =>
    simp only [AAt] at hu
    obtain ⟨a, n, c, hv, hi, hj, rfl⟩ := hu
    have hR := hr _ hrow.mem
    have hR' := hR
    obtain ⟨_, _, _, h3, _⟩ := hR'
    have hn := h3 _ _ _ hv
    subst hn
    exact readP_at hT ht hrd (fun j hj => row_cell hR hv hi hj)

theorem Fa.sound {cx : Cx} {s : TypeId} {f off m b : Nat} {ft : TypeId} {fs : List (TypeId × Nat)} {zs : List Value} {yf : Ty} {z r : AV} (h : Fa off z r) (hs : tget s T = some ⟨.struct fs, m, b, zs⟩) (hf : fs[f]? = some (ft, off))
    (hft : tget ft T = some yf) (h0 : Nat.blt 0 yf.size = true) {u : Value} (hu : AAt cx w z u) : ∃ u', (Instr.fieldAt s u f).run P w = .ok u' w ∧ AAt cx w r u' := by
  have h0' : yf.size ≠ 0 := by have : 0 < yf.size := Nat.le_of_ble_eq_true h0; omega
  have hrun := run_fieldAt (w := w) (hT _ _ hs) hf (hT _ _ hft) h0'
  have hadd : ∀ (a : Addr) (i j sz : Nat), (a.add (i * sz + j)).add off = a.add (i * sz + (j + off)) := by
    intro a i j sz
    unfold Addr.add
    split
    · rename_i h0
      subst h0
      simp
    · rename_i h0
      split
      · rename_i h1
        rw [if_neg (by omega)]
        simp [show i * sz + (j + off) = off by omega]
      · rw [if_neg (by omega)]
        simp [Nat.add_assoc]
  cases h with
  | v =>
    simp only [AAt] at hu
    subst hu
    exact ⟨_, hrun _, by simp [AAt, add_none]⟩
  | p hj =>
    simp only [AAt] at hu
    obtain ⟨a, c, rfl, hi, _, hD⟩ := hu
    refine ⟨_, hrun _, ?_⟩
    simp only [AAt]
    exact ⟨a, c, by rw [hadd], hi, Nat.le_of_ble_eq_true hj, hD⟩
  | e hj =>
    simp only [AAt] at hu
    obtain ⟨a, n, c, hv, hi, _, rfl⟩ := hu
    refine ⟨_, hrun _, ?_⟩
    simp only [AAt]
    exact ⟨a, n, c, hv, hi, Nat.le_of_ble_eq_true hj, by rw [hadd]⟩

theorem Len.sound {t ty : TypeId} {z r : AV} (h : Len T sto t z r) (hr : ∀ r ∈ sto, RAt (C.cx sto) w r) {u : Value} (hu : AAt (C.cx sto) w z u) :
    ∃ u', (Builtin.len_ #[t] ty #[u]).run P w = .ok u' w ∧ AAt (C.cx sto) w r u' := by
  cases h with
  | d ht =>
    simp only [AAt] at hu
    rcases hu.inv_sl with ⟨rfl, A, c, rfl⟩ | ⟨a, c, rfl, _⟩ <;> exact ⟨_, by simp [Builtin.len_, run_und_slice (hT _ _ ht), goInt], rfl⟩
  | str ht =>
    simp only [AAt] at hu
    subst hu
    exact ⟨_, by simp [Builtin.len_, run_und_str (hT _ _ ht), goInt], rfl⟩
  | sl ht =>
    simp only [AAt] at hu
    subst hu
    exact ⟨_, by simp [Builtin.len_, run_und_slice (hT _ _ ht), goInt], rfl⟩
  | row hrow ht =>
    rename_i α v new et sz enc dv xs e m b z
    simp only [AAt] at hu
    obtain ⟨rfl, _⟩ := hu
    obtain ⟨vals, hr1, hr2, hr3, _⟩ := hr _ hrow.mem
    have hex : ∃ A n c, u = .slice A n c := by
      rcases hr1 with ⟨rfl, rfl⟩ | ⟨g, o, n', cap, cur, rfl, hg, hn, _⟩
      · exact ⟨_, _, _, rfl⟩
      · exact ⟨_, _, _, rfl⟩
    obtain ⟨A, n, c, rfl⟩ := hex
    have hn := hr3 _ _ _ rfl
    subst hn
    exact ⟨.int .i64 xs.length, by simp [Builtin.len_, run_und_slice (hT _ _ ht), goInt], rfl⟩
  | s ht =>
    simp only [AAt] at hu
    obtain ⟨A, n, c, hv, h1, h2, h3, rfl⟩ := hu
    rename_i v sz lo hi e m b z
    exact ⟨.int .i64 (hi - lo : Nat), by simp [Builtin.len_, run_und_slice (hT _ _ ht), goInt], rfl⟩

theorem Sl.sound {t : TypeId} {lo hi mx : Option Value} {z r : AV} (h : Sl T sto q t lo hi mx z r) (hr : ∀ r ∈ sto, RAt (C.cx sto) w r) (hq : PathHolds q) {u : Value} (hu : AAt (C.cx sto) w z u) :
    ∃ u', (Instr.sliceAt t u lo hi mx).run P w = .ok u' w ∧ AAt (C.cx sto) w r u' := by
  cases h with
  | str ht hl hu' hm hs =>
    simp only [AAt] at hu
    subst hu
    subst hm
    obtain ⟨h0, h1, h2⟩ := hs hq
    exact ⟨_, run_sliceAt_string (hT _ _ ht) hl hu' h0 h1 h2, rfl⟩
  | d ht he hl hu' hm hmx hs =>
    rename_i α new sz enc dv xs l v e m b b' z z' ke
    obtain ⟨h0, h1, h2⟩ := hs hq
    simp only [AAt] at hu
    have hmx' : ∀ c : Nat, xs.length ≤ c → ∃ m : Int, boundI mx c = some m ∧ v ≤ m ∧ m ≤ c := by
      intro c hc
      cases mx with
      | none => exact ⟨c, rfl, by omega, by omega⟩
      | some v' =>
        cases v' <;> simp only [mxOk] at hm
        subst hm
        exact ⟨_, rfl, Int.le_refl _, by omega⟩
    rcases hu.inv_sl with ⟨rfl, A, c, rfl⟩ | ⟨a, c, rfl, hf, hb, hc, hY⟩
    · obtain ⟨m', hm1, hm2, hm3⟩ := hmx' c (by simp)
      simp at h2
      have hl0 : l = 0 := by omega
      have hv0 : v = 0 := by omega
      subst hl0 hv0
      refine ⟨_, run_sliceAt_slice (hT _ _ ht) (hT _ _ he) hl (by simpa using hu') hm1 hmx (by omega) (by omega) hm2 hm3, ?_⟩
      simp only [AAt]
      simpa using DAt.nil sz enc dv _ _
    · obtain ⟨m', hm1, hm2, hm3⟩ := hmx' c hc
      refine ⟨_, run_sliceAt_slice (hT _ _ ht) (hT _ _ he) hl hu' hm1 hmx (by omega) (by omega) hm2 hm3, ?_⟩
      simp only [AAt]
      have hlen : ((xs.take v.toNat).drop l.toNat).length = v.toNat - l.toNat := by simp; omega
      by_cases he : (xs.take v.toNat).drop l.toNat = []
      · have : v.toNat - l.toNat = 0 := by rw [← hlen, he]; rfl
        rw [he, this]
        exact .nil _ _ _ _ _
      · have hne : m'.toNat ≠ l.toNat := by
          intro h
          apply he
          apply List.eq_nil_of_length_eq_zero
          rw [hlen]
          omega
        rw [if_neg hne, ← hlen]
        have hpos : 0 < ((xs.take v.toNat).drop l.toNat).length := List.length_pos_iff.2 he
        have hadd : ∀ i j, (a.add (l.toNat * sz)).add (i * sz + j) = a.add ((l.toNat + i) * sz + j) := by
          intro i j
          have e : (l.toNat + i) * sz + j = l.toNat * sz + (i * sz + j) := by rw [Nat.add_mul, Nat.add_assoc]
          rw [e]
          unfold Addr.add
          split
          · rename_i h0
            rw [h0]
            simp
          · rename_i h0
            split
            · rename_i h1
              rw [h1]
              simp only [Nat.zero_add, if_neg h0]
            · rw [if_neg (by omega)]
              simp [Nat.add_assoc]
        have hcells : ∀ i j, i < ((xs.take v.toNat).drop l.toNat).length → j < sz → ∃ y, w.cell? ((a.add (l.toNat * sz)).add (i * sz + j)) = some y ∧ DAt ((C.cx sto).ok new) w (enc (((xs.take v.toNat).drop l.toNat).getD i dv) j) y := by
          intro i j hi hj
          obtain ⟨y, hy1, hy2⟩ := hY (l.toNat + i) j (by omega) hj
          refine ⟨y, by rw [hadd]; exact hy1, ?_⟩
          have : ((xs.take v.toNat).drop l.toNat).getD i dv = xs.getD (l.toNat + i) dv := by
            simp only [List.getD, List.getElem?_drop, List.getElem?_take]
            rw [if_pos (by omega)]
          rw [this]
          exact hy2
        have hch : ∃ Y : Nat → Nat → Value, ∀ i j, i < ((xs.take v.toNat).drop l.toNat).length → j < sz → w.cell? ((a.add (l.toNat * sz)).add (i * sz + j)) = some (Y i j) ∧ DAt ((C.cx sto).ok new) w (enc (((xs.take v.toNat).drop l.toNat).getD i dv) j) (Y i j) := by
          refine ⟨fun i j => if h : i < ((xs.take v.toNat).drop l.toNat).length ∧ j < sz then (hcells i j h.1 h.2).choose else undef, fun i j hi hj => ?_⟩
          have hij : i < ((xs.take v.toNat).drop l.toNat).length ∧ j < sz := ⟨hi, hj⟩
          simp only [hij, and_self, dif_pos]
          exact (hcells i j hi hj).choose_spec
        obtain ⟨Y, hY'⟩ := hch
        exact .sl sz enc dv _ (a.add (l.toNat * sz)) _ Y (by rw [add_block]; exact hf) (by rw [add_block]; exact hb) (by rw [hlen]; omega) (fun i j hi hj => (hY' i j hi hj).1) (fun i j hi hj => (hY' i j hi hj).2)
  | row hrow ht he hl hu' hm hs =>
    rename_i α v new et sz enc dv xs l u' e m b b' z z' ke
    obtain ⟨h0, h1, h2⟩ := hs hq
    simp only [AAt] at hu
    obtain ⟨rfl, _⟩ := hu
    subst hm
    obtain ⟨vals, hr1, hr2, hr3, _⟩ := hr _ hrow.mem
    have hex : ∃ A n c, u = .slice A n c ∧ n ≤ c := by
      rcases hr1 with ⟨rfl, rfl⟩ | ⟨g, o, n', cap, cur, rfl, hg, hn, _⟩
      · exact ⟨_, _, _, rfl, Nat.le_refl _⟩
      · exact ⟨_, _, _, rfl, hn⟩
    obtain ⟨A, n, c, rfl, hnc⟩ := hex
    have hn := hr3 _ _ _ rfl
    subst hn
    refine ⟨_, run_sliceAt_slice (mx := none) (hT _ _ ht) (hT _ _ he) hl hu' rfl (by simp) h0 h1 (by omega) (Int.le_refl _), ?_⟩
    simp only [AAt]
    refine ⟨A, xs.length, c, rfl, by omega, by omega, hnc, ?_⟩
    simp

theorem unV_run {op : UnOp} {x r : Value} (h : unV op x = some r) : (Op.unary op x).run P w = .ok r w := by
  unfold unV at h
  split at h <;> simp only [Option.some.injEq, reduceCtorEq] at h <;> subst h <;> simp [Op.unary, Op.intArith, Op.intBits]

theorem run_equal_bool (w : World) {t : TypeId} {a c : Bool} (h : P.underlying t = some .bool) : (Op.equal t (.bool a) (.bool c)).run P w = .ok (a == c) w := by
  have h' : ∀ d, (Op.equalIn (d + 1) t (.bool a) (.bool c)).run P w = .ok (a == c) w := fun d => by simp [Op.equalIn, run_underlying h]
  exact h' 9999
theorem Bin.sound {cx : Cx} {op : BinOp} {u v r : AV} {s : Prop} {t : TypeId} (h : Bin T t op u v s r) (hs : s) {x y : Operand} {u' v' : Value} (hu : AAt cx w u u') (hv : AAt cx w v v') :
    ∃ r', (do eqGuard op t x y u' v'; binOp op t u' v' : Sem Value).run P w = .ok r' w ∧ AAt cx w r r' := by
  cases h with
  | eqB ht =>
    simp only [AAt] at hu hv
    subst hu hv
    obtain ⟨d, i, h1, _, h3, _⟩ := hT _ _ ht
    cases d <;> simp only [TK.fits] at h3
    exact ⟨_, by simp [eqGuard, binOp, run_equal_bool hT w h1], rfl⟩
  | neB ht =>
    simp only [AAt] at hu hv
    subst hu hv
    obtain ⟨d, i, h1, _, h3, _⟩ := hT _ _ ht
    cases d <;> simp only [TK.fits] at h3
    exact ⟨_, by simp [eqGuard, binOp, run_equal_bool hT w h1], rfl⟩
  | v hb =>
    simp only [AAt] at hu hv
    subst hu hv
    exact ⟨_, binV_run hb hs w, rfl⟩
  | x hb =>
    simp only [AAt] at hu hv
    subst hu hv
    exact ⟨_, binX_run hb hs w, rfl⟩

/-- **A rule's operation yields what the rule says, and leaves the world as it is.** -/
theorem KeyT.okk {kt : TypeId} {yk : Ty} {κ : Type} [DecidableEq κ] {kk : κ → Value} (hk : tget kt T = some yk) (h : KeyT T yk kk) : KeyOk P kt kk := by
  obtain ⟨dk, ik, hk1, _, hk3, _⟩ := hT _ _ hk
  cases h with
  | int =>
    cases dk <;> simp only [TK.fits] at hk3
    subst hk3
    exact (plain_int _).ok hk1
  | str =>
    cases dk <;> simp only [TK.fits] at hk3
    exact plain_str.ok hk1
theorem LookK.sound {ok : Bool} {z zi r : AV} {t kt et : TypeId} {yt yk ye : Ty} (ht : tget t T = some yt) (htk : yt.k = .map kt et) (hk : tget kt T = some yk) (he : tget et T = some ye) (h : LookK T sto ok yk ye z zi r) (hr : ∀ r ∈ sto, RAt (C.cx sto) w r)
    {u ui : Value} (hu : AAt (C.cx sto) w z u) (hui : AAt (C.cx sto) w zi ui) : ∃ u', (Instr.lookup t u ui ok).run P w = .ok u' w ∧ AAt (C.cx sto) w r u' := by
  obtain ⟨dt, it, ht1, _, ht3, _⟩ := hT _ _ ht
  obtain ⟨de, ie, he1, he2, he3, he4, he5, he6, he7, he8⟩ := hT _ _ he
  have ht1' : P.underlying t = some (.map kt et) := by
    rw [htk] at ht3
    cases dt <;> simp only [TK.fits] at ht3
    obtain ⟨rfl, rfl⟩ := ht3
    exact ht1
  cases hz : ie.zero with
  | none => simp [hz] at he6
  | some zv =>
    simp only [hz, Option.map_some, Option.some.injEq] at he6
    cases h with
    | mp d hm hkt hka hall hzl =>
      rename_i κ α dec r new kk enc es k
      simp only [AAt] at hu
      subst hu
      have hui' := hka.at hui
      subst hui'
      obtain ⟨v, h1, h2⟩ := lookup_at (KeyT.okk hT hk hkt) (hr _ hm.mem) ht1' he2 hz k ok
      refine ⟨_, h1, ?_⟩
      have hone : ∀ v' ∈ zv.cells.toList, oneV v' = true := fun v' hv' => List.all_eq_true.1 hall v' (by rw [← he6]; exact hv')
      have hv : AAt (C.cx sto) w (valA new ye.k.agg ye.size (enc ((mget es k).getD d))) v := by
        cases hg : mget es k with
        | some y => rw [hg] at h2; exact h2
        | none =>
          rw [hg] at h2
          simp only at h2
          subst h2
          simp only [Option.getD_none]
          have hget : ∀ i v', v.cells.toList[i]? = some v' → DAt ((C.cx sto).ok new) w (enc d i) v' := by
            intro i v' hi
            have := hzl.get i v' (by rw [← he6]; exact hi)
            rw [Nat.zero_add] at this
            exact this.at (hone v' (List.mem_of_getElem? hi))
          unfold valA
          cases hag : ye.k.agg with
          | true =>
            have hcells : ∃ arr, v = .agg arr := by
              cases hk' : ye.k <;> simp [hk', TK.agg] at hag <;> simp [hk', hz] at he8 <;> exact he8
            obtain ⟨arr, rfl⟩ := hcells
            simp only [AAt]
            refine ⟨arr, rfl, AAtL.of_get (by rw [← he6] at he7; simpa [Value.cells] using he7.symm) (fun j z' u' hz' hu' => ?_)⟩
            rw [List.getElem?_map] at hz'
            cases hj : (List.range ye.size)[j]? with
            | none => simp [hj] at hz'
            | some j' =>
              rw [hj] at hz'
              have : j' = j := by
                rw [List.getElem?_eq_some_iff] at hj
                obtain ⟨h1, h2⟩ := hj
                simpa using h2.symm
              subst this
              simp at hz'
              subst hz'
              exact upD_at (hget _ _ (by simpa [Value.cells] using hu'))
          | false =>
            have h8 : ye.size = 1 ∧ ie.zero = ye.zero.head? := by
              cases hk' : ye.k <;> simp [hk', TK.agg] at hag <;> simpa [hk'] using he8
            refine upD_at (hget 0 v ?_)
            rw [hz, ← he6, List.head?_eq_getElem?] at h8
            exact h8.2.symm
      cases ok <;> simp only [lookV, AAt, AAtL, if_true, if_false, Bool.false_eq_true]
      · exact hv
      · exact ⟨_, rfl, hv, rfl, trivial⟩

theorem Quiet.sound {o : Oper} {z : AV} (h : Quiet T env sto q o.op z) (hA : Abs C env sto a w) (hq : PathHolds q) : ∃ u, (execOp a.eval o).run P w = .ok (.value u) w ∧ AAt (C.cx sto) w z u := by
  obtain ⟨dst, op, type, pos, after, guard⟩ := o
  simp only at h
  cases h with
  | move hg => exact ⟨_, by simp [execOp], hg.sound hA hq⟩
  | assign hg => exact ⟨_, by simp [execOp], hg.sound hA hq⟩
  | load hg hl =>
    obtain ⟨u, h1, h2⟩ := hl.sound hT hA.res (hg.sound hA hq)
    exact ⟨u, by simp [execOp, h1], h2⟩
  | fieldAddr hg hs hf hft h0 hr =>
    obtain ⟨u, h1, h2⟩ := hr.sound hT hs hf hft h0 (hg.sound hA hq)
    exact ⟨u, by simp [execOp, h1], h2⟩
  | indexAddr hg hi hr =>
    rename_i t x i z k n
    obtain ⟨u, h1, h2⟩ := hr.sound hT (k := k) hA.res hq (hg.sound hA hq)
    exact ⟨u, by simp [execOp, hi.v hA hq, h1], h2⟩
  | binOp hx hy hb hs =>
    rename_i op t t' x y u v s
    obtain ⟨r', h1, h2⟩ := hb.sound hT (hs hq) (t := t) (x := x) (y := y) (hx.sound hA hq) (hy.sound hA hq)
    refine ⟨r', ?_, h2⟩
    simp only [execOp, Sem.run_bind] at h1 ⊢
    rw [h1]
    simp
  | extract hg hz =>
    have h1 := hg.sound hA hq
    simp only [AAt] at h1
    obtain ⟨arr, h2, h3⟩ := h1
    obtain ⟨u, h4, h5⟩ := h3.get _ _ hz
    rename_i x i zs
    have h4' : arr[i]? = some u := by simpa using h4
    exact ⟨u, by simp [execOp, Instr.extract, h2, h4'], h5⟩
  | pickOr hc hb =>
    rename_i c b cb y
    have h1 := hc.v hA hq
    cases cb with
    | true => exact ⟨.bool true, by simp [execOp, asBool, h1, eval_const], by simp [AAt]⟩
    | false =>
      have h2 := hb.v hA (show PathHolds ((false, false) :: q) from And.intro rfl hq)
      exact ⟨.bool y, by simp [execOp, asBool, h1, h2], by simp [AAt]⟩
  | pickAnd hc hb =>
    rename_i c b cb y
    have h1 := hc.v hA hq
    cases cb with
    | false => exact ⟨.bool false, by simp [execOp, asBool, h1, eval_const], by simp [AAt]⟩
    | true =>
      have h2 := hb.v hA (show PathHolds ((true, true) :: q) from And.intro rfl hq)
      exact ⟨.bool y, by simp [execOp, asBool, h1, h2], by simp [AAt]⟩
  | build hg ht hb =>
    have hps := hg.sound hA hq
    rename_i t ps zs cs y
    obtain ⟨u, h1, h2⟩ := hb.sound hT ht (us := ps.map fun x => (x.1, a.eval x.2)) (by simpa using hps)
    exact ⟨u, by simp [execOp, h1], h2⟩
  | nilCheck hg hp =>
    rename_i x
    have h1 := hg.sound hA hq
    have : ∃ ad, a.eval x = .pointer (some ad) := by
      unfold isPtr at hp
      split at hp
      · simp only [AAt] at h1; exact ⟨_, h1⟩
      · simp only [AAt] at h1; obtain ⟨a', c, h1, _⟩ := h1; exact ⟨_, h1⟩
      · simp only [AAt] at h1; obtain ⟨a', n, c, _, _, _, h1⟩ := h1; exact ⟨_, h1⟩
      · cases hp
    obtain ⟨ad, had⟩ := this
    exact ⟨.pointer (some ad), by simp [execOp, had], by rw [had] at h1; exact h1⟩
  | unOp hg hr =>
    exact ⟨_, by simp [execOp, hg.v hA hq, unV_run hT hr], rfl⟩
  | convert hg hr =>
    obtain ⟨u, h1, h2⟩ := hr.sound hT (hg.sound hA hq)
    exact ⟨u, by simp [execOp, h1], h2⟩
  | field hg ht hf hft hr =>
    rename_i t x f off m b ft fs zs yf cs
    have h1 := hg.sound hA hq
    simp only [AAt] at h1
    obtain ⟨arr, h2, h3⟩ := h1
    obtain ⟨fs', h4, h5⟩ := run_und_struct (w := w) (hT _ _ ht)
    rw [← h5, List.getElem?_map] at hf
    obtain ⟨f', hf1, hf2⟩ : ∃ f', fs'[f]? = some f' ∧ (f'.type, f'.offset) = (ft, off) := by simpa using hf
    simp only [Prod.mk.injEq] at hf2
    obtain ⟨rfl, rfl⟩ := hf2
    unfold readB at hr
    cases hagg : yf.k.agg with
    | false =>
      rw [hagg] at hr
      simp only at hr
      obtain ⟨u, h6, h7⟩ := h3.get _ _ hr
      have h6' : arr[f'.offset]? = some u := by simpa using h6
      exact ⟨u, by simp [execOp, Instr.field, h4, hf1, h2, part, run_isAgg (hT _ _ hft), hagg, h6', asAgg], h7⟩
    | true =>
      rw [hagg] at hr
      simp only at hr
      split at hr
      · simp only [Option.some.injEq] at hr
        subst hr
        refine ⟨.agg (arr.extract f'.offset (f'.offset + yf.size)), by simp [execOp, Instr.field, h4, hf1, h2, part, run_isAgg (hT _ _ hft), hagg, asAgg, run_size (hT _ _ hft)], ?_⟩
        simp only [AAt]
        refine ⟨_, rfl, ?_⟩
        simp only [Array.toList_extract, List.extract_eq_take_drop, Nat.add_sub_cancel_left]
        exact (h3.drop _).take _
      · cases hr
  | index hg hi hr =>
    have hgx := hg.sound hA hq
    cases hr with
    | str ht hs =>
      rename_i x i k n s m b z
      obtain ⟨h0, h1⟩ := hs hq
      have hd' : (underlying _).run P w = .ok .string w := run_und_str (hT _ _ ht)
      have hlt : n.toNat < s.size := by omega
      have hb : s[n.toNat]? = some s[n.toNat] := by simp [hlt]
      refine ⟨.int .u8 s[n.toNat].toNat, by simp [execOp, Instr.index, asIntOf, hg.v hA hq, hi.v hA hq, hd', h0, hb], ?_⟩
      have e1 : s.data.toList.getD n.toNat 0 = s[n.toNat] := by
        simp only [List.getD, Array.getElem?_toList]
        have : s.data[n.toNat]? = some s[n.toNat] := by
          rw [Array.getElem?_eq_getElem (by simpa using hlt)]
          rfl
        rw [this]
        rfl
      rw [e1]
      simp [AAt]
    | ints ht he hl hb hs =>
      rename_i t x i k n ki cs xs len e m b b1 z z1
      obtain ⟨h0, h1⟩ := hs hq
      simp only [AAt] at hgx
      obtain ⟨arr, h2, h3⟩ := hgx
      have hlen := Nat.eq_of_beq_eq_true hb
      obtain ⟨dt, it, ht1, _, ht3, _⟩ := hT _ _ ht
      have hu : P.underlying t = some (.array len e) := by
        cases dt <;> simp only [TK.fits] at ht3
        obtain ⟨rfl, rfl⟩ := ht3
        exact ht1
      obtain ⟨u, h6, h7⟩ := h3.get _ _ (hl.get n.toNat (by omega))
      have h6' : arr[n.toNat]? = some u := by simpa using h6
      have h8 : n < len := by omega
      exact ⟨u, by simp [execOp, Instr.index, asIntOf, hi.v hA hq, h2, run_underlying hu, h0, h8, part, run_isAgg (hT _ _ he), run_size (hT _ _ he), h6', TK.agg], h7⟩
  | slice hg hl hh hm hr =>
    obtain ⟨u, h1, h2⟩ := hr.sound hT hA.res hq (hg.sound hA hq)
    refine ⟨u, ?_, h2⟩
    simp only [execOp, hl.sound hA hq, hh.sound hA hq, hm.sound hA hq, Sem.run_bind, h1]
    simp
  | lookMap hx hi ht htk hk he hl =>
    obtain ⟨u, h1, h2⟩ := hl.sound hT ht htk hk he hA.res (hx.sound hA hq) (hi.sound hA hq)
    refine ⟨u, ?_, h2⟩
    simp [execOp, h1]
  | makeFunc h1 h2 =>
    refine ⟨_, ?_, rfl⟩
    have e1 := h1.sound hA hq
    have e2 := h2.sound hA hq
    simp [execOp, Instr.makeFunc, e1, e2]
  | len hg hr =>
    obtain ⟨u, h1, h2⟩ := hr.sound hT (ty := type) hA.res (hg.sound hA hq)
    refine ⟨u, ?_, h2⟩
    simp [execOp, resolve, invoke, builtin, h1]
  | min hx hy =>
    rename_i x y ts k c d
    refine ⟨.int k (Min.min c d), ?_, rfl⟩
    have e : (if d < c then d else c) = Min.min c d := by rw [Int.min_def]; split <;> split <;> omega
    simp [execOp, resolve, invoke, builtin, Builtin.min_, Builtin.min2, hx.v hA hq, hy.v hA hq, e]
  | max hx hy =>
    rename_i x y ts k c d
    refine ⟨.int k (Max.max c d), ?_, rfl⟩
    have e : (if d > c then d else c) = Max.max c d := by rw [Int.max_def]; split <;> split <;> omega
    simp [execOp, resolve, invoke, builtin, Builtin.max_, Builtin.max2, hx.v hA hq, hy.v hA hq]
    first | exact e | (rw [Int.max_def]; split <;> split <;> omega)

end
end Go.Sx
