/- Maps that are made and turned. -/
import Derived.Test.YtnaickojmfefeaaSxStore
set_option linter.unusedSectionVars false
set_option linter.all false
namespace Go.Sx

inductive PullM {κ α : Type} (r : Nat) (n : Bool) (kk : κ → Value) (agg : Bool) (sz : Nat) (enc : α → Nat → DV) (es : List (κ × α)) : Sto → Sto → Prop where
  | head {s : Sto} : PullM r n kk agg sz enc es (.mp r n kk agg sz enc es :: s) s
  | tail {x : Res} {s s' : Sto} : PullM r n kk agg sz enc es s s' → PullM r n kk agg sz enc es (x :: s) (x :: s')
theorem PullM.mem {κ α : Type} {r : Nat} {n : Bool} {kk : κ → Value} {agg : Bool} {sz : Nat} {enc : α → Nat → DV} {es : List (κ × α)} {s s' : Sto} (h : PullM r n kk agg sz enc es s s') :
    Res.mp r n kk agg sz enc es ∈ s ∧ (∀ x ∈ s', x ∈ s) ∧ (blocksOf s).Perm ([r] ++ blocksOf s') := by
  induction h with
  | head => exact ⟨by simp, fun r hr => by simp [hr], List.Perm.refl _⟩
  | tail _ ih =>
    rename_i x s s' _
    obtain ⟨h1, h2, h3⟩ := ih
    refine ⟨by simp [h1], fun r hr => by rcases List.mem_cons.1 hr with rfl | hr; simp; simp [h2 r hr], ?_⟩
    show (x.blocks ++ blocksOf s).Perm ([r] ++ (x.blocks ++ blocksOf s'))
    refine ((List.Perm.append_left x.blocks h3).trans ?_)
    rw [← List.append_assoc, ← List.append_assoc]
    exact List.Perm.append_right _ List.perm_append_comm

/-- A value that is laid as an element. -/
inductive DownV (sz : Nat) (f : Nat → DV) : Bool → AV → Bool → Prop where
  | one {z : AV} {n : Bool} {d : DV} : downD z = some (n, d) → d = f 0 → DownV sz f false z n
  | agg {zs : List AV} {n : Bool} {ds : List DV} : DownL zs n ds → ds = (List.range sz).map f → DownV sz f true (.g zs) n
theorem DownL.length {zs : List AV} {n : Bool} {ds : List DV} (h : DownL zs n ds) : ds.length = zs.length := by
  induction h with
  | nil => rfl
  | cons _ _ ih => simp [ih]
theorem DownV.at {cx : Cx} {w : World} {sz : Nat} {f : Nat → DV} {agg n m : Bool} {z : AV} {u : Value} (h : DownV sz f agg z n) (hz : AAt cx w z u) (hm : m = true → n = true) : AAt cx w (valA m agg sz f) u := by
  cases h with
  | one h1 h2 =>
    have := downD_at h1 hz hm
    rw [h2] at this
    exact upD_at this
  | agg h1 h2 =>
    simp only [AAt] at hz
    obtain ⟨arr, rfl, h3⟩ := hz
    simp only [valA, AAt]
    refine ⟨arr, rfl, ?_⟩
    have hl := h1.length
    have hl2 := h3.length
    subst h2
    simp only [List.length_map, List.length_range] at hl
    refine AAtL.of_get (by simp only [List.length_map, List.length_range]; omega) (fun j z' u' hz' hu' => ?_)
    rw [List.getElem?_map] at hz'
    cases hj : (List.range sz)[j]? with
    | none => simp [hj] at hz'
    | some j' =>
      rw [hj] at hz'
      have hjj : j < sz ∧ j' = j := by
        rw [List.getElem?_eq_some_iff] at hj
        obtain ⟨h1, h2⟩ := hj
        exact ⟨by simpa using h1, by simpa using h2.symm⟩
      obtain ⟨hlt, rfl⟩ := hjj
      simp at hz'
      subst hz'
      obtain ⟨u'', k1, k2⟩ := h1.sound h3 hm j' _ (by rw [List.getElem?_map, List.getElem?_range hlt]; rfl)
      rw [k1] at hu'
      cases hu'
      exact upD_at k2

theorem Abs.setMap {P : Program} {C : Ctx} {env : Env} {sto rest : Sto} {a : Act} {w : World} (hA : Abs C env sto a w) {κ α : Type} [DecidableEq κ] {r : Nat} {n n' : Bool} {kk : κ → Value} {agg : Bool} {sz : Nat} {enc : α → Nat → DV} {es : List (κ × α)} {kt : TypeId} (hK : KeyOk P kt kk) (hp : PullM r n kk agg sz enc es sto rest) {t et : TypeId}
    (ht : P.underlying t = some (.map kt et)) (k : κ) {v : α} {u : Value} {z : AV} (hd : DownV sz (enc v) agg z n') (hu : AAt (C.cx sto) w z u) :
    ∃ w', (Instr.mapUpdate t (.map (some r)) (kk k) u).run P w = .ok () w' ∧ Abs C env (.mp r (n && n') kk agg sz enc (mset es k v) :: rest) a w' := by
  obtain ⟨hm, hrest, hperm⟩ := hp.mem
  have hR := hA.res _ hm
  have hR' : RAt (C.cx sto) w (.mp r (n && n') kk agg sz enc es) := by
    obtain ⟨ents, clock, h1, h2, h3⟩ := hR
    refine ⟨ents, clock, h1, ⟨h2.1, fun i m p hm hp => ?_⟩, h3⟩
    obtain ⟨k1, k2⟩ := h2.2 i m p hm hp
    exact ⟨k1, valA_mono (fun d u hd => hd.mono (fun b hb hok => ⟨⟨hok.1, hok.2.1, fun hn => hok.2.2 (by simp at hn; exact hn.1)⟩, rfl⟩) (Nat.le_refl _)) k2⟩
  obtain ⟨ents', clock', h1, h2, h3, h4⟩ := update_at hK hR' ht k (hd.at (m := n && n') hu (fun h => by simp at h; exact h.2))
  have hlt : r < w.heap.size := hR.lt r (by simp [Res.blocks])
  have hown : r ∈ blocksOf sto := hperm.mem_iff.2 (by simp)
  have hnd := hperm.nodup_iff.1 hA.nodup
  have hmem : ∀ b, b ∈ blocksOf (.mp r (n && n') kk agg sz enc (mset es k v) :: rest) ↔ b ∈ blocksOf sto := fun b => (hperm.mem_iff).symm
  have hoth : ∀ b, b ≠ r → ({ w with heap := w.heap.setIfInBounds r (.map ents' clock') } : World).heap[b]? = w.heap[b]? := fun b hb => Array.getElem?_setIfInBounds_ne (Ne.symm hb)
  have hF : ∀ m b, b < w.heap.size → (C.cx sto).ok m b → (C.cx (.mp r (n && n') kk agg sz enc (mset es k v) :: rest)).ok m b ∧ ({ w with heap := w.heap.setIfInBounds r (.map ents' clock') } : World).heap[b]? = w.heap[b]? := fun m b _ hok =>
    ⟨⟨fun h => hok.1 ((hmem b).1 h), hok.2⟩, hoth b (fun e => hok.1 (e ▸ hown))⟩
  refine ⟨_, h1, hA.step ⟨rfl, rfl, rfl, by simp, fun b _ hb => hoth b (fun e => hb (e ▸ hown))⟩ hnd (fun b hb => .inl ((hmem b).1 hb)) ?_ (fun b _ hb => (hmem b).1 hb)⟩
  intro x hx
  rcases List.mem_cons.1 hx with rfl | hx'
  · refine ⟨ents', clock', by simp [hlt], ⟨h2.1, fun i m p hm' hp' => ?_⟩, h3, h4⟩
    obtain ⟨k1, k2⟩ := h2.2 i m p hm' hp'
    exact ⟨k1, AAt.mono hF (by simp) k2⟩
  · refine RAt.mono hF (by simp) (fun b hb => hoth b (fun e => ?_)) (hA.res x (hrest x hx'))
    subst e
    exact (List.nodup_append.1 hnd).2.2 b (by simp) b (List.mem_flatMap.2 ⟨x, hx', hb⟩) rfl

section
variable {P : Program} {T : Tab} (hT : TabOk P T) {N : Fm} {Q : Env → Sto → Prop}
include hT
theorem RunSem.mapSet {κ α : Type} {dec : DecidableEq κ} {all : Array Oper} {rest : List Oper} {t kt et : TypeId} {m x v : Operand} {ty : TypeId} {pos : String} {af : Array Edge} {k : List It} {env : Env} {sto sto' : Sto} {yt yk ye : Ty} {r : Nat} {n n' : Bool} {kk : κ → Value} {enc : α → Nat → DV} {es : List (κ × α)} {key : κ} {zi zv : AV} {v0 : α}
    (hm : Get env [] m (.v (.map (some r)))) (hx : Get env [] x zi) (hv : Get env [] v zv) (ht : tget t T = some yt) (htk : yt.k = .map kt et) (hk : tget kt T = some yk) (he : tget et T = some ye) (hp : PullM r n kk ye.k.agg ye.size enc es sto sto') (hkt : KeyT T yk kk) (hka : KeyA kk zi key) (hd : DownV ye.size (enc v0) ye.k.agg zv n')
    (hrun : Run P T N Q (.ops all rest :: k) env (.mp r (n && n') kk ye.k.agg ye.size enc (mset es key v0) :: sto')) :
    RunSem P N Q (.ops all ({ dst := none, op := .mapUpdate t m x v, type := ty, pos, after := af, guard := none } :: rest) :: k) env sto := by
  intro C a w hN hA
  obtain ⟨dt, it, ht1, _, ht3, _⟩ := hT _ _ ht
  have ht1' : P.underlying t = some (.map kt et) := by
    rw [htk] at ht3
    cases dt <;> simp only [TK.fits] at ht3
    obtain ⟨rfl, rfl⟩ := ht3
    exact ht1
  have e1 : a.eval m = .map (some r) := hm.v hA (q := []) trivial
  have e2 : a.eval x = kk key := hka.at (hx.sound hA (q := []) trivial)
  have hu := hv.sound hA (q := []) trivial
  obtain ⟨w', h1, hA'⟩ := hA.setMap (KeyT.okk hT hk hkt) hp ht1' key hd hu
  refine wpListR_yes (by simp [Region.wanted]) ?_
  have hr : (execOp a.eval { dst := none, op := .mapUpdate t m x v, type := ty, pos, after := af, guard := none }).run P w = .ok .skip w' := by
    simp only [execOp, e1, e2, Sem.run_bind]
    rw [h1]
    rfl
  refine opR_of rfl hr ?_
  exact hrun.sound hT C _ _ hN hA'

/-- How a map's elements are told, by its types. -/
inductive MapT (T : Tab) : Ty → Ty → {κ α : Type} → (κ → Value) → (α → Nat → DV) → Prop where
  | ii {k k' : IntKind} {m b m' b' : Nat} {z z' : List Value} : MapT T ⟨.int k, m, b, z⟩ ⟨.int k', m', b', z'⟩ (kInt k) (encI k')
  | ib {k : IntKind} {m b m' b' : Nat} {z z' : List Value} : MapT T ⟨.int k, m, b, z⟩ ⟨.bool, m', b', z'⟩ (kInt k) encBo
theorem RunSem.newMap {κ α : Type} {kk : κ → Value} {enc : α → Nat → DV} {all : Array Oper} {rest : List Oper} {d : Tmp} {t kt et : TypeId} {ty : TypeId} {pos : String} {af : Array Edge} {k : List It} {env : Env} {sto : Sto} {yt yk ye : Ty} (hd : Nat.blt d N.n = true)
    (ht : tget t T = some yt) (htk : yt.k = .map kt et) (hk : tget kt T = some yk) (he : tget et T = some ye) (hmt : MapT T yk ye kk enc)
    (hrun : ∀ r, Run P T N Q (.ops all rest :: k) ((d, [], .v (.map (some r))) :: env) (.mp r true kk ye.k.agg ye.size enc [] :: sto)) :
    RunSem P N Q (.ops all ({ dst := some d, op := .makeMap t none, type := ty, pos, after := af, guard := none } :: rest) :: k) env sto := by
  intro C a w hN hA
  have hA' : Abs C env (.mp w.heap.size true kk ye.k.agg ye.size enc [] :: sto) a (w.alloc (.map #[] 0)) := by
    refine hA.fresh (kept_alloc w _) (by simp [Res.blocks]) (by simp [Res.blocks]) ⟨#[], 0, heap_alloc_new w _, ⟨rfl, fun i m p hm => by simp at hm⟩, fun m hm => by simp at hm, by simp⟩
  refine wpList_quiet hT rfl rfl (v := .map (some w.heap.size)) (w' := w.alloc (.map #[] 0)) ?_ ((hrun _).sound hT C _ _ hN (hA'.put0 (by rw [hN.1]; exact Nat.le_of_ble_eq_true hd) rfl))
  simp only [execOp, Sem.run_bind]
  rfl
end
end Go.Sx
