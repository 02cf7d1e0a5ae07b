/- Contracts, and calls. -/
import Derived.Test.YtnaickojmfefeaaSxRunSound
set_option linter.unusedSectionVars false
set_option linter.all false
namespace Go.Sx

mutual
def freshA : AV → Bool
  | .v _ => true
  | .d new .. => new
  | .o _ => true
  | .g xs => freshL xs
  | .t xs => freshL xs
  | _ => false
def freshL : List AV → Bool
  | [] => true
  | x :: xs => freshA x && freshL xs
end
def freshR : Res → Bool
  | .box _ cs => freshL cs
  | .row _ new .. => new
  | .mp _ new .. => new
  | .rnd .. => false
  | .it .. => true
def freshS : Sto → Bool
  | [] => true
  | r :: s => freshR r && freshS s

/-- A value is handed back, or a panic is passed up. -/
def OutA (cx : Cx) (w' : World) (z : AV) (e : Ending) : Prop :=
  match z with
  | .pan x => e = .panicked [{ v := x, recovered := false }]
  | z => ∃ v, e = .returned v ∧ AAt cx w' z v
theorem OutA.ret {cx : Cx} {w' : World} {z : AV} {v : Value} (h : AAt cx w' z v) : OutA cx w' z (.returned v) := by
  cases z <;> first | exact ⟨v, rfl, h⟩ | simp [AAt] at h
def panA : AV → Bool
  | .pan _ => true
  | _ => false
theorem OutA.inv {cx : Cx} {w' : World} {z : AV} {e : Ending} (h : OutA cx w' z e) (hz : panA z = false) : ∃ v, e = .returned v ∧ AAt cx w' z v := by
  cases z <;> first | exact h | cases hz
theorem OutA.mono {cx cx' : Cx} {w' w'' : World} {z : AV} {e : Ending} (h : OutA cx w' z e) (hm : ∀ u, AAt cx w' z u → AAt cx' w'' z u) : OutA cx' w'' z e := by
  cases z with
  | pan x => exact h
  | _ => obtain ⟨v, h1, h2⟩ := h; exact ⟨v, h1, hm v h2⟩
def Post (w : World) (X : Nat → Prop) (sto : Sto) (R : AV → Sto → Prop) (e : Ending) (w' : World) : Prop :=
  ∃ z sto', R z sto' ∧ Kept (blocksOf sto) w w' ∧ (blocksOf sto').Nodup ∧ (∀ b ∈ blocksOf sto', b ∈ blocksOf sto ∨ w.heap.size ≤ b) ∧
    (∀ r ∈ sto', RAt (cxOf w.heap.size X sto') w' r) ∧ OutA (cxOf w.heap.size X sto') w' z e

/-- **What a function comes to**: called with such arguments, and such memory of its own, it returns, and R tells what. -/
def Sat (P : Program) (f : FuncId) (args : List AV) (sto : Sto) (R : AV → Sto → Prop) : Prop :=
  (∀ (as : Array Value) (w : World), (callFunc f as).run P w = .ok (.enter f as) w) ∧
  ∀ (X : Nat → Prop) (w : World) (vs : List Value), (∀ b, X b → b < w.heap.size) → (∀ b ∈ blocksOf sto, ¬ X b) → (blocksOf sto).Nodup → (∀ r ∈ sto, RAt (cxOf w.heap.size X sto) w r) →
    AAtL (cxOf w.heap.size X sto) w args vs → Calls P f vs.toArray w (Post w X sto R)

theorem Sat.mono {P : Program} {f : FuncId} {args : List AV} {sto : Sto} {R R' : AV → Sto → Prop} (h : Sat P f args sto R) (hr : ∀ z s, R z s → R' z s) : Sat P f args sto R' :=
  ⟨h.1, fun X w vs h1 h2 h3 h4 h5 => (h.2 X w vs h1 h2 h3 h4 h5).mono fun _ _ ⟨z, s, hR, rest⟩ => ⟨z, s, hr _ _ hR, rest⟩⟩

/-! ### What is handed back -/
inductive ResOne (T : Tab) (env : Env) (sto : Sto) : ResultVar → AV → Prop where
  | tmp {t : Tmp} {z : AV} : lookup t env = some ([], z) → ResOne T env sto (.tmp t) z
  | cell {t : Tmp} {ty : TypeId} {b j : Nat} {cs : List AV} {y : Ty} {z : AV} : lookup t env = some ([], .v (.pointer (some ⟨b, j, none⟩))) → RBox b cs sto → tget ty T = some y → readB y.k.agg y.size cs j = some z → ResOne T env sto (.cell t ty) z
inductive ResL (T : Tab) (env : Env) (sto : Sto) : List ResultVar → List AV → Prop where
  | nil : ResL T env sto [] []
  | cons {r : ResultVar} {z : AV} {rs : List ResultVar} {zs : List AV} : ResOne T env sto r z → ResL T env sto rs zs → ResL T env sto (r :: rs) (z :: zs)
def wrapRes : List AV → AV
  | [z] => z
  | zs => .t zs

def resSem (a : Act) : ResultVar → Sem Value
  | .tmp t => pure (a.tmps.getD t undef)
  | .cell ad t => do loadVar t (← asAddr (a.tmps.getD ad undef))
section
variable {P : Program} {T : Tab} (hT : TabOk P T)
include hT

theorem ResOne.sound {C : Ctx} {env : Env} {sto : Sto} {a : Act} {w : World} (hA : Abs C env sto a w) {r : ResultVar} {z : AV} (h : ResOne T env sto r z) :
    ∃ v, (resSem a r).run P w = .ok v w ∧ AAt (C.cx sto) w z v := by
  cases h with
  | tmp hl => exact ⟨_, rfl, hA.slots _ _ _ hl trivial⟩
  | cell hl hb ht hr =>
    rename_i t ty b j cs y
    have h1 : a.tmps.getD t undef = .pointer (some ⟨b, j, none⟩) := hA.slots _ _ _ hl trivial
    obtain ⟨arr, e, h2, h3⟩ := hA.res _ hb.mem
    obtain ⟨u, h4, h5⟩ := readB_at hT ht h3 hr (a := ⟨b, 0, none⟩) (fun m v hv => by rw [add_none, Nat.zero_add, cell_of_heap h2]; simpa using hv)
    refine ⟨u, ?_, h5⟩
    simp only [resSem, h1, asAddr, Sem.run_bind, Sem.run_pure, Result.andThen_ok]
    simpa [Instr.loadAt, Instr.sureAddr, add_none] using h4

theorem ResL.sound {C : Ctx} {env : Env} {sto : Sto} {a : Act} {w : World} (hA : Abs C env sto a w) {rs : List ResultVar} {zs : List AV} (h : ResL T env sto rs zs) :
    ∃ vs : List Value, (rs.mapM (resSem a)).run P w = .ok vs w ∧ AAtL (C.cx sto) w zs vs := by
  induction h with
  | nil => exact ⟨[], by simp, by simp [AAtL]⟩
  | cons h1 _ ih =>
    obtain ⟨v, h2, h3⟩ := h1.sound hT hA
    obtain ⟨vs, h4, h5⟩ := ih
    refine ⟨v :: vs, ?_, by simp only [AAtL]; exact ⟨h3, h5⟩⟩
    simp only [List.mapM_cons, Sem.run_bind]
    rw [h2]
    simp only [Result.andThen_ok]
    rw [h4]
    simp

theorem results_sound {C : Ctx} {env : Env} {sto : Sto} {a : Act} {w : World} (hA : Abs C env sto a w) {fn : Func} {zs : List AV} (h : ResL T env sto fn.results.toList zs) :
    ∃ v, (results fn a.tmps).run P w = .ok v w ∧ AAt (C.cx sto) w (wrapRes zs) v := by
  obtain ⟨vs, h1, h2⟩ := h.sound hT hA
  have h3 : (results fn a.tmps).run P w = .ok (if h : vs.toArray.size = 1 then vs.toArray[0] else .tuple vs.toArray) w := by
    have e : results fn a.tmps = (do let vs ← fn.results.mapM (resSem a); pure (if h : vs.size = 1 then vs[0] else .tuple vs)) := by
      unfold results
      congr 2
    rw [e, ← Array.toArray_toList (xs := fn.results), List.mapM_toArray]
    simp only [Sem.run_bind, Sem.run_map]
    rw [h1]
    simp
  refine ⟨_, h3, ?_⟩
  match zs, vs, h2 with
  | [], [], _ => simp [wrapRes, AAt, AAtL]
  | [z], [v], h => simpa [wrapRes, AAtL] using h
  | z :: z' :: zs, v :: v' :: vs, h =>
    simp only [List.size_toArray, List.length_cons, wrapRes, AAt]
    rw [dif_neg (by omega)]
    exact ⟨_, rfl, h⟩
end

/-! ### Less memory -/
mutual
inductive Age : AV → AV → Prop where
  | v {x y : Value} : x = y → Age (.v x) (.v y)
  | d {α : Type} {n n' : Bool} {sz : Nat} {enc : α → Nat → DV} {dv : α} {xs ys : List α} : (!n' || n) = true → xs = ys → Age (.d n sz enc dv xs) (.d n' sz enc dv ys)
  | nilD {α : Type} {n' : Bool} {sz : Nat} {enc : α → Nat → DV} {dv : α} {ys : List α} : ys = [] → Age (.v (.slice none 0 0)) (.d n' sz enc dv ys)
  | nilO : Age (.v (.slice none 0 0)) (.o (.slice none 0 0))
  | o {v v' : Value} : v = v' → Age (.o v) (.o v')
  | g {xs ys : List AV} : AgeL xs ys → Age (.g xs) (.g ys)
inductive AgeL : List AV → List AV → Prop where
  | nil : AgeL [] []
  | cons {x y : AV} {xs ys : List AV} : Age x y → AgeL xs ys → AgeL (x :: xs) (y :: ys)
end

mutual
theorem Age.sound {cx : Cx} {w : World} : ∀ {z z' : AV} {u : Value}, Age z z' → AAt cx w z u → AAt cx w z' u
  | _, _, u, .v h, hz => h ▸ hz
  | _, _, u, .d (n := n) (n' := n') h h2, hz => by
    simp only [AAt] at hz ⊢
    subst h2
    refine hz.mono (fun b _ hok => ⟨⟨hok.1, hok.2.1, fun hn => hok.2.2 ?_⟩, rfl⟩) (Nat.le_refl _)
    subst hn
    simpa using h
  | _, _, u, .nilD h, hz => by
    simp only [AAt] at hz ⊢
    subst h hz
    exact .nil _ _ _ _ _
  | _, _, u, .nilO, hz => by
    simp only [AAt] at hz ⊢
    exact ⟨hz, _, _, _, rfl⟩
  | _, _, u, .o h, hz => h ▸ hz
  | _, _, u, .g h, hz => by
    simp only [AAt] at hz ⊢
    obtain ⟨arr, h1, h2⟩ := hz
    exact ⟨arr, h1, AgeL.sound h h2⟩
theorem AgeL.sound {cx : Cx} {w : World} : ∀ {xs ys : List AV} {us : List Value}, AgeL xs ys → AAtL cx w xs us → AAtL cx w ys us
  | _, _, us, .nil, h => h
  | _, _, [], .cons _ _, h => by simp [AAtL] at h
  | _, _, u :: us, .cons h1 h2, h => by
    simp only [AAtL] at h ⊢
    exact ⟨Age.sound h1 h.1, AgeL.sound h2 h.2⟩
end

/-- Elements that are values alone. -/
inductive FlatE : {α : Type} → (α → Nat → DV) → Prop where
  | i (k : IntKind) : FlatE (encI k)
  | n : FlatE encN
  | b : FlatE encB
  | bo : FlatE encBo
  | s : FlatE encS
  | v {α : Type} (f : α → Nat → Value) : FlatE (fun x j => .v (f x j))
theorem FlatE.val {α : Type} {enc : α → Nat → DV} (h : FlatE enc) (x : α) (j : Nat) : ∃ v, enc x j = .v v := by
  cases h <;> exact ⟨_, rfl⟩
inductive FlagOk {α : Type} (enc : α → Nat → DV) : Bool → Prop where
  | le : FlagOk enc true
  | flat {b : Bool} : FlatE enc → FlagOk enc b
theorem FlagOk.data {α : Type} {enc : α → Nat → DV} {n n' : Bool} (h : FlagOk enc (!n' || n)) {cx : Cx} {w : World} (x : α) (j : Nat) {y : Value} (hd : DAt (cx.ok n) w (enc x j) y) : DAt (cx.ok n') w (enc x j) y := by
  generalize hb : (!n' || n) = b at h
  cases h with
  | le => exact hd.mono (fun b _ hok => ⟨⟨hok.1, hok.2.1, fun hn => hok.2.2 (by subst hn; simpa using hb)⟩, rfl⟩) (Nat.le_refl _)
  | flat hf =>
    obtain ⟨v, e⟩ := hf.val x j
    rw [e] at hd ⊢
    cases hd with
    | v _ ho => exact .v _ ho
theorem FlagOk.valA {α : Type} {enc : α → Nat → DV} {n n' : Bool} (h : FlagOk enc (!n' || n)) {cx : Cx} {w : World} (x : α) {agg : Bool} {sz : Nat} {u : Value} (hu : AAt cx w (valA n agg sz (enc x)) u) : AAt cx w (valA n' agg sz (enc x)) u := by
  have one : ∀ j u, AAt cx w (upD n (enc x j)) u → AAt cx w (upD n' (enc x j)) u := by
    intro j u hu
    cases hd : enc x j with
    | v y => rw [hd] at hu; simpa [upD, AAt] using hu
    | sl sz enc' dv xs =>
      have := h.data (cx := cx) (w := w) x j (y := u)
      rw [hd] at this hu
      simp only [upD, AAt] at hu ⊢
      exact this hu
  cases agg with
  | false => exact one 0 u hu
  | true =>
    simp only [Sx.valA, AAt] at hu ⊢
    obtain ⟨arr, h1, h2⟩ := hu
    refine ⟨arr, h1, ?_⟩
    have key : ∀ (js : List Nat) (us : List Value), AAtL cx w (js.map fun j => upD n (enc x j)) us → AAtL cx w (js.map fun j => upD n' (enc x j)) us := by
      intro js
      induction js with
      | nil => intro us h; cases us <;> simp_all [AAtL]
      | cons j js ih =>
        intro us h
        cases us with
        | nil => simp [AAtL] at h
        | cons u us => simp only [List.map_cons, AAtL] at h ⊢; exact ⟨one j u h.1, ih us h.2⟩
    exact key _ _ h2
/-- A resource is picked out of the store (as it is asked for), and the rest. -/
inductive Pick : Sto → Res → Sto → Prop where
  | box {b : Nat} {cs cs' : List AV} {s : Sto} : AgeL cs cs' → Pick (.box b cs :: s) (.box b cs') s
  | row {α : Type} {v : Value} {n n' : Bool} {e sz : Nat} {enc : α → Nat → DV} {dv : α} {xs ys : List α} {s : Sto} : FlagOk enc (!n' || n) → xs = ys → Pick (.row v n e sz enc dv xs :: s) (.row v n' e sz enc dv ys) s
  | mp {κ α : Type} {r : Nat} {n n' : Bool} {kk : κ → Value} {agg : Bool} {sz : Nat} {enc : α → Nat → DV} {es es' : List (κ × α)} {s : Sto} : FlagOk enc (!n' || n) → es = es' → Pick (.mp r n kk agg sz enc es :: s) (.mp r n' kk agg sz enc es') s
  | same {r : Res} {s : Sto} : Pick (r :: s) r s
  | tail {x r : Res} {s s' : Sto} : Pick s r s' → Pick (x :: s) r (x :: s')
  | nilRow {α : Type} {n : Bool} {e sz : Nat} {enc : α → Nat → DV} {dv : α} {ys : List α} {s : Sto} : ys = [] → Pick s (.row (.slice none 0 0) n e sz enc dv ys) s
inductive StoSub : Sto → Sto → Prop where
  | nil (s : Sto) : StoSub s []
  | cons {s s1 s' : Sto} {r : Res} : Pick s r s1 → StoSub s1 s' → StoSub s (r :: s')
  | same (s : Sto) : StoSub s s
  | skip {x : Res} {s s' : Sto} : StoSub s s' → StoSub (x :: s) s'

theorem AAtL.map_upD {cx cx' : Cx} {w w' : World} {n n' : Bool} (h : ∀ (d : DV) (u : Value), DAt (cx.ok n) w d u → DAt (cx'.ok n') w' d u) (f : Nat → DV) : ∀ (js : List Nat) (us : List Value), AAtL cx w (js.map fun j => upD n (f j)) us → AAtL cx' w' (js.map fun j => upD n' (f j)) us
  | [], us, hu => by cases us <;> simp_all [AAtL]
  | j :: js, [], hu => by simp [AAtL] at hu
  | j :: js, u :: us, hu => by
    simp only [List.map_cons, AAtL] at hu ⊢
    refine ⟨?_, AAtL.map_upD h f js us hu.2⟩
    cases hd : f j with
    | v x => rw [hd] at hu; simpa [upD, AAt] using hu.1
    | sl sz enc dv xs =>
      rw [hd] at hu
      have := hu.1
      simp only [upD, AAt] at this ⊢
      exact h _ _ this
theorem valA_mono {cx cx' : Cx} {w w' : World} {n n' : Bool} (h : ∀ (d : DV) (u : Value), DAt (cx.ok n) w d u → DAt (cx'.ok n') w' d u) {agg : Bool} {sz : Nat} {f : Nat → DV} {u : Value} (hu : AAt cx w (valA n agg sz f) u) : AAt cx' w' (valA n' agg sz f) u := by
  cases agg with
  | true =>
    simp only [valA, AAt] at hu ⊢
    obtain ⟨arr, h1, h2⟩ := hu
    exact ⟨arr, h1, AAtL.map_upD h f _ _ h2⟩
  | false =>
    simp only [valA] at hu ⊢
    cases hd : f 0 with
    | v x => rw [hd] at hu; simpa [upD, AAt] using hu
    | sl sz enc dv xs =>
      rw [hd] at hu
      simp only [upD, AAt] at hu ⊢
      exact h _ _ hu

/-- A store holds what another one holds, and garbage. -/
def Holds (cx : Cx) (w : World) (s : Sto) : Prop := ∀ r ∈ s, RAt cx w r

theorem Pick.sound {s : Sto} {r : Res} {s' : Sto} (h : Pick s r s') : (blocksOf s).Perm (r.blocks ++ blocksOf s') ∧ ∀ cx w, Holds cx w s → RAt cx w r ∧ Holds cx w s' := by
  induction h with
  | box h =>
    refine ⟨List.Perm.refl _, fun cx w hs => ⟨?_, fun r hr => hs r (by simp [hr])⟩⟩
    obtain ⟨arr, e, h1, h2⟩ := hs _ (List.mem_cons_self ..)
    exact ⟨arr, e, h1, h.sound h2⟩
  | row h h2 =>
    subst h2
    refine ⟨List.Perm.refl _, fun cx w hs => ⟨?_, fun r hr => hs r (by simp [hr])⟩⟩
    obtain ⟨vals, h1, h2, h3, h4⟩ := hs _ (List.mem_cons_self ..)
    refine ⟨vals, h1, h2, h3, fun i j hi hj => ?_⟩
    obtain ⟨y, hy1, hy2⟩ := h4 i j hi hj
    exact ⟨y, hy1, h.data _ _ hy2⟩
  | mp h h2 =>
    subst h2
    refine ⟨List.Perm.refl _, fun cx w hs => ⟨?_, fun r hr => hs r (by simp [hr])⟩⟩
    obtain ⟨ents, clock, h1, h2, h3⟩ := hs _ (List.mem_cons_self ..)
    refine ⟨ents, clock, h1, ⟨h2.1, fun i m p hm hp => ?_⟩, h3⟩
    obtain ⟨k1, k2⟩ := h2.2 i m p hm hp
    exact ⟨k1, h.valA _ k2⟩
  | same => exact ⟨List.Perm.refl _, fun cx w hs => ⟨hs _ (List.mem_cons_self ..), fun r hr => hs r (by simp [hr])⟩⟩
  | tail _ ih =>
    rename_i x r s s' _
    obtain ⟨h1, h2⟩ := ih
    refine ⟨?_, fun cx w hs => ?_⟩
    · show (x.blocks ++ blocksOf s).Perm (r.blocks ++ (x.blocks ++ blocksOf s'))
      refine ((List.Perm.append_left x.blocks h1).trans ?_)
      rw [← List.append_assoc, ← List.append_assoc]
      exact List.Perm.append_right _ List.perm_append_comm
    · obtain ⟨h3, h4⟩ := h2 cx w (fun r hr => hs r (by simp [hr]))
      exact ⟨h3, fun r hr => by rcases List.mem_cons.1 hr with rfl | hr; exact hs _ (by simp); exact h4 r hr⟩
  | nilRow h =>
    subst h
    refine ⟨by simp [Res.blocks, Value.ownBlock], fun cx w hs => ⟨⟨[], .inl ⟨rfl, rfl⟩, by simp, fun A n c h => by simp at h; simp [← h.2.1], fun i j hi => by simp at hi⟩, hs⟩⟩

theorem StoSub.sound {s s' : Sto} (h : StoSub s s') : ∃ g, (blocksOf s).Perm (blocksOf s' ++ g) ∧ ∀ cx w, Holds cx w s → Holds cx w s' := by
  induction h with
  | nil s => exact ⟨blocksOf s, by simp [blocksOf], fun cx w _ r hr => by cases hr⟩
  | cons h1 _ ih =>
    obtain ⟨g, h2, h3⟩ := ih
    obtain ⟨h4, h5⟩ := h1.sound
    rename_i s s1 s' r _
    refine ⟨g, ?_, fun cx w hs => ?_⟩
    · show (blocksOf s).Perm ((r.blocks ++ blocksOf s') ++ g)
      rw [List.append_assoc]
      exact h4.trans (List.Perm.append_left _ h2)
    · obtain ⟨h6, h7⟩ := h5 cx w hs
      intro r' hr'
      rcases List.mem_cons.1 hr' with rfl | hr'
      · exact h6
      · exact h3 cx w h7 r' hr'
  | same s => exact ⟨[], by simp, fun _ _ h => h⟩
  | skip _ ih =>
    obtain ⟨g, h2, h3⟩ := ih
    rename_i x s s' _
    refine ⟨x.blocks ++ g, ?_, fun cx w hs => h3 cx w (fun r hr => hs r (by simp [hr]))⟩
    show (x.blocks ++ blocksOf s).Perm (blocksOf s' ++ (x.blocks ++ g))
    refine ((List.Perm.append_left x.blocks h2).trans ?_)
    rw [← List.append_assoc, ← List.append_assoc]
    exact List.Perm.append_right _ List.perm_append_comm

theorem Abs.sub {C : Ctx} {env : Env} {s s' : Sto} {a : Act} {w : World} (h : Abs C env s a w) (hs : StoSub s s') : Abs C env s' a w := by
  obtain ⟨g, h1, h2⟩ := hs.sound
  have hmem : ∀ b ∈ blocksOf s', b ∈ blocksOf s := fun b hb => h1.mem_iff.2 (List.mem_append_left _ hb)
  have hn : (blocksOf s').Nodup := (List.nodup_append.1 (h1.nodup_iff.1 h.nodup)).1
  have hF : ∀ n b, b < w.heap.size → (C.cx s).ok n b → (C.cx s').ok n b ∧ w.heap[b]? = w.heap[b]? := fun n b _ hok => ⟨⟨fun hm => hok.1 (hmem b hm), hok.2⟩, rfl⟩
  refine ⟨h.kept, hn, fun b hb => h.src b (hmem b hb), fun r hr => RAt.mono hF (Nat.le_refl _) (fun _ _ => rfl) (h2 _ _ h.res r hr), fun t q z hl hq => AAt.mono hF (Nat.le_refl _) (h.slots t q z hl hq), h.envU, h.tsize, h.defers.sub hmem, h.xlt, h.xown⟩

end Go.Sx
