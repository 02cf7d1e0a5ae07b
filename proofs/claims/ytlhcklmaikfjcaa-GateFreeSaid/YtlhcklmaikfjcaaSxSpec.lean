/- A function's contract out of a walk; calls by contract; loops. -/
import Derived.Test.YtlhcklmaikfjcaaSxCall
set_option linter.unusedSectionVars false
set_option linter.all false
namespace Go.Sx

def argEnv : Nat → List AV → Env
  | _, [] => []
  | i, z :: zs => (i, [], z) :: argEnv (i + 1) zs

theorem argEnv_lookup {cx : Cx} {w : World} : ∀ {zs : List AV} {vs : List Value} {i s : Nat} {q : Path} {z : AV}, AAtL cx w zs vs → lookup s (argEnv i zs) = some (q, z) → q = [] ∧ ∃ j v, s = i + j ∧ vs[j]? = some v ∧ AAt cx w z v
  | [], vs, i, s, q, z, _, h => by simp [argEnv, lookup] at h
  | x :: xs, [], i, s, q, z, h, _ => by simp [AAtL] at h
  | x :: xs, u :: us, i, s, q, z, h, hl => by
    simp only [AAtL] at h
    simp only [argEnv, lookup_cons] at hl
    split at hl
    · rename_i e
      simp only [Option.some.injEq, Prod.mk.injEq] at hl
      obtain ⟨rfl, rfl⟩ := hl
      exact ⟨rfl, 0, u, by omega, by simp, h.1⟩
    · obtain ⟨h1, j, v, h2, h3, h4⟩ := argEnv_lookup h.2 hl
      exact ⟨h1, j + 1, v, by omega, by simpa using h3, h4⟩

/-- What is owed where a function ends. -/
def Ends (T : Tab) (rs : List ResultVar) (R : AV → Sto → Prop) (env : Env) (sto : Sto) : Prop :=
  ∃ zs zs' s, ResL T env sto rs zs ∧ AgeL zs zs' ∧ R (wrapRes zs') s ∧ StoSub sto s
theorem wrap_age {cx : Cx} {w : World} {zs zs' : List AV} {u : Value} (h : AgeL zs zs') (hu : AAt cx w (wrapRes zs) u) : AAt cx w (wrapRes zs') u := by
  cases h with
  | nil => exact hu
  | cons h1 h2 =>
    cases h2 with
    | nil => exact h1.sound hu
    | cons h2 h3 =>
      simp only [wrapRes, AAt] at hu ⊢
      obtain ⟨arr, e, h4⟩ := hu
      exact ⟨arr, e, AgeL.sound (.cons h1 (.cons h2 h3)) h4⟩
/-- Results, each by itself. -/
inductive UnwR : List AV → AV → List AV → Prop where
  | nil : UnwR [] (.t []) []
  | one {a z : AV} : UnwR [a] z [z]
  | many {a b z y : AV} {as zs : List AV} : UnwR (a :: b :: as) (.t (z :: y :: zs)) (z :: y :: zs)
theorem UnwR.wrap {zs zs' : List AV} {z : AV} (h : UnwR zs z zs') : wrapRes zs' = z := by cases h <;> rfl

theorem Sat.of {P : Program} {T : Tab} (hT : TabOk P T) {f : FuncId} {fn : Func} {c : Code} {N : Nat} {args : List AV} {sto : Sto} {R : AV → Sto → Prop} (hf : P.funcs[f]? = some fn)
    (hcall : ∀ (as : Array Value) (w : World), (callFunc f as).run P w = .ok (.enter f as) w) (hb : fn.body = some c) (hN : fn.ntmps = N) (hl : Nat.ble args.length N = true)
    (h : Run P T N (Ends T fn.results.toList R) [.c c] (argEnv 0 args) sto) : Sat P f args sto R := by
  refine ⟨hcall, fun X w vs hx1 hx2 hnd hres hargs => ?_⟩
  have hlen := hargs.length
  have hl' := Nat.le_of_ble_eq_true hl
  refine calls_of_wp hf hb ?_
  let C : Ctx := { w0 := w, O := blocksOf sto, X, N }
  have hA : Abs C (argEnv 0 args) sto { tmps := vs.toArray ++ Array.replicate (fn.ntmps - vs.toArray.size) undef, defers := [] } w := by
    refine ⟨Kept.refl _ _, hnd, fun b hb => .inl hb, hres, fun s q z hl hq => ?_, fun s q z hl hq => ?_, ?_, rfl, hx1, hx2⟩
    · obtain ⟨_, j, v, h1, h2, h3⟩ := argEnv_lookup hargs hl
      have hjl : j < vs.length := (List.getElem?_eq_some_iff.1 h2).1
      have : (vs.toArray ++ Array.replicate (fn.ntmps - vs.toArray.size) undef).getD s undef = v := by
        have hs : s = j := by omega
        subst hs
        rw [Array.getD_eq_getD_getElem?, Array.getElem?_append_left (by simpa using hjl)]
        simp [h2]
      show AAt _ _ _ ((vs.toArray ++ Array.replicate (fn.ntmps - vs.toArray.size) undef).getD s undef)
      rw [this]
      exact h3
    · obtain ⟨h1, _⟩ := argEnv_lookup hargs hl
      subst h1
      exact absurd trivial hq
    · show (vs.toArray ++ Array.replicate (fn.ntmps - vs.toArray.size) undef).size = N
      simp [hN]
      omega
  have hwp : c.wp P (postK P C (Ends T fn.results.toList R) []) { tmps := vs.toArray ++ Array.replicate (fn.ntmps - vs.toArray.size) undef, defers := [] } w := h.sound hT C _ w rfl hA
  refine wp_mono hwp (fun e a w' hq => ?_)
  have fin : ∀ env s, Ends T fn.results.toList R env s → Abs C env s a w' → a.defers = [] ∧ ∃ v, (results fn a.tmps).run P w' = .ok v w' ∧ Post w X sto R (.returned v) w' := by
    rintro env s ⟨zs, zs', s'', h1, hage, h3, h2⟩ hA'
    obtain ⟨v, h4, h5⟩ := results_sound hT hA' h1
    have hA'' := hA'.sub h2
    obtain ⟨g, hp1, _⟩ := h2.sound
    have hmem : ∀ b ∈ blocksOf s'', b ∈ blocksOf s := fun b hb => hp1.mem_iff.2 (List.mem_append_left _ hb)
    refine ⟨hA'.defers, v, h4, v, _, s'', h3, rfl, hA''.kept, hA''.nodup, hA''.src, hA''.res, ?_⟩
    exact AAt.mono (cx := C.cx s) (cx' := C.cx s'') (fun n b _ hok => ⟨⟨fun hm => hok.1 (hmem b hm), hok.2⟩, rfl⟩) (Nat.le_refl _) (wrap_age hage h5)
  cases e with
  | normal => obtain ⟨env, s, h1, h2⟩ := hq; exact fin env s h1 h2
  | ret => obtain ⟨env, s, h1, h2⟩ := hq; exact fin env s h1 h2
  | exit id => exact hq.elim
  | goto l => exact hq.elim
  | panic ch => exact hq.elim
  | outgrown => exact hq.elim

/-! ### Calls -/
/-- Values alone. -/
inductive AllV : List AV → Prop where
  | nil : AllV []
  | one (x : Value) : AllV [.v x]
  | map (vs : List Value) : AllV (vs.map .v)
  | app {xs ys : List AV} : AllV xs → AllV ys → AllV (xs ++ ys)
theorem AllV.vals {xs : List AV} (h : AllV xs) : ∃ vs : List Value, xs = vs.map .v := by
  induction h with
  | nil => exact ⟨[], rfl⟩
  | one x => exact ⟨[x], rfl⟩
  | map vs => exact ⟨vs, rfl⟩
  | app _ _ h1 h2 =>
    obtain ⟨a, rfl⟩ := h1
    obtain ⟨b, rfl⟩ := h2
    exact ⟨a ++ b, by simp⟩
theorem AAtL_map_v {cx cx' : Cx} {w w' : World} : ∀ (vs us : List Value), AAtL cx w (vs.map .v) us → AAtL cx' w' (vs.map .v) us
  | [], us, h => by cases us <;> simp_all [AAtL]
  | _ :: _, [], h => by simp [AAtL] at h
  | v :: vs, u :: us, h => by
    simp only [List.map_cons, AAtL, AAt] at h ⊢
    exact ⟨h.1, AAtL_map_v vs us h.2⟩
mutual
/-- What is handed over: deep data as old data; rows may be lent. -/
inductive Pass (lend : Bool) (rest : Sto) : AV → AV → Prop where
  | v {x y : Value} : x = y → Pass lend rest (.v x) (.v y)
  | d {α : Type} {n : Bool} {sz : Nat} {enc : α → Nat → DV} {dv : α} {xs ys : List α} : xs = ys → Pass lend rest (.d n sz enc dv xs) (.d false sz enc dv ys)
  | nilD {α : Type} {sz : Nat} {enc : α → Nat → DV} {dv : α} {ys : List α} : ys = [] → Pass lend rest (.v (.slice none 0 0)) (.d false sz enc dv ys)
  | o {v v' : Value} : v = v' → Pass lend rest (.o v) (.o v')
  | row {α : Type} {v : Value} {n : Bool} {e sz : Nat} {enc : α → Nat → DV} {dv : α} {xs ys : List α} : lend = true → RRow v n e sz enc dv xs rest → xs = ys → Pass lend rest (.o v) (.d false sz enc dv ys)
  | s {α : Type} {v : Value} {n : Bool} {e sz lo hi : Nat} {enc : α → Nat → DV} {dv : α} {xs ys : List α} : lend = true → RRow v n e sz enc dv xs rest → (xs.take hi).drop lo = ys → Pass lend rest (.s v sz lo hi) (.d false sz enc dv ys)
  | g {xs ys : List AV} : PassL lend rest xs ys → Pass lend rest (.g xs) (.g ys)
inductive PassL (lend : Bool) (rest : Sto) : List AV → List AV → Prop where
  | nil : PassL lend rest [] []
  | cons {x y : AV} {xs ys : List AV} : Pass lend rest x y → PassL lend rest xs ys → PassL lend rest (x :: xs) (y :: ys)
  | same {xs : List AV} : AllV xs → PassL lend rest xs xs
end

/-- A resource is handed over. -/
inductive PickP : Sto → Res → Sto → Prop where
  | box {b : Nat} {cs cs' : List AV} {s : Sto} : PassL false [] cs cs' → PickP (.box b cs :: s) (.box b cs') s
  | row {α : Type} {v : Value} {n : Bool} {e sz : Nat} {enc : α → Nat → DV} {dv : α} {xs ys : List α} {s : Sto} : xs = ys → PickP (.row v n e sz enc dv xs :: s) (.row v false e sz enc dv ys) s
  | mp {κ α : Type} {r : Nat} {n : Bool} {kk : κ → Value} {agg : Bool} {sz : Nat} {enc : α → Nat → DV} {es es' : List (κ × α)} {s : Sto} : es = es' → PickP (.mp r n kk agg sz enc es :: s) (.mp r false kk agg sz enc es') s
  | tail {x r : Res} {s s' : Sto} : PickP s r s' → PickP (x :: s) r (x :: s')
  | nilRow {α : Type} {n : Bool} {e sz : Nat} {enc : α → Nat → DV} {dv : α} {ys : List α} {s : Sto} : ys = [] → PickP s (.row (.slice none 0 0) n e sz enc dv ys) s

mutual
def oldA : AV → Bool
  | .d new .. => !new
  | .p new .. => !new
  | .g xs => oldL xs
  | .t xs => oldL xs
  | _ => true
def oldL : List AV → Bool
  | [] => true
  | x :: xs => oldA x && oldL xs
end
def oldR : Res → Bool
  | .box _ cs => oldL cs
  | .row _ new .. => !new
  | .mp _ new .. => !new
def oldS : Sto → Bool
  | [] => true
  | r :: s => oldR r && oldS s
inductive TakeP : Sto → Sto → Sto → Prop where
  | nil (s : Sto) : TakeP s [] s
  | cons {s s1 fs rest : Sto} {r : Res} : PickP s r s1 → TakeP s1 fs rest → TakeP s (r :: fs) rest
  | all {s : Sto} : oldS s = true → TakeP s s []
  | skip {x : Res} {s fs rest : Sto} : TakeP s fs rest → TakeP (x :: s) fs (x :: rest)

theorem TakeP.perm {s fs rest : Sto} (h : TakeP s fs rest) : (blocksOf s).Perm (blocksOf fs ++ blocksOf rest) ∧ ∀ r ∈ rest, r ∈ s := by
  have pick : ∀ {s r s'}, PickP s r s' → (blocksOf s).Perm (r.blocks ++ blocksOf s') ∧ ∀ r ∈ s', r ∈ s := by
    intro s r s' h
    induction h with
    | box => exact ⟨List.Perm.refl _, fun r hr => by simp [hr]⟩
    | row => exact ⟨List.Perm.refl _, fun r hr => by simp [hr]⟩
    | mp => exact ⟨List.Perm.refl _, fun r hr => by simp [hr]⟩
    | nilRow => exact ⟨by simp [Res.blocks, Value.ownBlock], fun r hr => hr⟩
    | tail _ ih =>
      rename_i x r s s' _
      refine ⟨?_, fun r' hr => by rcases List.mem_cons.1 hr with rfl | hr; simp; simp [ih.2 _ hr]⟩
      show (x.blocks ++ blocksOf s).Perm (r.blocks ++ (x.blocks ++ blocksOf s'))
      refine ((List.Perm.append_left x.blocks ih.1).trans ?_)
      rw [← List.append_assoc, ← List.append_assoc]
      exact List.Perm.append_right _ List.perm_append_comm
  induction h with
  | nil s => exact ⟨by simp [blocksOf], fun r hr => hr⟩
  | cons h1 _ ih =>
    obtain ⟨h2, h3⟩ := pick h1
    rename_i s s1 fs rest r _
    refine ⟨?_, fun r hr => h3 r (ih.2 r hr)⟩
    show (blocksOf s).Perm ((r.blocks ++ blocksOf fs) ++ blocksOf rest)
    rw [List.append_assoc]
    exact h2.trans (List.Perm.append_left _ ih.1)
  | all => exact ⟨by simp [blocksOf], fun r hr => by cases hr⟩
  | skip _ ih =>
    rename_i x s fs rest _
    refine ⟨?_, fun r hr => by rcases List.mem_cons.1 hr with rfl | hr; simp; simp [ih.2 _ hr]⟩
    show (x.blocks ++ blocksOf s).Perm (blocksOf fs ++ (x.blocks ++ blocksOf rest))
    refine ((List.Perm.append_left x.blocks ih.1).trans ?_)
    rw [← List.append_assoc, ← List.append_assoc]
    exact List.Perm.append_right _ List.perm_append_comm

section
variable {cx cx' : Cx} {w : World} {lend : Bool} {rest : Sto}

mutual
theorem Pass.sound (hF : ∀ n b, b < w.heap.size → cx.ok n b → cx'.ok false b) (hL : lend = true → ∀ {α : Type} {v : Value} {n : Bool} {e sz : Nat} {enc : α → Nat → DV} {dv : α} {xs : List α}, RRow v n e sz enc dv xs rest → RAt cx w (.row v n e sz enc dv xs) ∧ ∀ b ∈ v.ownBlock.toList, cx'.ok false b) :
    ∀ {z z' : AV} {u : Value}, Pass lend rest z z' → AAt cx w z u → AAt cx' w z' u
  | _, _, u, .v h, hz => by subst h; simpa [AAt] using hz
  | _, _, u, .d h, hz => by
    simp only [AAt] at hz ⊢
    subst h
    exact hz.mono (fun b hb hok => ⟨hF _ b hb hok, rfl⟩) (Nat.le_refl _)
  | _, _, u, .nilD h, hz => by
    simp only [AAt] at hz ⊢
    subst h hz
    exact .nil _ _ _ _ _
  | _, _, u, .o h, hz => by subst h; simpa [AAt] using hz
  | _, _, u, .row (v := v) (sz := sz) (enc := enc) (dv := dv) (xs := xs) hl hr h, hz => by
    simp only [AAt] at hz ⊢
    subst h
    obtain ⟨rfl, _⟩ := hz
    obtain ⟨hR, hok⟩ := hL hl hr
    exact row_data hR (fun b hb hok => hF _ b hb hok) hok
  | _, _, u, .s hl hr h, hz => by
    simp only [AAt] at hz ⊢
    subst h
    obtain ⟨A, n, c, rfl, h1, h2, h3, rfl⟩ := hz
    obtain ⟨hR, hok⟩ := hL hl hr
    exact (row_data hR (fun b hb hok => hF _ b hb hok) hok).part h1 h2 c (by omega) (Nat.le_refl _)
  | _, _, u, .g h, hz => by
    simp only [AAt] at hz ⊢
    obtain ⟨arr, h1, h2⟩ := hz
    exact ⟨arr, h1, PassL.sound hF hL h h2⟩
theorem PassL.sound (hF : ∀ n b, b < w.heap.size → cx.ok n b → cx'.ok false b) (hL : lend = true → ∀ {α : Type} {v : Value} {n : Bool} {e sz : Nat} {enc : α → Nat → DV} {dv : α} {xs : List α}, RRow v n e sz enc dv xs rest → RAt cx w (.row v n e sz enc dv xs) ∧ ∀ b ∈ v.ownBlock.toList, cx'.ok false b) :
    ∀ {xs ys : List AV} {us : List Value}, PassL lend rest xs ys → AAtL cx w xs us → AAtL cx' w ys us
  | _, _, us, .nil, h => by cases us <;> simp_all [AAtL]
  | _, _, [], .cons _ _, h => by simp [AAtL] at h
  | _, _, u :: us, .cons h1 h2, h => by
    simp only [AAtL] at h ⊢
    exact ⟨Pass.sound hF hL h1 h.1, PassL.sound hF hL h2 h.2⟩
  | _, _, us, .same h1, h => by
    obtain ⟨vs, rfl⟩ := h1.vals
    exact AAtL_map_v vs us h
end
end
end Go.Sx
