/- A function's contract out of a walk; calls by contract; loops. -/
import Derived.Test.YtnaickojmfefeaaSxCall
set_option linter.unusedSectionVars false
set_option linter.all false
namespace Go.Sx

def argEnv : Nat → List AV → Env
  | _, [] => []
  | i, z :: zs => (i, [], z) :: argEnv (i + 1) zs

theorem argEnv_lookup {cx : Cx} {w : World} : ∀ {zs : List AV} {vs : List Value} {i s : Nat} {q : Path} {z : AV}, AAtL cx w zs vs → lookup s (argEnv i zs) = some (q, z) → q = [] ∧ ∃ j v, s = i + j ∧ vs[j]? = some v ∧ AAt cx w z v
  | [], vs, i, s, q, z, _, h => by simp [argEnv, lookup] at h
  | x :: xs, [], i, s, q, z, h, _ => by simp [AAtL] at h
  | x :: xs, u :: us, i, s, q, z, h, hl => by
    simp only [AAtL] at h
    simp only [argEnv, lookup_cons] at hl
    split at hl
    · rename_i e
      simp only [Option.some.injEq, Prod.mk.injEq] at hl
      obtain ⟨rfl, rfl⟩ := hl
      exact ⟨rfl, 0, u, by omega, by simp, h.1⟩
    · obtain ⟨h1, j, v, h2, h3, h4⟩ := argEnv_lookup h.2 hl
      exact ⟨h1, j + 1, v, by omega, by simpa using h3, h4⟩

/-- What is owed where a function ends. -/
def isPanE : Env → Option Value
  | (_, [], .pan x) :: _ => some x
  | _ => none
def Ends (T : Tab) (rs : List ResultVar) (R : AV → Sto → Prop) (env : Env) (sto : Sto) : Prop :=
  match isPanE env with
  | some x => ∃ s, R (.pan x) s ∧ StoSub sto s
  | none => ∃ zs zs' s, ResL T env sto rs zs ∧ AgeL zs zs' ∧ R (wrapRes zs') s ∧ StoSub sto s
theorem wrap_age {cx : Cx} {w : World} {zs zs' : List AV} {u : Value} (h : AgeL zs zs') (hu : AAt cx w (wrapRes zs) u) : AAt cx w (wrapRes zs') u := by
  cases h with
  | nil => exact hu
  | cons h1 h2 =>
    cases h2 with
    | nil => exact h1.sound hu
    | cons h2 h3 =>
      simp only [wrapRes, AAt] at hu ⊢
      obtain ⟨arr, e, h4⟩ := hu
      exact ⟨arr, e, AgeL.sound (.cons h1 (.cons h2 h3)) h4⟩
/-- Results, each by itself. -/
inductive UnwR : List AV → AV → List AV → Prop where
  | nil : UnwR [] (.t []) []
  | one {a z : AV} : UnwR [a] z [z]
  | many {a b z y : AV} {as zs : List AV} : UnwR (a :: b :: as) (.t (z :: y :: zs)) (z :: y :: zs)
theorem UnwR.wrap {zs zs' : List AV} {z : AV} (h : UnwR zs z zs') : wrapRes zs' = z := by cases h <;> rfl

/-- Worlds that differ in blocks that hold no cells, and that nobody owns. -/
theorem DAt.monoC {F F' : Nat → Prop} {w w' : World} {d : DV} {u : Value} (h : DAt F w d u) (hF : ∀ b, F b → F' b) (hc : ∀ a v, w.cell? a = some v → w'.cell? a = some v) (hs : w.heap.size ≤ w'.heap.size) : DAt F' w' d u := by
  induction h with
  | v x h => exact .v x h
  | nil sz enc dv A c => exact .nil sz enc dv A c
  | sl sz enc dv xs a c Y hf hb hl hY _ ih => exact .sl sz enc dv xs a c Y (hF _ hf) (by omega) hl (fun i j hi hj => hc _ _ (hY i j hi hj)) ih
mutual
theorem AAt.monoC {cx cx' : Cx} {w w' : World} (hF : ∀ n b, cx.ok n b → cx'.ok n b) (hc : ∀ a v, w.cell? a = some v → w'.cell? a = some v) (hs : w.heap.size ≤ w'.heap.size) : ∀ {z : AV} {u : Value}, AAt cx w z u → AAt cx' w' z u
  | .v x, u, h => by simpa [AAt] using h
  | .d new sz enc dv xs, u, h => by
    simp only [AAt] at h ⊢
    exact h.monoC (hF new) hc hs
  | .p new sz enc dv xs i j, u, h => by
    simp only [AAt] at h ⊢
    obtain ⟨a, c, h1, h2, h3, h4⟩ := h
    exact ⟨a, c, h1, h2, h3, h4.monoC (hF new) hc hs⟩
  | .o v, u, h => by simpa only [AAt] using h
  | .e v sz i j, u, h => by simpa only [AAt] using h
  | .s v sz lo hi, u, h => by simpa only [AAt] using h
  | .g xs, u, h => by
    simp only [AAt] at h ⊢
    obtain ⟨arr, h1, h2⟩ := h
    exact ⟨arr, h1, AAtL.monoC hF hc hs h2⟩
  | .t xs, u, h => by
    simp only [AAt] at h ⊢
    obtain ⟨arr, h1, h2⟩ := h
    exact ⟨arr, h1, AAtL.monoC hF hc hs h2⟩
  | .pan x, u, h => by simp [AAt] at h
theorem AAtL.monoC {cx cx' : Cx} {w w' : World} (hF : ∀ n b, cx.ok n b → cx'.ok n b) (hc : ∀ a v, w.cell? a = some v → w'.cell? a = some v) (hs : w.heap.size ≤ w'.heap.size) : ∀ {xs : List AV} {us : List Value}, AAtL cx w xs us → AAtL cx' w' xs us
  | [], [], _ => by simp [AAtL]
  | [], _ :: _, h => by simp [AAtL] at h
  | _ :: _, [], h => by simp [AAtL] at h
  | x :: xs, u :: us, h => by
    simp only [AAtL] at h ⊢
    exact ⟨AAt.monoC hF hc hs h.1, AAtL.monoC hF hc hs h.2⟩
end
theorem RAt.monoC {cx cx' : Cx} {w w' : World} {r : Res} (hF : ∀ n b, cx.ok n b → cx'.ok n b) (hc : ∀ a v, w.cell? a = some v → w'.cell? a = some v) (hs : w.heap.size ≤ w'.heap.size) (hr : ∀ b ∈ r.blocks, w'.heap[b]? = w.heap[b]?) (h : RAt cx w r) : RAt cx' w' r := by
  cases r with
  | box b cs =>
    obtain ⟨arr, e, h1, h2⟩ := h
    exact ⟨arr, e, (hr b (by simp [Res.blocks])).trans h1, AAtL.monoC hF hc hs h2⟩
  | row v new e sz enc dv xs =>
    obtain ⟨vals, h1, h2, h3, h4⟩ := h
    refine ⟨vals, ?_, h2, h3, fun i j hi hj => ?_⟩
    · rcases h1 with h1 | ⟨g, o, n, cap, cur, rfl, hg, rest⟩
      · exact .inl h1
      · exact .inr ⟨g, o, n, cap, cur, rfl, (hr g (by simp [Res.blocks, Value.ownBlock])).trans hg, rest⟩
    · obtain ⟨y, hy1, hy2⟩ := h4 i j hi hj
      exact ⟨y, hy1, hy2.monoC (hF new) hc hs⟩
  | mp r new kk agg sz enc es =>
    obtain ⟨ents, clock, h1, h2, h3, h4⟩ := h
    refine ⟨ents, clock, (hr r (by simp [Res.blocks])).trans h1, ⟨h2.1, fun i m p hm hp => ?_⟩, h3, h4⟩
    obtain ⟨k1, k2⟩ := h2.2 i m p hm hp
    exact ⟨k1, AAt.monoC hF hc hs k2⟩
  | rnd l N st fn ps assign body D env =>
    obtain ⟨tmps, h1, h2, h3⟩ := h
    exact ⟨tmps, (hr l (by simp [Res.blocks])).trans h1, h2, fun s z hl => AAt.monoC hF hc hs (h3 s z hl)⟩
  | it b o => exact ⟨(hr b (by simp [Res.blocks])).trans h.1, h.2⟩
theorem Post.monoC {w w' w'' : World} {X : Nat → Prop} {sto : Sto} {R : AV → Sto → Prop} {e : Ending} (h : Post w X sto R e w') (hk : Kept [] w' w'' ∨ (w''.os = w'.os ∧ w''.tape = w'.tape ∧ w''.output = w'.output)) (hc : ∀ a v, w'.cell? a = some v → w''.cell? a = some v)
    (hs : w'.heap.size ≤ w''.heap.size) (hb : ∀ b, (b < w.heap.size ∨ ∀ r, w'.heap[b]? ≠ some (.deferred r)) → b < w'.heap.size → w''.heap[b]? = w'.heap[b]?) (hd : ∀ z s, R z s → ∀ r ∈ s, ∀ cx, RAt cx w' r → ∀ b ∈ r.blocks, ∀ x, w'.heap[b]? ≠ some (.deferred x)) : Post w X sto R e w'' := by
  obtain ⟨z, s, hR, h1, h2, h3, h4, h5⟩ := h
  have ho : w''.os = w'.os ∧ w''.tape = w'.tape ∧ w''.output = w'.output := by
    rcases hk with h | h
    · exact ⟨h.os, h.tape, h.output⟩
    · exact h
  refine ⟨z, s, hR, ⟨ho.1.trans h1.os, ho.2.1.trans h1.tape, ho.2.2.trans h1.output, Nat.le_trans h1.size hs, fun k hk' hn => (hb k (.inl hk') (Nat.lt_of_lt_of_le hk' h1.size)).trans (h1.block k hk' hn)⟩, h2, h3, fun r hr => ?_, h5.mono fun u hu => AAt.monoC (fun _ _ h => h) hc hs hu⟩
  exact RAt.monoC (fun _ _ h => h) hc hs (fun b hbr => hb b (.inr (fun x => hd z s hR r hr _ (h4 r hr) b hbr x)) ((h4 r hr).lt b hbr)) (h4 r hr)
theorem RAt.noDef {cx : Cx} {w : World} {r : Res} (h : RAt cx w r) : ∀ b ∈ r.blocks, ∀ x, w.heap[b]? ≠ some (.deferred x) := by
  intro b hb x hx
  cases r with
  | box b' cs =>
    obtain ⟨arr, e, h1, _⟩ := h
    simp only [Res.blocks, List.mem_singleton] at hb
    subst hb
    rw [h1] at hx
    cases hx
  | row v new e sz enc dv xs =>
    obtain ⟨vals, h1, _⟩ := h
    rcases h1 with ⟨rfl, _⟩ | ⟨g, o, n, cap, cur, rfl, hg, _⟩
    · simp [Res.blocks, Value.ownBlock] at hb
    · simp [Res.blocks, Value.ownBlock] at hb
      subst hb
      rw [hg] at hx
      cases hx
  | mp r new kk agg sz enc es =>
    obtain ⟨ents, clock, h1, _⟩ := h
    simp only [Res.blocks, List.mem_singleton] at hb
    subst hb
    rw [h1] at hx
    cases hx
  | rnd l N st fn ps assign body D env =>
    obtain ⟨tmps, h1, _⟩ := h
    simp only [Res.blocks, List.mem_singleton] at hb
    subst hb
    rw [h1] at hx
    cases hx
  | it b' o =>
    simp only [Res.blocks, List.mem_singleton] at hb
    subst hb
    rw [h.1] at hx
    cases hx
    exact h.2 _ rfl

/-- Marks among deferred calls are taken one by one: the world stays but for their blocks. -/
theorem leaves_marks {P : Program} {fn : Func} {tmps : Array Value} {R : Ending → World → Prop} {u : FrameMode} (hu : u ≠ .run) : ∀ (ds : List Deferred) (w : World), ds.Nodup →
    (∀ d ∈ ds, ∃ r, d = { target := .collected r, args := #[] } ∧ w.heap[r]? = some (.deferred (some []))) →
    (∀ w', w'.os = w.os → w'.tape = w.tape → w'.output = w.output → w'.heap.size = w.heap.size → (∀ b, (∀ d ∈ ds, d.target ≠ .collected b) → w'.heap[b]? = w.heap[b]?) → LeavesIn Fence.wide 0 P fn tmps R [] u w') →
    LeavesInM Fence.wide 0 P fn tmps R ds u w
  | [], w, _, _, h => h w rfl rfl rfl rfl (fun _ _ => rfl)
  | d :: ds, w, hn, hd, h => by
    obtain ⟨r, rfl, hr⟩ := hd d (by simp)
    refine ⟨hu, .inl ⟨r, _, rfl, run_takeDeferred hr, ?_⟩⟩
    have hnd := List.nodup_cons.1 hn
    refine leaves_marks hu ds _ hnd.2 (fun d' hd' => ?_) (fun w' h1 h2 h3 h4 h5 => h w' h1 h2 h3 (h4.trans World.putObj_size) (fun b hb => ?_))
    · obtain ⟨r', rfl, hr'⟩ := hd d' (by simp [hd'])
      refine ⟨r', rfl, ?_⟩
      rw [World.putObj_heap_other (fun e => hnd.1 (by rw [← e]; exact hd'))]
      exact hr'
    · rw [h5 b (fun d hd => hb d (by simp [hd]))]
      exact World.putObj_heap_other (fun e => hb { target := .collected r, args := #[] } (List.mem_cons_self ..) (by rw [e]))

theorem Sat.of {P : Program} {T : Tab} (hT : TabOk P T) {f : FuncId} {fn : Func} {c : Code} {N : Nat} {args : List AV} {sto : Sto} {R : AV → Sto → Prop} (hf : P.funcs[f]? = some fn)
    (hcall : ∀ (as : Array Value) (w : World), (callFunc f as).run P w = .ok (.enter f as) w) (hb : fn.body = some c) (hN : fn.ntmps = N) (hl : Nat.ble args.length N = true)
    (h : Run P T ⟨N, true⟩ (Ends T fn.results.toList R) [.c c] (argEnv 0 args) sto) : Sat P f args sto R := by
  refine ⟨hcall, fun X w vs hx1 hx2 hnd hres hargs => ?_⟩
  have hlen := hargs.length
  have hl' := Nat.le_of_ble_eq_true hl
  refine callsIn_wide (n := 0).1 (callsIn_of_wp_marks (F := Fence.wide) hf hb trivial ?_)
  let C : Ctx := { w0 := w, O := blocksOf sto, X, N, rnd := none }
  have hA : Abs C (argEnv 0 args) sto { tmps := vs.toArray ++ Array.replicate (fn.ntmps - vs.toArray.size) undef, defers := [] } w := by
    refine ⟨Kept.refl _ _, hnd, fun b hb => .inl hb, hres, fun s q z hl hq => ?_, fun s q z hl hq => ?_, ?_, ⟨List.nodup_nil, fun d hd => by cases hd⟩, hx1, hx2⟩
    · obtain ⟨_, j, v, h1, h2, h3⟩ := argEnv_lookup hargs hl
      have hjl : j < vs.length := (List.getElem?_eq_some_iff.1 h2).1
      have : (vs.toArray ++ Array.replicate (fn.ntmps - vs.toArray.size) undef).getD s undef = v := by
        have hs : s = j := by omega
        subst hs
        rw [Array.getD_eq_getD_getElem?, Array.getElem?_append_left (by simpa using hjl)]
        simp [h2]
      show AAt _ _ _ ((vs.toArray ++ Array.replicate (fn.ntmps - vs.toArray.size) undef).getD s undef)
      rw [this]
      exact h3
    · obtain ⟨h1, _⟩ := argEnv_lookup hargs hl
      subst h1
      exact absurd trivial hq
    · show (vs.toArray ++ Array.replicate (fn.ntmps - vs.toArray.size) undef).size = N
      simp [hN]
      omega
  have hwp : wpR none P c (postK P C (Ends T fn.results.toList R) []) { tmps := vs.toArray ++ Array.replicate (fn.ntmps - vs.toArray.size) undef, defers := [] } w := h.sound hT C _ w ⟨rfl, fun _ => rfl⟩ hA
  refine wpIn_mono hwp (fun e a w' hq => ?_)
  -- behind the body: marks are taken, then the results are read
  have after : ∀ {env : Env} {s : Sto}, Abs C env s a w' → ∀ w'' : World, w''.os = w'.os → w''.tape = w'.tape → w''.output = w'.output → w''.heap.size = w'.heap.size → (∀ b, (∀ d ∈ a.defers, d.target ≠ .collected b) → w''.heap[b]? = w'.heap[b]?) → Abs C env s { a with defers := [] } w'' := by
    intro env s hA' w'' h1 h2 h3 h4 h5
    have hm : ∀ b, (b < w.heap.size ∨ b ∈ blocksOf s ∨ ∃ cs e f, w'.heap[b]? = some (.cells cs e f)) → w''.heap[b]? = w'.heap[b]? := by
      intro b hb
      refine h5 b (fun d hd e => ?_)
      obtain ⟨r, hr1, hr2, hr3, hr4⟩ := hA'.defers.2 d hd
      rw [hr1] at e
      simp only [Target.collected.injEq] at e
      subst e
      rcases hb with hb | hb | ⟨cs, e, f, hb⟩
      · have : w.heap.size ≤ r := hr2
        omega
      · exact hr3 hb
      · rw [hr4] at hb; cases hb
    have hc : ∀ ad v, w'.cell? ad = some v → w''.cell? ad = some v := by
      intro ad v hv
      have hcells : ∃ cs e f, w'.heap[ad.block]? = some (.cells cs e f) := by
        unfold World.cell? at hv
        split at hv
        · rename_i cs e f hh; exact ⟨cs, _, _, hh⟩
        · cases hv
      rw [← hv]
      exact World.cell?_of_block (hm _ (.inr (.inr hcells)))
    refine ⟨⟨h1.trans hA'.kept.os, h2.trans hA'.kept.tape, h3.trans hA'.kept.output, by rw [h4]; exact hA'.kept.size, fun k hk hn => (hm k (.inl hk)).trans (hA'.kept.block k hk hn)⟩, hA'.nodup, hA'.src, fun r hr => ?_, fun s' q z hl hq => ?_, hA'.envU, hA'.tsize, ⟨List.nodup_nil, fun d hd => by cases hd⟩, hA'.xlt, hA'.xown⟩
    · exact RAt.monoC (fun _ _ h => h) hc (by rw [h4]; exact Nat.le_refl _) (fun b hb => hm b (.inr (.inl (List.mem_flatMap.2 ⟨r, hr, hb⟩)))) (hA'.res r hr)
    · exact AAt.monoC (fun _ _ h => h) hc (by rw [h4]; exact Nat.le_refl _) (hA'.slots s' q z hl hq)
  have marks : ∀ {env : Env} {s : Sto}, Abs C env s a w' → ∀ d ∈ a.defers, ∃ r, d = { target := .collected r, args := #[] } ∧ w'.heap[r]? = some (.deferred (some [])) := fun hA' d hd => by
    obtain ⟨r, h1, _, _, h4⟩ := hA'.defers.2 d hd
    exact ⟨r, h1, h4⟩
  have fin : ∀ env s, Ends T fn.results.toList R env s → Abs C env s a w' → LeavesInM Fence.wide 0 P fn a.tmps (Post w X sto R) a.defers .returning w' := by
    intro env s hE hA'
    refine leaves_marks (by simp) a.defers w' hA'.defers.1 (marks hA') (fun w'' h1 h2 h3 h4 h5 => ?_)
    have hA2 := after hA' w'' h1 h2 h3 h4 h5
    unfold Ends at hE
    have hnp : isPanE env = none := by
      cases hi : isPanE env with
      | none => rfl
      | some x =>
        unfold isPanE at hi
        split at hi
        · rename_i t x' e
          exact absurd (hA2.slots t [] (.pan x') (by simp [lookup_cons]) trivial) (by simp [AAt])
        · cases hi
    rw [hnp] at hE
    obtain ⟨zs, zs', s'', h1, hage, h3, h2⟩ := hE
    obtain ⟨v, h4, h5⟩ := results_sound hT hA2 h1
    have hA'' := hA2.sub h2
    obtain ⟨g, hp1, _⟩ := h2.sound
    have hmem : ∀ b ∈ blocksOf s'', b ∈ blocksOf s := fun b hb => hp1.mem_iff.2 (List.mem_append_left _ hb)
    refine ⟨v, h4, _, s'', h3, hA''.kept, hA''.nodup, hA''.src, hA''.res, OutA.ret ?_⟩
    exact AAt.mono (cx := C.cx s) (cx' := C.cx s'') (fun n b _ hok => ⟨⟨fun hm => hok.1 (hmem b hm), hok.2⟩, rfl⟩) (Nat.le_refl _) (wrap_age hage h5)
  cases e with
  | normal => obtain ⟨env, s, h1, h2⟩ := hq; exact fin env s h1 h2
  | ret => obtain ⟨env, s, h1, h2⟩ := hq; exact fin env s h1 h2
  | panic ch =>
    obtain ⟨x, s, rfl, hE, hA'⟩ := hq
    refine leaves_marks (by simp) a.defers w' hA'.defers.1 (marks hA') (fun w'' h1 h2 h3 h4 h5 => ?_)
    have hA2 := after hA' w'' h1 h2 h3 h4 h5
    obtain ⟨s'', hR, hsub⟩ := hE
    have hA'' := hA2.sub hsub
    exact ⟨_, s'', hR, hA''.kept, hA''.nodup, hA''.src, hA''.res, rfl⟩
  | exit id => exact hq.elim
  | goto l => exact hq.elim
  | outgrown => exact hq.elim

/-! ### Calls -/
/-- Values alone. -/
inductive AllV : List AV → Prop where
  | nil : AllV []
  | one (x : Value) : AllV [.v x]
  | map (vs : List Value) : AllV (vs.map .v)
  | app {xs ys : List AV} : AllV xs → AllV ys → AllV (xs ++ ys)
theorem AllV.vals {xs : List AV} (h : AllV xs) : ∃ vs : List Value, xs = vs.map .v := by
  induction h with
  | nil => exact ⟨[], rfl⟩
  | one x => exact ⟨[x], rfl⟩
  | map vs => exact ⟨vs, rfl⟩
  | app _ _ h1 h2 =>
    obtain ⟨a, rfl⟩ := h1
    obtain ⟨b, rfl⟩ := h2
    exact ⟨a ++ b, by simp⟩
theorem AAtL_map_v {cx cx' : Cx} {w w' : World} : ∀ (vs us : List Value), AAtL cx w (vs.map .v) us → AAtL cx' w' (vs.map .v) us
  | [], us, h => by cases us <;> simp_all [AAtL]
  | _ :: _, [], h => by simp [AAtL] at h
  | v :: vs, u :: us, h => by
    simp only [List.map_cons, AAtL, AAt] at h ⊢
    exact ⟨h.1, AAtL_map_v vs us h.2⟩
mutual
/-- What is handed over: deep data as old data; rows may be lent. -/
inductive Pass (lend : Bool) (rest : Sto) : AV → AV → Prop where
  | v {x y : Value} : x = y → Pass lend rest (.v x) (.v y)
  | d {α : Type} {n : Bool} {sz : Nat} {enc : α → Nat → DV} {dv : α} {xs ys : List α} : xs = ys → Pass lend rest (.d n sz enc dv xs) (.d false sz enc dv ys)
  | nilD {α : Type} {sz : Nat} {enc : α → Nat → DV} {dv : α} {ys : List α} : ys = [] → Pass lend rest (.v (.slice none 0 0)) (.d false sz enc dv ys)
  | o {v v' : Value} : v = v' → Pass lend rest (.o v) (.o v')
  | row {α : Type} {v : Value} {n : Bool} {e sz : Nat} {enc : α → Nat → DV} {dv : α} {xs ys : List α} : lend = true → RRow v n e sz enc dv xs rest → xs = ys → Pass lend rest (.o v) (.d false sz enc dv ys)
  | s {α : Type} {v : Value} {n : Bool} {e sz lo hi : Nat} {enc : α → Nat → DV} {dv : α} {xs ys : List α} : lend = true → RRow v n e sz enc dv xs rest → (xs.take hi).drop lo = ys → Pass lend rest (.s v sz lo hi) (.d false sz enc dv ys)
  | g {xs ys : List AV} : PassL lend rest xs ys → Pass lend rest (.g xs) (.g ys)
inductive PassL (lend : Bool) (rest : Sto) : List AV → List AV → Prop where
  | nil : PassL lend rest [] []
  | cons {x y : AV} {xs ys : List AV} : Pass lend rest x y → PassL lend rest xs ys → PassL lend rest (x :: xs) (y :: ys)
  | same {xs : List AV} : AllV xs → PassL lend rest xs xs
end

mutual
def oldA : AV → Bool
  | .d new .. => !new
  | .p new .. => !new
  | .g xs => oldL xs
  | .t xs => oldL xs
  | _ => true
def oldL : List AV → Bool
  | [] => true
  | x :: xs => oldA x && oldL xs
end
def oldR : Res → Bool
  | .box _ cs => oldL cs
  | .row _ new .. => !new
  | .mp _ new .. => !new
  | .rnd _ _ _ _ _ _ _ _ env => env.all fun e => oldA e.2.2
  | .it .. => true
def oldS : Sto → Bool
  | [] => true
  | r :: s => oldR r && oldS s
/-- A resource is handed over. -/
inductive PickP : Sto → Res → Sto → Prop where
  | box {b : Nat} {cs cs' : List AV} {s : Sto} : PassL false [] cs cs' → PickP (.box b cs :: s) (.box b cs') s
  | row {α : Type} {v : Value} {n : Bool} {e sz : Nat} {enc : α → Nat → DV} {dv : α} {xs ys : List α} {s : Sto} : xs = ys → PickP (.row v n e sz enc dv xs :: s) (.row v false e sz enc dv ys) s
  | mp {κ α : Type} {r : Nat} {n : Bool} {kk : κ → Value} {agg : Bool} {sz : Nat} {enc : α → Nat → DV} {es es' : List (κ × α)} {s : Sto} : es = es' → PickP (.mp r n kk agg sz enc es :: s) (.mp r false kk agg sz enc es') s
  | same {r : Res} {s : Sto} : oldR r = true → PickP (r :: s) r s
  | tail {x r : Res} {s s' : Sto} : PickP s r s' → PickP (x :: s) r (x :: s')
  | nilRow {α : Type} {n : Bool} {e sz : Nat} {enc : α → Nat → DV} {dv : α} {ys : List α} {s : Sto} : ys = [] → PickP s (.row (.slice none 0 0) n e sz enc dv ys) s

inductive TakeP : Sto → Sto → Sto → Prop where
  | nil (s : Sto) : TakeP s [] s
  | cons {s s1 fs rest : Sto} {r : Res} : PickP s r s1 → TakeP s1 fs rest → TakeP s (r :: fs) rest
  | all {s : Sto} : oldS s = true → TakeP s s []
  | skip {x : Res} {s fs rest : Sto} : TakeP s fs rest → TakeP (x :: s) fs (x :: rest)

theorem TakeP.perm {s fs rest : Sto} (h : TakeP s fs rest) : (blocksOf s).Perm (blocksOf fs ++ blocksOf rest) ∧ ∀ r ∈ rest, r ∈ s := by
  have pick : ∀ {s r s'}, PickP s r s' → (blocksOf s).Perm (r.blocks ++ blocksOf s') ∧ ∀ r ∈ s', r ∈ s := by
    intro s r s' h
    induction h with
    | box => exact ⟨List.Perm.refl _, fun r hr => by simp [hr]⟩
    | row => exact ⟨List.Perm.refl _, fun r hr => by simp [hr]⟩
    | mp => exact ⟨List.Perm.refl _, fun r hr => by simp [hr]⟩
    | same => exact ⟨List.Perm.refl _, fun r hr => by simp [hr]⟩
    | nilRow => exact ⟨by simp [Res.blocks, Value.ownBlock], fun r hr => hr⟩
    | tail _ ih =>
      rename_i x r s s' _
      refine ⟨?_, fun r' hr => by rcases List.mem_cons.1 hr with rfl | hr; simp; simp [ih.2 _ hr]⟩
      show (x.blocks ++ blocksOf s).Perm (r.blocks ++ (x.blocks ++ blocksOf s'))
      refine ((List.Perm.append_left x.blocks ih.1).trans ?_)
      rw [← List.append_assoc, ← List.append_assoc]
      exact List.Perm.append_right _ List.perm_append_comm
  induction h with
  | nil s => exact ⟨by simp [blocksOf], fun r hr => hr⟩
  | cons h1 _ ih =>
    obtain ⟨h2, h3⟩ := pick h1
    rename_i s s1 fs rest r _
    refine ⟨?_, fun r hr => h3 r (ih.2 r hr)⟩
    show (blocksOf s).Perm ((r.blocks ++ blocksOf fs) ++ blocksOf rest)
    rw [List.append_assoc]
    exact h2.trans (List.Perm.append_left _ ih.1)
  | all => exact ⟨by simp [blocksOf], fun r hr => by cases hr⟩
  | skip _ ih =>
    rename_i x s fs rest _
    refine ⟨?_, fun r hr => by rcases List.mem_cons.1 hr with rfl | hr; simp; simp [ih.2 _ hr]⟩
    show (x.blocks ++ blocksOf s).Perm (blocksOf fs ++ (x.blocks ++ blocksOf rest))
    refine ((List.Perm.append_left x.blocks ih.1).trans ?_)
    rw [← List.append_assoc, ← List.append_assoc]
    exact List.Perm.append_right _ List.perm_append_comm

section
variable {cx cx' : Cx} {w : World} {lend : Bool} {rest : Sto}

mutual
theorem Pass.sound (hF : ∀ n b, b < w.heap.size → cx.ok n b → cx'.ok false b) (hL : lend = true → ∀ {α : Type} {v : Value} {n : Bool} {e sz : Nat} {enc : α → Nat → DV} {dv : α} {xs : List α}, RRow v n e sz enc dv xs rest → RAt cx w (.row v n e sz enc dv xs) ∧ ∀ b ∈ v.ownBlock.toList, cx'.ok false b) :
    ∀ {z z' : AV} {u : Value}, Pass lend rest z z' → AAt cx w z u → AAt cx' w z' u
  | _, _, u, .v h, hz => by subst h; simpa [AAt] using hz
  | _, _, u, .d h, hz => by
    simp only [AAt] at hz ⊢
    subst h
    exact hz.mono (fun b hb hok => ⟨hF _ b hb hok, rfl⟩) (Nat.le_refl _)
  | _, _, u, .nilD h, hz => by
    simp only [AAt] at hz ⊢
    subst h hz
    exact .nil _ _ _ _ _
  | _, _, u, .o h, hz => by subst h; simpa [AAt] using hz
  | _, _, u, .row (v := v) (sz := sz) (enc := enc) (dv := dv) (xs := xs) hl hr h, hz => by
    simp only [AAt] at hz ⊢
    subst h
    obtain ⟨rfl, _⟩ := hz
    obtain ⟨hR, hok⟩ := hL hl hr
    exact row_data hR (fun b hb hok => hF _ b hb hok) hok
  | _, _, u, .s hl hr h, hz => by
    simp only [AAt] at hz ⊢
    subst h
    obtain ⟨A, n, c, rfl, h1, h2, h3, rfl⟩ := hz
    obtain ⟨hR, hok⟩ := hL hl hr
    exact (row_data hR (fun b hb hok => hF _ b hb hok) hok).part h1 h2 c (by omega) (Nat.le_refl _)
  | _, _, u, .g h, hz => by
    simp only [AAt] at hz ⊢
    obtain ⟨arr, h1, h2⟩ := hz
    exact ⟨arr, h1, PassL.sound hF hL h h2⟩
theorem PassL.sound (hF : ∀ n b, b < w.heap.size → cx.ok n b → cx'.ok false b) (hL : lend = true → ∀ {α : Type} {v : Value} {n : Bool} {e sz : Nat} {enc : α → Nat → DV} {dv : α} {xs : List α}, RRow v n e sz enc dv xs rest → RAt cx w (.row v n e sz enc dv xs) ∧ ∀ b ∈ v.ownBlock.toList, cx'.ok false b) :
    ∀ {xs ys : List AV} {us : List Value}, PassL lend rest xs ys → AAtL cx w xs us → AAtL cx' w ys us
  | _, _, us, .nil, h => by cases us <;> simp_all [AAtL]
  | _, _, [], .cons _ _, h => by simp [AAtL] at h
  | _, _, u :: us, .cons h1 h2, h => by
    simp only [AAtL] at h ⊢
    exact ⟨Pass.sound hF hL h1 h.1, PassL.sound hF hL h2 h.2⟩
  | _, _, us, .same h1, h => by
    obtain ⟨vs, rfl⟩ := h1.vals
    exact AAtL_map_v vs us h
end
end
end Go.Sx
