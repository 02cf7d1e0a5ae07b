/- A call by its contract. -/
import Derived.Test.YtnaickojmfefeaaSxSpec
set_option linter.unusedSectionVars false
set_option linter.all false
namespace Go.Sx

mutual
theorem AAt.monoFresh {cx cx' : Cx} {w : World} (hF : ∀ b, b < w.heap.size → cx.ok true b → cx'.ok true b) : ∀ {z : AV} {u : Value}, freshA z = true → AAt cx w z u → AAt cx' w z u
  | .v x, u, _, h => by simpa [AAt] using h
  | .d new sz enc dv xs, u, hf, h => by
    simp only [AAt] at h ⊢
    have : new = true := hf
    subst this
    exact DAt.mono h (fun b hb hok => ⟨hF b hb hok, rfl⟩) (Nat.le_refl _)
  | .p .., u, hf, _ => by simp [freshA] at hf
  | .o v, u, _, h => by simpa [AAt] using h
  | .e .., u, hf, _ => by simp [freshA] at hf
  | .s .., u, hf, _ => by simp [freshA] at hf
  | .g xs, u, hf, h => by
    simp only [AAt] at h ⊢
    obtain ⟨arr, h1, h2⟩ := h
    exact ⟨arr, h1, AAtL.monoFresh hF (by simpa [freshA] using hf) h2⟩
  | .t xs, u, hf, h => by
    simp only [AAt] at h ⊢
    obtain ⟨arr, h1, h2⟩ := h
    exact ⟨arr, h1, AAtL.monoFresh hF (by simpa [freshA] using hf) h2⟩
  | .pan x, u, _, h => by simp [AAt] at h
theorem AAtL.monoFresh {cx cx' : Cx} {w : World} (hF : ∀ b, b < w.heap.size → cx.ok true b → cx'.ok true b) : ∀ {xs : List AV} {us : List Value}, freshL xs = true → AAtL cx w xs us → AAtL cx' w xs us
  | [], [], _, _ => by simp [AAtL]
  | [], _ :: _, _, h => by simp [AAtL] at h
  | _ :: _, [], _, h => by simp [AAtL] at h
  | x :: xs, u :: us, hf, h => by
    simp only [AAtL] at h ⊢
    simp only [freshL, Bool.and_eq_true] at hf
    exact ⟨AAt.monoFresh hF hf.1 h.1, AAtL.monoFresh hF hf.2 h.2⟩
end

theorem RAt.monoFresh {cx cx' : Cx} {w : World} (hF : ∀ b, b < w.heap.size → cx.ok true b → cx'.ok true b) {r : Res} (hf : freshR r = true) (h : RAt cx w r) : RAt cx' w r := by
  cases r with
  | box b cs =>
    obtain ⟨arr, e, h1, h2⟩ := h
    exact ⟨arr, e, h1, AAtL.monoFresh hF hf h2⟩
  | row v new e sz enc dv xs =>
    have : new = true := hf
    subst this
    obtain ⟨vals, h1, h2, h3, h4⟩ := h
    refine ⟨vals, h1, h2, h3, fun i j hi hj => ?_⟩
    obtain ⟨y, hy1, hy2⟩ := h4 i j hi hj
    exact ⟨y, hy1, hy2.mono (fun b hb hok => ⟨hF b hb hok, rfl⟩) (Nat.le_refl _)⟩
  | mp r new kk agg sz enc es =>
    have : new = true := hf
    subst this
    obtain ⟨ents, clock, h1, h2, h3⟩ := h
    refine ⟨ents, clock, h1, ⟨h2.1, fun i m p hm hp => ?_⟩, h3⟩
    obtain ⟨k1, k2⟩ := h2.2 i m p hm hp
    exact ⟨k1, valA_mono (fun d u hd => hd.mono (fun b hb hok => ⟨hF b hb hok, rfl⟩) (Nat.le_refl _)) k2⟩
  | rnd l N st fn ps assign body D env => cases hf
  | it b o => exact h

theorem lookup_mem : ∀ {env : Env} {s : Nat} {q : Path} {z : AV}, lookup s env = some (q, z) → ∃ t, (t, q, z) ∈ env
  | [], s, q, z, h => by simp [lookup] at h
  | (t, q', z') :: e, s, q, z, h => by
    rw [lookup_cons] at h
    split at h
    · simp only [Option.some.injEq, Prod.mk.injEq] at h
      obtain ⟨rfl, rfl⟩ := h
      exact ⟨t, by simp⟩
    · obtain ⟨t', h'⟩ := lookup_mem h
      exact ⟨t', by simp [h']⟩
mutual
theorem AAt.monoOld {cx cx' : Cx} {w : World} (hF : ∀ b, b < w.heap.size → cx.ok false b → cx'.ok false b) : ∀ {z : AV} {u : Value}, oldA z = true → AAt cx w z u → AAt cx' w z u
  | .v x, u, _, h => by simpa [AAt] using h
  | .d new sz enc dv xs, u, hf, h => by
    simp only [AAt] at h ⊢
    have : new = false := by simpa [oldA] using hf
    subst this
    exact DAt.mono h (fun b hb hok => ⟨hF b hb hok, rfl⟩) (Nat.le_refl _)
  | .p new sz enc dv xs i j, u, hf, h => by
    simp only [AAt] at h ⊢
    have : new = false := by simpa [oldA] using hf
    subst this
    obtain ⟨a, c, h1, h2, h3, h4⟩ := h
    exact ⟨a, c, h1, h2, h3, DAt.mono h4 (fun b hb hok => ⟨hF b hb hok, rfl⟩) (Nat.le_refl _)⟩
  | .o v, u, _, h => by simpa [AAt] using h
  | .e .., u, _, h => by simpa [AAt] using h
  | .s .., u, _, h => by simpa [AAt] using h
  | .g xs, u, hf, h => by
    simp only [AAt] at h ⊢
    obtain ⟨arr, h1, h2⟩ := h
    exact ⟨arr, h1, AAtL.monoOld hF (by simpa [oldA] using hf) h2⟩
  | .t xs, u, hf, h => by
    simp only [AAt] at h ⊢
    obtain ⟨arr, h1, h2⟩ := h
    exact ⟨arr, h1, AAtL.monoOld hF (by simpa [oldA] using hf) h2⟩
  | .pan x, u, _, h => by simp [AAt] at h
theorem AAtL.monoOld {cx cx' : Cx} {w : World} (hF : ∀ b, b < w.heap.size → cx.ok false b → cx'.ok false b) : ∀ {xs : List AV} {us : List Value}, oldL xs = true → AAtL cx w xs us → AAtL cx' w xs us
  | [], [], _, _ => by simp [AAtL]
  | [], _ :: _, _, h => by simp [AAtL] at h
  | _ :: _, [], _, h => by simp [AAtL] at h
  | x :: xs, u :: us, hf, h => by
    simp only [AAtL] at h ⊢
    simp only [oldL, Bool.and_eq_true] at hf
    exact ⟨AAt.monoOld hF hf.1 h.1, AAtL.monoOld hF hf.2 h.2⟩
end
theorem RAt.monoOld {cx cx' : Cx} {w : World} (hF : ∀ b, b < w.heap.size → cx.ok false b → cx'.ok false b) {r : Res} (hf : oldR r = true) (h : RAt cx w r) : RAt cx' w r := by
  cases r with
  | box b cs =>
    obtain ⟨arr, e, h1, h2⟩ := h
    exact ⟨arr, e, h1, AAtL.monoOld hF hf h2⟩
  | row v new e sz enc dv xs =>
    have : new = false := by simpa [oldR] using hf
    subst this
    obtain ⟨vals, h1, h2, h3, h4⟩ := h
    refine ⟨vals, h1, h2, h3, fun i j hi hj => ?_⟩
    obtain ⟨y, hy1, hy2⟩ := h4 i j hi hj
    exact ⟨y, hy1, hy2.mono (fun b hb hok => ⟨hF b hb hok, rfl⟩) (Nat.le_refl _)⟩
  | mp r new kk agg sz enc es =>
    have : new = false := by simpa [oldR] using hf
    subst this
    obtain ⟨ents, clock, h1, h2, h3⟩ := h
    refine ⟨ents, clock, h1, ⟨h2.1, fun i m p hm hp => ?_⟩, h3⟩
    obtain ⟨k1, k2⟩ := h2.2 i m p hm hp
    exact ⟨k1, valA_mono (fun d u hd => hd.mono (fun b hb hok => ⟨hF b hb hok, rfl⟩) (Nat.le_refl _)) k2⟩
  | rnd l N st fn ps assign body D env =>
    obtain ⟨tmps, h1, h2, h3⟩ := h
    refine ⟨tmps, h1, h2, fun s z hl => ?_⟩
    obtain ⟨t, hm⟩ := lookup_mem hl
    exact AAt.monoOld hF (List.all_eq_true.1 hf _ hm) (h3 s z hl)
  | it b o => exact h
theorem oldS_mem : ∀ {s : Sto} {r : Res}, oldS s = true → r ∈ s → oldR r = true
  | [], _, _, h => by cases h
  | x :: s, r, hf, h => by
    simp only [oldS, Bool.and_eq_true] at hf
    rcases List.mem_cons.1 h with rfl | h
    · exact hf.1
    · exact oldS_mem hf.2 h

theorem freshS_mem : ∀ {s : Sto} {r : Res}, freshS s = true → r ∈ s → freshR r = true
  | [], _, _, h => by cases h
  | x :: s, r, hf, h => by
    simp only [freshS, Bool.and_eq_true] at hf
    rcases List.mem_cons.1 h with rfl | h
    · exact hf.1
    · exact freshS_mem hf.2 h

theorem TakeP.res {cx cx' : Cx} {w : World} (hF : ∀ n b, b < w.heap.size → cx.ok n b → cx'.ok false b) {s fs rest : Sto} (h : TakeP s fs rest) (hs : ∀ r ∈ s, RAt cx w r) : ∀ r ∈ fs, RAt cx' w r := by
  have pick : ∀ {s r s'}, PickP s r s' → (∀ r ∈ s, RAt cx w r) → RAt cx' w r ∧ ∀ r ∈ s', RAt cx w r := by
    intro s r s' h hs
    induction h with
    | box hp =>
      refine ⟨?_, fun r hr => hs r (by simp [hr])⟩
      obtain ⟨arr, e, h1, h2⟩ := hs _ (List.mem_cons_self ..)
      exact ⟨arr, e, h1, PassL.sound hF (fun h => by cases h) hp h2⟩
    | row hp =>
      subst hp
      refine ⟨?_, fun r hr => hs r (by simp [hr])⟩
      obtain ⟨vals, h1, h2, h3, h4⟩ := hs _ (List.mem_cons_self ..)
      refine ⟨vals, h1, h2, h3, fun i j hi hj => ?_⟩
      obtain ⟨y, hy1, hy2⟩ := h4 i j hi hj
      exact ⟨y, hy1, hy2.mono (fun b hb hok => ⟨hF _ b hb hok, rfl⟩) (Nat.le_refl _)⟩
    | mp hp =>
      subst hp
      refine ⟨?_, fun r hr => hs r (by simp [hr])⟩
      obtain ⟨ents, clock, h1, h2, h3⟩ := hs _ (List.mem_cons_self ..)
      refine ⟨ents, clock, h1, ⟨h2.1, fun i m p hm hp => ?_⟩, h3⟩
      obtain ⟨k1, k2⟩ := h2.2 i m p hm hp
      exact ⟨k1, valA_mono (fun d u hd => hd.mono (fun b hb hok => ⟨hF _ b hb hok, rfl⟩) (Nat.le_refl _)) k2⟩
    | same ho =>
      exact ⟨(hs _ (List.mem_cons_self ..)).monoOld (fun b hb hok => hF false b hb hok) ho, fun r hr => hs r (by simp [hr])⟩
    | nilRow hp =>
      subst hp
      exact ⟨⟨[], .inl ⟨rfl, rfl⟩, by simp, fun A n c h => by simp at h; simp [← h.2.1], fun i j hi => by simp at hi⟩, hs⟩
    | tail _ ih =>
      obtain ⟨h1, h2⟩ := ih (fun r hr => hs r (by simp [hr]))
      exact ⟨h1, fun r hr => by rcases List.mem_cons.1 hr with rfl | hr; exact hs _ (by simp); exact h2 r hr⟩
  induction h with
  | nil s => exact fun r hr => by cases hr
  | cons h1 _ ih =>
    obtain ⟨h2, h3⟩ := pick h1 hs
    intro r hr
    rcases List.mem_cons.1 hr with rfl | hr
    · exact h2
    · exact ih h3 r hr
  | all ho => exact fun r hr => (hs r hr).monoOld (fun b hb hok => hF false b hb hok) (oldS_mem ho hr)
  | skip _ ih => exact ih (fun r hr => hs r (by simp [hr]))

inductive GetL (env : Env) (q : Path) : List Operand → List AV → Prop where
  | nil : GetL env q [] []
  | cons {x : Operand} {z : AV} {xs : List Operand} {zs : List AV} : Get env q x z → GetL env q xs zs → GetL env q (x :: xs) (z :: zs)
theorem GetL.sound {C : Ctx} {env : Env} {sto : Sto} {a : Act} {w : World} (h : Abs C env sto a w) {q : Path} (hq : PathHolds q) {xs : List Operand} {zs : List AV} (hg : GetL env q xs zs) : AAtL (C.cx sto) w zs (xs.map a.eval) := by
  induction hg with
  | nil => simp [AAtL]
  | cons hx _ ih => simp only [List.map_cons, AAtL]; exact ⟨hx.sound h hq, ih⟩

theorem AAtL.append {cx : Cx} {w : World} : ∀ {xs ys : List AV} {us vs : List Value}, AAtL cx w xs us → AAtL cx w ys vs → AAtL cx w (xs ++ ys) (us ++ vs)
  | [], ys, [], vs, _, h => h
  | [], _, _ :: _, _, h, _ => by simp [AAtL] at h
  | _ :: _, _, [], _, h, _ => by simp [AAtL] at h
  | x :: xs, ys, u :: us, vs, h, h' => by
    simp only [AAtL, List.cons_append] at h ⊢
    exact ⟨h.1, AAtL.append h.2 h'⟩
theorem AAtL.vals {cx : Cx} {w : World} : ∀ (vs : List Value), AAtL cx w (vs.map .v) vs
  | [] => by simp [AAtL]
  | v :: vs => by simp only [List.map_cons, AAtL]; exact ⟨rfl, AAtL.vals vs⟩

theorem blocksOf_append (s t : Sto) : blocksOf (s ++ t) = blocksOf s ++ blocksOf t := by simp [blocksOf]

/-- What a caller may ask of whatever is called. -/
def Asks (K : List Value → World → (Ending → World → Prop) → Prop) (args : List AV) (sto : Sto) (R : AV → Sto → Prop) : Prop :=
  ∀ (X : Nat → Prop) (w : World) (vs : List Value), (∀ b, X b → b < w.heap.size) → (∀ b ∈ blocksOf sto, ¬ X b) → (blocksOf sto).Nodup → (∀ r ∈ sto, RAt (cxOf w.heap.size X sto) w r) →
    AAtL (cxOf w.heap.size X sto) w args vs → K vs w (Post w X sto R)
/-- **A call by its contract**, told for the machine's own word. -/
theorem Abs.callK {C : Ctx} {env : Env} {sto stoF rest : Sto} {a : Act} {w : World} (hA : Abs C env sto a w) {lend : Bool} {zs args : List AV} {vs : List Value} {R : AV → Sto → Prop} {K : List Value → World → (Ending → World → Prop) → Prop}
    (hmono : ∀ {vs : List Value} {w : World} {R R' : Ending → World → Prop}, K vs w R → (∀ e w', R e w' → R' e w') → K vs w R')
    (ht : TakeP sto stoF rest) (hz : AAtL (C.cx sto) w zs vs) (hp : PassL lend rest zs args) (hs : Asks K args stoF R) (hfr : lend = true → ∀ z s, R z s → freshA z = true ∧ freshS s = true) :
    K vs w fun e w' => ∃ z s, R z s ∧ (∀ env', Abs C env' sto a w → Abs C env' (s ++ rest) a w') ∧ OutA (C.cx (s ++ rest)) w' z e := by
  obtain ⟨hperm, hrest⟩ := ht.perm
  let X' : Nat → Prop := fun b => lend = false ∧ (b ∈ blocksOf rest ∨ C.X b)
  have hnd := hperm.nodup_iff.1 hA.nodup
  obtain ⟨hnF, hnR, hdis⟩ := List.nodup_append.1 hnd
  have memF : ∀ b ∈ blocksOf stoF, b ∈ blocksOf sto := fun b hb => hperm.mem_iff.2 (List.mem_append_left _ hb)
  have memR : ∀ b ∈ blocksOf rest, b ∈ blocksOf sto := fun b hb => hperm.mem_iff.2 (List.mem_append_right _ hb)
  have hnoX : ∀ b ∈ blocksOf sto, ¬ C.X b := by
    intro b hb hx
    rcases hA.src b hb with h | h
    · exact hA.xown b h hx
    · have := hA.xlt b hx; omega
  have hF : ∀ n b, b < w.heap.size → (C.cx sto).ok n b → (cxOf w.heap.size X' stoF).ok false b := by
    intro n b _ hok
    refine ⟨fun hm => hok.1 (memF b hm), fun hx => ?_, fun h => by cases h⟩
    rcases hx.2 with h | h
    · exact hok.1 (memR b h)
    · exact hok.2.1 h
  have hargs : AAtL (cxOf w.heap.size X' stoF) w args vs := by
    refine PassL.sound hF (fun hl {α} {v} {n} {e} {sz} {enc} {dv} {xs} hr => ⟨hA.res _ (hrest _ hr.mem), fun b hb => ?_⟩) hp hz
    have hbr : b ∈ blocksOf rest := List.mem_flatMap.2 ⟨_, hr.mem, by simpa [Res.blocks] using hb⟩
    refine ⟨fun hm => hdis b hm b hbr rfl, fun hx => ?_, fun h => by cases h⟩
    have hx1 : lend = false := hx.1
    rw [hl] at hx1
    cases hx1
  have hcalls := hs X' w vs (fun b hx => ?_) (fun b hb hx => ?_) hnF (ht.res hF hA.res) hargs
  · refine hmono hcalls fun e w' ⟨z, s, hR, hk, hn, hsrc, hres, hzv⟩ => ⟨z, s, hR, ?_⟩
    have hkept : Kept (blocksOf sto) w w' := ⟨hk.os, hk.tape, hk.output, hk.size, fun k hk' hm => hk.block k hk' (fun h => hm (memF k h))⟩
    have hRlt : ∀ b ∈ blocksOf rest, b < w.heap.size := fun b hb => hA.lt b (memR b hb)
    have hsR : ∀ b ∈ blocksOf s, b ∉ blocksOf rest := by
      intro b hb hbr
      rcases hsrc b hb with h | h
      · exact hdis b h b hbr rfl
      · have := hRlt b hbr; omega
    have hback : ∀ n, (n = true ∨ lend = false) → ∀ b, b < w'.heap.size → (cxOf w.heap.size X' s).ok n b → (C.cx (s ++ rest)).ok n b := by
      intro n hn' b _ hok
      have hnr : b ∉ blocksOf rest := by
        intro hbr
        rcases hn' with h | h
        · have h1 := hok.2.2 h
          have h2 := hRlt b hbr
          have h3 : w.heap.size ≤ b := h1
          omega
        · exact hok.2.1 ⟨h, .inl hbr⟩
      refine ⟨fun hm => ?_, fun hx => ?_, fun h => ?_⟩
      · rcases List.mem_append.1 (show b ∈ blocksOf s ++ blocksOf rest from by rw [← blocksOf_append]; exact hm) with h | h
        · exact hok.1 h
        · exact hnr h
      · rcases hn' with h | h
        · have h1 : w.heap.size ≤ b := hok.2.2 h
          have h2 := hA.xlt b hx
          have h3 := hA.kept.size
          omega
        · exact hok.2.1 ⟨h, .inr hx⟩
      · have h1 : w.heap.size ≤ b := hok.2.2 h
        exact Nat.le_trans hA.kept.size h1
    have hresS : ∀ r ∈ s, RAt (C.cx (s ++ rest)) w' r := by
      intro r hr
      cases lend with
      | true => exact RAt.monoFresh (hback true (.inl rfl)) (freshS_mem (hfr rfl z s hR).2 hr) (hres r hr)
      | false => exact RAt.mono (fun n b hb hok => ⟨hback n (.inr rfl) b hb hok, rfl⟩) (Nat.le_refl _) (fun _ _ => rfl) (hres r hr)
    have hzz : OutA (C.cx (s ++ rest)) w' z e := by
      cases lend with
      | true => exact hzv.mono fun u hu => AAt.monoFresh (hback true (.inl rfl)) (hfr rfl z s hR).1 hu
      | false => exact hzv.mono fun u hu => AAt.mono (fun n b hb hok => ⟨hback n (.inr rfl) b hb hok, rfl⟩) (Nat.le_refl _) hu
    refine ⟨fun env' hA' => ?_, hzz⟩
    refine hA'.step hkept ?_ ?_ ?_ ?_
    · rw [blocksOf_append]
      exact List.nodup_append.2 ⟨hn, hnR, fun x hx y hy e => hsR x hx (e ▸ hy)⟩
    · intro b hb
      rw [blocksOf_append] at hb
      rcases List.mem_append.1 hb with h | h
      · rcases hsrc b h with h' | h'
        · exact .inl (memF b h')
        · exact .inr h'
      · exact .inl (memR b h)
    · intro r hr
      rcases List.mem_append.1 hr with h | h
      · exact hresS r h
      · refine RAt.mono (fun n b hb hok => ?_) hk.size (fun b hb => ?_) (hA.res r (hrest r h))
        · have hnF' : b ∉ blocksOf stoF := fun hm => hok.1 (memF b hm)
          refine ⟨⟨fun hm => ?_, hok.2⟩, hk.block b hb hnF'⟩
          rcases List.mem_append.1 (show b ∈ blocksOf s ++ blocksOf rest from by rw [← blocksOf_append]; exact hm) with h' | h'
          · rcases hsrc b h' with h'' | h''
            · exact hnF' h''
            · omega
          · exact hok.1 (memR b h')
        · have hbr : b ∈ blocksOf rest := List.mem_flatMap.2 ⟨r, h, hb⟩
          exact hk.block b (hRlt b hbr) (fun hm => hdis b hm b hbr rfl)
    · intro b hlt hb
      rw [blocksOf_append] at hb
      rcases List.mem_append.1 hb with h | h
      · rcases hsrc b h with h' | h'
        · exact memF b h'
        · omega
      · exact memR b h
  · rcases hx.2 with h | h
    · exact hA.lt b (memR b h)
    · exact Nat.lt_of_lt_of_le (hA.xlt b h) hA.kept.size
  · rcases hx.2 with h | h
    · exact hdis b hb b h rfl
    · exact hnoX b (memF b hb) h

theorem Abs.call {P : Program} {C : Ctx} {env : Env} {sto stoF rest : Sto} {a : Act} {w : World} (hA : Abs C env sto a w) {lend : Bool} {zs args : List AV} {vs : List Value} {f : FuncId} {R : AV → Sto → Prop}
    (ht : TakeP sto stoF rest) (hz : AAtL (C.cx sto) w zs vs) (hp : PassL lend rest zs args) (hs : Sat P f args stoF R) (hfr : lend = true → ∀ z s, R z s → freshA z = true ∧ freshS s = true) :
    Calls P f vs.toArray w fun e w' => ∃ z s, R z s ∧ (∀ env', Abs C env' sto a w → Abs C env' (s ++ rest) a w') ∧ OutA (C.cx (s ++ rest)) w' z e :=
  Abs.callK (K := fun vs w R => Calls P f vs.toArray w R) hA (fun h h' => h.mono h') ht hz hp hs.2 hfr

section
variable {P : Program} {T : Tab} (hT : TabOk P T) {N : Fm} {Q : Env → Sto → Prop}
include hT

theorem RunSem.callBy {lend : Bool} {all : Array Oper} {rest : List Oper} {d : Tmp} {fo : Operand} {as : Array Operand} {ts : Array TypeId} {ty : TypeId} {pos : String} {af : Array Edge} {k : List It} {env : Env} {sto stoF sto1 : Sto}
    {f : FuncId} {first captured : Array Value} {zs full args : List AV} {R : AV → Sto → Prop} (hd : Nat.blt d N.n = true) (hf : Get env [] fo (.v (.func (.func f) first captured))) (ha : GetL env [] as.toList zs)
    (hfull : first.toList.map .v ++ zs ++ captured.toList.map .v = full) (ht : TakeP sto stoF sto1) (hp : PassL lend sto1 full args) (hs : Sat P f args stoF R)
    (hfr : lend = true → ∀ z s, R z s → freshA z = true ∧ freshS s = true)
    (hnp : ∀ z s, R z s → panA z = false) (hk : ∀ z s, R z s → Run P T N Q (.ops all rest :: k) ((d, [], z) :: env) (s ++ sto1)) :
    RunSem P N Q (.ops all ({ dst := some d, op := .call { callee := .value fo, args := as, argTypes := ts }, type := ty, pos, after := af, guard := none } :: rest) :: k) env sto := by
  intro C a w hN hA
  refine wpListR_yes (by simp [Region.wanted]) ?_
  have hfv : a.eval fo = .func (.func f) first captured := hf.v hA (q := []) trivial
  have hr : (execOp a.eval { dst := some d, op := .call { callee := .value fo, args := as, argTypes := ts }, type := ty, pos, after := af, guard := none }).run P w = .ok (.enter f (first ++ as.map a.eval ++ captured)) w := by
    simp [execOp, resolve, hfv, Deferred.ofValue, invoke, hs.1]
  refine opR_of rfl hr ?_
  simp only [upR]
  have hz := ((AAtL.vals (cx := C.cx sto) (w := w) first.toList).append (ha.sound hA (q := []) trivial)).append (AAtL.vals captured.toList)
  rw [hfull] at hz
  have he : first ++ as.map a.eval ++ captured = (first.toList ++ as.toList.map a.eval ++ captured.toList).toArray := by
    apply Array.ext'
    simp
  rw [he]
  refine (hA.call ht hz hp hs hfr).mono ?_
  rintro e w' ⟨z, s, hR, hA', hzo⟩
  obtain ⟨v, rfl, hzv⟩ := hzo.inv (hnp z s hR)
  exact (hk z s hR).sound hT C _ _ hN ((hA' _ hA).put0 (by rw [hN.1]; exact Nat.le_of_ble_eq_true hd) hzv)
end

end Go.Sx
