/- The walks' framework, part B: merged texts. -/
import Derived.Test.YtmnnejkcgdfjiaaSxA
import Derived.Deep.LoopGhost
import Derived.Orders
import Derived.Laws.MakeOwn
import Derived.Laws.BitsAllLaws
import Derived.Laws.Cover3
set_option linter.all false
section
/- A call by its contract. -/

set_option linter.unusedSectionVars false
namespace Go.Sx

mutual
theorem AAt.monoFresh {cx cx' : Cx} {w : World} (hF : ∀ b, b < w.heap.size → cx.ok true b → cx'.ok true b) : ∀ {z : AV} {u : Value}, freshA z = true → AAt cx w z u → AAt cx' w z u
  | .v x, u, _, h => by simpa [AAt] using h
  | .d new sz enc dv xs, u, hf, h => by
    simp only [AAt] at h ⊢
    have : new = true := hf
    subst this
    exact DAt.mono h (fun b hb hok => ⟨hF b hb hok, rfl⟩) (Nat.le_refl _)
  | .p .., u, hf, _ => by simp [freshA] at hf
  | .o v, u, _, h => by simpa [AAt] using h
  | .e .., u, hf, _ => by simp [freshA] at hf
  | .s .., u, hf, _ => by simp [freshA] at hf
  | .g xs, u, hf, h => by
    simp only [AAt] at h ⊢
    obtain ⟨arr, h1, h2⟩ := h
    exact ⟨arr, h1, AAtL.monoFresh hF (by simpa [freshA] using hf) h2⟩
  | .t xs, u, hf, h => by
    simp only [AAt] at h ⊢
    obtain ⟨arr, h1, h2⟩ := h
    exact ⟨arr, h1, AAtL.monoFresh hF (by simpa [freshA] using hf) h2⟩
  | .pan x, u, _, h => by simp [AAt] at h
theorem AAtL.monoFresh {cx cx' : Cx} {w : World} (hF : ∀ b, b < w.heap.size → cx.ok true b → cx'.ok true b) : ∀ {xs : List AV} {us : List Value}, freshL xs = true → AAtL cx w xs us → AAtL cx' w xs us
  | [], [], _, _ => by simp [AAtL]
  | [], _ :: _, _, h => by simp [AAtL] at h
  | _ :: _, [], _, h => by simp [AAtL] at h
  | x :: xs, u :: us, hf, h => by
    simp only [AAtL] at h ⊢
    simp only [freshL, Bool.and_eq_true] at hf
    exact ⟨AAt.monoFresh hF hf.1 h.1, AAtL.monoFresh hF hf.2 h.2⟩
end

theorem RAt.monoFresh {cx cx' : Cx} {w : World} (hF : ∀ b, b < w.heap.size → cx.ok true b → cx'.ok true b) {r : Res} (hf : freshR r = true) (h : RAt cx w r) : RAt cx' w r := by
  cases r with
  | box b cs =>
    obtain ⟨arr, e, h1, h2⟩ := h
    exact ⟨arr, e, h1, AAtL.monoFresh hF hf h2⟩
  | row v new e sz enc dv xs =>
    have : new = true := hf
    subst this
    obtain ⟨vals, h1, h2, h3, h4⟩ := h
    refine ⟨vals, h1, h2, h3, fun i j hi hj => ?_⟩
    obtain ⟨y, hy1, hy2⟩ := h4 i j hi hj
    exact ⟨y, hy1, hy2.mono (fun b hb hok => ⟨hF b hb hok, rfl⟩) (Nat.le_refl _)⟩
  | mp r new kk agg sz enc es =>
    have : new = true := hf
    subst this
    obtain ⟨ents, clock, h1, h2, h3⟩ := h
    refine ⟨ents, clock, h1, ⟨h2.1, fun i m p hm hp => ?_⟩, h3⟩
    obtain ⟨k1, k2⟩ := h2.2 i m p hm hp
    exact ⟨k1, valA_mono (fun d u hd => hd.mono (fun b hb hok => ⟨hF b hb hok, rfl⟩) (Nat.le_refl _)) k2⟩
  | rnd l N st fn ps assign body D env => cases hf
  | it b o => exact h

theorem lookup_mem : ∀ {env : Env} {s : Nat} {q : Path} {z : AV}, lookup s env = some (q, z) → ∃ t, (t, q, z) ∈ env
  | [], s, q, z, h => by simp [lookup] at h
  | (t, q', z') :: e, s, q, z, h => by
    rw [lookup_cons] at h
    split at h
    · simp only [Option.some.injEq, Prod.mk.injEq] at h
      obtain ⟨rfl, rfl⟩ := h
      exact ⟨t, by simp⟩
    · obtain ⟨t', h'⟩ := lookup_mem h
      exact ⟨t', by simp [h']⟩
mutual
theorem AAt.monoOld {cx cx' : Cx} {w : World} (hF : ∀ b, b < w.heap.size → cx.ok false b → cx'.ok false b) : ∀ {z : AV} {u : Value}, oldA z = true → AAt cx w z u → AAt cx' w z u
  | .v x, u, _, h => by simpa [AAt] using h
  | .d new sz enc dv xs, u, hf, h => by
    simp only [AAt] at h ⊢
    have : new = false := by simpa [oldA] using hf
    subst this
    exact DAt.mono h (fun b hb hok => ⟨hF b hb hok, rfl⟩) (Nat.le_refl _)
  | .p new sz enc dv xs i j, u, hf, h => by
    simp only [AAt] at h ⊢
    have : new = false := by simpa [oldA] using hf
    subst this
    obtain ⟨a, c, h1, h2, h3, h4⟩ := h
    exact ⟨a, c, h1, h2, h3, DAt.mono h4 (fun b hb hok => ⟨hF b hb hok, rfl⟩) (Nat.le_refl _)⟩
  | .o v, u, _, h => by simpa [AAt] using h
  | .e .., u, _, h => by simpa [AAt] using h
  | .s .., u, _, h => by simpa [AAt] using h
  | .g xs, u, hf, h => by
    simp only [AAt] at h ⊢
    obtain ⟨arr, h1, h2⟩ := h
    exact ⟨arr, h1, AAtL.monoOld hF (by simpa [oldA] using hf) h2⟩
  | .t xs, u, hf, h => by
    simp only [AAt] at h ⊢
    obtain ⟨arr, h1, h2⟩ := h
    exact ⟨arr, h1, AAtL.monoOld hF (by simpa [oldA] using hf) h2⟩
  | .pan x, u, _, h => by simp [AAt] at h
theorem AAtL.monoOld {cx cx' : Cx} {w : World} (hF : ∀ b, b < w.heap.size → cx.ok false b → cx'.ok false b) : ∀ {xs : List AV} {us : List Value}, oldL xs = true → AAtL cx w xs us → AAtL cx' w xs us
  | [], [], _, _ => by simp [AAtL]
  | [], _ :: _, _, h => by simp [AAtL] at h
  | _ :: _, [], _, h => by simp [AAtL] at h
  | x :: xs, u :: us, hf, h => by
    simp only [AAtL] at h ⊢
    simp only [oldL, Bool.and_eq_true] at hf
    exact ⟨AAt.monoOld hF hf.1 h.1, AAtL.monoOld hF hf.2 h.2⟩
end
theorem RAt.monoOld {cx cx' : Cx} {w : World} (hF : ∀ b, b < w.heap.size → cx.ok false b → cx'.ok false b) {r : Res} (hf : oldR r = true) (h : RAt cx w r) : RAt cx' w r := by
  cases r with
  | box b cs =>
    obtain ⟨arr, e, h1, h2⟩ := h
    exact ⟨arr, e, h1, AAtL.monoOld hF hf h2⟩
  | row v new e sz enc dv xs =>
    have : new = false := by simpa [oldR] using hf
    subst this
    obtain ⟨vals, h1, h2, h3, h4⟩ := h
    refine ⟨vals, h1, h2, h3, fun i j hi hj => ?_⟩
    obtain ⟨y, hy1, hy2⟩ := h4 i j hi hj
    exact ⟨y, hy1, hy2.mono (fun b hb hok => ⟨hF b hb hok, rfl⟩) (Nat.le_refl _)⟩
  | mp r new kk agg sz enc es =>
    have : new = false := by simpa [oldR] using hf
    subst this
    obtain ⟨ents, clock, h1, h2, h3⟩ := h
    refine ⟨ents, clock, h1, ⟨h2.1, fun i m p hm hp => ?_⟩, h3⟩
    obtain ⟨k1, k2⟩ := h2.2 i m p hm hp
    exact ⟨k1, valA_mono (fun d u hd => hd.mono (fun b hb hok => ⟨hF b hb hok, rfl⟩) (Nat.le_refl _)) k2⟩
  | rnd l N st fn ps assign body D env =>
    obtain ⟨tmps, h1, h2, h3⟩ := h
    refine ⟨tmps, h1, h2, fun s z hl => ?_⟩
    obtain ⟨t, hm⟩ := lookup_mem hl
    exact AAt.monoOld hF (List.all_eq_true.1 hf _ hm) (h3 s z hl)
  | it b o => exact h
theorem oldS_mem : ∀ {s : Sto} {r : Res}, oldS s = true → r ∈ s → oldR r = true
  | [], _, _, h => by cases h
  | x :: s, r, hf, h => by
    simp only [oldS, Bool.and_eq_true] at hf
    rcases List.mem_cons.1 h with rfl | h
    · exact hf.1
    · exact oldS_mem hf.2 h

theorem freshS_mem : ∀ {s : Sto} {r : Res}, freshS s = true → r ∈ s → freshR r = true
  | [], _, _, h => by cases h
  | x :: s, r, hf, h => by
    simp only [freshS, Bool.and_eq_true] at hf
    rcases List.mem_cons.1 h with rfl | h
    · exact hf.1
    · exact freshS_mem hf.2 h

theorem TakeP.res {cx cx' : Cx} {w : World} (hF : ∀ n b, b < w.heap.size → cx.ok n b → cx'.ok false b) {s fs rest : Sto} (h : TakeP s fs rest) (hs : ∀ r ∈ s, RAt cx w r) : ∀ r ∈ fs, RAt cx' w r := by
  have pick : ∀ {s r s'}, PickP s r s' → (∀ r ∈ s, RAt cx w r) → RAt cx' w r ∧ ∀ r ∈ s', RAt cx w r := by
    intro s r s' h hs
    induction h with
    | box hp =>
      refine ⟨?_, fun r hr => hs r (by simp [hr])⟩
      obtain ⟨arr, e, h1, h2⟩ := hs _ (List.mem_cons_self ..)
      exact ⟨arr, e, h1, PassL.sound hF (fun h => by cases h) (fun h => by cases h) hp h2⟩
    | row hp =>
      subst hp
      refine ⟨?_, fun r hr => hs r (by simp [hr])⟩
      obtain ⟨vals, h1, h2, h3, h4⟩ := hs _ (List.mem_cons_self ..)
      refine ⟨vals, h1, h2, h3, fun i j hi hj => ?_⟩
      obtain ⟨y, hy1, hy2⟩ := h4 i j hi hj
      exact ⟨y, hy1, hy2.mono (fun b hb hok => ⟨hF _ b hb hok, rfl⟩) (Nat.le_refl _)⟩
    | mp hp =>
      subst hp
      refine ⟨?_, fun r hr => hs r (by simp [hr])⟩
      obtain ⟨ents, clock, h1, h2, h3⟩ := hs _ (List.mem_cons_self ..)
      refine ⟨ents, clock, h1, ⟨h2.1, fun i m p hm hp => ?_⟩, h3⟩
      obtain ⟨k1, k2⟩ := h2.2 i m p hm hp
      exact ⟨k1, valA_mono (fun d u hd => hd.mono (fun b hb hok => ⟨hF _ b hb hok, rfl⟩) (Nat.le_refl _)) k2⟩
    | same ho =>
      exact ⟨(hs _ (List.mem_cons_self ..)).monoOld (fun b hb hok => hF false b hb hok) ho, fun r hr => hs r (by simp [hr])⟩
    | nilRow hp =>
      subst hp
      exact ⟨⟨[], .inl ⟨rfl, rfl⟩, by simp, fun A n c h => by simp at h; simp [← h.2.1], fun i j hi => by simp at hi⟩, hs⟩
    | tail _ ih =>
      obtain ⟨h1, h2⟩ := ih (fun r hr => hs r (by simp [hr]))
      exact ⟨h1, fun r hr => by rcases List.mem_cons.1 hr with rfl | hr; exact hs _ (by simp); exact h2 r hr⟩
  induction h with
  | nil s => exact fun r hr => by cases hr
  | cons h1 _ ih =>
    obtain ⟨h2, h3⟩ := pick h1 hs
    intro r hr
    rcases List.mem_cons.1 hr with rfl | hr
    · exact h2
    · exact ih h3 r hr
  | all ho => exact fun r hr => (hs r hr).monoOld (fun b hb hok => hF false b hb hok) (oldS_mem ho hr)
  | skip _ ih => exact ih (fun r hr => hs r (by simp [hr]))

inductive GetL (env : Env) (q : Path) : List Operand → List AV → Prop where
  | nil : GetL env q [] []
  | cons {x : Operand} {z : AV} {xs : List Operand} {zs : List AV} : Get env q x z → GetL env q xs zs → GetL env q (x :: xs) (z :: zs)
theorem GetL.sound {C : Ctx} {env : Env} {sto : Sto} {a : Act} {w : World} (h : Abs C env sto a w) {q : Path} (hq : PathHolds q) {xs : List Operand} {zs : List AV} (hg : GetL env q xs zs) : AAtL (C.cx sto) w zs (xs.map a.eval) := by
  induction hg with
  | nil => simp [AAtL]
  | cons hx _ ih => simp only [List.map_cons, AAtL]; exact ⟨hx.sound h hq, ih⟩

theorem AAtL.append {cx : Cx} {w : World} : ∀ {xs ys : List AV} {us vs : List Value}, AAtL cx w xs us → AAtL cx w ys vs → AAtL cx w (xs ++ ys) (us ++ vs)
  | [], ys, [], vs, _, h => h
  | [], _, _ :: _, _, h, _ => by simp [AAtL] at h
  | _ :: _, _, [], _, h, _ => by simp [AAtL] at h
  | x :: xs, ys, u :: us, vs, h, h' => by
    simp only [AAtL, List.cons_append] at h ⊢
    exact ⟨h.1, AAtL.append h.2 h'⟩
theorem AAtL.vals {cx : Cx} {w : World} : ∀ (vs : List Value), AAtL cx w (vs.map .v) vs
  | [] => by simp [AAtL]
  | v :: vs => by simp only [List.map_cons, AAtL]; exact ⟨rfl, AAtL.vals vs⟩

theorem blocksOf_append (s t : Sto) : blocksOf (s ++ t) = blocksOf s ++ blocksOf t := by simp [blocksOf]

/-- What a caller may ask of whatever is called. -/
def Asks (K : List Value → World → (Ending → World → Prop) → Prop) (args : List AV) (sto : Sto) (R : AV → Sto → Prop) : Prop :=
  ∀ (X : Nat → Prop) (w : World) (vs : List Value), (∀ b, X b → b < w.heap.size) → (∀ b ∈ blocksOf sto, ¬ X b) → (blocksOf sto).Nodup → (∀ r ∈ sto, RAt (cxOf w.heap.size X sto) w r) →
    AAtL (cxOf w.heap.size X sto) w args vs → K vs w (Post w X sto R)
/-- **A call by its contract**, told for the machine's own word. -/
theorem Abs.callK {C : Ctx} {env : Env} {sto stoF rest : Sto} {a : Act} {w : World} (hA : Abs C env sto a w) {lend : Bool} {zs args : List AV} {vs : List Value} {R : AV → Sto → Prop} {K : List Value → World → (Ending → World → Prop) → Prop}
    (hmono : ∀ {vs : List Value} {w : World} {R R' : Ending → World → Prop}, K vs w R → (∀ e w', R e w' → R' e w') → K vs w R')
    (ht : TakeP sto stoF rest) (hz : AAtL (C.cx sto) w zs vs) (hp : PassL lend rest zs args) (hs : Asks K args stoF R) (hfr : lend = true → ∀ z s, R z s → freshA z = true ∧ freshS s = true) :
    K vs w fun e w' => ∃ z s, R z s ∧ (∀ env', Abs C env' sto a w → Abs C env' (s ++ rest) a w') ∧ OutA (C.cx (s ++ rest)) w' z e := by
  obtain ⟨hperm, hrest⟩ := ht.perm
  let X' : Nat → Prop := fun b => lend = false ∧ (b ∈ blocksOf rest ∨ C.X b)
  have hnd := hperm.nodup_iff.1 hA.nodup
  obtain ⟨hnF, hnR, hdis⟩ := List.nodup_append.1 hnd
  have memF : ∀ b ∈ blocksOf stoF, b ∈ blocksOf sto := fun b hb => hperm.mem_iff.2 (List.mem_append_left _ hb)
  have memR : ∀ b ∈ blocksOf rest, b ∈ blocksOf sto := fun b hb => hperm.mem_iff.2 (List.mem_append_right _ hb)
  have hnoX : ∀ b ∈ blocksOf sto, ¬ C.X b := by
    intro b hb hx
    rcases hA.src b hb with h | h
    · exact hA.xown b h hx
    · have := hA.xlt b hx; omega
  have hF : ∀ n b, b < w.heap.size → (C.cx sto).ok n b → (cxOf w.heap.size X' stoF).ok false b := by
    intro n b _ hok
    refine ⟨fun hm => hok.1 (memF b hm), fun hx => ?_, fun h => by cases h⟩
    rcases hx.2 with h | h
    · exact hok.1 (memR b h)
    · exact hok.2.1 h
  have hargs : AAtL (cxOf w.heap.size X' stoF) w args vs := by
    refine PassL.sound hF (fun hl {α} {v} {n} {e} {sz} {enc} {dv} {xs} hr => ⟨hA.res _ (hrest _ hr.mem), fun b hb => ?_⟩) (fun hl {b} {cs} hr => ⟨hA.res _ (hrest _ hr.mem), ?_⟩) hp hz
    rotate_left
    · have hbr : b ∈ blocksOf rest := List.mem_flatMap.2 ⟨_, hr.mem, by simp [Res.blocks]⟩
      refine ⟨fun hm => hdis b hm b hbr rfl, fun hx => ?_, fun h => by cases h⟩
      have hx1 : lend = false := hx.1
      rw [hl] at hx1
      cases hx1
    have hbr : b ∈ blocksOf rest := List.mem_flatMap.2 ⟨_, hr.mem, by simpa [Res.blocks] using hb⟩
    refine ⟨fun hm => hdis b hm b hbr rfl, fun hx => ?_, fun h => by cases h⟩
    have hx1 : lend = false := hx.1
    rw [hl] at hx1
    cases hx1
  have hcalls := hs X' w vs (fun b hx => ?_) (fun b hb hx => ?_) hnF (ht.res hF hA.res) hargs
  · refine hmono hcalls fun e w' ⟨z, s, hR, hk, hn, hsrc, hres, hzv⟩ => ⟨z, s, hR, ?_⟩
    have hkept : Kept (blocksOf sto) w w' := ⟨hk.os, hk.tape, hk.output, hk.size, fun k hk' hm => hk.block k hk' (fun h => hm (memF k h))⟩
    have hRlt : ∀ b ∈ blocksOf rest, b < w.heap.size := fun b hb => hA.lt b (memR b hb)
    have hsR : ∀ b ∈ blocksOf s, b ∉ blocksOf rest := by
      intro b hb hbr
      rcases hsrc b hb with h | h
      · exact hdis b h b hbr rfl
      · have := hRlt b hbr; omega
    have hback : ∀ n, (n = true ∨ lend = false) → ∀ b, b < w'.heap.size → (cxOf w.heap.size X' s).ok n b → (C.cx (s ++ rest)).ok n b := by
      intro n hn' b _ hok
      have hnr : b ∉ blocksOf rest := by
        intro hbr
        rcases hn' with h | h
        · have h1 := hok.2.2 h
          have h2 := hRlt b hbr
          have h3 : w.heap.size ≤ b := h1
          omega
        · exact hok.2.1 ⟨h, .inl hbr⟩
      refine ⟨fun hm => ?_, fun hx => ?_, fun h => ?_⟩
      · rcases List.mem_append.1 (show b ∈ blocksOf s ++ blocksOf rest from by rw [← blocksOf_append]; exact hm) with h | h
        · exact hok.1 h
        · exact hnr h
      · rcases hn' with h | h
        · have h1 : w.heap.size ≤ b := hok.2.2 h
          have h2 := hA.xlt b hx
          have h3 := hA.kept.size
          omega
        · exact hok.2.1 ⟨h, .inr hx⟩
      · have h1 : w.heap.size ≤ b := hok.2.2 h
        exact Nat.le_trans (Nat.le_trans hA.base hA.kept.size) h1
    have hresS : ∀ r ∈ s, RAt (C.cx (s ++ rest)) w' r := by
      intro r hr
      cases lend with
      | true => exact RAt.monoFresh (hback true (.inl rfl)) (freshS_mem (hfr rfl z s hR).2 hr) (hres r hr)
      | false => exact RAt.mono (fun n b hb hok => ⟨hback n (.inr rfl) b hb hok, rfl⟩) (Nat.le_refl _) (fun _ _ => rfl) (hres r hr)
    have hzz : OutA (C.cx (s ++ rest)) w' z e := by
      cases lend with
      | true => exact hzv.mono fun u hu => AAt.monoFresh (hback true (.inl rfl)) (hfr rfl z s hR).1 hu
      | false => exact hzv.mono fun u hu => AAt.mono (fun n b hb hok => ⟨hback n (.inr rfl) b hb hok, rfl⟩) (Nat.le_refl _) hu
    refine ⟨fun env' hA' => ?_, hzz⟩
    refine hA'.step hkept ?_ ?_ ?_ ?_
    · rw [blocksOf_append]
      exact List.nodup_append.2 ⟨hn, hnR, fun x hx y hy e => hsR x hx (e ▸ hy)⟩
    · intro b hb
      rw [blocksOf_append] at hb
      rcases List.mem_append.1 hb with h | h
      · rcases hsrc b h with h' | h'
        · exact .inl (memF b h')
        · exact .inr h'
      · exact .inl (memR b h)
    · intro r hr
      rcases List.mem_append.1 hr with h | h
      · exact hresS r h
      · refine RAt.mono (fun n b hb hok => ?_) hk.size (fun b hb => ?_) (hA.res r (hrest r h))
        · have hnF' : b ∉ blocksOf stoF := fun hm => hok.1 (memF b hm)
          refine ⟨⟨fun hm => ?_, hok.2⟩, hk.block b hb hnF'⟩
          rcases List.mem_append.1 (show b ∈ blocksOf s ++ blocksOf rest from by rw [← blocksOf_append]; exact hm) with h' | h'
          · rcases hsrc b h' with h'' | h''
            · exact hnF' h''
            · omega
          · exact hok.1 (memR b h')
        · have hbr : b ∈ blocksOf rest := List.mem_flatMap.2 ⟨r, h, hb⟩
          exact hk.block b (hRlt b hbr) (fun hm => hdis b hm b hbr rfl)
    · intro b hlt hb
      rw [blocksOf_append] at hb
      rcases List.mem_append.1 hb with h | h
      · rcases hsrc b h with h' | h'
        · exact memF b h'
        · omega
      · exact memR b h
  · rcases hx.2 with h | h
    · exact hA.lt b (memR b h)
    · exact Nat.lt_of_lt_of_le (hA.xlt b h) hA.kept.size
  · rcases hx.2 with h | h
    · exact hdis b hb b h rfl
    · exact hnoX b (memF b hb) h

theorem Abs.call {P : Program} {C : Ctx} {env : Env} {sto stoF rest : Sto} {a : Act} {w : World} (hA : Abs C env sto a w) {lend : Bool} {zs args : List AV} {vs : List Value} {f : FuncId} {R : AV → Sto → Prop}
    (ht : TakeP sto stoF rest) (hz : AAtL (C.cx sto) w zs vs) (hp : PassL lend rest zs args) (hs : Sat P f args stoF R) (hfr : lend = true → ∀ z s, R z s → freshA z = true ∧ freshS s = true) :
    Calls P f vs.toArray w fun e w' => ∃ z s, R z s ∧ (∀ env', Abs C env' sto a w → Abs C env' (s ++ rest) a w') ∧ OutA (C.cx (s ++ rest)) w' z e :=
  Abs.callK (K := fun vs w R => Calls P f vs.toArray w R) hA (fun h h' => h.mono h') ht hz hp hs.2 hfr

section
variable {P : Program} {T : Tab} (hT : TabOk P T) {N : Fm} {Q : Env → Sto → Prop}
include hT

theorem RunSem.callBy {lend : Bool} {all : Array Oper} {rest : List Oper} {d : Tmp} {fo : Operand} {as : Array Operand} {ts : Array TypeId} {ty : TypeId} {pos : String} {af : Array Edge} {k : List It} {env : Env} {sto stoF sto1 : Sto}
    {f : FuncId} {first captured : Array Value} {zs full args : List AV} {R : AV → Sto → Prop} (hd : Nat.blt d N.n = true) (hf : Get env [] fo (.v (.func (.func f) first captured))) (ha : GetL env [] as.toList zs)
    (hfull : first.toList.map .v ++ zs ++ captured.toList.map .v = full) (ht : TakeP sto stoF sto1) (hp : PassL lend sto1 full args) (hs : Sat P f args stoF R)
    (hfr : lend = true → ∀ z s, R z s → freshA z = true ∧ freshS s = true)
    (hnp : ∀ z s, R z s → panA z = false) (hk : ∀ z s, R z s → Run P T N Q (.ops all rest :: k) ((d, [], z) :: env) (s ++ sto1)) :
    RunSem P N Q (.ops all ({ dst := some d, op := .call { callee := .value fo, args := as, argTypes := ts }, type := ty, pos, after := af, guard := none } :: rest) :: k) env sto := by
  intro C a w hN hA
  refine wpListR_yes (by simp [Region.wanted]) ?_
  have hfv : a.eval fo = .func (.func f) first captured := hf.v hA (q := []) trivial
  have hr : (execOp a.eval { dst := some d, op := .call { callee := .value fo, args := as, argTypes := ts }, type := ty, pos, after := af, guard := none }).run P w = .ok (.enter f (first ++ as.map a.eval ++ captured)) w := by
    simp [execOp, resolve, hfv, Deferred.ofValue, invoke, hs.1]
  refine opR_of rfl hr ?_
  simp only [upR]
  have hz := ((AAtL.vals (cx := C.cx sto) (w := w) first.toList).append (ha.sound hA (q := []) trivial)).append (AAtL.vals captured.toList)
  rw [hfull] at hz
  have he : first ++ as.map a.eval ++ captured = (first.toList ++ as.toList.map a.eval ++ captured.toList).toArray := by
    apply Array.ext'
    simp
  rw [he]
  refine (hA.call ht hz hp hs hfr).mono ?_
  rintro e w' ⟨z, s, hR, hA', hzo⟩
  obtain ⟨v, rfl, hzv⟩ := hzo.inv (hnp z s hR)
  exact (hk z s hR).sound hT C _ _ hN ((hA' _ hA).put0 (by rw [hN.1]; exact Nat.le_of_ble_eq_true hd) hzv)
end

end Go.Sx
end

section
/- Loops. -/


set_option linter.unusedSectionVars false
namespace Go.Sx

inductive EnvSub (env : Env) : Env → Prop where
  | nil : EnvSub env []
  | cons {s : Nat} {z z' : AV} {e : Env} : lookup s env = some ([], z) → Age z z' → EnvSub env e → EnvSub env ((s, [], z') :: e)

theorem EnvSub.sound {env env' : Env} (h : EnvSub env env') {s : Nat} {q : Path} {z' : AV} (hl : lookup s env' = some (q, z')) : q = [] ∧ ∃ z, lookup s env = some ([], z) ∧ Age z z' := by
  induction h with
  | nil => simp [lookup] at hl
  | cons h1 h2 _ ih =>
    rw [lookup_cons] at hl
    split at hl
    · rename_i e
      simp only [Option.some.injEq, Prod.mk.injEq] at hl
      obtain ⟨rfl, rfl⟩ := hl
      exact ⟨rfl, _, e ▸ h1, h2⟩
    · exact ih hl

theorem Abs.envSub {C : Ctx} {env env' : Env} {sto : Sto} {a : Act} {w : World} (hA : Abs C env sto a w) (h : EnvSub env env') : Abs C env' sto a w := by
  refine ⟨hA.kept, hA.nodup, hA.src, hA.res, fun s q z hl hq => ?_, fun s q z hl hq => ?_, hA.tsize, hA.defers, hA.xlt, hA.xown, hA.base⟩
  · obtain ⟨rfl, z0, h1, h2⟩ := h.sound hl
    exact h2.sound (hA.slots s [] z0 h1 trivial)
  · obtain ⟨rfl, _⟩ := h.sound hl
    exact absurd trivial hq

/-- A round hands its relation on, at a lesser number. -/
def Again (I : Nat → Env → Sto → Prop) (n : Nat) (env : Env) (sto : Sto) : Prop := ∃ m env' sto', m < n ∧ I m env' sto' ∧ EnvSub env env' ∧ StoSub sto sto'
theorem Again.mk {I : Nat → Env → Sto → Prop} {n : Nat} {env : Env} {sto : Sto} (m : Nat) {env' : Env} {sto' : Sto} (h1 : m < n) (h2 : I m env' sto') (h3 : EnvSub env env') (h4 : StoSub sto sto') : Again I n env sto := ⟨m, env', sto', h1, h2, h3, h4⟩

theorem RunSem.loop {P : Program} {T : Tab} (hT : TabOk P T) {N : Fm} {Q : Env → Sto → Prop} {body : Code} {k : List It} {env env0 : Env} {sto sto0 : Sto} (I : Nat → Env → Sto → Prop) (n0 : Nat) (h0 : I n0 env0 sto0)
    (he : EnvSub env env0) (hs : StoSub sto sto0) (hb : ∀ n env sto, I n env sto → Run P T N Q (.c body :: .goal (Again I n) :: k) env sto) : RunSem P N Q (.c (.loop body) :: k) env sto := by
  intro C a w hN hA
  have hA0 := (hA.sub hs).envSub he
  show wpR C.rnd P (Code.loop body) (postK P C Q k) a w
  refine wpR_loop_ghost (fun n a w => ∃ env sto, I n env sto ∧ Abs C env sto a w) n0 ⟨env0, sto0, h0, hA0⟩ ?_
  rintro n a w ⟨env, sto, hI, hA⟩
  have := (hb n env sto hI).sound hT C a w hN hA
  refine wpIn_mono this (fun e a' w' hq => ?_)
  cases e with
  | normal =>
    obtain ⟨env1, sto1, ⟨m, env2, sto2, h1, h2, h3, h4⟩, hA1⟩ := hq
    exact ⟨m, h1, env2, sto2, h2, (hA1.sub h4).envSub h3⟩
  | exit id => exact hq
  | goto l => exact hq
  | ret => exact hq
  | panic ch => exact hq
  | outgrown => exact hq

theorem RunSem.run {P : Program} {T : Tab} (hT : TabOk P T) {N : Fm} {Q : Env → Sto → Prop} {k : List It} {env : Env} {sto : Sto} (h : Run P T N Q k env sto) : RunSem P N Q k env sto := h.sound hT

/-- Forget slots and memory ahead of going on. -/
theorem RunSem.cut {P : Program} {T : Tab} (hT : TabOk P T) {N : Fm} {Q : Env → Sto → Prop} {k : List It} {env env' : Env} {sto sto' : Sto} (he : EnvSub env env') (hs : StoSub sto sto') (h : Run P T N Q k env' sto') : RunSem P N Q k env sto :=
  fun C a w hN hA => h.sound hT C a w hN ((hA.sub hs).envSub he)

end Go.Sx
end

section
/- A statement whose order Go leaves open. -/


set_option linter.unusedSectionVars false
namespace Go.Sx

def rs (ts : List Tmp) (env : Env) : Env := env.filter fun e => ts.contains e.1
theorem lookup_rs (ts : List Tmp) : ∀ (env : Env) (s : Nat), lookup s (rs ts env) = if s ∈ ts then lookup s env else none
  | [], s => by simp [rs, lookup]
  | (t, q, z) :: e, s => by
    have ih := lookup_rs ts e s
    unfold rs at ih ⊢
    rw [List.filter_cons]
    by_cases ht : t ∈ ts
    · rw [if_pos (by simpa using ht), lookup_cons, ih, lookup_cons]
      by_cases hs : s = t
      · subst hs; simp [ht]
      · simp [hs]
    · rw [if_neg (by simpa using ht), ih, lookup_cons]
      by_cases hs : s = t
      · subst hs; simp [ht]
      · simp [hs]

/-- What an operation comes to that turns nothing that is owned, whatever else has been done. -/
def AOp (P : Program) (N : Fm) (env : Env) (sto : Sto) (o : Oper) (q : Path) (z : AV) : Prop :=
  ∀ C a w (next : Act → World → Prop) (Q' : Exit → Act → World → Prop), C.fits N → Abs C env sto a w → PathHolds q →
    (∀ v w', Abs C env sto a w' → (∀ env', Abs C env' sto a w → Abs C env' sto a w') → AAt (C.cx sto) w' z v → next (a.put o.dst v) w') → opR C.rnd P o a w next Q'

inductive AFacts (P : Program) (N : Fm) (all : Array Oper) (sto : Sto) : Env → List Oper → List (Nat × Path × AV) → Prop where
  | nil (env : Env) : AFacts P N all sto env [] []
  | cons {env : Env} {o : Oper} {d : Tmp} {q : Path} {z : AV} {rest : List Oper} {E : List (Nat × Path × AV)} : o.dst = some d → d < N.n →
      (match o.guard with
        | none => q = []
        | some (g, b) => ∃ gs q0 c, gslot all g = some gs ∧ lookup gs env = some (q0, .v (.bool c)) ∧ q = (c, b) :: q0) →
      AOp P N (rs (o.looksAt all) env) sto o q z → AFacts P N all sto ((d, q, z) :: env) rest E → AFacts P N all sto env (o :: rest) ((d, q, z) :: E)

def AListSem (P : Program) (N : Fm) (all : Array Oper) (sto : Sto) (K : Env → Prop) (env : Env) (l : List Oper) : Prop := ∃ E, AFacts P N all sto env l E ∧ K (E.reverse ++ env)

inductive AList (P : Program) (T : Tab) (N : Fm) (all : Array Oper) (sto : Sto) (K : Env → Prop) : Env → List Oper → Prop where
  | nil {env : Env} : K env → AList P T N all sto K env []
  | callStop {env : Env} {rest : List Oper} {d : Option Tmp} {f : Operand} {as : Array Operand} {ts : Array TypeId} {ty : TypeId} {pos : String} {af : Array Edge} {g : Option (Nat × Bool)} :
      AListSem P N all sto K env ({ dst := d, op := .call { callee := .value f, args := as, argTypes := ts }, type := ty, pos, after := af, guard := g } :: rest) →
      AList P T N all sto K env ({ dst := d, op := .call { callee := .value f, args := as, argTypes := ts }, type := ty, pos, after := af, guard := g } :: rest)
  | sliceStop {env : Env} {rest : List Oper} {d : Option Tmp} {n : Nat} {t : TypeId} {ps : Array (Nat × Operand)} {ty : TypeId} {pos : String} {af : Array Edge} {g : Option (Nat × Bool)} :
      AListSem P N all sto K env ({ dst := d, op := .buildSlice t n ps, type := ty, pos, after := af, guard := g } :: rest) →
      AList P T N all sto K env ({ dst := d, op := .buildSlice t n ps, type := ty, pos, after := af, guard := g } :: rest)
  | quiet {env : Env} {rest : List Oper} {d : Tmp} {op : Op} {ty : TypeId} {pos : String} {af : Array Edge} {z : AV} : Nat.blt d N.n = true → Quiet T env sto [] op z → AList P T N all sto K ((d, [], z) :: env) rest →
      AList P T N all sto K env ({ dst := some d, op, type := ty, pos, after := af, guard := none } :: rest)
  | guarded {env : Env} {rest : List Oper} {d gs : Tmp} {g : Nat} {b c : Bool} {q : Path} {op : Op} {ty : TypeId} {pos : String} {af : Array Edge} {z : AV} : Nat.blt d N.n = true → gslot all g = some gs → lookup gs env = some (q, .v (.bool c)) →
      Quiet T env sto ((c, b) :: q) op z → AList P T N all sto K ((d, (c, b) :: q, z) :: env) rest →
      AList P T N all sto K env ({ dst := some d, op, type := ty, pos, after := af, guard := some (g, b) } :: rest)

/-- The slots that an operation looks at, but for its guard's. -/
def opSlots (o : Op) : List Tmp := o.operands.toList.filterMap fun | .tmp t => some t | _ => none

theorem Get.congr {env env' : Env} {q : Path} {x : Operand} {z : AV} (h : Get env q x z) (hl : ∀ t, x = .tmp t → lookup t env' = lookup t env) : Get env' q x z := by
  cases h with
  | tmp h1 h2 => exact .tmp ((hl _ rfl).trans h1) h2
  | const v => exact .const v
  | func f => exact .func f
  | global g => exact .global g
theorem GetO.congr {env env' : Env} {q : Path} {x : Option Operand} {v : Option Value} (h : GetO env q x v) (hl : ∀ t, x = Option.some (Operand.tmp t) → lookup t env' = lookup t env) : GetO env' q x v := by
  cases h with
  | none => exact .none
  | some h => exact .some (h.congr (fun t ht => hl t (by rw [ht])))
theorem GetVs.congr {env env' : Env} {q : Path} {xs : List Operand} {vs : List Value} (h : GetVs env q xs vs) (hl : ∀ t, Operand.tmp t ∈ xs → lookup t env' = lookup t env) : GetVs env' q xs vs := by
  induction h with
  | nil => exact .nil
  | cons h1 _ ih => exact .cons (h1.congr (fun t ht => hl t (by simp [ht]))) (ih (fun t ht => hl t (by simp [ht])))

theorem GetPs.congr {env env' : Env} {q : Path} {ps : List (Nat × Operand)} {zs : List (Nat × AV)} (h : GetPs env q ps zs) (hl : ∀ t, Operand.tmp t ∈ ps.map (·.2) → lookup t env' = lookup t env) : GetPs env' q ps zs := by
  induction h with
  | nil => exact .nil
  | cons h _ ih => exact .cons (h.congr (fun t ht => hl t (by simp [ht]))) (ih (fun t ht => hl t (by simp only [List.map_cons, List.mem_cons]; exact .inr ht)))
theorem mem_opSlots {o : Op} {t : Tmp} : t ∈ opSlots o ↔ Operand.tmp t ∈ o.operands.toList := by
  unfold opSlots
  rw [List.mem_filterMap]
  constructor
  · rintro ⟨x, hx, he⟩
    cases x <;> simp at he
    subst he
    exact hx
  · intro h
    exact ⟨_, h, rfl⟩

theorem Quiet.congr {T : Tab} {env env' : Env} {sto : Sto} {q : Path} {op : Op} {z : AV} (h : Quiet T env sto q op z) (hl : ∀ t ∈ opSlots op, lookup t env' = lookup t env) : Quiet T env' sto q op z := by
  have hl' : ∀ t, Operand.tmp t ∈ op.operands.toList → lookup t env' = lookup t env := fun t ht => hl t (mem_opSlots.2 ht)
  cases h with
  | move h1 => exact .move (h1.congr (fun t ht => hl' t (by simp [Op.operands, ht])))
  | assign h1 => exact .assign (h1.congr (fun t ht => hl' t (by simp [Op.operands, ht])))
  | load h1 h2 => exact .load (h1.congr (fun t ht => hl' t (by simp [Op.operands, ht]))) h2
  | fieldAddr h1 h2 h3 h4 h5 h6 => exact .fieldAddr (h1.congr (fun t ht => hl' t (by simp [Op.operands, ht]))) h2 h3 h4 h5 h6
  | indexAddr h1 h2 h3 => exact .indexAddr (h1.congr (fun t ht => hl' t (by simp [Op.operands, ht]))) (h2.congr (fun t ht => hl' t (by simp [Op.operands, ht]))) h3
  | binOp h1 h2 h3 h4 => exact .binOp (h1.congr (fun t ht => hl' t (by simp [Op.operands, ht]))) (h2.congr (fun t ht => hl' t (by simp [Op.operands, ht]))) h3 h4
  | extract h1 h2 => exact .extract (h1.congr (fun t ht => hl' t (by simp [Op.operands, ht]))) h2
  | pickOr h1 h2 => exact .pickOr (h1.congr (fun t ht => hl' t (by simp [Op.operands, ht]))) (h2.congr (fun t ht => hl' t (by simp [Op.operands, ht])))
  | pickAnd h1 h2 => exact .pickAnd (h1.congr (fun t ht => hl' t (by simp [Op.operands, ht]))) (h2.congr (fun t ht => hl' t (by simp [Op.operands, ht])))
  | build h1 h2 h3 => exact .build (h1.congr (fun t ht => hl' t (by simpa [Op.operands] using ht))) h2 h3
  | nilCheck h1 h2 => exact .nilCheck (h1.congr (fun t ht => hl' t (by simp [Op.operands, ht]))) h2
  | unOp h1 h2 => exact .unOp (h1.congr (fun t ht => hl' t (by simp [Op.operands, ht]))) h2
  | convert h1 h2 => exact .convert (h1.congr (fun t ht => hl' t (by simp [Op.operands, ht]))) h2
  | field h1 h2 h3 h4 h5 => exact .field (h1.congr (fun t ht => hl' t (by simp [Op.operands, ht]))) h2 h3 h4 h5
  | index h1 h2 h3 => exact .index (h1.congr (fun t ht => hl' t (by simp [Op.operands, ht]))) (h2.congr (fun t ht => hl' t (by simp [Op.operands, ht]))) h3
  | slice h1 h2 h3 h4 h5 =>
    exact .slice (h1.congr (fun t ht => hl' t (by simp [Op.operands, ht]))) (h2.congr (fun t ht => hl' t (by simp [Op.operands, ht]))) (h3.congr (fun t ht => hl' t (by simp [Op.operands, ht]))) (h4.congr (fun t ht => hl' t (by simp [Op.operands, ht]))) h5
  | lookMap h1 h2 h3 h4 h5 h6 h7 => exact .lookMap (h1.congr (fun t ht => hl' t (by simp [Op.operands, ht]))) (h2.congr (fun t ht => hl' t (by simp [Op.operands, ht]))) h3 h4 h5 h6 h7
  | makeFunc h1 h2 => exact .makeFunc (h1.congr (fun t ht => hl' t (by simp [Op.operands, ht]))) (h2.congr (fun t ht => hl' t (by simp [Op.operands, ht])))
  | len h1 h2 => exact .len (h1.congr (fun t ht => hl' t (by simp [Op.operands, Call.operands, ht]))) h2
  | min h1 h2 => exact .min (h1.congr (fun t ht => hl' t (by simp [Op.operands, Call.operands, ht]))) (h2.congr (fun t ht => hl' t (by simp [Op.operands, Call.operands, ht])))
  | max h1 h2 => exact .max (h1.congr (fun t ht => hl' t (by simp [Op.operands, Call.operands, ht]))) (h2.congr (fun t ht => hl' t (by simp [Op.operands, Call.operands, ht])))

theorem opSlots_looks {all : Array Oper} {o : Oper} {t : Tmp} (h : t ∈ opSlots o.op) : t ∈ o.looksAt all := by
  unfold Oper.looksAt
  exact List.mem_append_left _ h

section
variable {P : Program} {T : Tab} (hT : TabOk P T) {N : Fm}
include hT

theorem Quiet.aop {all : Array Oper} {env : Env} {sto : Sto} {q : Path} {o : Oper} {z : AV} (h : Quiet T env sto q o.op z) : AOp P N (rs (o.looksAt all) env) sto o q z := by
  intro C a w next Q' hN hA hq hnext
  have h' : Quiet T (rs (o.looksAt all) env) sto q o.op z := h.congr (fun t ht => by rw [lookup_rs, if_pos (opSlots_looks ht)])
  obtain ⟨u, hr, hz⟩ := h'.sound hT hA hq
  exact opR_of h.nd hr (hnext u w hA (fun _ h => h) hz)

theorem AList.sound {all : Array Oper} {sto : Sto} {K : Env → Prop} {env : Env} {l : List Oper} (h : AList P T N all sto K env l) : AListSem P N all sto K env l := by
  induction h with
  | nil hk => exact ⟨[], .nil _, by simpa using hk⟩
  | callStop h => exact h
  | sliceStop h => exact h
  | quiet hd hq _ ih =>
    obtain ⟨E, h1, h2⟩ := ih
    exact ⟨_, .cons rfl (Nat.le_of_ble_eq_true hd) rfl (Quiet.aop (o := { dst := some _, op := _, type := _, pos := _, after := _, guard := none }) hT hq) h1, by simpa using h2⟩
  | guarded hd hg hl hq _ ih =>
    obtain ⟨E, h1, h2⟩ := ih
    exact ⟨_, .cons rfl (Nat.le_of_ble_eq_true hd) ⟨_, _, _, hg, hl, rfl⟩ (Quiet.aop (o := { dst := some _, op := _, type := _, pos := _, after := _, guard := some _ }) hT hq) h1, by simpa using h2⟩
end

/-! ### Whatever order is drawn -/
def edgeTo (o : Oper) (j : Nat) : Bool := o.after.toList.any fun e => Region.binds .any e && e.on == j
def backward (o : Oper) (i : Nat) : Bool := o.after.toList.all fun e => !Region.binds .any e || Nat.blt e.on i
/-- The first m operations only read, and stand apart where their order is open; each later one waits for all ahead of it. -/
def drawOk (ops : Array Oper) (m : Nat) : Bool :=
  Nat.ble m ops.size && ops.toList.zipIdx.all fun x => backward x.1 x.2 && (ops.toList.take x.2).zipIdx.all fun y => edgeTo x.1 y.2 || (Nat.blt x.2 m && x.1.apart ops y.1)

abbrev Ent := Nat × Path × AV
def envD : Nat → List Ent → Array Bool → Env → Env
  | _, [], _, env => env
  | i, e :: E, listed, env => envD (i + 1) E listed (if listed.getD i false then e :: env else env)

theorem envD_append : ∀ (E1 E2 : List Ent) (i : Nat) (listed : Array Bool) (env : Env), envD i (E1 ++ E2) listed env = envD (i + E1.length) E2 listed (envD i E1 listed env)
  | [], E2, i, listed, env => by simp [envD]
  | e :: E1, E2, i, listed, env => by
    simp only [List.cons_append, envD]
    rw [envD_append E1 E2 (i + 1)]
    simp only [List.length_cons]
    congr 1
    omega
theorem envD_congr {s : Nat} : ∀ (E : List Ent) (i : Nat) (listed : Array Bool) (X Y : Env), lookup s X = lookup s Y → lookup s (envD i E listed X) = lookup s (envD i E listed Y)
  | [], i, listed, X, Y, h => by simpa [envD] using h
  | (d, q, z) :: E, i, listed, X, Y, h => by
    simp only [envD]
    refine envD_congr E (i + 1) listed _ _ ?_
    split
    · rw [lookup_cons, lookup_cons, h]
    · exact h
theorem envD_skip {s : Nat} : ∀ (E : List Ent) (i : Nat) (listed : Array Bool) (X : Env), (∀ j e, E[j]? = some e → listed.getD (i + j) false = true → e.1 ≠ s) → lookup s (envD i E listed X) = lookup s X
  | [], i, listed, X, h => by simp [envD]
  | (d, q, z) :: E, i, listed, X, h => by
    simp only [envD]
    rw [envD_skip E (i + 1) listed _ (fun j e hj hl => h (j + 1) e (by simpa using hj) (by rw [show i + (j + 1) = i + 1 + j by omega]; exact hl))]
    split
    · rename_i hl
      rw [lookup_cons, if_neg (fun e => h 0 (d, q, z) (by simp) (by simpa using hl) e.symm)]
    · rfl
theorem envD_all {s : Nat} : ∀ (E : List Ent) (i : Nat) (listed : Array Bool) (X Y : Env), lookup s X = lookup s Y → (∀ j e, E[j]? = some e → e.1 = s → listed.getD (i + j) false = true) → lookup s (envD i E listed X) = lookup s (E.reverse ++ Y)
  | [], i, listed, X, Y, h, _ => by simpa [envD] using h
  | (d, q, z) :: E, i, listed, X, Y, h, hl => by
    simp only [envD, List.reverse_cons, List.append_assoc, List.singleton_append]
    refine envD_all E (i + 1) listed _ _ ?_ (fun j e hj he => by have := hl (j + 1) e (by simpa using hj) he; rwa [show i + (j + 1) = i + 1 + j by omega] at this)
    rw [lookup_cons]
    by_cases hd : d = s
    · have hi : listed.getD i false = true := hl 0 (d, q, z) (by simp) hd
      rw [if_pos hi, lookup_cons, if_pos hd.symm, if_pos hd.symm]
    · rw [if_neg (show ¬ s = d from fun e => hd e.symm)]
      split
      · rw [lookup_cons, if_neg (show ¬ s = d from fun e => hd e.symm), h]
      · exact h
theorem envD_listed : ∀ (E : List Ent) (i : Nat) (l l' : Array Bool) (X : Env), (∀ j, j < E.length → l.getD (i + j) false = l'.getD (i + j) false) → envD i E l X = envD i E l' X
  | [], i, l, l', X, _ => by simp [envD]
  | e :: E, i, l, l', X, h => by
    simp only [envD]
    rw [show l.getD i false = l'.getD i false from h 0 (by simp)]
    exact envD_listed E (i + 1) l l' _ (fun j hj => by have := h (j + 1) (by simpa using hj); rwa [show i + (j + 1) = i + 1 + j by omega] at this)

theorem AFacts.get {P : Program} {N : Fm} {all : Array Oper} {sto : Sto} {env : Env} {l : List Oper} {E : List Ent} (h : AFacts P N all sto env l E) : l.length = E.length ∧ ∀ (k : Nat) (d : Nat) (q : Path) (z : AV), E[k]? = some (d, q, z) →
    ∃ o, l[k]? = some o ∧ o.dst = some d ∧ d < N.n ∧ (match o.guard with
        | none => q = []
        | some (g, b) => ∃ gs q0 c, gslot all g = some gs ∧ lookup gs ((E.take k).reverse ++ env) = some (q0, .v (.bool c)) ∧ q = (c, b) :: q0) ∧
      AOp P N (rs (o.looksAt all) ((E.take k).reverse ++ env)) sto o q z := by
  induction h with
  | nil env => exact ⟨rfl, fun k d q z h => by simp at h⟩
  | cons h1 h2 h3 h4 _ ih =>
    obtain ⟨ih1, ih2⟩ := ih
    refine ⟨by simp [ih1], fun k d q z hk => ?_⟩
    cases k with
    | zero =>
      simp only [List.getElem?_cons_zero, Option.some.injEq, Prod.mk.injEq] at hk
      obtain ⟨rfl, rfl, rfl⟩ := hk
      exact ⟨_, by simp, h1, h2, by simpa using h3, by simpa using h4⟩
    | succ k =>
      obtain ⟨o, g1, g2, g3, g4, g5⟩ := ih2 k d q z (by simpa using hk)
      exact ⟨o, by simpa using g1, g2, g3, by simpa using g4, by simpa using g5⟩

theorem wanted_iff {C : Ctx} {env : Env} {sto : Sto} {a : Act} {w : World} (hA : Abs C env sto a w) {all : Array Oper} {o : Oper} {g gs : Nat} {b c : Bool} {q : Path} (hg : o.guard = some (g, b)) (hgs : gslot all g = some gs)
    (hl : lookup gs env = some (q, .v (.bool c))) : Region.wanted o (yielded all a.tmps) = true ↔ PathHolds ((c, b) :: q) := by
  have hgt : yielded all a.tmps g = match a.tmps[gs]? with | some (.bool b) => some b | _ => none := by
    unfold gslot at hgs
    simp only [yielded, hgs, Option.bind_some]
    rfl
  have hget : a.tmps[gs]? = none ∨ a.tmps[gs]? = some (a.tmps.getD gs undef) := by
    cases h : a.tmps[gs]? with
    | none => exact .inl rfl
    | some v => right; simp [h]
  by_cases hqq : PathHolds q
  · have h1 : a.tmps.getD gs undef = .bool c := hA.slots gs q _ hl hqq
    rw [h1] at hget
    have hget' : a.tmps[gs]? = some (.bool c) := by
      rcases hget with h | h
      · have h2 : a.tmps.getD gs undef = undef := by simp [h]
        rw [h2] at h1
        cases h1
      · exact h
    simp only [Region.wanted, hg, hgt, hget', PathHolds, hqq, and_true, beq_iff_eq, Option.some.injEq]
  · have h1 := hA.envU gs q _ hl hqq
    rw [h1] at hget
    have : yielded all a.tmps g = none := by
      rw [hgt]
      rcases hget with h | h <;> rw [h] <;> rfl
    simp [Region.wanted, hg, this, PathHolds, hqq]

theorem getD_ft {l : Array Bool} {i : Nat} (h : i < l.size) : l.getD i false = l.getD i true := by
  simp [h]
theorem set_get {l : Array Bool} {i j : Nat} (hi : i < l.size) : (l.setIfInBounds i true).getD j false = if j = i then true else l.getD j false := by
  by_cases h : j = i
  · subst h; simp [hi]
  · rw [if_neg h]; simp [Array.getElem?_setIfInBounds_ne (Ne.symm h)]

theorem count_same {l : Array Bool} {i : Nat} (hi : i < l.size) : ∀ m, m ≤ i → ((List.range m).filter fun j => !(l.setIfInBounds i true).getD j false) = ((List.range m).filter fun j => !l.getD j false) := by
  intro m hm
  apply List.filter_congr
  intro j hj
  rw [set_get hi, if_neg (by have := List.mem_range.1 hj; omega)]
theorem count_set {l : Array Bool} {i : Nat} (hi : i < l.size) (hf : l.getD i false = false) : ∀ m, i < m → ((List.range m).filter fun j => !l.getD j false).length = ((List.range m).filter fun j => !(l.setIfInBounds i true).getD j false).length + 1 := by
  intro m
  induction m with
  | zero => intro h; omega
  | succ m ih =>
    intro him
    rw [List.range_succ, List.filter_append, List.filter_append, List.length_append, List.length_append]
    by_cases h : i = m
    · subst h
      rw [count_same hi i (Nat.le_refl _)]
      rw [List.filter_cons, List.filter_cons, set_get hi, if_pos rfl, hf]
      simp
    · rw [ih (by omega)]
      rw [List.filter_cons, List.filter_cons, set_get hi, if_neg (show ¬ m = i from fun e => h e.symm)]
      split <;> simp <;> omega

section
variable {P : Program} {N : Fm} {C : Ctx} {ops : Array Oper} {m : Nat} {env : Env} {sto : Sto} {E : List Ent} {K : Exit → Act → World → Prop}

theorem drawOk_spec (h : drawOk ops m = true) : m ≤ ops.size ∧ ∀ (i : Nat) (oi : Oper), ops[i]? = some oi → (∀ e ∈ oi.after, Region.binds .any e = true → e.on < i) ∧
    ∀ (j : Nat) (oj : Oper), j < i → ops[j]? = some oj → (∃ e ∈ oi.after, Region.binds .any e = true ∧ e.on = j) ∨ (i < m ∧ oi.apart ops oj = true) := by
  unfold drawOk at h
  rw [Bool.and_eq_true] at h
  refine ⟨Nat.le_of_ble_eq_true h.1, fun i oi hi => ?_⟩
  have h1 := List.all_eq_true.1 h.2 (oi, i) (by
    rw [List.mem_iff_getElem?]
    exact ⟨i, by simp [List.getElem?_zipIdx, hi]⟩)
  rw [Bool.and_eq_true] at h1
  refine ⟨fun e he hb => ?_, fun j oj hj hoj => ?_⟩
  · have h2 := List.all_eq_true.1 h1.1 e (by simpa using he)
    simp only [hb, Bool.not_true, Bool.false_or] at h2
    exact Nat.le_of_ble_eq_true h2
  · have h2 := List.all_eq_true.1 h1.2 (oj, j) (by
      rw [List.mem_iff_getElem?]
      exact ⟨j, by simp [List.getElem?_zipIdx, hj, hoj]⟩)
    rw [Bool.or_eq_true] at h2
    rcases h2 with h2 | h2
    · left
      obtain ⟨e, he, hb⟩ := List.any_eq_true.1 h2
      rw [Bool.and_eq_true] at hb
      exact ⟨e, by simpa using he, hb.1, by simpa using hb.2⟩
    · right
      rw [Bool.and_eq_true] at h2
      exact ⟨Nat.le_of_ble_eq_true h2.1, h2.2⟩

theorem least_ready (h : drawOk ops m = true) {listed : Array Bool} (hsz : listed.size = ops.size) {p : Nat} (hp : p < ops.size) (hl : ∀ j, j < p → listed.getD j false = true) (hpu : listed.getD p false = false) : p ∈ Region.ready .any ops listed := by
  rw [mem_ready]
  refine ⟨by rw [← getD_ft (by omega)]; exact hpu, ops[p], by simp [hp], fun e he hb => ?_⟩
  exact hl _ (((drawOk_spec h).2 p _ (by simp [hp])).1 e he hb)

/-- The tail, in the text's order. -/
theorem draw_tail {rn : Option Nat} (h : drawOk ops m = true) : ∀ (n p : Nat) (listed : Array Bool) (a : Act) (w : World), n + p = ops.size → m ≤ p → listed.size = ops.size → (∀ j, j < p → listed.getD j false = true) → (∀ j, p ≤ j → j < ops.size → listed.getD j false = false) →
    wpListR rn P ops K (ops.toList.drop p) a w → wpAnyIn (fr rn) 0 P .any ops K n listed a w
  | 0, p, listed, a, w, hn, hm, hsz, h1, h2, hw => by
    have hr : Region.ready .any ops listed = [] := by
      rw [List.eq_nil_iff_forall_not_mem]
      intro i hi
      obtain ⟨h3, o, ho, _⟩ := mem_ready.1 hi
      have hlt : i < ops.size := (Array.getElem?_eq_some_iff.1 ho).1
      rw [← getD_ft (by omega), h1 i (by omega)] at h3
      cases h3
    have hd : ops.toList.drop p = [] := List.drop_eq_nil_of_le (by simp; omega)
    rw [hd] at hw
    exact ⟨hr, hw⟩
  | n + 1, p, listed, a, w, hn, hm, hsz, h1, h2, hw => by
    have hp : p < ops.size := by omega
    have hrp := least_ready h hsz hp h1 (h2 p (Nat.le_refl _) hp)
    refine ⟨fun h0 => (by rw [h0] at hrp; cases hrp), fun i hi => ?_⟩
    obtain ⟨h3, o, ho, hall⟩ := mem_ready.1 hi
    have hlt : i < ops.size := (Array.getElem?_eq_some_iff.1 ho).1
    have hip : i = p := by
      rcases Nat.lt_trichotomy i p with hlt' | heq | hgt
      · rw [← getD_ft (by omega), h1 i hlt'] at h3
        cases h3
      · exact heq
      · rcases ((drawOk_spec h).2 i o ho).2 p ops[p] hgt (by simp) with ⟨e, he, hb, heq⟩ | ⟨hm', _⟩
        · have := hall e he hb
          rw [heq, h2 p (Nat.le_refl _) hp] at this
          cases this
        · omega
    subst hip
    have hdrop : ops.toList.drop i = o :: ops.toList.drop (i + 1) := by
      have : i < ops.toList.length := by simpa using hp
      rw [List.drop_eq_getElem_cons this]
      congr 1
      have := (Array.getElem?_eq_some_iff.1 ho).2
      simpa using this
    rw [hdrop] at hw
    have hw' : wpOpIn (fr rn) 0 P ops K i (wpListR rn P ops K (ops.toList.drop (i + 1))) a w := by
      unfold wpOpIn
      rw [ho]
      change wpListIn _ _ _ _ _ _ _ _ at hw
      unfold wpListIn at hw
      exact hw
    refine wpOpIn_mono (fun a' w' h' => ?_) hw'
    refine draw_tail h n (i + 1) _ a' w' (by omega) (by omega) (by simp [hsz]) (fun j hj => ?_) (fun j hj hj' => ?_) h'
    · rw [set_get (by omega)]
      split
      · rfl
      · exact h1 j (by omega)
    · rw [set_get (by omega), if_neg (by omega)]
      exact h2 j (by omega) hj'

/-- The head, in whatever order. -/
theorem draw_head (h : drawOk ops m = true) (hCN : C.fits N) (hf : AFacts P N ops sto env (ops.toList.take m) E)
    (hK : ∀ a w, Abs C (E.reverse ++ env) sto a w → wpListR C.rnd P ops K (ops.toList.drop m) a w) :
    ∀ (n : Nat) (listed : Array Bool) (a : Act) (w : World), n = (ops.size - m) + ((List.range m).filter fun j => !listed.getD j false).length → listed.size = ops.size → (∀ j, m ≤ j → j < ops.size → listed.getD j false = false) →
      (∀ j oj, ops[j]? = some oj → listed.getD j false = true → ∀ e ∈ oj.after, Region.binds .any e = true → listed.getD e.on false = true) →
      Abs C (envD 0 E listed env) sto a w → wpAnyIn (fr C.rnd) 0 P .any ops K n listed a w := by
  obtain ⟨hms, hspec⟩ := drawOk_spec h
  obtain ⟨hlen, hget⟩ := hf.get
  have hEl : E.length = m := by rw [← hlen]; simp; omega
  intro n
  induction n with
  | zero =>
    intro listed a w hn hsz htail hclosed hA
    have hm : ops.size = m := by omega
    have hall : ∀ j, j < m → listed.getD j false = true := by
      intro j hj
      have h0 : ((List.range m).filter fun j => !listed.getD j false) = [] := List.eq_nil_of_length_eq_zero (by omega)
      have := (List.filter_eq_nil_iff.1 h0) j (by simpa using hj)
      simpa using this
    refine draw_tail h 0 m listed a w (by omega) (Nat.le_refl _) hsz hall htail (hK a w (hA.le fun s q z hl => ?_))
    rw [envD_all E 0 listed env env rfl (fun j e hj _ => by rw [Nat.zero_add]; exact hall j (by rw [← hEl]; exact (List.getElem?_eq_some_iff.1 hj).1))]
    exact hl
  | succ n ih =>
    intro listed a w hn hsz htail hclosed hA
    by_cases hall : ∀ j, j < m → listed.getD j false = true
    · have h0 : ((List.range m).filter fun j => !listed.getD j false) = [] := by
        rw [List.filter_eq_nil_iff]
        intro j hj
        simp [hall j (by simpa using hj)]
      rw [h0] at hn
      refine draw_tail h (n + 1) m listed a w (by simp at hn; omega) (Nat.le_refl _) hsz hall htail (hK a w (hA.le fun s q z hl => ?_))
      rw [envD_all E 0 listed env env rfl (fun j e hj _ => by rw [Nat.zero_add]; exact hall j (by rw [← hEl]; exact (List.getElem?_eq_some_iff.1 hj).1))]
      exact hl
    · -- the least that has not come
      have hex : ∃ p, (p < m ∧ listed.getD p false = false) ∧ ∀ j, j < p → listed.getD j false = true := by
        have hex0 : ∃ p, p < m ∧ listed.getD p false = false := by
          apply Classical.byContradiction
          intro hc
          apply hall
          intro j hj
          cases hb : listed.getD j false with
          | true => rfl
          | false => exact absurd ⟨j, hj, hb⟩ hc
        obtain ⟨p, hp, hmin⟩ := exists_least hex0
        refine ⟨p, hp, fun j hj => ?_⟩
        cases hb : listed.getD j false with
        | true => rfl
        | false => have := hmin j ⟨by omega, hb⟩; omega
      obtain ⟨p, ⟨hpm, hpu⟩, hpl⟩ := hex
      have hrp := least_ready h hsz (by omega) hpl hpu
      refine ⟨fun h0 => (by rw [h0] at hrp; cases hrp), fun i hi => ?_⟩
      obtain ⟨h3, o, ho, hedges⟩ := mem_ready.1 hi
      have hlt : i < ops.size := (Array.getElem?_eq_some_iff.1 ho).1
      have hiu : listed.getD i false = false := by rw [getD_ft (by omega)]; exact h3
      have him : i < m := by
        rcases Nat.lt_or_ge i m with h' | h'
        · exact h'
        · exfalso
          rcases (hspec i o ho).2 p ops[p] (by omega) (by simp) with ⟨e, he, hb, heq⟩ | ⟨h1, _⟩
          · have := hedges e he hb
            rw [heq, hpu] at this
            cases this
          · omega
      have hEi : i < E.length := by omega
      obtain ⟨d, q, z, hE⟩ : ∃ d q z, E[i]? = some (d, q, z) := ⟨_, _, _, List.getElem?_eq_getElem hEi⟩
      obtain ⟨o', ho', hdst, hdN, hguard, haop⟩ := hget i d q z hE
      have hoo : o' = o := by
        rw [List.getElem?_take, if_pos him] at ho'
        have : ops.toList[i]? = some o := by simpa using ho
        rw [this] at ho'
        exact (Option.some.inj ho').symm
      subst hoo
      -- the entries of others
      have hother : ∀ (j : Nat) (e : Ent), E[j]? = some e → ∃ oj, ops[j]? = some oj ∧ oj.dst = some e.1 ∧ j < m := by
        intro j e hj
        obtain ⟨oj, h1, h2, _⟩ := hget j e.1 e.2.1 e.2.2 hj
        have hjm : j < m := by rw [← hEl]; exact (List.getElem?_eq_some_iff.1 hj).1
        rw [List.getElem?_take, if_pos hjm] at h1
        exact ⟨oj, by simpa using h1, h2, hjm⟩
      -- what stands behind it and has come does not write what it looks at, or writes
      have hlater : ∀ (j : Nat) (e : Ent), E[j]? = some e → i < j → listed.getD j false = true → e.1 ≠ d ∧ e.1 ∉ o'.looksAt ops := by
        intro j e hj hij hl
        obtain ⟨oj, h1, h2, h3⟩ := hother j e hj
        rcases (hspec j oj h1).2 i o' hij ho with ⟨e', he', hb, heq⟩ | ⟨_, hap⟩
        · have := hclosed j oj h1 hl e' he' hb
          rw [heq, hiu] at this
          cases this
        · obtain ⟨g1, g2, _⟩ := Oper.apart_spec hap
          refine ⟨fun heq => g2 _ h2 ?_, g1 _ h2⟩
          rw [hdst, heq]
      have hearlier : ∀ (j : Nat) (e : Ent), E[j]? = some e → j < i → e.1 ∈ o'.looksAt ops → listed.getD j false = true := by
        intro j e hj hji hmem
        obtain ⟨oj, h1, h2, h3⟩ := hother j e hj
        rcases (hspec i o' ho).2 j oj hji h1 with ⟨e', he', hb, heq⟩ | ⟨_, hap⟩
        · have := hedges e' he' hb
          rwa [heq] at this
        · obtain ⟨_, _, g3⟩ := Oper.apart_spec hap
          exact absurd hmem (g3 _ h2)
      have hsplit : E = E.take i ++ (d, q, z) :: E.drop (i + 1) := by
        rw [← (Option.some.inj ((List.getElem?_eq_getElem hEi).symm.trans hE)), ← List.drop_eq_getElem_cons hEi, List.take_append_drop]
      have htl : (E.take i).length = i := by simp; omega
      have hD : ∀ (l : Array Bool) (b : Bool), l.getD i false = b → envD 0 E l env = envD (i + 1) (E.drop (i + 1)) l (if b then (d, q, z) :: envD 0 (E.take i) l env else envD 0 (E.take i) l env) := by
        intro l b hb
        conv => lhs; rw [hsplit]
        rw [envD_append, htl, Nat.zero_add, envD, hb]
      have hlater' : ∀ (s : Nat), (∀ (j : Nat) (e : Ent), E[j]? = some e → i < j → listed.getD j false = true → e.1 ≠ s) → ∀ (j : Nat) (e : Ent), (E.drop (i + 1))[j]? = some e → listed.getD (i + 1 + j) false = true → e.1 ≠ s := by
        intro s hs j e hj hl
        rw [List.getElem?_drop] at hj
        exact hs (i + 1 + j) e hj (by omega) hl
      have hslots : ∀ t ∈ o'.looksAt ops, lookup t (envD 0 E listed env) = lookup t ((E.take i).reverse ++ env) := by
        intro t ht
        rw [hD listed false hiu, if_neg (by simp), envD_skip _ _ _ _ (hlater' t (fun j e hj hij hl he => (hlater j e hj hij hl).2 (he ▸ ht)))]
        refine envD_all (E.take i) 0 listed env env rfl (fun j e hj he => ?_)
        rw [List.getElem?_take] at hj
        split at hj
        · rename_i hji
          rw [Nat.zero_add]
          exact hearlier j e hj hji (he ▸ ht)
        · cases hj
      have hA0 : Abs C (rs (o'.looksAt ops) ((E.take i).reverse ++ env)) sto a w := hA.le (fun s q z hl => by
        rw [lookup_rs] at hl
        split at hl
        · rename_i hs
          rw [hslots s hs]
          exact hl
        · cases hl)
      have hset : ∀ s, lookup s (envD 0 E (listed.setIfInBounds i true) env) = lookup s ((d, q, z) :: envD 0 E listed env) := by
        intro s
        have hsame : ∀ j, j ≠ i → (listed.setIfInBounds i true).getD j false = listed.getD j false := fun j hj => by rw [set_get (by omega), if_neg hj]
        have e1 : envD 0 (E.take i) (listed.setIfInBounds i true) env = envD 0 (E.take i) listed env := envD_listed _ _ _ _ _ (fun j hj => by rw [Nat.zero_add]; exact hsame j (by omega))
        have e2 : ∀ X, envD (i + 1) (E.drop (i + 1)) (listed.setIfInBounds i true) X = envD (i + 1) (E.drop (i + 1)) listed X := fun X => envD_listed _ _ _ _ _ (fun j _ => hsame _ (by omega))
        rw [hD (listed.setIfInBounds i true) true (by rw [set_get (by omega), if_pos rfl]), hD listed false hiu, if_pos rfl, if_neg (by simp), e1, e2]
        by_cases hs : s = d
        · subst hs
          rw [envD_skip _ _ _ _ (hlater' s (fun j e hj hij hl => (hlater j e hj hij hl).1)), lookup_cons, lookup_cons, if_pos rfl, if_pos rfl]
        · rw [lookup_cons, if_neg hs]
          exact envD_congr _ _ _ _ _ (by rw [lookup_cons, if_neg hs])
      have hgo : ∀ v w', Abs C ((d, q, z) :: envD 0 E listed env) sto (a.put (some d) v) w' → wpAnyIn (fr C.rnd) 0 P .any ops K n (listed.setIfInBounds i true) (a.put (some d) v) w' := by
        intro v w' hA'
        refine ih _ _ _ ?_ (by simp [hsz]) (fun j hj hj' => ?_) (fun j oj hoj hl e he hb => ?_) (hA'.le (fun s q z hl => by rw [← hset]; exact hl))
        · have := count_set (l := listed) (i := i) (by omega) hiu m him
          omega
        · rw [set_get (by omega), if_neg (by omega)]
          exact htail j hj hj'
        · rw [set_get (by omega)] at hl ⊢
          split at hl
          · rename_i hji
            subst hji
            have hoo : oj = o' := Option.some.inj (hoj.symm.trans ho)
            subst hoo
            split
            · rfl
            · exact hedges e he hb
          · split
            · rfl
            · exact hclosed j oj hoj hl e he hb
      have hwp : PathHolds q → opR C.rnd P o' a w (wpAnyIn (fr C.rnd) 0 P .any ops K n (listed.setIfInBounds i true)) K := fun hq =>
        haop C a w _ _ hCN hA0 hq (fun v w' _ htrans hz => by
          rw [hdst]
          exact hgo v w' ((htrans _ hA).put (by rw [hCN.1]; exact hdN) (fun _ => hz) (fun hn => absurd hq hn)))
      unfold wpOpIn
      rw [ho]
      simp only
      cases hg : o'.guard with
      | none =>
        rw [hg] at hguard
        simp only at hguard
        subst hguard
        rw [if_pos (by simp [Region.wanted, hg])]
        exact hwp trivial
      | some gb =>
        obtain ⟨g, b⟩ := gb
        rw [hg] at hguard
        obtain ⟨gs, q0, c, h5, h6, rfl⟩ := hguard
        have hgsl : gs ∈ o'.looksAt ops := by
          unfold Oper.looksAt
          refine List.mem_append_right _ ?_
          rw [hg]
          unfold gslot at h5
          simp [h5]
        have hiff := wanted_iff hA hg h5 ((hslots gs hgsl).trans h6)
        by_cases hp : PathHolds ((c, b) :: q0)
        · rw [if_pos (hiff.2 hp)]
          exact hwp hp
        · rw [if_neg (fun h => hp (hiff.1 h)), hdst]
          refine ⟨fun _ _ => trivial, ?_⟩
          exact hgo undef w (hA.put (by rw [hCN.1]; exact hdN) (fun h => absurd h hp) (fun _ => rfl))


theorem RunSem.drawBy {P : Program} {T : Tab} (hT : TabOk P T) (hmix : P.follows .mixedOrders = true) {N : Fm} {Q : Env → Sto → Prop} {id : Nat} {ops : Array Oper} {k : List It} {env : Env} {sto : Sto} (m : Nat) (h : drawOk ops m = true)
    (hl : AList P T N ops sto (fun env' => Run P T N Q (.ops ops (ops.toList.drop m) :: k) env' sto) env (ops.toList.take m)) : RunSem P N Q (.c (.region id ops true) :: k) env sto := by
  intro C a w hN hA
  obtain ⟨E, hf, hK⟩ := hl.sound hT
  refine wpIn_region_any hmix ?_
  have hsz : (Array.replicate ops.size false).size = ops.size := by simp
  have hno : ∀ j, (Array.replicate ops.size false).getD j false = false := by
    intro j
    simp [Array.getElem?_replicate]
    split <;> rfl
  have hms := (drawOk_spec h).1
  have hEl : E.length = m := by rw [← hf.get.1]; simp; omega
  refine draw_head h hN hf (fun a w hA => hK.sound hT C a w hN hA) ops.size _ a _ ?_ hsz (fun j _ _ => hno j) (fun j oj _ hl => by rw [hno] at hl; cases hl) ?_
  · have : ((List.range m).filter fun j => !(Array.replicate ops.size false).getD j false) = List.range m := by
      rw [List.filter_eq_self]
      intro j _
      simp [hno j]
    rw [this]
    simp
    omega
  · refine Abs.le (hA.drew) (fun s q z hl => ?_)
    rw [envD_skip _ _ _ _ (fun j e _ hl => by rw [hno] at hl; cases hl)] at hl
    exact hl
end

end Go.Sx
end

section
/- Literals of slices, and slices that are made. -/


set_option linter.unusedSectionVars false
namespace Go.Sx

def zerosA (z : List Value) (sz n : Nat) : List AV := (List.range n).map fun k => .v (z.getD (k % sz) undef)

/-- A new row. -/
theorem Abs.newRow {C : Ctx} {env : Env} {sto : Sto} {a : Act} {w : World} (hA : Abs C env sto a w) {α : Type} {n : Bool} {e : TypeId} {sz len cap : Nat} {enc : α → Nat → DV} {dv : α} {xs : List α} {cells : Array Value} (hl : xs.length = len) (hlc : len ≤ cap) (hcap : cap ≤ maxLen) (hcs : cap * sz ≤ cells.size)
    (hc : ∀ i j, i < xs.length → j < sz → ∃ y, cells[i * sz + j]? = some y ∧ DAt ((C.cx sto).ok n) w (enc (xs.getD i dv) j) y) :
    Abs C env (.row (.slice (some ⟨w.heap.size, 0, none⟩) len cap) n e sz enc dv xs :: sto) a (w.alloc (.cells cells e)) := by
  have hb : ∀ b ∈ (Res.row (.slice (some ⟨w.heap.size, 0, none⟩) len cap) n e sz enc dv xs).blocks, w.heap.size ≤ b := by simp [Res.blocks, Value.ownBlock]
  refine hA.fresh (kept_alloc w _) (by simp [Res.blocks, Value.ownBlock]) hb ⟨(cells.toList.take (len * sz)), .inr ⟨w.heap.size, 0, _, _, _, rfl, heap_alloc_new w _, hlc, hcap, by omega, ?_, by rw [List.drop_zero]⟩, ?_, fun A k c h => by simp at h; rw [hl]; exact h.2.1.symm, fun i j hi hj => ?_⟩
  · have : len * sz ≤ cap * sz := Nat.mul_le_mul_right _ hlc
    simp; omega
  · have : len * sz ≤ cap * sz := Nat.mul_le_mul_right _ hlc
    simp [hl]; omega
  · obtain ⟨y, h1, h2⟩ := hc i j hi hj
    have hlt : i * sz + j < len * sz := by
      have : (i + 1) * sz ≤ xs.length * sz := Nat.mul_le_mul_right _ hi
      rw [Nat.add_mul, Nat.one_mul, hl] at this
      omega
    refine ⟨y, by rw [List.getElem?_take, if_pos hlt]; simpa using h1, h2.mono (fun b hlt hok => ?_) (by simp)⟩
    exact cx_cons hb (fun b hb => heapOld w _ b hb) n b hlt hok

section
variable {P : Program} {T : Tab} (hT : TabOk P T) {N : Fm} {Q : Env → Sto → Prop}
include hT

theorem lit_run {α : Type} {C : Ctx} {a : Act} {w : World} (enc : α → Nat → DV) (dv : α) (xs : List α) {len : Nat} {t e : TypeId} {ps : Array (Nat × Operand)} {q : Path} {env : Env} {sto : Sto} {yt ye : Ty}
    {zs : List (Nat × AV)} {cs : List AV} {n : Bool} {ds : List DV} (hA : Abs C env sto a w) (hq : PathHolds q) (ht : tget t T = some yt) (hte : yt.k = .slice e) (he : tget e T = some ye) (hsm : Nat.ble (len * ye.size) 16777216 = true) (hp : GetPs env q ps.toList zs)
    (hf : Fills ye.size (zerosA ye.zero ye.size (len * ye.size)) zs cs) (hdn : DownL cs n ds) (hds : ds = litL ye.size enc xs) :
    ∃ cells : Array Value, (Instr.buildSlice t len (ps.map fun x => (x.1, a.eval x.2))).run P w = .ok (.slice (some ⟨w.heap.size, 0, none⟩) len len) (w.alloc (.cells cells e)) ∧ cells.size = len * ye.size ∧
      ∀ i j, i < xs.length → j < ye.size → ∃ y, cells[i * ye.size + j]? = some y ∧ DAt ((C.cx sto).ok n) w (enc (xs.getD i dv) j) y := by
  obtain ⟨de, ie, hi1, hi2, hi3, hi4, hi5, hi6, hi7, _⟩ := hT _ _ he
  obtain ⟨dt, it, ht1, _, ht3, _⟩ := hT _ _ ht
  have ht1' : P.underlying t = some (.slice e) := by
    rw [hte] at ht3
    cases dt <;> simp only [TK.fits] at ht3
    subst ht3
    exact ht1
  cases hz : ie.zero with
  | none => simp [hz] at hi6
  | some zv =>
    simp only [hz, Option.map_some, Option.some.injEq] at hi6
    have hzsz : zv.cells.size = ye.size := by rw [← Array.length_toList, hi6, hi7]
    let zero : Array Value := if len * ye.size = 0 then #[] else zv.cells
    have hzeros : AAtL (C.cx sto) w (zerosA ye.zero ye.size (len * ye.size)) ((Array.range (len * ye.size)).map (zero[· % zero.size]!)).toList := by
      refine AAtL.of_get (by simp [zerosA]) (fun j z u hz' hu => ?_)
      rcases Nat.lt_or_ge j (len * ye.size) with hj | hj
      · have hne : len * ye.size ≠ 0 := by omega
        have hzero : zero = zv.cells := if_neg hne
        rw [hzero, hzsz] at hu
        simp only [zerosA, List.getElem?_map, List.getElem?_range hj, Option.map_some, Option.some.injEq] at hz'
        subst hz'
        have hpos : 0 < ye.size := Nat.pos_of_ne_zero (fun h => hne (by simp [h]))
        have hm := Nat.mod_lt j hpos
        have hjj : j % ye.size < zv.cells.size := by omega
        simp only [Array.toList_map, Array.toList_range, List.getElem?_map, List.getElem?_range hj, Option.map_some, Option.some.injEq] at hu
        subst hu
        simp only [AAt]
        rw [← hi6]
        simp [List.getD, hjj]
      · rw [List.getElem?_eq_none (by simp [zerosA]; omega)] at hz'
        cases hz'
    have hps := hp.sound hA hq
    obtain ⟨cells, h1, h2⟩ := hf.sound hps hzeros
    have hxd := hdn.sound h2 (m := n) (fun h => h)
    have hsm' := Nat.le_of_ble_eq_true hsm
    have hfill : ∀ (cells : Array Value) (us : List (Nat × Value)) (r : Array Value), Instr.fill (fun i => some (i * ye.size, ye.size)) cells us = some r → r.size = cells.size := by
      intro cells us
      induction us generalizing cells with
      | nil => intro r h; simp [Instr.fill] at h; rw [h]
      | cons p us ih =>
        intro r h
        obtain ⟨i, v⟩ := p
        rw [Instr.fill] at h
        simp only at h
        split at h
        · cases h
        · rw [ih _ _ h]
          have : ∀ (l : List (Value × Nat)) (c : Array Value), (l.foldl (fun cs x => cs.setIfInBounds (i * ye.size + x.2) x.1) c).size = c.size := by
            intro l
            induction l with
            | nil => intro c; rfl
            | cons x l ih => intro c; rw [List.foldl_cons, ih]; simp
          rw [← Array.foldl_toList]
          exact this _ _
    have hsize : cells.size = len * ye.size := by rw [hfill _ _ _ h1]; simp
    have hrun : (Instr.buildSlice t len (ps.map fun x => (x.1, a.eval x.2))).run P w = .ok (.slice (some ⟨w.heap.size, 0, none⟩) len len) (w.alloc (.cells cells e)) := by
      have hps' : (ps.map fun x => (x.1, a.eval x.2)).toList = ps.toList.map fun x => (x.1, a.eval x.2) := by simp
      have hns : ¬ (16777216 < len * ye.size) := by omega
      by_cases h0 : len * ye.size = 0
      · have hzero : zero = #[] := if_pos h0
        rw [hzero] at h1
        simp only [h0] at h1
        simp [Instr.buildSlice, run_underlying ht1', sizeOf, typeInfo, hi2, hi4, h0]
        simp only [Array.size_empty] at h1
        simp at h1
        rw [h1]
        simp [Go.newRow]
      · have hzero : zero = zv.cells := if_neg h0
        rw [hzero] at h1
        simp [Instr.buildSlice, run_underlying ht1', sizeOf, typeInfo, zeroValue, hi2, hi4, hz, h0, hns, h1, Go.newRow]
    exact ⟨cells, hrun, hsize, fun i j hi hj => by
      obtain ⟨u, hu, hd'⟩ := hxd (i * ye.size + j) _ (by rw [hds]; exact litL_get (dv := dv) hi hj)
      exact ⟨u, by simpa using hu, hd'⟩⟩

theorem RunSem.lit {α : Type} (enc : α → Nat → DV) (dv : α) (xs : List α) {all : Array Oper} {rest : List Oper} {d : Tmp} {len : Nat} {t e : TypeId} {ps : Array (Nat × Operand)} {ty : TypeId} {pos : String} {af : Array Edge} {k : List It} {env : Env} {sto : Sto} {yt ye : Ty}
    {zs : List (Nat × AV)} {cs : List AV} {n : Bool} {ds : List DV} (hd : Nat.blt d N.n = true) (ht : tget t T = some yt) (hte : yt.k = .slice e) (he : tget e T = some ye) (hsm : Nat.ble (len * ye.size) 16777216 = true) (hl1 : Nat.ble len 16777216 = true) (hp : GetPs env [] ps.toList zs)
    (hf : Fills ye.size (zerosA ye.zero ye.size (len * ye.size)) zs cs) (hdn : DownL cs n ds) (hds : ds = litL ye.size enc xs) (hlen : xs.length = len)
    (hk : ∀ v, Run P T N Q (.ops all rest :: k) ((d, [], .o v) :: env) (.row v n e ye.size enc dv xs :: sto)) :
    RunSem P N Q (.ops all ({ dst := some d, op := .buildSlice t len ps, type := ty, pos, after := af, guard := none } :: rest) :: k) env sto := by
  intro C a w hN hA
  obtain ⟨cells, hrun, hsize, hcells⟩ := lit_run hT enc dv xs hA (q := []) trivial ht hte he hsm hp hf hdn hds
  have hl1' := Nat.le_of_ble_eq_true hl1
  have hA' := hA.newRow (n := n) (e := e) (sz := ye.size) (len := len) (cap := len) (enc := enc) (dv := dv) (xs := xs) (cells := cells) hlen (Nat.le_refl _) (by simp only [maxLen]; omega) (by rw [hsize]; exact Nat.le_refl _) hcells
  refine wpList_quiet hT rfl rfl (v := .slice (some ⟨w.heap.size, 0, none⟩) len len) (w' := w.alloc (.cells cells e)) ?_ ((hk _).sound hT C _ _ hN (hA'.put0 (by rw [hN.1]; exact Nat.le_of_ble_eq_true hd) ⟨rfl, _, _, _, rfl⟩))
  simp only [execOp, Sem.run_bind]
  rw [hrun]
  rfl
end
end Go.Sx
end

section
/- Numbers. -/


namespace Go.Sx
theorem wi64 {x : Int} (h : -9223372036854775808 ≤ x ∧ x ≤ 9223372036854775807) : IntKind.i64.wrap x = x := by rw [IntKind.wrap_i64]; omega
theorem wu64 {x : Int} (h : 0 ≤ x ∧ x ≤ 18446744073709551615) : IntKind.u64.wrap x = x := by rw [IntKind.wrap_u64]; omega
theorem wu8 {x : Int} (h : 0 ≤ x ∧ x ≤ 255) : IntKind.u8.wrap x = x := by rw [IntKind.wrap_u8']; omega
theorem wu32 {x : Int} (h : 0 ≤ x ∧ x ≤ 4294967295) : IntKind.u32.wrap x = x := by rw [IntKind.wrap_u32']; omega
theorem b8 (n : Nat) : IntKind.u8.wrap (n : Int) = ((UInt8.ofNat n).toNat : Int) := by rw [IntKind.wrap_u8']; simp

theorem u8w (n : Nat) : IntKind.u8.wrap (n : Int) = ((n % 256 : Nat) : Int) := by rw [IntKind.wrap_u8']; omega
theorem u64w (n : Nat) : IntKind.u64.wrap (n : Int) = ((n % 18446744073709551616 : Nat) : Int) := by rw [IntKind.wrap_u64]; omega
theorem or8 (a b : Nat) (ha : a < 256) (hb : b < 256) : IntKind.u8.wrap ((BitVec.ofInt IntKind.u8.bits (a : Int) ||| BitVec.ofInt IntKind.u8.bits (b : Int)).toNat : Int) = ((a ||| b : Nat) : Int) := u8_or_nat a b ha hb
theorem and8 (a b : Nat) (ha : a < 256) (hb : b < 256) : IntKind.u8.wrap ((BitVec.ofInt IntKind.u8.bits (a : Int) &&& BitVec.ofInt IntKind.u8.bits (b : Int)).toNat : Int) = ((a &&& b : Nat) : Int) := u8_and_nat a b ha hb
set_option maxRecDepth 8000 in
theorem or128 : ∀ m, m < 256 → m ||| 128 = m % 128 + 128 := by decide
set_option maxRecDepth 8000 in
theorem and127 : ∀ m, m < 256 → m &&& 127 = m % 128 := by decide
theorem ofInt64N (a : Int) (h : 0 ≤ a ∧ a ≤ 18446744073709551615) : (BitVec.ofInt 64 a).toNat = a.toNat := by rw [BitVec.toNat_ofInt]; omega
theorem xor64_zero (a : Int) : (BitVec.ofInt 64 a ^^^ BitVec.ofInt 64 0).toNat = (BitVec.ofInt 64 a).toNat := by simp
theorem xor64_ones (a b : Int) (hb : BitVec.ofInt 64 b = BitVec.allOnes 64) : (BitVec.ofInt 64 a ^^^ BitVec.ofInt 64 b).toNat = 18446744073709551615 - (BitVec.ofInt 64 a).toNat := by
  rw [hb, BitVec.xor_allOnes, BitVec.toNat_not]
theorem and64_one (n : Nat) (h : n < 18446744073709551616) : (BitVec.ofInt 64 (n : Int) &&& BitVec.ofInt 64 1).toNat = n % 2 := by
  rw [BitVec.toNat_and, ofInt64N _ (by omega)]
  simp [Nat.and_one_is_mod]
theorem or64 (a b : Nat) (ha : a < 18446744073709551616) (hb : b < 18446744073709551616) : IntKind.u64.wrap ((BitVec.ofInt IntKind.u64.bits (a : Int) ||| BitVec.ofInt IntKind.u64.bits (b : Int)).toNat : Int) = ((a ||| b : Nat) : Int) := by
  have hx : a ||| b < 2 ^ 64 := Nat.or_lt_two_pow (by omega) (by omega)
  show IntKind.u64.wrap ((BitVec.ofInt 64 (a : Int) ||| BitVec.ofInt 64 (b : Int)).toNat : Int) = _
  rw [BitVec.toNat_or, ofInt64N _ (by omega), ofInt64N _ (by omega), IntKind.wrap_u64]
  simp only [Int.toNat_natCast]
  omega
theorem ones_neg : BitVec.ofInt 64 (-1) = BitVec.allOnes 64 := by apply BitVec.eq_of_toNat_eq; rw [BitVec.toNat_ofInt, BitVec.toNat_allOnes]; omega
theorem ones_max : BitVec.ofInt 64 18446744073709551615 = BitVec.allOnes 64 := by apply BitVec.eq_of_toNat_eq; rw [BitVec.toNat_ofInt, BitVec.toNat_allOnes]; omega
theorem vEq {k : IntKind} {a b : Int} (h : a = b) : AV.v (.int k a) = AV.v (.int k b) := by rw [h]
theorem fdivN (n k : Nat) : (n : Int).fdiv (k : Int) = ((n / k : Nat) : Int) := by rw [Int.fdiv_eq_ediv_of_nonneg _ (by omega)]; rfl
theorem tdivN (n k : Nat) : (n : Int).tdiv (k : Int) = ((n / k : Nat) : Int) := rfl
theorem tmodN (n k : Nat) : (n : Int).tmod (k : Int) = ((n % k : Nat) : Int) := rfl

/-- What is handed back, told by a parameter. -/
def Gives {ι : Type} (zf : ι → AV) (sf : ι → Sto) (p : ι → Prop) (z : AV) (s : Sto) : Prop := ∃ x, z = zf x ∧ s = sf x ∧ p x
theorem Ends.by {ι : Type} {zf : ι → AV} {sf : ι → Sto} {p : ι → Prop} {T : Tab} {rs : List ResultVar} {env : Env} {sto : Sto} {zs zs' : List AV} (x : ι) (h0 : isPanE env = none) (h1 : ResL T env sto rs zs) (h2 : UnwR zs (zf x) zs') (h3 : AgeL zs zs') (h4 : StoSub sto (sf x)) (h5 : p x) : Ends T rs (Gives zf sf p) env sto := by
  unfold Ends
  rw [h0]
  exact ⟨zs, zs', sf x, h1, h3, ⟨x, h2.wrap, rfl, h5⟩, h4⟩
theorem Ends.pan {R : AV → Sto → Prop} {T : Tab} {rs : List ResultVar} {v : Value} {sto s : Sto} (h1 : StoSub sto s) (h2 : R (.pan v) s) : Ends T rs R (panEnv v) sto := ⟨s, h2, h1⟩
section
variable {P : Program} {T : Tab} (hT : TabOk P T) {N : Fm} {Q : Env → Sto → Prop}
include hT
/-- A call that takes its rows, or none. -/
theorem RunSem.call {ι : Type} {zf : ι → AV} {sf : ι → Sto} {p : ι → Prop} {all : Array Oper} {rest : List Oper} {d : Tmp} {fo : Operand} {as : Array Operand} {ts : Array TypeId} {ty : TypeId} {pos : String} {af : Array Edge} {k : List It} {env : Env} {sto stoF sto1 : Sto}
    {f : FuncId} {first captured : Array Value} {zs full args : List AV} (hs : Sat P f args stoF (Gives zf sf p)) (hd : Nat.blt d N.n = true) (hf : Get env [] fo (.v (.func (.func f) first captured))) (ha : GetL env [] as.toList zs)
    (hfull : first.toList.map .v ++ zs ++ captured.toList.map .v = full) (ht : TakeP sto stoF sto1) (hp : PassL false sto1 full args) (hnp : ∀ x, panA (zf x) = false)
    (hk : ∀ x, p x → Run P T N Q (.ops all rest :: k) ((d, [], zf x) :: env) (sf x ++ sto1)) :
    RunSem P N Q (.ops all ({ dst := some d, op := .call { callee := .value fo, args := as, argTypes := ts }, type := ty, pos, after := af, guard := none } :: rest) :: k) env sto :=
  RunSem.callBy hT hd hf ha hfull ht hp hs (fun h => by cases h) (by rintro _ _ ⟨x, rfl, rfl, _⟩; exact hnp x) (by rintro _ _ ⟨x, rfl, rfl, h⟩; exact hk x h)
/-- A call to which rows are lent: what it hands back is new. -/
theorem RunSem.lend {ι : Type} {zf : ι → AV} {sf : ι → Sto} {p : ι → Prop} {all : Array Oper} {rest : List Oper} {d : Tmp} {fo : Operand} {as : Array Operand} {ts : Array TypeId} {ty : TypeId} {pos : String} {af : Array Edge} {k : List It} {env : Env} {sto stoF sto1 : Sto}
    {f : FuncId} {first captured : Array Value} {zs full args : List AV} (hs : Sat P f args stoF (Gives zf sf p)) (hfr : ∀ x, freshA (zf x) = true ∧ freshS (sf x) = true) (hd : Nat.blt d N.n = true) (hf : Get env [] fo (.v (.func (.func f) first captured))) (ha : GetL env [] as.toList zs)
    (hfull : first.toList.map .v ++ zs ++ captured.toList.map .v = full) (ht : TakeP sto stoF sto1) (hp : PassL true sto1 full args) (hnp : ∀ x, panA (zf x) = false)
    (hk : ∀ x, p x → Run P T N Q (.ops all rest :: k) ((d, [], zf x) :: env) (sf x ++ sto1)) :
    RunSem P N Q (.ops all ({ dst := some d, op := .call { callee := .value fo, args := as, argTypes := ts }, type := ty, pos, after := af, guard := none } :: rest) :: k) env sto :=
  RunSem.callBy hT hd hf ha hfull ht hp hs (fun _ => by rintro _ _ ⟨x, rfl, rfl, h⟩; exact hfr x) (by rintro _ _ ⟨x, rfl, rfl, _⟩; exact hnp x) (by rintro _ _ ⟨x, rfl, rfl, h⟩; exact hk x h)
end
end Go.Sx
end

section
/- Calls that turn nothing that is owned: under a guard, and among operations whose order is open. -/

set_option linter.unusedSectionVars false
namespace Go.Sx

/-- A function that yields one value, and nothing else. -/
def Fun1 (P : Program) (f : FuncId) (args : List AV) (z : AV) : Prop := Sat P f args [] (fun z' s => z' = z ∧ s = [])
theorem Fun1.of {P : Program} {f : FuncId} {args : List AV} {zf : Unit → AV} {sf : Unit → Sto} {p : Unit → Prop} (h : Sat P f args [] (Gives zf sf p)) (hs : sf () = []) : Fun1 P f args (zf ()) :=
  h.mono (by rintro _ _ ⟨x, rfl, rfl, _⟩; exact ⟨rfl, hs⟩)

theorem AOp.call {P : Program} {N : Fm} {env : Env} {sto : Sto} {q : Path} {lend : Bool} {d : Option Tmp} {fo : Operand} {as : Array Operand} {ts : Array TypeId} {ty : TypeId} {pos : String} {af : Array Edge} {g : Option (Nat × Bool)} {f : FuncId} {first captured : Array Value} {zs full args : List AV} {z : AV}
    (hs : Fun1 P f args z) (hf : Get env q fo (.v (.func (.func f) first captured))) (ha : GetL env q as.toList zs) (hfull : first.toList.map .v ++ zs ++ captured.toList.map .v = full) (hp : PassL lend sto full args) (hfr : lend = true → freshA z = true) (hnp : panA z = false) :
    AOp P N env sto { dst := d, op := .call { callee := .value fo, args := as, argTypes := ts }, type := ty, pos, after := af, guard := g } q z := by
  intro C a w next Q' hN hA hq hnext
  have hfv : a.eval fo = .func (.func f) first captured := hf.v hA hq
  have hr : (execOp a.eval { dst := d, op := .call { callee := .value fo, args := as, argTypes := ts }, type := ty, pos, after := af, guard := g }).run P w = .ok (.enter f (first ++ as.map a.eval ++ captured)) w := by
    simp [execOp, resolve, hfv, Deferred.ofValue, invoke, hs.1]
  refine opR_of rfl hr ?_
  simp only [upR]
  have hz := ((AAtL.vals (cx := C.cx sto) (w := w) first.toList).append (ha.sound hA hq)).append (AAtL.vals captured.toList)
  rw [hfull] at hz
  have he : first ++ as.map a.eval ++ captured = (first.toList ++ as.toList.map a.eval ++ captured.toList).toArray := by
    apply Array.ext'
    simp
  rw [he]
  refine (hA.call (.nil sto) hz hp hs (fun h z' s hR => by obtain ⟨rfl, rfl⟩ := hR; exact ⟨hfr h, rfl⟩)).mono ?_
  rintro e w' ⟨z', s, ⟨rfl, rfl⟩, hA', hzo⟩
  obtain ⟨v, rfl, hzv⟩ := hzo.inv hnp
  exact hnext v w' (hA' _ hA) hA' hzv

section
variable {P : Program} {T : Tab} (hT : TabOk P T) {N : Fm} {Q : Env → Sto → Prop}
include hT

theorem RunSem.ofAOpG {all : Array Oper} {rest : List Oper} {d gs : Tmp} {g : Nat} {b c : Bool} {q : Path} {op : Op} {ty : TypeId} {pos : String} {af : Array Edge} {k : List It} {env : Env} {sto : Sto} {z : AV} (hd : Nat.blt d N.n = true) (hgs : gslot all g = some gs)
    (hl : lookup gs env = some (q, .v (.bool c))) (hop : AOp P N env sto { dst := some d, op, type := ty, pos, after := af, guard := some (g, b) } ((c, b) :: q) z)
    (hk : Run P T N Q (.ops all rest :: k) ((d, (c, b) :: q, z) :: env) sto) : RunSem P N Q (.ops all ({ dst := some d, op, type := ty, pos, after := af, guard := some (g, b) } :: rest) :: k) env sto := by
  intro C a w hN hA
  have hdlt : d < C.N := by rw [hN.1]; exact Nat.le_of_ble_eq_true hd
  have hiff := wanted_iff (o := { dst := some d, op, type := ty, pos, after := af, guard := some (g, b) }) hA rfl hgs hl
  by_cases hh : PathHolds ((c, b) :: q)
  · refine wpListR_yes (hiff.2 hh) ?_
    exact hop C a w _ _ hN hA hh (fun v w' hA' _ hz => hk.sound hT C _ _ hN (hA'.put hdlt (fun _ => hz) (fun hn => absurd hh hn)))
  · refine wpListR_no (fun h => hh (hiff.1 h)) ?_
    exact hk.sound hT C _ _ hN (hA.put hdlt (fun h => absurd h hh) (fun _ => rfl))

/-- A guarded call. -/
theorem RunSem.callG {lend : Bool} {all : Array Oper} {rest : List Oper} {d gs : Tmp} {g : Nat} {b c : Bool} {q : Path} {fo : Operand} {as : Array Operand} {ts : Array TypeId} {ty : TypeId} {pos : String} {af : Array Edge} {k : List It} {env : Env} {sto : Sto} {z : AV}
    {f : FuncId} {first captured : Array Value} {zs full args : List AV} (hs : Fun1 P f args z) (hfr : lend = true → freshA z = true) (hnp : panA z = false) (hd : Nat.blt d N.n = true) (hgs : gslot all g = some gs) (hl : lookup gs env = some (q, .v (.bool c)))
    (hf : Get env ((c, b) :: q) fo (.v (.func (.func f) first captured))) (ha : GetL env ((c, b) :: q) as.toList zs) (hfull : first.toList.map .v ++ zs ++ captured.toList.map .v = full) (hp : PassL lend sto full args)
    (hk : Run P T N Q (.ops all rest :: k) ((d, (c, b) :: q, z) :: env) sto) :
    RunSem P N Q (.ops all ({ dst := some d, op := .call { callee := .value fo, args := as, argTypes := ts }, type := ty, pos, after := af, guard := some (g, b) } :: rest) :: k) env sto :=
  RunSem.ofAOpG hT hd hgs hl (AOp.call hs hf ha hfull hp hfr hnp) hk
end

theorem Get.rs {env : Env} {q : Path} {x : Operand} {z : AV} {ts : List Tmp} (h : Get env q x z) (hm : ∀ t, x = .tmp t → t ∈ ts) : Get (rs ts env) q x z := h.congr (fun t ht => by rw [lookup_rs, if_pos (hm t ht)])
theorem GetL.rs {env : Env} {q : Path} {xs : List Operand} {zs : List AV} {ts : List Tmp} (h : GetL env q xs zs) (hm : ∀ t, Operand.tmp t ∈ xs → t ∈ ts) : GetL (rs ts env) q xs zs := by
  induction h with
  | nil => exact .nil
  | cons h1 _ ih => exact .cons (h1.rs (fun t ht => hm t (by simp [ht]))) (ih (fun t ht => hm t (by simp [ht])))

section
variable {P : Program} {T : Tab} (hT : TabOk P T) {N : Fm}
include hT

theorem AListSem.call {lend : Bool} {all : Array Oper} {rest : List Oper} {d : Tmp} {fo : Operand} {as : Array Operand} {ts : Array TypeId} {ty : TypeId} {pos : String} {af : Array Edge} {K : Env → Prop} {env : Env} {sto : Sto} {z : AV}
    {f : FuncId} {first captured : Array Value} {zs full args : List AV} (hs : Fun1 P f args z) (hfr : lend = true → freshA z = true) (hnp : panA z = false) (hd : Nat.blt d N.n = true)
    (hf : Get env [] fo (.v (.func (.func f) first captured))) (ha : GetL env [] as.toList zs) (hfull : first.toList.map .v ++ zs ++ captured.toList.map .v = full) (hp : PassL lend sto full args)
    (hk : AList P T N all sto K ((d, [], z) :: env) rest) :
    AListSem P N all sto K env ({ dst := some d, op := .call { callee := .value fo, args := as, argTypes := ts }, type := ty, pos, after := af, guard := none } :: rest) := by
  obtain ⟨E, h1, h2⟩ := hk.sound hT
  refine ⟨_, .cons rfl (Nat.le_of_ble_eq_true hd) rfl (AOp.call hs (hf.rs fun t ht => ?_) (ha.rs fun t ht => ?_) hfull hp hfr hnp) h1, by simpa using h2⟩
  · refine opSlots_looks (mem_opSlots.2 ?_)
    simp [Op.operands, Call.operands, ht]
  · refine opSlots_looks (mem_opSlots.2 ?_)
    simp [Op.operands, Call.operands, ht]

theorem AListSem.callG {lend : Bool} {all : Array Oper} {rest : List Oper} {d gs : Tmp} {g : Nat} {b c : Bool} {q : Path} {fo : Operand} {as : Array Operand} {ts : Array TypeId} {ty : TypeId} {pos : String} {af : Array Edge} {K : Env → Prop} {env : Env} {sto : Sto} {z : AV}
    {f : FuncId} {first captured : Array Value} {zs full args : List AV} (hs : Fun1 P f args z) (hfr : lend = true → freshA z = true) (hnp : panA z = false) (hd : Nat.blt d N.n = true) (hgs : gslot all g = some gs) (hl : lookup gs env = some (q, .v (.bool c)))
    (hf : Get env ((c, b) :: q) fo (.v (.func (.func f) first captured))) (ha : GetL env ((c, b) :: q) as.toList zs) (hfull : first.toList.map .v ++ zs ++ captured.toList.map .v = full) (hp : PassL lend sto full args)
    (hk : AList P T N all sto K ((d, (c, b) :: q, z) :: env) rest) :
    AListSem P N all sto K env ({ dst := some d, op := .call { callee := .value fo, args := as, argTypes := ts }, type := ty, pos, after := af, guard := some (g, b) } :: rest) := by
  obtain ⟨E, h1, h2⟩ := hk.sound hT
  refine ⟨_, .cons rfl (Nat.le_of_ble_eq_true hd) ⟨_, _, _, hgs, hl, rfl⟩ (AOp.call hs (hf.rs fun t ht => ?_) (ha.rs fun t ht => ?_) hfull hp hfr hnp) h1, by simpa using h2⟩
  · refine opSlots_looks (mem_opSlots.2 ?_)
    simp [Op.operands, Call.operands, ht]
  · refine opSlots_looks (mem_opSlots.2 ?_)
    simp [Op.operands, Call.operands, ht]
end

/-! ### What is new, as data -/
theorem Abs.grow {C : Ctx} {env : Env} {sto : Sto} {a : Act} {w w' : World} (h : Abs C env sto a w) (hk : Kept [] w w') : Abs C env sto a w' := by
  have hb : ∀ b, b < w.heap.size → w'.heap[b]? = w.heap[b]? := fun b hb => hk.block b hb (by simp)
  exact h.step ⟨hk.os, hk.tape, hk.output, hk.size, fun k hk' _ => hb k hk'⟩ h.nodup (fun b hb => .inl hb)
    (fun r hr => RAt.mono (fun n b hlt hok => ⟨hok, hb b hlt⟩) hk.size (fun b hb' => hb b ((h.res r hr).lt b hb')) (h.res r hr)) (fun _ _ h => h)

theorem Abs.newData {C : Ctx} {env : Env} {sto : Sto} {a : Act} {w : World} (hA : Abs C env sto a w) {α : Type} {n : Bool} {e : TypeId} {sz len : Nat} {enc : α → Nat → DV} {dv : α} {xs : List α} {cells : Array Value} (hl : xs.length = len)
    (hc : ∀ i j, i < xs.length → j < sz → ∃ y, cells[i * sz + j]? = some y ∧ DAt ((C.cx sto).ok n) w (enc (xs.getD i dv) j) y) :
    AAt (C.cx sto) (w.alloc (.cells cells e)) (.d n sz enc dv xs) (.slice (some ⟨w.heap.size, 0, none⟩) len len) := by
  subst hl
  simp only [AAt]
  refine DAt.of_cells ⟨fun hm => ?_, fun hx => ?_, fun _ => Nat.le_trans hA.base hA.kept.size⟩ (by simp) (Nat.le_refl _) (fun i j hi hj => ?_)
  · have := hA.lt _ hm
    simp at this
  · have h1 := hA.xlt _ hx
    have h2 := hA.kept.size
    simp at h1
    omega
  · obtain ⟨y, h1, h2⟩ := hc i j hi hj
    refine ⟨y, by rw [add_none, Nat.zero_add, cell_of_heap (heap_alloc_new w _)]; exact h1, h2.mono (fun b hb hok => ⟨hok, heapOld w _ b hb⟩) (by simp)⟩

/-- What a function hands back as a row of its own is new data. -/
theorem Sat.freeze {P : Program} {f : FuncId} {args : List AV} {α : Type} {e : TypeId} {sz : Nat} {enc : α → Nat → DV} {dv : α} {xs : List α}
    (h : Sat P f args [] (Gives (fun v => .o v) (fun v => [.row v true e sz enc dv xs]) (fun _ => True))) : Fun1 P f args (.d true sz enc dv xs) := by
  refine ⟨h.1, fun X w vs h1 h2 h3 h4 h5 => (h.2 X w vs h1 h2 h3 h4 h5).mono ?_⟩
  rintro e' w' ⟨z, s, ⟨v, rfl, rfl, _⟩, hk, hn, hsrc, hres, ho⟩
  obtain ⟨u, rfl, hu⟩ := ho.inv rfl
  refine ⟨_, [], ⟨rfl, rfl⟩, hk, by simp [blocksOf], fun b hb => by simp [blocksOf] at hb, (fun r hr => by cases hr), OutA.ret (v := u) ?_⟩
  simp only [AAt] at hu ⊢
  obtain ⟨rfl, _⟩ := hu
  refine row_data (hres _ (List.mem_cons_self ..)) (fun b _ hok => ⟨by simp [cxOf, blocksOf], hok.2⟩) (fun b hb => ?_)
  have hb' : w.heap.size ≤ b := by
    rcases hsrc b (by simpa [blocksOf, Res.blocks] using hb) with h | h
    · simp [blocksOf] at h
    · exact h
  exact ⟨by simp [cxOf, blocksOf], fun hx => by have := h1 b hx; omega, fun _ => hb'⟩

section
variable {P : Program} {T : Tab} (hT : TabOk P T) {N : Fm}
include hT
theorem GetPs.rs {env : Env} {q : Path} {ps : List (Nat × Operand)} {zs : List (Nat × AV)} {ts : List Tmp} (h : GetPs env q ps zs) (hm : ∀ t, Operand.tmp t ∈ ps.map (·.2) → t ∈ ts) : GetPs (Go.Sx.rs ts env) q ps zs := by
  induction h with
  | nil => exact .nil
  | cons h1 _ ih => exact .cons (h1.rs (fun t ht => hm t (by simp [ht]))) (ih (fun t ht => hm t (by simp only [List.map_cons, List.mem_cons]; exact .inr ht)))

theorem AListSem.lit {α : Type} (enc : α → Nat → DV) (dv : α) (xs : List α) {all : Array Oper} {rest : List Oper} {d : Tmp} {len : Nat} {t e : TypeId} {ps : Array (Nat × Operand)} {ty : TypeId} {pos : String} {af : Array Edge} {K : Env → Prop} {env : Env} {sto : Sto} {yt ye : Ty}
    {zs : List (Nat × AV)} {cs : List AV} {n : Bool} {ds : List DV} (hd : Nat.blt d N.n = true) (ht : tget t T = some yt) (hte : yt.k = .slice e) (he : tget e T = some ye) (hsm : Nat.ble (len * ye.size) 16777216 = true) (hp : GetPs env [] ps.toList zs)
    (hf : Fills ye.size (zerosA ye.zero ye.size (len * ye.size)) zs cs) (hdn : DownL cs n ds) (hds : ds = litL ye.size enc xs) (hlen : xs.length = len)
    (hk : AList P T N all sto K ((d, [], .d n ye.size enc dv xs) :: env) rest) :
    AListSem P N all sto K env ({ dst := some d, op := .buildSlice t len ps, type := ty, pos, after := af, guard := none } :: rest) := by
  obtain ⟨E, h1, h2⟩ := hk.sound hT
  refine ⟨_, .cons rfl (Nat.le_of_ble_eq_true hd) rfl ?_ h1, by simpa using h2⟩
  intro C a w next Q' hN hA hq hnext
  have hp' := hp.rs hT (ts := ({ dst := some d, op := .buildSlice t len ps, type := ty, pos, after := af, guard := none } : Oper).looksAt all) (fun t ht => by
    refine opSlots_looks (mem_opSlots.2 ?_)
    simpa [Op.operands] using ht)
  obtain ⟨cells, hrun, _, hcells⟩ := lit_run hT enc dv xs hA hq ht hte he hsm hp' hf hdn hds
  have hr : (execOp a.eval { dst := some d, op := .buildSlice t len ps, type := ty, pos, after := af, guard := none }).run P w = .ok (.value (.slice (some ⟨w.heap.size, 0, none⟩) len len)) (w.alloc (.cells cells e)) := by
    simp only [execOp, Sem.run_bind]
    rw [hrun]
    rfl
  refine opR_of rfl hr ?_
  exact hnext _ _ (hA.grow (kept_alloc w _)) (fun env' h => h.grow (kept_alloc w _)) (hA.newData hlen hcells)
end
end Go.Sx
end

section
/- Stores into rows that are owned. -/

set_option linter.unusedSectionVars false
namespace Go.Sx

theorem Abs.setRow {P : Program} {T : Tab} (hT : TabOk P T) {C : Ctx} {env : Env} {sto rest : Sto} {a : Act} {w : World} (hA : Abs C env sto a w) {α : Type} {v : Value} {n n' : Bool} {e : TypeId} {sz i j : Nat} {enc : α → Nat → DV} {dv : α} {xs : List α}
    (hp : Pull v n e sz enc dv xs sto rest) {t : TypeId} {y : Ty} (ht : tget t T = some y) {u : Value} (hu : AAt (C.cx sto) w (.e v sz i j) u) {z : Value} {zs : List AV} {ds : List DV} (hz : AAtL (C.cx sto) w zs z.cells.toList)
    (hl : zs.length = y.size) (hd : DownL zs n' ds) (x' : α) (hj : j + ds.length ≤ sz) (hnew : ∀ k, k < sz → enc x' k = if j ≤ k ∧ k < j + ds.length then ds.getD (k - j) (.v undef) else enc (xs.getD i dv) k) :
    ∃ w', (Instr.storeAt t u z).run P w = .ok () w' ∧ Abs C env (.row v (n && n') e sz enc dv (xs.set i x') :: rest) a w' := by
  obtain ⟨hm, hrest, hperm⟩ := hp.mem
  simp only [AAt] at hu
  obtain ⟨ad, len, cap, hv, hi, hjs, rfl⟩ := hu
  have hR := hA.res _ hm
  have hR' := hR
  obtain ⟨vals, h1, h2, h3, h4⟩ := hR'
  have hlen := h3 _ _ _ hv
  rcases h1 with ⟨rfl, rfl⟩ | ⟨g, o, n0, cap0, cur, hv', hg, hn0, hm0, hc0, hl0, hvals⟩
  · simp at hv
  · rw [hv'] at hv
    simp only [Value.slice.injEq, Option.some.injEq] at hv
    obtain ⟨rfl, rfl, rfl⟩ := hv
    have hdl : ds.length = z.cells.toList.length := by
      rw [← hz.length]
      clear hnew hj hz hl
      induction hd with
      | nil => rfl
      | cons _ _ ih => simp [ih]
    have hone : ∀ q ∈ z.cells.toList, q.oneCell' = true := by
      intro q hq
      obtain ⟨k, hk, rfl⟩ := List.mem_iff_getElem.1 hq
      obtain ⟨q', h5, h6⟩ := hd.sound hz (m := n') (fun h => h) k _ (List.getElem?_eq_getElem (by omega))
      rw [List.getElem?_eq_getElem hk] at h5
      simp only [Option.some.injEq] at h5
      rw [h5]
      exact oneV_one h6.inv_one
    have hmul : i * sz + sz ≤ n0 * sz := by
      have : (i + 1) * sz ≤ n0 * sz := Nat.mul_le_mul_right _ hi
      rw [Nat.add_mul, Nat.one_mul] at this
      exact this
    have hmul2 : n0 * sz ≤ cap0 * sz := Nat.mul_le_mul_right _ hn0
    have hrun := run_storeCells_at P g (o + (i * sz + j)) e z.cells.toList 0 cur w hg (by omega) hone
    simp only [Nat.add_zero] at hrun
    have hlt : g < w.heap.size := (Array.getElem?_eq_some_iff.1 hg).1
    have hown : g ∈ blocksOf sto := hperm.mem_iff.2 (List.mem_append_left _ (by rw [hv']; simp [Value.ownBlock]))
    have hbs : (blocksOf sto).Perm (blocksOf (.row v (n && n') e sz enc dv (xs.set i x') :: rest)) := hperm
    have hnd := hbs.nodup_iff.1 hA.nodup
    have hnd' := hperm.nodup_iff.1 hA.nodup
    have hmem : ∀ b, b ∈ blocksOf (.row v (n && n') e sz enc dv (xs.set i x') :: rest) ↔ b ∈ blocksOf sto := fun b => (hbs.mem_iff).symm
    generalize hcur : (cur.toList.take (o + (i * sz + j)) ++ z.cells.toList ++ cur.toList.drop (o + (i * sz + j) + z.cells.toList.length)).toArray = cur'
    have hcur'l : cur'.size = cur.size := by
      rw [← hcur]
      simp only [List.size_toArray, List.length_append, List.length_take, List.length_drop, Array.length_toList] at *
      omega
    have hget : ∀ q, q < cur.size → cur'[q]? = if o + (i * sz + j) ≤ q ∧ q < o + (i * sz + j) + ds.length then z.cells.toList[q - (o + (i * sz + j))]? else cur[q]? := by
      intro q hq
      rw [← hcur, List.getElem?_toArray, List.getElem?_append, List.getElem?_append, List.getElem?_take, List.getElem?_drop]
      have hl1 : (cur.toList.take (o + (i * sz + j))).length = o + (i * sz + j) := by rw [List.length_take, Array.length_toList]; omega
      rw [List.length_append, hl1, ← hdl]
      rcases Nat.lt_or_ge q (o + (i * sz + j)) with h5 | h5
      · rw [if_pos (by omega : q < o + (i * sz + j) + ds.length), if_pos h5, if_pos h5, if_neg (fun h => by omega)]; simp
      · rcases Nat.lt_or_ge q (o + (i * sz + j) + ds.length) with h6 | h6
        · rw [if_pos h6, if_neg (by omega : ¬ q < o + (i * sz + j)), if_pos ⟨h5, h6⟩]
        · rw [if_neg (by omega : ¬ q < o + (i * sz + j) + ds.length), if_neg (fun h => by omega), show o + (i * sz + j) + ds.length + (q - (o + (i * sz + j) + ds.length)) = q by omega]; simp
    rw [hcur] at hrun
    have hF : ∀ m k, k < w.heap.size → (C.cx sto).ok m k → (C.cx (.row v (n && n') e sz enc dv (xs.set i x') :: rest)).ok m k ∧ (w.setRow g cur').heap[k]? = w.heap[k]? := by
      intro m k _ hok
      exact ⟨⟨fun h => hok.1 ((hmem k).1 h), hok.2⟩, setRow_other w g k _ (fun e => hok.1 (e ▸ hown))⟩
    have hsize : (w.setRow g cur').heap.size = w.heap.size := by simp [World.setRow]
    refine ⟨w.setRow g cur', ?_, ?_⟩
    · have hszt : (sizeOf t).run P w = .ok z.cells.size w := by rw [run_size (hT _ _ ht), ← hl, hz.length]; simp
      rw [add_none]
      simp only [Instr.storeAt, Instr.sureAddr, Sem.run_bind, Sem.run_pure, Result.andThen_ok, storeVar, hszt]
      simpa using hrun
    · refine hA.step ⟨rfl, rfl, rfl, by rw [hsize]; exact Nat.le_refl _, fun k _ hk => setRow_other w g k _ (fun e => hk (e ▸ hown))⟩ hnd (fun b hb => .inl ((hmem b).1 hb)) ?_ (fun b _ hb => (hmem b).1 hb)
      intro r hr
      rcases List.mem_cons.1 hr with rfl | hr
      · refine ⟨(cur'.toList.drop o).take (n0 * sz), .inr ⟨g, o, n0, cap0, cur', hv', setRow_heap w g cur _ e _ hg, hn0, hm0, by omega, ?_, rfl⟩, ?_, fun A m c h => by rw [List.length_set]; exact h3 A m c h, fun p q hp' hq => ?_⟩
        · simp; omega
        · rw [List.length_set, ← hlen]; simp; omega
        · rw [List.length_set] at hp'
          have hpq : p * sz + q < n0 * sz := by
            have : (p + 1) * sz ≤ xs.length * sz := Nat.mul_le_mul_right _ hp'
            rw [Nat.add_mul, Nat.one_mul, ← hlen] at this
            omega
          have hg1 : ((cur'.toList.drop o).take (n0 * sz))[p * sz + q]? = cur'[o + (p * sz + q)]? := by
            rw [List.getElem?_take, if_pos hpq, List.getElem?_drop]; simp
          rw [hg1, hget _ (by omega)]
          obtain ⟨y0, hy1, hy2⟩ := h4 p q hp' hq
          have hy1' : cur[o + (p * sz + q)]? = some y0 := by
            rw [hvals, List.getElem?_take, if_pos hpq, List.getElem?_drop] at hy1
            simpa using hy1
          by_cases hpi : p = i
          · subst hpi
            have hset : (xs.set p x').getD p dv = x' := by simp [List.getD, hp']
            rw [hset, hnew q hq]
            by_cases hin : j ≤ q ∧ q < j + ds.length
            · rw [if_pos (by omega), if_pos hin]
              have hk : q - j < ds.length := by omega
              obtain ⟨y1, h5, h6⟩ := hd.sound hz (m := n && n') (fun h => by simp only [Bool.and_eq_true] at h; exact h.2) (q - j) _ (List.getElem?_eq_getElem hk)
              refine ⟨y1, by rw [show o + (p * sz + q) - (o + (p * sz + j)) = q - j by omega]; exact h5, ?_⟩
              rw [List.getD, List.getElem?_eq_getElem hk]
              exact h6.mono (fun b hb hok => hF _ b hb hok) (by rw [hsize]; exact Nat.le_refl _)
            · rw [if_neg (by omega), if_neg hin]
              exact ⟨y0, hy1', hy2.mono (fun b hb hok => ⟨⟨(hF n b hb hok).1.1, (hF n b hb hok).1.2.1, fun h => (hF n b hb hok).1.2.2 (by simp only [Bool.and_eq_true] at h; exact h.1)⟩, (hF n b hb hok).2⟩) (by rw [hsize]; exact Nat.le_refl _)⟩
          · have hset : (xs.set i x').getD p dv = xs.getD p dv := by simp [List.getD, List.getElem?_set, Ne.symm hpi]
            rw [hset]
            have hout : ¬ (o + (i * sz + j) ≤ o + (p * sz + q) ∧ o + (p * sz + q) < o + (i * sz + j) + ds.length) := by
              intro hin
              rcases Nat.lt_or_gt_of_ne hpi with h5 | h5
              · have : (p + 1) * sz ≤ i * sz := Nat.mul_le_mul_right _ h5
                rw [Nat.add_mul, Nat.one_mul] at this
                omega
              · have : (i + 1) * sz ≤ p * sz := Nat.mul_le_mul_right _ h5
                rw [Nat.add_mul, Nat.one_mul] at this
                omega
            rw [if_neg hout]
            exact ⟨y0, hy1', hy2.mono (fun b hb hok => ⟨⟨(hF n b hb hok).1.1, (hF n b hb hok).1.2.1, fun h => (hF n b hb hok).1.2.2 (by simp only [Bool.and_eq_true] at h; exact h.1)⟩, (hF n b hb hok).2⟩) (by rw [hsize]; exact Nat.le_refl _)⟩
      · refine RAt.mono hF (by rw [hsize]; exact Nat.le_refl _) (fun b hb => setRow_other w g b _ (fun e => ?_)) (hA.res r (hrest r hr))
        subst e
        exact (List.nodup_append.1 hnd').2.2 b (by rw [hv']; simp [Value.ownBlock]) b (List.mem_flatMap.2 ⟨r, hr, hb⟩) rfl

/-- An element's cells behind a store, one by one. -/
inductive StoreC (f old : Nat → DV) (j : Nat) (ds : List DV) : Nat → Prop where
  | zero : StoreC f old j ds 0
  | succ {k : Nat} : f k = (if j ≤ k ∧ k < j + ds.length then ds.getD (k - j) (.v undef) else old k) → StoreC f old j ds k → StoreC f old j ds (k + 1)
theorem StoreC.all {f old : Nat → DV} {j : Nat} {ds : List DV} {n : Nat} (h : StoreC f old j ds n) : ∀ k, k < n → f k = if j ≤ k ∧ k < j + ds.length then ds.getD (k - j) (.v undef) else old k := by
  induction h with
  | zero => intro k hk; omega
  | succ h1 _ ih =>
    intro k hk
    rcases Nat.lt_succ_iff_lt_or_eq.1 hk with h | h
    · exact ih k h
    · subst h; exact h1
section
variable {P : Program} {T : Tab} (hT : TabOk P T) {N : Fm} {Q : Env → Sto → Prop}
include hT
/-- A store into an element of a row; the element comes to x'. -/
theorem RunSem.storeE {α : Type} (x' : α) {all : Array Oper} {rest : List Oper} {t : TypeId} {x z : Operand} {ty : TypeId} {pos : String} {af : Array Edge} {k : List It} {env : Env} {sto sto' : Sto} {v : Value} {n n' : Bool} {e : TypeId} {sz i j : Nat} {enc : α → Nat → DV} {dv : α} {xs : List α}
    {zz : AV} {zs : List AV} {ds : List DV} {y : Ty} (hx : Get env [] x (.e v sz i j)) (hz : Get env [] z zz) (hzs : cellsA zz = some zs) (ht : tget t T = some y) (hl : Nat.beq zs.length y.size = true) (hd : DownL zs n' ds) (hp : Pull v n e sz enc dv xs sto sto')
    (hj : Nat.ble (j + ds.length) sz = true) (hnew : StoreC (enc x') (enc (xs.getD i dv)) j ds sz)
    (hk : Run P T N Q (.ops all rest :: k) env (.row v (n && n') e sz enc dv (xs.set i x') :: sto')) :
    RunSem P N Q (.ops all ({ dst := none, op := .store t x z, type := ty, pos, after := af, guard := none } :: rest) :: k) env sto := by
  intro C a w hN hA
  have hzz := cellsA_at hzs (hz.sound hA (q := []) trivial)
  obtain ⟨w', hrun, hA'⟩ := hA.setRow hT hp ht (hx.sound hA (q := []) trivial) hzz.1 (Nat.eq_of_beq_eq_true hl) hd x' (Nat.le_of_ble_eq_true hj) hnew.all
  refine wpListR_yes (by simp [Region.wanted]) ?_
  have hr : (execOp a.eval { dst := none, op := .store t x z, type := ty, pos, after := af, guard := none }).run P w = .ok .skip w' := by
    simp only [execOp, Sem.run_bind, hrun]
    rfl
  refine opR_of rfl hr ?_
  exact hk.sound hT C _ _ hN hA'
end
end Go.Sx
end

section
/- Maps that are made and turned. -/

set_option linter.unusedSectionVars false
namespace Go.Sx

inductive PullM {κ α : Type} (r : Nat) (n : Bool) (kk : κ → Value) (agg : Bool) (sz : Nat) (enc : α → Nat → DV) (es : List (κ × α)) : Sto → Sto → Prop where
  | head {s : Sto} : PullM r n kk agg sz enc es (.mp r n kk agg sz enc es :: s) s
  | tail {x : Res} {s s' : Sto} : PullM r n kk agg sz enc es s s' → PullM r n kk agg sz enc es (x :: s) (x :: s')
theorem PullM.mem {κ α : Type} {r : Nat} {n : Bool} {kk : κ → Value} {agg : Bool} {sz : Nat} {enc : α → Nat → DV} {es : List (κ × α)} {s s' : Sto} (h : PullM r n kk agg sz enc es s s') :
    Res.mp r n kk agg sz enc es ∈ s ∧ (∀ x ∈ s', x ∈ s) ∧ (blocksOf s).Perm ([r] ++ blocksOf s') := by
  induction h with
  | head => exact ⟨by simp, fun r hr => by simp [hr], List.Perm.refl _⟩
  | tail _ ih =>
    rename_i x s s' _
    obtain ⟨h1, h2, h3⟩ := ih
    refine ⟨by simp [h1], fun r hr => by rcases List.mem_cons.1 hr with rfl | hr; simp; simp [h2 r hr], ?_⟩
    show (x.blocks ++ blocksOf s).Perm ([r] ++ (x.blocks ++ blocksOf s'))
    refine ((List.Perm.append_left x.blocks h3).trans ?_)
    rw [← List.append_assoc, ← List.append_assoc]
    exact List.Perm.append_right _ List.perm_append_comm

/-- A value that is laid as an element. -/
inductive DownV (sz : Nat) (f : Nat → DV) : Bool → AV → Bool → Prop where
  | one {z : AV} {n : Bool} {d : DV} : downD z = some (n, d) → d = f 0 → DownV sz f false z n
  | agg {zs : List AV} {n : Bool} {ds : List DV} : DownL zs n ds → ds = (List.range sz).map f → DownV sz f true (.g zs) n
theorem DownL.length {zs : List AV} {n : Bool} {ds : List DV} (h : DownL zs n ds) : ds.length = zs.length := by
  induction h with
  | nil => rfl
  | cons _ _ ih => simp [ih]
theorem DownV.at {cx : Cx} {w : World} {sz : Nat} {f : Nat → DV} {agg n m : Bool} {z : AV} {u : Value} (h : DownV sz f agg z n) (hz : AAt cx w z u) (hm : m = true → n = true) : AAt cx w (valA m agg sz f) u := by
  cases h with
  | one h1 h2 =>
    have := downD_at h1 hz hm
    rw [h2] at this
    exact upD_at this
  | agg h1 h2 =>
    simp only [AAt] at hz
    obtain ⟨arr, rfl, h3⟩ := hz
    simp only [valA, AAt]
    refine ⟨arr, rfl, ?_⟩
    have hl := h1.length
    have hl2 := h3.length
    subst h2
    simp only [List.length_map, List.length_range] at hl
    refine AAtL.of_get (by simp only [List.length_map, List.length_range]; omega) (fun j z' u' hz' hu' => ?_)
    rw [List.getElem?_map] at hz'
    cases hj : (List.range sz)[j]? with
    | none => simp [hj] at hz'
    | some j' =>
      rw [hj] at hz'
      have hjj : j < sz ∧ j' = j := by
        rw [List.getElem?_eq_some_iff] at hj
        obtain ⟨h1, h2⟩ := hj
        exact ⟨by simpa using h1, by simpa using h2.symm⟩
      obtain ⟨hlt, rfl⟩ := hjj
      simp at hz'
      subst hz'
      obtain ⟨u'', k1, k2⟩ := h1.sound h3 hm j' _ (by rw [List.getElem?_map, List.getElem?_range hlt]; rfl)
      rw [k1] at hu'
      cases hu'
      exact upD_at k2

theorem Abs.setMap {P : Program} {C : Ctx} {env : Env} {sto rest : Sto} {a : Act} {w : World} (hA : Abs C env sto a w) {κ α : Type} [DecidableEq κ] {r : Nat} {n n' : Bool} {kk : κ → Value} {agg : Bool} {sz : Nat} {enc : α → Nat → DV} {es : List (κ × α)} {kt : TypeId} (hK : KeyOk P kt kk) (hp : PullM r n kk agg sz enc es sto rest) {t et : TypeId}
    (ht : P.underlying t = some (.map kt et)) (k : κ) {v : α} {u : Value} {z : AV} (hd : DownV sz (enc v) agg z n') (hu : AAt (C.cx sto) w z u) :
    ∃ w', (Instr.mapUpdate t (.map (some r)) (kk k) u).run P w = .ok () w' ∧ Abs C env (.mp r (n && n') kk agg sz enc (mset es k v) :: rest) a w' := by
  obtain ⟨hm, hrest, hperm⟩ := hp.mem
  have hR := hA.res _ hm
  have hR' : RAt (C.cx sto) w (.mp r (n && n') kk agg sz enc es) := by
    obtain ⟨ents, clock, h1, h2, h3⟩ := hR
    refine ⟨ents, clock, h1, ⟨h2.1, fun i m p hm hp => ?_⟩, h3⟩
    obtain ⟨k1, k2⟩ := h2.2 i m p hm hp
    exact ⟨k1, valA_mono (fun d u hd => hd.mono (fun b hb hok => ⟨⟨hok.1, hok.2.1, fun hn => hok.2.2 (by simp at hn; exact hn.1)⟩, rfl⟩) (Nat.le_refl _)) k2⟩
  obtain ⟨ents', clock', h1, h2, h3, h4⟩ := update_at hK hR' ht k (hd.at (m := n && n') hu (fun h => by simp at h; exact h.2))
  have hlt : r < w.heap.size := hR.lt r (by simp [Res.blocks])
  have hown : r ∈ blocksOf sto := hperm.mem_iff.2 (by simp)
  have hnd := hperm.nodup_iff.1 hA.nodup
  have hmem : ∀ b, b ∈ blocksOf (.mp r (n && n') kk agg sz enc (mset es k v) :: rest) ↔ b ∈ blocksOf sto := fun b => (hperm.mem_iff).symm
  have hoth : ∀ b, b ≠ r → ({ w with heap := w.heap.setIfInBounds r (.map ents' clock') } : World).heap[b]? = w.heap[b]? := fun b hb => Array.getElem?_setIfInBounds_ne (Ne.symm hb)
  have hF : ∀ m b, b < w.heap.size → (C.cx sto).ok m b → (C.cx (.mp r (n && n') kk agg sz enc (mset es k v) :: rest)).ok m b ∧ ({ w with heap := w.heap.setIfInBounds r (.map ents' clock') } : World).heap[b]? = w.heap[b]? := fun m b _ hok =>
    ⟨⟨fun h => hok.1 ((hmem b).1 h), hok.2⟩, hoth b (fun e => hok.1 (e ▸ hown))⟩
  refine ⟨_, h1, hA.step ⟨rfl, rfl, rfl, by simp, fun b _ hb => hoth b (fun e => hb (e ▸ hown))⟩ hnd (fun b hb => .inl ((hmem b).1 hb)) ?_ (fun b _ hb => (hmem b).1 hb)⟩
  intro x hx
  rcases List.mem_cons.1 hx with rfl | hx'
  · refine ⟨ents', clock', by simp [hlt], ⟨h2.1, fun i m p hm' hp' => ?_⟩, h3, h4⟩
    obtain ⟨k1, k2⟩ := h2.2 i m p hm' hp'
    exact ⟨k1, AAt.mono hF (by simp) k2⟩
  · refine RAt.mono hF (by simp) (fun b hb => hoth b (fun e => ?_)) (hA.res x (hrest x hx'))
    subst e
    exact (List.nodup_append.1 hnd).2.2 b (by simp) b (List.mem_flatMap.2 ⟨x, hx', hb⟩) rfl

section
variable {P : Program} {T : Tab} (hT : TabOk P T) {N : Fm} {Q : Env → Sto → Prop}
include hT
theorem RunSem.mapSet {κ α : Type} {dec : DecidableEq κ} {all : Array Oper} {rest : List Oper} {t kt et : TypeId} {m x v : Operand} {ty : TypeId} {pos : String} {af : Array Edge} {k : List It} {env : Env} {sto sto' : Sto} {yt yk ye : Ty} {r : Nat} {n n' : Bool} {kk : κ → Value} {enc : α → Nat → DV} {es : List (κ × α)} {key : κ} {zi zv : AV} {v0 : α}
    (hm : Get env [] m (.v (.map (some r)))) (hx : Get env [] x zi) (hv : Get env [] v zv) (ht : tget t T = some yt) (htk : yt.k = .map kt et) (hk : tget kt T = some yk) (he : tget et T = some ye) (hp : PullM r n kk ye.k.agg ye.size enc es sto sto') (hkt : KeyT T yk kk) (hka : KeyA kk zi key) (hd : DownV ye.size (enc v0) ye.k.agg zv n')
    (hrun : Run P T N Q (.ops all rest :: k) env (.mp r (n && n') kk ye.k.agg ye.size enc (mset es key v0) :: sto')) :
    RunSem P N Q (.ops all ({ dst := none, op := .mapUpdate t m x v, type := ty, pos, after := af, guard := none } :: rest) :: k) env sto := by
  intro C a w hN hA
  obtain ⟨dt, it, ht1, _, ht3, _⟩ := hT _ _ ht
  have ht1' : P.underlying t = some (.map kt et) := by
    rw [htk] at ht3
    cases dt <;> simp only [TK.fits] at ht3
    obtain ⟨rfl, rfl⟩ := ht3
    exact ht1
  have e1 : a.eval m = .map (some r) := hm.v hA (q := []) trivial
  have e2 : a.eval x = kk key := hka.at (hx.sound hA (q := []) trivial)
  have hu := hv.sound hA (q := []) trivial
  obtain ⟨w', h1, hA'⟩ := hA.setMap (KeyT.okk hT hk hkt) hp ht1' key hd hu
  refine wpListR_yes (by simp [Region.wanted]) ?_
  have hr : (execOp a.eval { dst := none, op := .mapUpdate t m x v, type := ty, pos, after := af, guard := none }).run P w = .ok .skip w' := by
    simp only [execOp, e1, e2, Sem.run_bind]
    rw [h1]
    rfl
  refine opR_of rfl hr ?_
  exact hrun.sound hT C _ _ hN hA'

/-- How a map's elements are told, by its types. -/
inductive MapT (T : Tab) : Ty → Ty → {κ α : Type} → (κ → Value) → (α → Nat → DV) → Prop where
  | ii {k k' : IntKind} {m b m' b' : Nat} {z z' : List Value} : MapT T ⟨.int k, m, b, z⟩ ⟨.int k', m', b', z'⟩ (kInt k) (encI k')
  | ib {k : IntKind} {m b m' b' : Nat} {z z' : List Value} : MapT T ⟨.int k, m, b, z⟩ ⟨.bool, m', b', z'⟩ (kInt k) encBo
theorem RunSem.newMap {κ α : Type} {kk : κ → Value} {enc : α → Nat → DV} {all : Array Oper} {rest : List Oper} {d : Tmp} {t kt et : TypeId} {ty : TypeId} {pos : String} {af : Array Edge} {k : List It} {env : Env} {sto : Sto} {yt yk ye : Ty} (hd : Nat.blt d N.n = true)
    (ht : tget t T = some yt) (htk : yt.k = .map kt et) (hk : tget kt T = some yk) (he : tget et T = some ye) (hmt : MapT T yk ye kk enc)
    (hrun : ∀ r, Run P T N Q (.ops all rest :: k) ((d, [], .v (.map (some r))) :: env) (.mp r true kk ye.k.agg ye.size enc [] :: sto)) :
    RunSem P N Q (.ops all ({ dst := some d, op := .makeMap t none, type := ty, pos, after := af, guard := none } :: rest) :: k) env sto := by
  intro C a w hN hA
  have hA' : Abs C env (.mp w.heap.size true kk ye.k.agg ye.size enc [] :: sto) a (w.alloc (.map #[] 0)) := by
    refine hA.fresh (kept_alloc w _) (by simp [Res.blocks]) (by simp [Res.blocks]) ⟨#[], 0, heap_alloc_new w _, ⟨rfl, fun i m p hm => by simp at hm⟩, fun m hm => by simp at hm, by simp⟩
  refine wpList_quiet hT rfl rfl (v := .map (some w.heap.size)) (w' := w.alloc (.map #[] 0)) ?_ ((hrun _).sound hT C _ _ hN (hA'.put0 (by rw [hN.1]; exact Nat.le_of_ble_eq_true hd) rfl))
  simp only [execOp, Sem.run_bind]
  rfl
end
end Go.Sx
end

section
/- Whether a slice is nil. -/


set_option linter.unusedSectionVars false
namespace Go.Sx
section
variable {P : Program} {T : Tab} (hT : TabOk P T) {N : Fm} {Q : Env → Sto → Prop}
include hT
theorem RunSem.eqNil {α : Type} {all : Array Oper} {rest : List Oper} {d : Tmp} {t t' : TypeId} {x : Operand} {ty : TypeId} {pos : String} {af : Array Edge} {k : List It} {env : Env} {sto : Sto} {new : Bool} {sz : Nat} {enc : α → Nat → DV} {dv : α} {xs : List α} {e m b : Nat} {z : List Value}
    (hd : Nat.blt d N.n = true) (hx : Get env [] x (.d new sz enc dv xs)) (ht : tget t T = some ⟨.slice e, m, b, z⟩)
    (hk : ∀ r : Bool, (xs ≠ [] → r = false) → Run P T N Q (.ops all rest :: k) ((d, [], .v (.bool r)) :: env) sto) :
    RunSem P N Q (.ops all ({ dst := some d, op := .binOp .eql t x (.const (.slice none 0 0)) t', type := ty, pos, after := af, guard := none } :: rest) :: k) env sto := by
  intro C a w hN hA
  have hu := hx.sound hA (q := []) trivial
  simp only [AAt] at hu
  have key : ∃ A n c, a.eval x = .slice A n c ∧ (xs ≠ [] → A.isNone = false) := by
    rcases hu.inv_sl with ⟨rfl, A, c, h⟩ | ⟨ad, c, h, _⟩
    · exact ⟨A, 0, c, h, fun h => absurd rfl h⟩
    · exact ⟨some ad, _, c, h, fun _ => rfl⟩
  obtain ⟨A, n, c, h1, h2⟩ := key
  refine wpList_quiet hT rfl rfl (v := .bool A.isNone) (w' := w) ?_ ((hk A.isNone h2).sound hT C _ _ hN (hA.put0 (by rw [hN.1]; exact Nat.le_of_ble_eq_true hd) rfl))
  have hue : P.underlying t = some (.slice e) := by
    obtain ⟨dt, it, ht1, _, ht3, _⟩ := hT _ _ ht
    cases dt <;> simp only [TK.fits] at ht3
    subst ht3
    exact ht1
  have he := run_equal_slice_nil (P := P) w t e A n c hue
  have hc : a.eval (.const (.slice none 0 0)) = .slice none 0 0 := rfl
  cases A <;> simp [execOp, h1, hc, eqGuard, binOp, he]
end
end Go.Sx
end

section
/- Rules that spare words: conditions as propositions, loops that keep slots. -/

set_option linter.unusedSectionVars false
namespace Go.Sx
universe u

abbrev iv (n : Int) : AV := .v (.int .i64 n)
abbrev bv (b : Bool) : AV := .v (.bool b)
abbrev DI (l : List Int) : AV := .d false 1 (encI .i64) 0 l
abbrev DB (l : List UInt8) : AV := .d false 1 encB 0 l

/-- What a condition says. -/
inductive BoolP : Bool → Prop → Prop where
  | tt : BoolP true True
  | ff : BoolP false False
  | dec (p : Prop) [Decidable p] : BoolP (decide p) p
  | and {a b : Bool} {p q : Prop} : BoolP a p → BoolP b q → BoolP (a && b) (p ∧ q)
  | or {a b : Bool} {p q : Prop} : BoolP a p → BoolP b q → BoolP (a || b) (p ∨ q)
  | not {a : Bool} {p : Prop} : BoolP a p → BoolP (!a) (¬ p)
  | var (a : Bool) : BoolP a (a = true)
theorem BoolP.iff {b : Bool} {p : Prop} (h : BoolP b p) : b = true ↔ p := by
  induction h with
  | tt => simp
  | ff => simp
  | dec p => simp
  | and _ _ h1 h2 => simp [h1, h2]
  | or _ _ h1 h2 => simp [h1, h2]
  | not _ h => simp only [Bool.not_eq_true', ← h]; simp
  | var a => exact Iff.rfl
section
variable {P : Program} {T : Tab} {N : Fm} {Q : Env → Sto → Prop}
theorem Run.condP {c : Operand} {x y : Code} {b : Bool} {p : Prop} {k : List It} {env : Env} {sto : Sto} (hc : Get env [] c (.v (.bool b))) (hb : BoolP b p) (h1 : p → Run P T N Q (.c x :: k) env sto) (h2 : ¬ p → Run P T N Q (.c y :: k) env sto) : Run P T N Q (.c (.cond c x y) :: k) env sto :=
  .cond hc (fun h => h1 (hb.iff.1 h)) (fun h => h2 (fun hp => by rw [hb.iff.2 hp] at h; cases h))
end

inductive KeepE (env : Env) : List Nat → Env → Prop where
  | nil : KeepE env [] []
  | cons {s : Nat} {z : AV} {ks : List Nat} {e : Env} : lookup s env = some ([], z) → KeepE env ks e → KeepE env (s :: ks) ((s, [], z) :: e)
/-- Resources are taken out as they are told; the others stay. -/
inductive TakeR : Sto → Sto → Sto → Prop where
  | nil (s : Sto) : TakeR s [] s
  | cons {s s1 fs rest : Sto} {r : Res} : Pick s r s1 → TakeR s1 fs rest → TakeR s (r :: fs) rest
  | all (s : Sto) : TakeR s s []

def AgainK {ι : Type u} (E : ι → Env) (S : ι → Sto) (p : ι → Prop) (m : ι → Nat) (kept : Env) (rest : Sto) (x : ι) (env : Env) (sto : Sto) : Prop :=
  ∃ x', m x' < m x ∧ p x' ∧ EnvSub env (E x' ++ kept) ∧ StoSub sto (S x' ++ rest)
theorem AgainK.mk {ι : Type u} {E : ι → Env} {S : ι → Sto} {p : ι → Prop} {m : ι → Nat} {kept : Env} {rest : Sto} {x : ι} {env : Env} {sto : Sto} (x' : ι) (h1 : m x' < m x) (h2 : p x') (h3 : EnvSub env (E x' ++ kept)) (h4 : StoSub sto (S x' ++ rest)) :
    AgainK E S p m kept rest x env sto := ⟨x', h1, h2, h3, h4⟩
theorem TakeR.sub {sto s rest : Sto} (h : TakeR sto s rest) : StoSub sto (s ++ rest) := by
  induction h with
  | nil s => exact .same _
  | cons h1 _ ih => exact .cons h1 ih
  | all s => rw [List.append_nil]; exact .same _
theorem KeepE.look {env : Env} {ks : List Nat} {e : Env} (h : KeepE env ks e) {s : Nat} {q : Path} {z : AV} (hl : lookup s e = some (q, z)) : q = [] ∧ lookup s env = some ([], z) := by
  induction h with
  | nil => simp [lookup] at hl
  | cons h1 _ ih =>
    rw [lookup_cons] at hl
    split at hl
    · rename_i e
      simp only [Option.some.injEq, Prod.mk.injEq] at hl
      obtain ⟨rfl, rfl⟩ := hl
      exact ⟨rfl, e ▸ h1⟩
    · exact ih hl
theorem lookup_append (s : Nat) : ∀ (a b : Env), lookup s (a ++ b) = (lookup s a).or (lookup s b)
  | [], b => by simp [lookup]
  | (t, q, z) :: a, b => by
    rw [List.cons_append, lookup_cons, lookup_cons]
    split
    · simp
    · exact lookup_append s a b
theorem Abs.keep {C : Ctx} {env env0 kept : Env} {ks : List Nat} {sto : Sto} {a : Act} {w : World} (hA : Abs C env sto a w) (he : EnvSub env env0) (hk : KeepE env ks kept) : Abs C (env0 ++ kept) sto a w := by
  have key : ∀ s q z, lookup s (env0 ++ kept) = some (q, z) → q = [] ∧ ∃ z', lookup s env = some ([], z') ∧ ∀ cx w u, AAt cx w z' u → AAt cx w z u := by
    intro s q z hl
    rw [lookup_append] at hl
    cases h0 : lookup s env0 with
    | none => rw [h0] at hl; obtain ⟨h1, h2⟩ := hk.look (by simpa using hl); exact ⟨h1, z, h2, fun _ _ _ h => h⟩
    | some p =>
      obtain ⟨q', z'⟩ := p
      rw [h0] at hl
      simp at hl
      obtain ⟨rfl, rfl⟩ := hl
      obtain ⟨h1, z0, h2, h3⟩ := he.sound h0
      exact ⟨h1, z0, h2, fun _ _ _ h => h3.sound h⟩
  refine ⟨hA.kept, hA.nodup, hA.src, hA.res, fun s q z hl hq => ?_, fun s q z hl hq => ?_, hA.tsize, hA.defers, hA.xlt, hA.xown, hA.base⟩
  · obtain ⟨_, z', h1, h2⟩ := key s q z hl
    exact h2 _ _ _ (hA.slots s [] z' h1 trivial)
  · obtain ⟨rfl, _⟩ := key s q z hl
    exact absurd trivial hq

section
variable {P : Program} {T : Tab} (hT : TabOk P T) {N : Fm} {Q : Env → Sto → Prop}
include hT
/-- A loop that keeps the slots ks as they are. -/
theorem RunSem.loopK {ι : Type u} {body : Code} {k : List It} {env kept : Env} {sto rest : Sto} (ks : List Nat) (E : ι → Env) (S : ι → Sto) (p : ι → Prop) (m : ι → Nat) (x0 : ι) (h0 : p x0)
    (hk : KeepE env ks kept) (he : EnvSub env (E x0)) (hs : TakeR sto (S x0) rest) (hb : ∀ x, p x → Run P T N Q (.c body :: .goal (AgainK E S p m kept rest x) :: k) (E x ++ kept) (S x ++ rest)) :
    RunSem P N Q (.c (.loop body) :: k) env sto := by
  intro C a w hN hA
  have hA0 := (hA.keep he hk).sub hs.sub
  show wpR C.rnd P (Code.loop body) (postK P C Q k) a w
  refine wpR_loop_ghost (fun n a w => ∃ x, m x = n ∧ p x ∧ Abs C (E x ++ kept) (S x ++ rest) a w) (m x0) ⟨x0, rfl, h0, hA0⟩ ?_
  rintro n a w ⟨x, rfl, hp, hA⟩
  have := (hb x hp).sound hT C a w hN hA
  refine wpIn_mono this (fun e a' w' hq => ?_)
  cases e with
  | normal =>
    obtain ⟨env1, sto1, ⟨x', h1, h2, h3, h4⟩, hA1⟩ := hq
    exact ⟨m x', h1, x', rfl, h2, (hA1.sub h4).envSub h3⟩
  | exit id => exact hq
  | goto l => exact hq
  | ret => exact hq
  | panic ch => exact hq
  | outgrown => exact hq
end

theorem Abs.perm {C : Ctx} {env : Env} {s s' : Sto} {a : Act} {w : World} (h : Abs C env s a w) (hp : s.Perm s') : Abs C env s' a w := by
  have hb : (blocksOf s).Perm (blocksOf s') := hp.flatMap_right _
  have hF : ∀ n b, b < w.heap.size → (C.cx s).ok n b → (C.cx s').ok n b ∧ w.heap[b]? = w.heap[b]? := fun n b _ hok => ⟨⟨fun hm => hok.1 (hb.mem_iff.2 hm), hok.2⟩, rfl⟩
  exact ⟨h.kept, hb.nodup_iff.1 h.nodup, fun b hm => h.src b (hb.mem_iff.2 hm), fun r hr => RAt.mono hF (Nat.le_refl _) (fun _ _ => rfl) (h.res r (hp.mem_iff.2 hr)), fun t q z hl hq => AAt.mono hF (Nat.le_refl _) (h.slots t q z hl hq), h.envU, h.tsize, h.defers.sub (fun b hm => hb.mem_iff.2 hm), h.xlt, h.xown, h.base⟩
theorem RunSem.swap {P : Program} {N : Fm} {Q : Env → Sto → Prop} {k : List It} {env : Env} {s s' : Sto} (hp : s.Perm s') (h : RunSem P N Q k env s') : RunSem P N Q k env s := fun C a w hN hA => h C a w hN (hA.perm hp)
section
variable {P : Program} {T : Tab} (hT : TabOk P T) {N : Fm} {Q : Env → Sto → Prop}
include hT
/-- A call by its contract; what it hands back of memory is laid behind what was kept. -/
theorem RunSem.callS {ι : Type} {zf : ι → AV} {sf : ι → Sto} {p : ι → Prop} {all : Array Oper} {rest : List Oper} {d : Tmp} {fo : Operand} {as : Array Operand} {ts : Array TypeId} {ty : TypeId} {pos : String} {af : Array Edge} {k : List It} {env : Env} {sto stoF sto1 : Sto}
    {f : FuncId} {first captured : Array Value} {zs full args : List AV} (hs : Sat P f args stoF (Gives zf sf p)) (hd : Nat.blt d N.n = true) (hf : Get env [] fo (.v (.func (.func f) first captured))) (ha : GetL env [] as.toList zs)
    (hfull : first.toList.map .v ++ zs ++ captured.toList.map .v = full) (ht : TakeP sto stoF sto1) (hp : PassL false sto1 full args) (hnp : ∀ x, panA (zf x) = false)
    (hk : ∀ x, p x → Run P T N Q (.ops all rest :: k) ((d, [], zf x) :: env) (sto1 ++ sf x)) :
    RunSem P N Q (.ops all ({ dst := some d, op := .call { callee := .value fo, args := as, argTypes := ts }, type := ty, pos, after := af, guard := none } :: rest) :: k) env sto := by
  intro C a w hN hA
  refine wpListR_yes (by simp [Region.wanted]) ?_
  have hfv : a.eval fo = .func (.func f) first captured := hf.v hA (q := []) trivial
  have hr : (execOp a.eval { dst := some d, op := .call { callee := .value fo, args := as, argTypes := ts }, type := ty, pos, after := af, guard := none }).run P w = .ok (.enter f (first ++ as.map a.eval ++ captured)) w := by
    simp [execOp, resolve, hfv, Deferred.ofValue, invoke, hs.1]
  refine opR_of rfl hr ?_
  simp only [upR]
  have hz := ((AAtL.vals (cx := C.cx sto) (w := w) first.toList).append (ha.sound hA (q := []) trivial)).append (AAtL.vals captured.toList)
  rw [hfull] at hz
  have he : first ++ as.map a.eval ++ captured = (first.toList ++ as.toList.map a.eval ++ captured.toList).toArray := by
    apply Array.ext'
    simp
  rw [he]
  refine (hA.call ht hz hp hs (fun h => by cases h)).mono ?_
  rintro e w' ⟨z, s, ⟨x, rfl, rfl, hx⟩, hA', hzo⟩
  obtain ⟨v, rfl, hzv⟩ := hzo.inv (hnp x)
  have hA2 := (hA' _ hA).perm (List.perm_append_comm (l₁ := sf x) (l₂ := sto1))
  have hzv2 : AAt (C.cx (sto1 ++ sf x)) w' (zf x) v := by
    have hb : (blocksOf (sf x ++ sto1)).Perm (blocksOf (sto1 ++ sf x)) := List.perm_append_comm.flatMap_right _
    have hF : ∀ n b, b < w'.heap.size → (C.cx (sf x ++ sto1)).ok n b → (C.cx (sto1 ++ sf x)).ok n b ∧ w'.heap[b]? = w'.heap[b]? := fun n b _ hok => ⟨⟨fun hm => hok.1 (hb.mem_iff.2 hm), hok.2⟩, rfl⟩
    exact AAt.mono hF (Nat.le_refl _) hzv
  exact (hk x hx).sound hT C _ _ hN (hA2.put0 (by rw [hN.1]; exact Nat.le_of_ble_eq_true hd) hzv2)
end

/-- A value, and the memory as it was. -/
def isVS (v : Value) (S : Sto) : AV → Sto → Prop := Gives (ι := Unit) (fun _ => .v v) (fun _ => S) (fun _ => True)

/-! ### Calls that only look at memory -/
inductive Out1 : Sto → Res → Sto → Prop where
  | head {r : Res} {s : Sto} : Out1 (r :: s) r s
  | tail {x r : Res} {s s' : Sto} : Out1 s r s' → Out1 (x :: s) r (x :: s')
inductive Outs : Sto → Sto → Sto → Prop where
  | nil (s : Sto) : Outs s [] s
  | cons {s s1 S rest : Sto} {r : Res} : Out1 s r s1 → Outs s1 S rest → Outs s (r :: S) rest
  | all {s : Sto} : Outs s s []
  | skip {x : Res} {s S rest : Sto} : Outs s S rest → Outs (x :: s) S (x :: rest)
theorem Out1.perm {s s' : Sto} {r : Res} (h : Out1 s r s') : s.Perm (r :: s') := by
  induction h with
  | head => exact .refl _
  | tail _ ih => exact (ih.cons _).trans (.swap ..)
theorem Outs.perm {s S rest : Sto} (h : Outs s S rest) : s.Perm (rest ++ S) := by
  induction h with
  | nil s => simp
  | cons h1 _ ih => exact h1.perm.trans ((ih.cons _).trans List.perm_middle.symm)
  | all => simp
  | skip _ ih => exact ih.cons _
theorem TakeP.front {S : Sto} (h : oldS S = true) : ∀ rest : Sto, TakeP (rest ++ S) S rest
  | [] => .all h
  | _ :: rest => .skip (TakeP.front h rest)
theorem AOp.callR {P : Program} {N : Fm} {env : Env} {sto S rst : Sto} {q : Path} {d : Option Tmp} {fo : Operand} {as : Array Operand} {ts : Array TypeId} {ty : TypeId} {pos : String} {af : Array Edge} {g : Option (Nat × Bool)} {f : FuncId} {first captured : Array Value} {zs full args : List AV} {v : Value}
    (hs : Sat P f args S (isVS v S)) (hf : Get env q fo (.v (.func (.func f) first captured))) (ha : GetL env q as.toList zs) (hfull : first.toList.map .v ++ zs ++ captured.toList.map .v = full) (ho : Outs sto S rst) (hold : oldS S = true) (hp : PassL false rst full args) :
    AOp P N env sto { dst := d, op := .call { callee := .value fo, args := as, argTypes := ts }, type := ty, pos, after := af, guard := g } q (.v v) := by
  intro C a w next Q' hN hA hq hnext
  have hfv : a.eval fo = .func (.func f) first captured := hf.v hA hq
  have hr : (execOp a.eval { dst := d, op := .call { callee := .value fo, args := as, argTypes := ts }, type := ty, pos, after := af, guard := g }).run P w = .ok (.enter f (first ++ as.map a.eval ++ captured)) w := by
    simp [execOp, resolve, hfv, Deferred.ofValue, invoke, hs.1]
  refine opR_of rfl hr ?_
  simp only [upR]
  have hperm := ho.perm
  have hA2 := hA.perm hperm
  have hz := ((AAtL.vals (cx := C.cx (rst ++ S)) (w := w) first.toList).append (ha.sound hA2 hq)).append (AAtL.vals captured.toList)
  rw [hfull] at hz
  have he : first ++ as.map a.eval ++ captured = (first.toList ++ as.toList.map a.eval ++ captured.toList).toArray := by
    apply Array.ext'
    simp
  rw [he]
  refine (hA2.call (TakeP.front hold rst) hz hp hs (fun h => by cases h)).mono ?_
  rintro e w' ⟨z, s, ⟨_, rfl, rfl, _⟩, hA', hzo⟩
  obtain ⟨v, rfl, hzv⟩ := hzo.inv rfl
  have back : ∀ env', Abs C env' sto a w → Abs C env' sto a w' := fun env' h => (hA' env' (h.perm hperm)).perm (List.perm_append_comm.trans hperm.symm)
  exact hnext v w' (back _ hA) back hzv
section
variable {P : Program} {T : Tab} (hT : TabOk P T) {N : Fm} {Q : Env → Sto → Prop}
include hT
theorem RunSem.callR {all : Array Oper} {rest : List Oper} {d : Tmp} {fo : Operand} {as : Array Operand} {ts : Array TypeId} {ty : TypeId} {pos : String} {af : Array Edge} {k : List It} {env : Env} {sto S rst : Sto}
    {f : FuncId} {first captured : Array Value} {zs full args : List AV} {v : Value} (hs : Sat P f args S (isVS v S)) (hd : Nat.blt d N.n = true) (hf : Get env [] fo (.v (.func (.func f) first captured))) (ha : GetL env [] as.toList zs)
    (hfull : first.toList.map .v ++ zs ++ captured.toList.map .v = full) (ho : Outs sto S rst) (hold : oldS S = true) (hp : PassL false rst full args) (hk : Run P T N Q (.ops all rest :: k) ((d, [], .v v) :: env) sto) :
    RunSem P N Q (.ops all ({ dst := some d, op := .call { callee := .value fo, args := as, argTypes := ts }, type := ty, pos, after := af, guard := none } :: rest) :: k) env sto := by
  intro C a w hN hA
  refine wpListR_yes (by simp [Region.wanted]) ?_
  exact (AOp.callR (d := some d) (g := none) hs hf ha hfull ho hold hp) C a w _ _ hN hA trivial (fun v w' hA' _ hz => hk.sound hT C _ _ hN (hA'.put0 (by rw [hN.1]; exact Nat.le_of_ble_eq_true hd) hz))
theorem RunSem.callGR {all : Array Oper} {rest : List Oper} {d gs : Tmp} {g : Nat} {b c : Bool} {q : Path} {fo : Operand} {as : Array Operand} {ts : Array TypeId} {ty : TypeId} {pos : String} {af : Array Edge} {k : List It} {env : Env} {sto S rst : Sto}
    {f : FuncId} {first captured : Array Value} {zs full args : List AV} {v : Value} (hs : Sat P f args S (isVS v S)) (hd : Nat.blt d N.n = true) (hgs : gslot all g = some gs) (hl : lookup gs env = some (q, .v (.bool c)))
    (hf : Get env ((c, b) :: q) fo (.v (.func (.func f) first captured))) (ha : GetL env ((c, b) :: q) as.toList zs) (hfull : first.toList.map .v ++ zs ++ captured.toList.map .v = full) (ho : Outs sto S rst) (hold : oldS S = true) (hp : PassL false rst full args)
    (hk : Run P T N Q (.ops all rest :: k) ((d, (c, b) :: q, .v v) :: env) sto) :
    RunSem P N Q (.ops all ({ dst := some d, op := .call { callee := .value fo, args := as, argTypes := ts }, type := ty, pos, after := af, guard := some (g, b) } :: rest) :: k) env sto :=
  RunSem.ofAOpG hT hd hgs hl (AOp.callR hs hf ha hfull ho hold hp) hk
theorem AListSem.callR {all : Array Oper} {rest : List Oper} {d : Tmp} {fo : Operand} {as : Array Operand} {ts : Array TypeId} {ty : TypeId} {pos : String} {af : Array Edge} {K : Env → Prop} {env : Env} {sto S rst : Sto} {v : Value}
    {f : FuncId} {first captured : Array Value} {zs full args : List AV} (hs : Sat P f args S (isVS v S)) (hd : Nat.blt d N.n = true)
    (hf : Get env [] fo (.v (.func (.func f) first captured))) (ha : GetL env [] as.toList zs) (hfull : first.toList.map .v ++ zs ++ captured.toList.map .v = full) (ho : Outs sto S rst) (hold : oldS S = true) (hp : PassL false rst full args)
    (hk : AList P T N all sto K ((d, [], .v v) :: env) rest) :
    AListSem P N all sto K env ({ dst := some d, op := .call { callee := .value fo, args := as, argTypes := ts }, type := ty, pos, after := af, guard := none } :: rest) := by
  obtain ⟨E, h1, h2⟩ := hk.sound hT
  refine ⟨_, .cons rfl (Nat.le_of_ble_eq_true hd) rfl (AOp.callR hs (hf.rs fun t ht => ?_) (ha.rs fun t ht => ?_) hfull ho hold hp) h1, by simpa using h2⟩
  · refine opSlots_looks (mem_opSlots.2 ?_)
    simp [Op.operands, Call.operands, ht]
  · refine opSlots_looks (mem_opSlots.2 ?_)
    simp [Op.operands, Call.operands, ht]
theorem AListSem.callGR {all : Array Oper} {rest : List Oper} {d gs : Tmp} {g : Nat} {b c : Bool} {q : Path} {fo : Operand} {as : Array Operand} {ts : Array TypeId} {ty : TypeId} {pos : String} {af : Array Edge} {K : Env → Prop} {env : Env} {sto S rst : Sto} {v : Value}
    {f : FuncId} {first captured : Array Value} {zs full args : List AV} (hs : Sat P f args S (isVS v S)) (hd : Nat.blt d N.n = true) (hgs : gslot all g = some gs) (hl : lookup gs env = some (q, .v (.bool c)))
    (hf : Get env ((c, b) :: q) fo (.v (.func (.func f) first captured))) (ha : GetL env ((c, b) :: q) as.toList zs) (hfull : first.toList.map .v ++ zs ++ captured.toList.map .v = full) (ho : Outs sto S rst) (hold : oldS S = true) (hp : PassL false rst full args)
    (hk : AList P T N all sto K ((d, (c, b) :: q, .v v) :: env) rest) :
    AListSem P N all sto K env ({ dst := some d, op := .call { callee := .value fo, args := as, argTypes := ts }, type := ty, pos, after := af, guard := some (g, b) } :: rest) := by
  obtain ⟨E, h1, h2⟩ := hk.sound hT
  refine ⟨_, .cons rfl (Nat.le_of_ble_eq_true hd) ⟨_, _, _, hgs, hl, rfl⟩ (AOp.callR hs (hf.rs fun t ht => ?_) (ha.rs fun t ht => ?_) hfull ho hold hp) h1, by simpa using h2⟩
  · refine opSlots_looks (mem_opSlots.2 ?_)
    simp [Op.operands, Call.operands, ht]
  · refine opSlots_looks (mem_opSlots.2 ?_)
    simp [Op.operands, Call.operands, ht]
end

/-! ### A literal of numbers -/
theorem IntsL.down {k : IntKind} {zs : List AV} {xs : List Int} (h : IntsL k zs xs) : DownL zs true (litL 1 (encI k) xs) := by
  induction h with
  | nil => exact .nil
  | @cons n zs xs _ ih => exact DownL.cons (z := .v (.int k n)) (n := true) (n' := true) (d := .v (.int k n)) rfl ih
theorem IntsL.length {k : IntKind} {zs : List AV} {xs : List Int} (h : IntsL k zs xs) : zs.length = xs.length := by
  induction h with
  | nil => rfl
  | cons _ ih => simp [ih]
section
variable {P : Program} {T : Tab} (hT : TabOk P T) {N : Fm} {Q : Env → Sto → Prop}
include hT
theorem RunSem.litI {all : Array Oper} {rest : List Oper} {d : Tmp} {len : Nat} {t e m b m' b' : Nat} {z z' : List Value} {ki : IntKind} {ps : Array (Nat × Operand)} {ty : TypeId} {pos : String} {af : Array Edge} {k : List It} {env : Env} {sto : Sto}
    {zs : List (Nat × AV)} {cs : List AV} {xs : List Int} (hd : Nat.blt d N.n = true) (ht : tget t T = some ⟨.slice e, m, b, z⟩) (he : tget e T = some ⟨.int ki, 1, b', z'⟩) (hki : (ki == .i64) = true) (hsm : Nat.ble (len * 1) 16777216 = true) (hl1 : Nat.ble len 16777216 = true) (hp : GetPs env [] ps.toList zs)
    (hf : Fills 1 (zerosA z' 1 (len * 1)) zs cs) (hx : IntsL ki cs xs) (hlen : Nat.beq xs.length len = true)
    (hk : ∀ v, Run P T N Q (.ops all rest :: k) ((d, [], .o v) :: env) (.row v true e 1 (encI ki) 0 xs :: sto)) :
    RunSem P N Q (.ops all ({ dst := some d, op := .buildSlice t len ps, type := ty, pos, after := af, guard := none } :: rest) :: k) env sto :=
  RunSem.lit hT (encI ki) 0 xs hd ht rfl he hsm hl1 hp hf hx.down rfl (Nat.eq_of_beq_eq_true hlen) hk
theorem AListSem.litI {all : Array Oper} {rest : List Oper} {d : Tmp} {len : Nat} {t e m b b' : Nat} {z z' : List Value} {ki : IntKind} {ps : Array (Nat × Operand)} {ty : TypeId} {pos : String} {af : Array Edge} {K : Env → Prop} {env : Env} {sto : Sto}
    {zs : List (Nat × AV)} {cs : List AV} {xs : List Int} (hd : Nat.blt d N.n = true) (ht : tget t T = some ⟨.slice e, m, b, z⟩) (he : tget e T = some ⟨.int ki, 1, b', z'⟩) (hki : (ki == .i64) = true) (hsm : Nat.ble (len * 1) 16777216 = true) (hp : GetPs env [] ps.toList zs)
    (hf : Fills 1 (zerosA z' 1 (len * 1)) zs cs) (hx : IntsL ki cs xs) (hlen : Nat.beq xs.length len = true)
    (hk : AList P T N all sto K ((d, [], .d true 1 (encI ki) 0 xs) :: env) rest) :
    AListSem P N all sto K env ({ dst := some d, op := .buildSlice t len ps, type := ty, pos, after := af, guard := none } :: rest) :=
  AListSem.lit hT (encI ki) 0 xs hd ht rfl he hsm hp hf hx.down rfl (Nat.eq_of_beq_eq_true hlen) hk
end
end Go.Sx
end

section
/- Function values; ranges over functions. -/

set_option linter.unusedSectionVars false
namespace Go.Sx

/-- A function value is called. -/
def CallV (P : Program) (fv : Value) (vs : List Value) (w : World) (R : Ending → World → Prop) : Prop :=
  match fv with
  | .func (.func f) first captured => (∀ (as : Array Value) (w : World), (callFunc f as).run P w = .ok (.enter f as) w) ∧ Calls P f (first.toList ++ vs ++ captured.toList).toArray w R
  | .func (.yield l) first captured => first = #[] ∧ captured = #[] ∧ ∃ fn tmps assign body, (Instr.yield l vs.toArray).run P w = .ok (.round l fn tmps assign body) w ∧ RoundIn (fr none) 0 P l fn tmps assign body w R
  | _ => False
theorem CallV.mono {P : Program} {fv : Value} {vs : List Value} {w : World} {R R' : Ending → World → Prop} (h : CallV P fv vs w R) (hr : ∀ e w', R e w' → R' e w') : CallV P fv vs w R' := by
  unfold CallV at h
  split at h
  · exact ⟨h.1, h.2.mono hr⟩
  · obtain ⟨e1, e2, fn, tmps, as, bd, h1, h2⟩ := h
    exact ⟨e1, e2, fn, tmps, as, bd, h1, h2.mono hr⟩
  · exact h.elim
/-- A function value's contract. -/
def SatV (P : Program) (fv : Value) (args : List AV) (sto : Sto) (R : AV → Sto → Prop) : Prop := Asks (fun vs w R => CallV P fv vs w R) args sto R
theorem SatV.of {P : Program} {f : FuncId} {first captured : Array Value} {args : List AV} {sto : Sto} {R : AV → Sto → Prop} (h : Sat P f (first.toList.map .v ++ args ++ captured.toList.map .v) sto R) : SatV P (.func (.func f) first captured) args sto R :=
  fun X w vs h1 h2 h3 h4 h5 => ⟨h.1, h.2 X w _ h1 h2 h3 h4 (((AAtL.vals first.toList).append h5).append (AAtL.vals captured.toList))⟩
theorem SatV.mono {P : Program} {fv : Value} {args : List AV} {sto : Sto} {R R' : AV → Sto → Prop} (h : SatV P fv args sto R) (hr : ∀ z s, R z s → R' z s) : SatV P fv args sto R' :=
  fun X w vs h1 h2 h3 h4 h5 => CallV.mono (h X w vs h1 h2 h3 h4 h5) fun _ _ ⟨z, s, hR, rest⟩ => ⟨z, s, hr _ _ hR, rest⟩

section
variable {P : Program} {T : Tab} (hT : TabOk P T) {N : Fm} {Q : Env → Sto → Prop}
include hT
omit hT in
theorem callV_opR {C : Ctx} {a : Act} {w : World} {all : Array Oper} {rest : List Oper} {q : Path} {d : Option Tmp} {fo : Operand} {as : Array Operand} {ts : Array TypeId} {ty : TypeId} {pos : String} {af : Array Edge} {g : Option (Nat × Bool)} {k : List It} {env : Env} {sto stoF sto1 : Sto}
    {fv : Value} {zs args : List AV} {R : AV → Sto → Prop} (hN : C.fits N) (hA : Abs C env sto a w) (hq : PathHolds q) (hs : SatV P fv args stoF R) (hf : Get env q fo (.v fv)) (ha : GetL env q as.toList zs)
    (ht : TakeP sto stoF sto1) (hp : PassL false sto1 zs args) (hnp : ∀ z s, R z s → panA z = false)
    (hk : ∀ z s v w', R z s → (∀ env', Abs C env' sto a w → Abs C env' (sto1 ++ s) a w') → AAt (C.cx (sto1 ++ s)) w' z v → wpListR C.rnd P all (postK P C Q k) rest (a.put d v) w') :
    opR C.rnd P { dst := d, op := .call { callee := .value fo, args := as, argTypes := ts }, type := ty, pos, after := af, guard := g } a w (wpListR C.rnd P all (postK P C Q k) rest) (postK P C Q k) := by
  have hfv : a.eval fo = fv := hf.v hA hq
  have hz := ha.sound hA hq
  have hc := Abs.callK (K := fun vs w R => CallV P fv vs w R) hA (fun h h' => h.mono h') ht hz hp hs (fun h => by cases h)
  have fin : ∀ (e : Ending) (w' : World), (∃ z s, R z s ∧ (∀ env', Abs C env' sto a w → Abs C env' (s ++ sto1) a w') ∧ OutA (C.cx (s ++ sto1)) w' z e) →
      ∃ v, e = .returned v ∧ wpListR C.rnd P all (postK P C Q k) rest (a.put d v) w' := by
    rintro e w' ⟨z, s, hR, hA', hzo⟩
    obtain ⟨v, rfl, hzv⟩ := hzo.inv (hnp z s hR)
    refine ⟨v, rfl, ?_⟩
    have hzv2 : AAt (C.cx (sto1 ++ s)) w' z v := by
      have hb : (blocksOf (s ++ sto1)).Perm (blocksOf (sto1 ++ s)) := List.perm_append_comm.flatMap_right _
      have hF : ∀ n b, b < w'.heap.size → (C.cx (s ++ sto1)).ok n b → (C.cx (sto1 ++ s)).ok n b ∧ w'.heap[b]? = w'.heap[b]? := fun n b _ hok => ⟨⟨fun hm => hok.1 (hb.mem_iff.2 hm), hok.2⟩, rfl⟩
      exact AAt.mono hF (Nat.le_refl _) hzv
    exact hk z s v w' hR (fun env' h => (hA' env' h).perm (List.perm_append_comm (l₁ := s) (l₂ := sto1))) hzv2
  unfold CallV at hc
  split at hc
  · rename_i f first captured
    have hr : (execOp a.eval { dst := d, op := .call { callee := .value fo, args := as, argTypes := ts }, type := ty, pos, after := af, guard := g }).run P w = .ok (.enter f (first ++ as.map a.eval ++ captured)) w := by
      simp [execOp, resolve, hfv, Deferred.ofValue, invoke, hc.1]
    refine opR_of rfl hr ?_
    simp only [upR]
    have he : first ++ as.map a.eval ++ captured = (first.toList ++ as.toList.map a.eval ++ captured.toList).toArray := by
      apply Array.ext'
      simp
    rw [he]
    refine hc.2.mono ?_
    intro e w' h
    obtain ⟨v, rfl, h'⟩ := fin e w' h
    exact h'
  · rename_i l first captured
    obtain ⟨rfl, rfl, fn, tmps, as', bd, h1, h2⟩ := hc
    have hr : (execOp a.eval { dst := d, op := .call { callee := .value fo, args := as, argTypes := ts }, type := ty, pos, after := af, guard := g }).run P w = .ok (.round l fn tmps as' bd) w := by
      have he : #[] ++ as.map a.eval ++ #[] = (as.toList.map a.eval).toArray := by
        apply Array.ext'
        simp
      simp only [Array.empty_append, Array.append_empty] at he
      simp [execOp, resolve, hfv, Deferred.ofValue, invoke]
      rw [← he] at h1
      simpa using h1
    refine opR_of rfl hr ?_
    simp only [upR]
    refine (roundIn_fr.1 h2).mono ?_
    intro e w' h
    obtain ⟨v, rfl, h'⟩ := fin e w' h
    exact h'
  · exact hc.elim
/-- A call of a function value by its contract. -/
theorem RunSem.callV {all : Array Oper} {rest : List Oper} {d : Option Tmp} {fo : Operand} {as : Array Operand} {ts : Array TypeId} {ty : TypeId} {pos : String} {af : Array Edge} {k : List It} {env : Env} {sto stoF sto1 : Sto}
    {fv : Value} {zs args : List AV} {R : AV → Sto → Prop} (hs : SatV P fv args stoF R) (hd : ∀ s, d = some s → Nat.blt s N.n = true) (hf : Get env [] fo (.v fv)) (ha : GetL env [] as.toList zs)
    (ht : TakeP sto stoF sto1) (hp : PassL false sto1 zs args) (hnp : ∀ z s, R z s → panA z = false)
    (hk : ∀ z s, R z s → Run P T N Q (.ops all rest :: k) (match d with | some d => (d, [], z) :: env | none => env) (sto1 ++ s)) :
    RunSem P N Q (.ops all ({ dst := d, op := .call { callee := .value fo, args := as, argTypes := ts }, type := ty, pos, after := af, guard := none } :: rest) :: k) env sto := by
  intro C a w hN hA
  refine wpListR_yes (by simp [Region.wanted]) ?_
  refine callV_opR (q := []) hN hA trivial hs hf ha ht hp hnp (fun z s v w' hR hA' hz => ?_)
  cases d with
  | none => exact (hk z s hR).sound hT C _ _ hN (hA' _ hA)
  | some d => exact (hk z s hR).sound hT C _ _ hN ((hA' _ hA).put0 (by rw [hN.1]; exact Nat.le_of_ble_eq_true (hd d rfl)) hz)
/-- A guarded one. -/
theorem RunSem.callVG {all : Array Oper} {rest : List Oper} {d gs : Tmp} {g : Nat} {b c : Bool} {q : Path} {fo : Operand} {as : Array Operand} {ts : Array TypeId} {ty : TypeId} {pos : String} {af : Array Edge} {k : List It} {env : Env} {sto stoF sto1 : Sto}
    {fv : Value} {zs args : List AV} {R : AV → Sto → Prop} (hgs : gslot all g = some gs) (hl : lookup gs env = some (q, .v (.bool c))) (hs : PathHolds ((c, b) :: q) → SatV P fv args stoF R) (hd : Nat.blt d N.n = true) (hf : Get env ((c, b) :: q) fo (.v fv)) (ha : GetL env ((c, b) :: q) as.toList zs)
    (ht : TakeP sto stoF sto1) (hp : PassL false sto1 zs args) (hnp : ∀ z s, R z s → panA z = false)
    (hk : ∀ z s, PathHolds ((c, b) :: q) → R z s → Run P T N Q (.ops all rest :: k) ((d, (c, b) :: q, z) :: env) (sto1 ++ s))
    (hn : ¬ PathHolds ((c, b) :: q) → Run P T N Q (.ops all rest :: k) ((d, (c, b) :: q, .v (.bool true)) :: env) sto) :
    RunSem P N Q (.ops all ({ dst := some d, op := .call { callee := .value fo, args := as, argTypes := ts }, type := ty, pos, after := af, guard := some (g, b) } :: rest) :: k) env sto := by
  intro C a w hN hA
  have hdlt : d < C.N := by rw [hN.1]; exact Nat.le_of_ble_eq_true hd
  have hiff := wanted_iff (o := { dst := some d, op := .call { callee := .value fo, args := as, argTypes := ts }, type := ty, pos, after := af, guard := some (g, b) }) hA rfl hgs hl
  by_cases hh : PathHolds ((c, b) :: q)
  · refine wpListR_yes (hiff.2 hh) ?_
    exact callV_opR (q := (c, b) :: q) hN hA hh (hs hh) hf ha ht hp hnp (fun z s v w' hR hA' hz => (hk z s hh hR).sound hT C _ _ hN ((hA' _ hA).put hdlt (fun _ => hz) (fun h => absurd hh h)))
  · refine wpListR_no (fun h => hh (hiff.1 h)) ?_
    exact (hn hh).sound hT C _ _ hN (hA.put hdlt (fun h => absurd h hh) (fun _ => rfl))
end

/-- What an iterator does: it hands each of xs to yield, one behind the other, while yield says true (it always does). -/
def Iter (P : Program) (gf : FuncId) (lb : Array Value) (SI : Sto) {α : Type} (ea : α → List AV) (xs : List α) : Prop :=
  ∀ (fv : Value) (J : List α → Sto → Prop) (S0 : Sto), (∀ pre S, J pre S → oldS S = true) → J [] S0 →
    (∀ pre x S, (∃ r, xs = pre ++ x :: r) → J pre S → SatV P fv (ea x) S (fun z s => z = .v (.bool true) ∧ J (pre ++ [x]) s)) →
    Sat P gf (.v fv :: lb.toList.map .v) (SI ++ S0) (fun z s => z = .t [] ∧ ∃ S, J xs S ∧ s = SI ++ S)

theorem KeepE.mem {env : Env} {ks : List Nat} {e : Env} (h : KeepE env ks e) {s : Nat} {q : Path} {z : AV} (hl : lookup s e = some (q, z)) : s ∈ ks := by
  induction h with
  | nil => simp [lookup] at hl
  | cons h1 _ ih =>
    rw [lookup_cons] at hl
    split at hl
    · rename_i e; simp [e]
    · simp [ih hl]
/-- A round's parameters. -/
def parEnv : List Tmp → List AV → Env
  | t :: ts, z :: zs => (t, [], z) :: parEnv ts zs
  | _, _ => []
theorem parEnv_lookup {cx : Cx} {w : World} : ∀ (ts : List Tmp) (zs : List AV) (vs : List Value) (tmps : Array Value), AAtL cx w zs vs → ts.Nodup → ts.length = zs.length → (∀ t ∈ ts, t < tmps.size) → ∀ s q z, lookup s (parEnv ts zs) = some (q, z) →
    q = [] ∧ AAt cx w z (((ts.zip vs).foldl (fun t (p, v) => t.setIfInBounds p v) tmps).getD s undef)
  | [], zs, vs, tmps, h, hn, hl, hb, s, q, z, hlk => by simp [parEnv, lookup] at hlk
  | t :: ts, [], vs, tmps, h, hn, hl, hb, s, q, z, hlk => by simp [parEnv, lookup] at hlk
  | t :: ts, z0 :: zs, [], tmps, h, hn, hl, hb, s, q, z, hlk => by simp [AAtL] at h
  | t :: ts, z0 :: zs, v :: vs, tmps, h, hn, hl, hb, s, q, z, hlk => by
    simp only [AAtL] at h
    have hn' := List.nodup_cons.1 hn
    rw [parEnv, lookup_cons] at hlk
    simp only [List.zip_cons_cons, List.foldl_cons]
    have other : ∀ (ts : List Tmp) (vs : List Value) (tmps : Array Value), s ∉ ts → ((ts.zip vs).foldl (fun t (p, v) => t.setIfInBounds p v) tmps).getD s undef = tmps.getD s undef := by
      intro ts
      induction ts with
      | nil => intro vs tmps _; simp
      | cons t ts ih =>
        intro vs tmps hs
        cases vs with
        | nil => simp
        | cons v vs =>
          simp only [List.zip_cons_cons, List.foldl_cons]
          rw [ih vs _ (fun h => hs (by simp [h])), getD_set_other (fun e => hs (by simp [e]))]
    split at hlk
    · rename_i e
      simp only [Option.some.injEq, Prod.mk.injEq] at hlk
      obtain ⟨rfl, rfl⟩ := hlk
      subst e
      refine ⟨rfl, ?_⟩
      rw [other ts vs _ hn'.1, getD_set_same (hb s (by simp))]
      exact h.1
    · exact parEnv_lookup ts zs vs _ h.2 hn'.2 (by simpa using hl) (fun t ht => by simp; exact hb t (by simp [ht])) s q z hlk
theorem par_size (ts : List Tmp) : ∀ (vs : List Value) (tmps : Array Value), ((ts.zip vs).foldl (fun t (p, v) => t.setIfInBounds p v) tmps).size = tmps.size := by
  induction ts with
  | nil => intro vs tmps; simp
  | cons t ts ih =>
    intro vs tmps
    cases vs with
    | nil => simp
    | cons v vs => simp only [List.zip_cons_cons, List.foldl_cons]; rw [ih]; simp
theorem par_other (ts : List Tmp) {s : Nat} (hs : s ∉ ts) : ∀ (vs : List Value) (tmps : Array Value), ((ts.zip vs).foldl (fun t (p, v) => t.setIfInBounds p v) tmps).getD s undef = tmps.getD s undef := by
  induction ts with
  | nil => intro vs tmps; simp
  | cons t ts ih =>
    intro vs tmps
    cases vs with
    | nil => simp
    | cons v vs =>
      simp only [List.zip_cons_cons, List.foldl_cons]
      rw [ih (fun h => hs (by simp [h])), getD_set_other (fun e => hs (by simp [e]))]

/-- A block that nobody owned, that is no data, turns. -/
theorem Abs.turnFree {C : Ctx} {env : Env} {sto : Sto} {a : Act} {w w' : World} (h : Abs C env sto a w) {l : Nat} (ho : w'.os = w.os) (ht : w'.tape = w.tape) (hu : w'.output = w.output) (hs : w'.heap.size = w.heap.size) (hb : ∀ b, b ≠ l → w'.heap[b]? = w.heap[b]?)
    (hl : C.w0.heap.size ≤ l) (hn : l ∉ blocksOf sto) (hc : ∃ rec, w.heap[l]? = some (.loop rec)) : Abs C env sto a w' := by
  obtain ⟨rec, hrec⟩ := hc
  have hcell : ∀ ad v, w.cell? ad = some v → w'.cell? ad = some v := by
    intro ad v hv
    by_cases hbl : ad.block = l
    · unfold World.cell? at hv
      rw [hbl, hrec] at hv
      cases hv
    · rw [← hv]; exact World.cell?_of_block (hb _ hbl)
  refine ⟨⟨ho.trans h.kept.os, ht.trans h.kept.tape, hu.trans h.kept.output, by rw [hs]; exact h.kept.size, fun k hk hkn => (hb k (by omega)).trans (h.kept.block k hk hkn)⟩, h.nodup, h.src, fun r hr => ?_, fun s' q z hl hq => ?_, h.envU, h.tsize, ⟨h.defers.1, fun d hd => ?_⟩, h.xlt, h.xown, h.base⟩
  · exact RAt.monoC (fun _ _ h => h) hcell (by rw [hs]; exact Nat.le_refl _) (fun b hbr => hb b (fun e => hn (e ▸ List.mem_flatMap.2 ⟨r, hr, hbr⟩))) (h.res r hr)
  · exact AAt.monoC (fun _ _ h => h) hcell (by rw [hs]; exact Nat.le_refl _) (h.slots s' q z hl hq)
  · obtain ⟨r, h1, h2, h3, h4⟩ := h.defers.2 d hd
    refine ⟨r, h1, h2, h3, (hb r (fun e => ?_)).trans h4⟩
    rw [e, hrec] at h4
    cases h4

theorem runEnter (P : Program) (w : World) (fn : FuncId) (tmps : Array Value) (ps : Array Tmp) (assign body : Code) :
    (Instr.enterLoop fn tmps ps assign body none).run P w =
      .ok (w.heap.size + 1, [{ target := .collected w.heap.size, args := #[] }])
        ((w.alloc (.deferred (some []))).alloc (.loop { state := .ready, pending := none, fn, tmps, params := ps, assign, body, defers := w.heap.size })) := run_enterLoop_outer ..

section
variable {P : Program} {T : Tab} (hT : TabOk P T) {N : Nat} {Q : Env → Sto → Prop}
include hT
/-- **A range over a function**, outside of rounds. -/
theorem RunSem.range {fb : Bool} {α ι : Type} {f : Operand} {ps : Array Tmp} {assign body : Code} {k : List It} {env kept : Env} {sto rest : Sto} {gf : FuncId} {lb : Array Value} {SI : Sto} {ea : α → List AV} {xs : List α}
    (hit : Iter P gf lb SI ea xs) (ks : List Nat) (Sb : ι → Sto) (p : List α → ι → Prop) (y0 : ι) (h0 : p [] y0) (hg : Get env [] f (.v (.func (.func gf) #[] lb))) (hkept : KeepE env ks kept) (hko : (kept.all fun e => oldA e.2.2) = true)
    (hs : TakeR sto (SI ++ Sb y0) rest) (hold : ∀ y, oldS (Sb y) = true) (holdI : oldS SI = true) (hps : ps.toList.Nodup) (hpl : ∀ t ∈ ps.toList, t < N) (hea : ∀ x, (ea x).length = ps.size) (hdis : ∀ t ∈ ps.toList, t ∉ ks)
    (hbody : ∀ pre x y l fn D, (∃ r, xs = pre ++ x :: r) → p pre y →
      Run P T ⟨N, false, false⟩ (fun _ _ => False) [.c assign, .beg l, .c body, .goal (fun _ s => ∃ y', p (pre ++ [x]) y' ∧ StoSub s (.rnd l N .busy fn ps assign body D kept :: Sb y'))] (parEnv ps.toList (ea x) ++ kept) (.rnd l N .ready fn ps assign body D kept :: Sb y))
    (hk : ∀ y, p xs y → Run P T ⟨N, true, fb⟩ Q k env (SI ++ Sb y ++ rest)) : RunSem P ⟨N, true, fb⟩ Q (.c (.rangeFunc f ps assign body) :: k) env sto := by
  intro C a w hN hA
  have hrnd := hN.2.1 rfl
  have hNN : C.N = N := hN.1
  have hA1 := hA.sub hs.sub
  show wpR C.rnd P (.rangeFunc f ps assign body) (postK P C Q k) a w
  refine wpIn_rangeFunc (fun fn _ => ?_)
  have hround : (fr C.rnd).round = none := hrnd
  rw [hround]
  -- the record is laid
  let rec0 : LoopState → Loop := fun st => { state := st, pending := none, fn, tmps := a.tmps, params := ps, assign, body, defers := w.heap.size }
  let w1 := (w.alloc (.deferred (some []))).alloc (.loop (rec0 .ready))
  have hsz1 : w1.heap.size = w.heap.size + 2 := by simp [w1]
  have hL1 : w1.heap[w.heap.size + 1]? = some (.loop (rec0 .ready)) := by
    have := World.alloc_heap_new (w.alloc (.deferred (some []))) (.loop (rec0 .ready))
    rwa [World.size_alloc] at this
  have hK1 : w1.heap[w.heap.size]? = some (.deferred (some [])) := by
    have h1 := World.alloc_heap_new w (.deferred (some []))
    rw [← h1]
    exact heapOld _ _ _ (by simp)
  have hold1 : ∀ b, b < w.heap.size → w1.heap[b]? = w.heap[b]? := fun b hb => (heapOld _ _ _ (by simp; omega)).trans (heapOld _ _ _ hb)
  have hkept1 : Kept [] w w1 := ⟨rfl, rfl, rfl, by omega, fun b hb _ => hold1 b hb⟩
  let a1 : Act := { a with defers := [({ target := .collected w.heap.size, args := #[] } : Deferred)] ++ a.defers }
  have hgrow := hA1.grow hkept1
  have hnotin : w.heap.size + 1 ∉ blocksOf (SI ++ Sb y0 ++ rest) := fun h => by have := hA1.lt _ h; omega
  have hA2 : Abs C env (.rnd (w.heap.size + 1) N .ready fn ps assign body w.heap.size kept :: (SI ++ Sb y0 ++ rest)) a1 w1 := by
    have hk0 := hA1.kept.size
    have hcx : ∀ n b, b < w.heap.size → (C.cx (SI ++ Sb y0 ++ rest)).ok n b → (C.cx (.rnd (w.heap.size + 1) N .ready fn ps assign body w.heap.size kept :: (SI ++ Sb y0 ++ rest))).ok n b ∧ w1.heap[b]? = w.heap[b]? := fun n b hb hok =>
      ⟨⟨fun hm => by
        rcases List.mem_append.1 (show b ∈ [w.heap.size + 1] ++ blocksOf (SI ++ Sb y0 ++ rest) from hm) with h | h
        · simp at h; omega
        · exact hok.1 h, hok.2⟩, hold1 b hb⟩
    refine ⟨hgrow.kept, ?_, ?_, ?_, fun s q z hl hq => AAt.mono hcx (by omega) (hA1.slots s q z hl hq), hA1.envU, hA1.tsize, ⟨?_, ?_⟩, hA1.xlt, hA1.xown, hA1.base⟩
    · exact List.nodup_append.2 ⟨by simp [Res.blocks], hA1.nodup, fun x hx y hy e => by simp [Res.blocks] at hx; subst hx; subst e; exact hnotin hy⟩
    · intro b hb
      rcases List.mem_append.1 (show b ∈ [w.heap.size + 1] ++ blocksOf (SI ++ Sb y0 ++ rest) from hb) with h | h
      · simp at h; right; omega
      · exact hA1.src b h
    · intro r hr
      rcases List.mem_cons.1 hr with rfl | hr
      · refine ⟨a.tmps, hL1, hA1.tsize.trans hNN, fun s z hl => ?_⟩
        obtain ⟨_, hl'⟩ := hkept.look hl
        exact AAt.mono hcx (by omega) (hA1.slots s [] z hl' trivial)
      · exact RAt.mono hcx (by omega) (fun b hb => hold1 b ((hA1.res r hr).lt b hb)) (hA1.res r hr)
    · refine List.nodup_cons.2 ⟨fun hd => ?_, hA1.defers.1⟩
      obtain ⟨r, h1, _, _, h4⟩ := hA1.defers.2 _ hd
      simp only [Deferred.mk.injEq, Target.collected.injEq, and_true] at h1
      subst h1
      have := (Array.getElem?_eq_some_iff.1 h4).1
      omega
    · intro d hd
      rcases List.mem_cons.1 hd with rfl | hd
      · refine ⟨w.heap.size, rfl, Nat.le_trans hA1.base hk0, fun hm => ?_, hK1⟩
        rcases List.mem_append.1 (show w.heap.size ∈ [w.heap.size + 1] ++ blocksOf (SI ++ Sb y0 ++ rest) from hm) with h | h
        · simp at h
        · have := hA1.lt _ h; omega
      · obtain ⟨r, h1, h2, h3, h4⟩ := hA1.defers.2 d hd
        have hlt := (Array.getElem?_eq_some_iff.1 h4).1
        refine ⟨r, h1, h2, fun hm => ?_, (hold1 r hlt).trans h4⟩
        rcases List.mem_append.1 (show r ∈ [w.heap.size + 1] ++ blocksOf (SI ++ Sb y0 ++ rest) from hm) with h | h
        · simp at h; omega
        · exact h3 h
  -- the iterator's contract
  let R : List α → Sto → Prop := fun pre S => ∃ y, p pre y ∧ S = .rnd (w.heap.size + 1) N .ready fn ps assign body w.heap.size kept :: Sb y
  have hRold : ∀ pre S, R pre S → oldS S = true := by
    rintro pre S ⟨y, _, rfl⟩
    simp only [oldS, oldR, hko, hold y, Bool.and_self]
  have hyield : ∀ pre x S, (∃ r, xs = pre ++ x :: r) → R pre S → SatV P (.func (.yield (w.heap.size + 1)) #[] #[]) (ea x) S (fun z s => z = .v (.bool true) ∧ R (pre ++ [x]) s) := by
    rintro pre x S hpre ⟨y, hp, rfl⟩
    intro X W vs hX1 hX2 hnd hres hargs
    obtain ⟨tmps, k1, k2, k3⟩ := hres _ (List.mem_cons_self ..)
    have hlen : vs.toArray.size = ps.size := by rw [List.size_toArray, ← hargs.length]; exact hea x
    refine ⟨rfl, rfl, fn, _, assign, body, run_yield k1 hlen, ?_⟩
    let C' : Ctx := { w0 := W, O := blocksOf (.rnd (w.heap.size + 1) N .ready fn ps assign body w.heap.size kept :: Sb y), X, N, rnd := some (w.heap.size + 1), B := W.heap.size }
    let tm := (ps.zip vs.toArray).foldl (fun tmps (t, a) => tmps.setIfInBounds t a) tmps
    have htm : tm = (ps.toList.zip vs).foldl (fun t (p, v) => t.setIfInBounds p v) tmps := by
      simp only [tm]
      rw [← Array.foldl_toList]
      congr 1
      simp
    have hA' : Abs C' (parEnv ps.toList (ea x) ++ kept) (.rnd (w.heap.size + 1) N .ready fn ps assign body w.heap.size kept :: Sb y) { tmps := tm, defers := [] } W := by
      have key : ∀ s q z, lookup s (parEnv ps.toList (ea x) ++ kept) = some (q, z) → q = [] ∧ AAt (C'.cx (.rnd (w.heap.size + 1) N .ready fn ps assign body w.heap.size kept :: Sb y)) W z (tm.getD s undef) := by
        intro s q z hl
        rw [lookup_append] at hl
        cases hpe : lookup s (parEnv ps.toList (ea x)) with
        | some qz =>
          obtain ⟨q', z'⟩ := qz
          rw [hpe] at hl
          simp at hl
          obtain ⟨rfl, rfl⟩ := hl
          rw [htm]
          exact parEnv_lookup ps.toList (ea x) vs tmps hargs hps (by rw [hea x]; simp) (fun t ht => by rw [k2]; exact hpl t ht) s q' z' hpe
        | none =>
          rw [hpe] at hl
          simp at hl
          obtain ⟨rfl, hl'⟩ := hkept.look hl
          have hsk : s ∈ ks := hkept.mem hl
          have hsn : s ∉ ps.toList := fun h => hdis s h hsk
          rw [htm, par_other ps.toList hsn vs tmps]
          exact ⟨rfl, k3 s z hl⟩
      refine ⟨Kept.refl _ _, hnd, fun b hb => .inl hb, hres, fun s q z hl hq => (key s q z hl).2, fun s q z hl hq => ?_, ?_, ⟨List.nodup_nil, fun d hd => by cases hd⟩, hX1, hX2, Nat.le_refl _⟩
      · obtain ⟨rfl, _⟩ := key s q z hl
        exact absurd trivial hq
      · show tm.size = N
        rw [htm, par_size, k2]
    have hrun := (hbody pre x y (w.heap.size + 1) fn w.heap.size hpre hp).sound hT C' _ W ⟨rfl, (fun h => by cases h), fun h => by cases h⟩ hA'
    refine roundIn_of_wpIn (F := fr none) (n := 0) trivial ?_
    refine wpIn_mono (show wpR (some (w.heap.size + 1)) P assign (postK P C' (fun _ _ => False) [.beg (w.heap.size + 1), .c body, .goal _]) _ W from hrun) (fun e a2 w2 hq => ?_)
    cases e with
    | normal =>
      obtain ⟨w3, hb, hq⟩ := hq
      refine ⟨w3, hb, ?_⟩
      refine wpIn_mono (show wpR (some (w.heap.size + 1)) P body (postK P C' (fun _ _ => False) [.goal _]) a2 w3 from hq) (fun e a3 w4 hq => ?_)
      cases e with
      | normal =>
        obtain ⟨env4, sto4, ⟨y', hp', hsub⟩, hA4⟩ := hq
        have hA5 := hA4.sub hsub
        obtain ⟨tm5, j1, j2, j3⟩ := hA5.res _ (List.mem_cons_self ..)
        refine ⟨_, _, run_endRound none j1, ?_⟩
        have hn5 := hA5.nodup
        have hA6 : Abs C' env4 (.rnd (w.heap.size + 1) N .ready fn ps assign body w.heap.size kept :: Sb y') a3 _ := hA5.turnRnd (List.mem_cons_self ..) (st' := .ready) (sto' := .rnd (w.heap.size + 1) N .ready fn ps assign body w.heap.size kept :: Sb y') (fun r hr => by
          rcases List.mem_cons.1 hr with rfl | hr
          · exact .inl rfl
          · refine .inr ⟨by simp [hr], fun hl => ?_⟩
            exact (List.nodup_append.1 (show ([w.heap.size + 1] ++ blocksOf (Sb y')).Nodup from hn5)).2.2 _ (by simp) _ (List.mem_flatMap.2 ⟨r, hr, hl⟩) rfl) hn5 (fun b hb => hb) j1
        exact ⟨_, _, ⟨rfl, y', hp', rfl⟩, hA6.kept, hA6.nodup, hA6.src, hA6.res, OutA.ret rfl⟩
      | ret => obtain ⟨_, _, h, _⟩ := hq; exact h.elim
      | exit id => exact hq.elim
      | goto l => exact hq.elim
      | panic ch => obtain ⟨_, _, _, h, _⟩ := hq; exact h.elim
      | outgrown => exact hq.elim
    | ret => obtain ⟨_, _, h, _⟩ := hq; exact h.elim
    | exit id => exact hq.elim
    | goto l => exact hq.elim
    | panic ch => obtain ⟨_, _, _, h, _⟩ := hq; exact h.elim
    | outgrown => exact hq.elim
  have hsat := hit (.func (.yield (w.heap.size + 1)) #[] #[]) R _ hRold ⟨y0, h0, rfl⟩ hyield
  have hgv : a.eval f = .func (.func gf) #[] lb := hg.v hA (q := []) trivial
  refine ⟨w.heap.size + 1, [{ target := .collected w.heap.size, args := #[] }], w1, { target := .fn (.func gf) lb, args := #[.func (.yield (w.heap.size + 1)) #[] #[]] }, w1, gf, #[.func (.yield (w.heap.size + 1)) #[] #[]] ++ lb, w1, runEnter .., ?_, fun _ _ => trivial, ?_, fun h => (by cases h), ?_⟩
  · simp only [resolve, rangeCall, hgv, Deferred.ofValue, Sem.run_pure]
    simp [Act.eval]
  · simp [invoke, hsat.1]
  rw [callsIn_fr]
  have hperm : (Res.rnd (w.heap.size + 1) N .ready fn ps assign body w.heap.size kept :: (SI ++ Sb y0 ++ rest)).Perm (rest ++ (SI ++ (Res.rnd (w.heap.size + 1) N .ready fn ps assign body w.heap.size kept :: Sb y0))) := by
    refine List.Perm.trans ?_ List.perm_append_comm
    refine List.Perm.trans ?_ (List.Perm.append_right rest List.perm_middle.symm)
    exact List.Perm.refl _
  have hA3 := hA2.perm hperm
  have hto : oldS (SI ++ (Res.rnd (w.heap.size + 1) N .ready fn ps assign body w.heap.size kept :: Sb y0)) = true := by
    have happ : ∀ s t : Sto, oldS s = true → oldS t = true → oldS (s ++ t) = true := by
      intro s t hs ht
      induction s with
      | nil => exact ht
      | cons x s ih => simp only [List.cons_append, oldS, Bool.and_eq_true] at hs ⊢; exact ⟨hs.1, ih hs.2⟩
    exact happ _ _ holdI (hRold [] _ ⟨y0, h0, rfl⟩)
  have hvals : AAtL (C.cx (rest ++ (SI ++ (Res.rnd (w.heap.size + 1) N .ready fn ps assign body w.heap.size kept :: Sb y0)))) w1 (.v (.func (.yield (w.heap.size + 1)) #[] #[]) :: lb.toList.map .v) (.func (.yield (w.heap.size + 1)) #[] #[] :: lb.toList) := ⟨rfl, AAtL.vals _⟩
  have hcall := hA3.call (lend := false) (TakeP.front hto rest) hvals (PassL.same (AllV.app (.one _) (.map lb.toList))) hsat (fun h => by cases h)
  have he : (#[.func (.yield (w.heap.size + 1)) #[] #[]] ++ lb : Array Value) = (Value.func (.yield (w.heap.size + 1)) #[] #[] :: lb.toList).toArray := by
    apply Array.ext'
    simp
  rw [he]
  refine hcall.mono ?_
  rintro e w5 ⟨z, s, ⟨rfl, S, ⟨y, hp, rfl⟩, rfl⟩, hA5, hzo⟩
  obtain ⟨v, rfl, _⟩ := hzo.inv rfl
  have hA6 := hA5 _ hA3
  have hm6 : Res.rnd (w.heap.size + 1) N .ready fn ps assign body w.heap.size kept ∈ (SI ++ (Res.rnd (w.heap.size + 1) N .ready fn ps assign body w.heap.size kept :: Sb y)) ++ rest := by simp
  obtain ⟨tm6, j1, j2, j3⟩ := hA6.res _ hm6
  refine ⟨none, _, run_endLoop j1 (by simp), ?_⟩
  have hp6 : ((SI ++ (Res.rnd (w.heap.size + 1) N .ready fn ps assign body w.heap.size kept :: Sb y)) ++ rest).Perm (Res.rnd (w.heap.size + 1) N .ready fn ps assign body w.heap.size kept :: (SI ++ Sb y ++ rest)) := by
    rw [← List.cons_append]
    exact List.Perm.append_right rest List.perm_middle
  have hA7 := hA6.perm hp6
  have hn7 := List.nodup_append.1 (show ([w.heap.size + 1] ++ blocksOf (SI ++ Sb y ++ rest)).Nodup from hA7.nodup)
  have hA8 : Abs C env (SI ++ Sb y ++ rest) a1 w5 := hA7.sub (.skip (.same _))
  have hA9 := hA8.turnFree (l := w.heap.size + 1) (w' := w5.putObj (w.heap.size + 1) (.loop { state := .exhausted, pending := none, fn, tmps := tm6, params := ps, assign, body, defers := w.heap.size })) rfl rfl rfl (by simp) (fun b hb => World.putObj_heap_other hb)
    (by have := hA1.kept.size; omega) (fun hm => hn7.2.2 _ (by simp) _ hm rfl) ⟨_, j1⟩
  exact (hk y hp).sound hT C _ _ hN hA9
end

/-! ### Strings, letter by letter; functions without a body -/
inductive PullI (b : Nat) (o : Obj) : Sto → Sto → Prop where
  | head {s : Sto} : PullI b o (.it b o :: s) s
  | tail {x : Res} {s s' : Sto} : PullI b o s s' → PullI b o (x :: s) (x :: s')
theorem PullI.perm {b : Nat} {o : Obj} {s s' : Sto} (h : PullI b o s s') : s.Perm (.it b o :: s') := by
  induction h with
  | head => exact .refl _
  | tail _ ih => exact (ih.cons _).trans (.swap ..)
/-- An iterator's block turns. -/
theorem Abs.setIt {C : Ctx} {env : Env} {sto rest : Sto} {a : Act} {w : World} (hA : Abs C env sto a w) {b : Nat} {o o' : Obj} (hp : PullI b o sto rest) (ho : ∀ x, o' ≠ .deferred x) : Abs C env (.it b o' :: rest) a (w.putObj b o') := by
  have hA1 := hA.perm hp.perm
  have hR := hA1.res _ (List.mem_cons_self ..)
  have hlt : b < w.heap.size := hA1.lt b (by simp [blocksOf, Res.blocks])
  have hnd := hA1.nodup
  have hoth : ∀ k, k ≠ b → (w.putObj b o').heap[k]? = w.heap[k]? := fun k hk => World.putObj_heap_other hk
  have hown : b ∈ blocksOf (Res.it b o :: rest) := by simp [blocksOf, Res.blocks]
  have hF : ∀ m k, k < w.heap.size → (C.cx (Res.it b o :: rest)).ok m k → (C.cx (Res.it b o' :: rest)).ok m k ∧ (w.putObj b o').heap[k]? = w.heap[k]? := fun m k _ hok => ⟨hok, hoth k (fun e => hok.1 (e ▸ hown))⟩
  refine hA1.step ⟨rfl, rfl, rfl, by simp, fun k _ hk => hoth k (fun e => hk (e ▸ hown))⟩ hnd (fun k hk => .inl hk) (fun r hr => ?_) (fun k _ hk => hk)
  rcases List.mem_cons.1 hr with rfl | hr
  · exact ⟨World.putObj_heap_same hlt, ho⟩
  · refine RAt.mono hF (by simp) (fun k hk => hoth k (fun e => ?_)) (hA1.res r (by simp [hr]))
    exact (List.nodup_append.1 (show ([b] ++ blocksOf rest).Nodup from hnd)).2.2 b (by simp) b (List.mem_flatMap.2 ⟨r, hr, e ▸ hk⟩) rfl
/-- What a function without a body hands back. -/
def Ext (P : Program) (f : FuncId) (vs : List Value) (v : Value) : Prop := ∀ w, (callFunc f vs.toArray).run P w = .ok (.value v) w
section
variable {P : Program} {T : Tab} (hT : TabOk P T) {N : Fm} {Q : Env → Sto → Prop}
include hT
theorem RunSem.rangeStr {all : Array Oper} {rest : List Oper} {d : Tmp} {t : TypeId} {x : Operand} {ty : TypeId} {pos : String} {af : Array Edge} {k : List It} {env : Env} {sto : Sto} {s : ByteArray} {m b : Nat} {z : List Value} (hd : Nat.blt d N.n = true)
    (hx : Get env [] x (.v (.string s))) (ht : tget t T = some ⟨.str, m, b, z⟩) (hk : ∀ r, Run P T N Q (.ops all rest :: k) ((d, [], .v (.pointer (some ⟨r, 0, none⟩))) :: env) (.it r (.stringIter s 0) :: sto)) :
    RunSem P N Q (.ops all ({ dst := some d, op := .range t x, type := ty, pos, after := af, guard := none } :: rest) :: k) env sto := by
  intro C a w hN hA
  have he : a.eval x = .string s := hx.v hA (q := []) trivial
  have hA' : Abs C env (.it w.heap.size (.stringIter s 0) :: sto) a (w.alloc (.stringIter s 0)) := hA.fresh (kept_alloc w _) (by simp [Res.blocks]) (by simp [Res.blocks]) ⟨heap_alloc_new w _, fun x h => by cases h⟩
  refine wpList_quiet hT rfl rfl (v := .pointer (some ⟨w.heap.size, 0, none⟩)) (w' := w.alloc (.stringIter s 0)) ?_ ((hk _).sound hT C _ _ hN (hA'.put0 (by rw [hN.1]; exact Nat.le_of_ble_eq_true hd) rfl))
  simp only [execOp, Instr.range, he, Sem.run_bind, run_und_str (hT _ _ ht), Result.andThen_ok]
  rfl
theorem RunSem.nextStr {all : Array Oper} {rest : List Oper} {d : Tmp} {x : Operand} {ty : TypeId} {pos : String} {af : Array Edge} {k : List It} {env : Env} {sto sto' : Sto} {r : Nat} {s : ByteArray} {i : Nat} (hd : Nat.blt d N.n = true) (hx : Get env [] x (.v (.pointer (some ⟨r, 0, none⟩))))
    (hp : PullI r (.stringIter s i) sto sto')
    (h1 : i < s.size → Run P T N Q (.ops all rest :: k) ((d, [], .t [.v (.bool true), iv i, .v (.int .i32 (Utf8.decode s i).1)]) :: env) (.it r (.stringIter s (i + (Utf8.decode s i).2)) :: sto'))
    (h2 : ¬ i < s.size → Run P T N Q (.ops all rest :: k) ((d, [], .t [.v (.bool false)]) :: env) (.it r (.stringIter s i) :: sto')) :
    RunSem P N Q (.ops all ({ dst := some d, op := .next x true, type := ty, pos, after := af, guard := none } :: rest) :: k) env sto := by
  intro C a w hN hA
  have he : a.eval x = .pointer (some ⟨r, 0, none⟩) := hx.v hA (q := []) trivial
  have hA1 := hA.perm hp.perm
  have hR := hA1.res _ (List.mem_cons_self ..)
  have hg : (getObj r).run P w = .ok (.stringIter s i) w := by simp [getObj, Sem.run, hR.1]
  have hdl : d < C.N := by rw [hN.1]; exact Nat.le_of_ble_eq_true hd
  by_cases hlt : i < s.size
  · have hA2 := hA.setIt hp (o' := .stringIter s (i + (Utf8.decode s i).2)) (fun x h => by cases h)
    refine wpList_quiet hT rfl rfl (v := .tuple #[.bool true, goInt i, .int .i32 (Utf8.decode s i).1]) (w' := w.putObj r (.stringIter s (i + (Utf8.decode s i).2))) ?_ ((h1 hlt).sound hT C _ _ hN (hA2.put0 hdl ⟨_, rfl, rfl, rfl, rfl, trivial⟩))
    have hs : (setObj r (.stringIter s (i + (Utf8.decode s i).2))).run P w = .ok () (w.putObj r (.stringIter s (i + (Utf8.decode s i).2))) := by simp [setObj, Sem.run, hR.1, World.putObj]
    simp only [execOp, Instr.next, he, Sem.run_bind, hg, Result.andThen_ok, if_pos hlt, hs]
    rfl
  · refine wpList_quiet hT rfl rfl (v := .tuple #[.bool false]) (w' := w) ?_ ((h2 hlt).sound hT C _ _ hN (hA1.put0 hdl ⟨_, rfl, rfl, trivial⟩))
    simp only [execOp, Instr.next, he, Sem.run_bind, hg, Result.andThen_ok, if_neg hlt]
    rfl
theorem RunSem.ext {all : Array Oper} {rest : List Oper} {d : Tmp} {fo : Operand} {as : Array Operand} {ts : Array TypeId} {ty : TypeId} {pos : String} {af : Array Edge} {k : List It} {env : Env} {sto : Sto} {f : FuncId} {vs : List Value} {v : Value} (hs : Ext P f vs v) (ho : oneV v = true) (hd : Nat.blt d N.n = true)
    (hf : Get env [] fo (.v (.func (.func f) #[] #[]))) (ha : GetVs env [] as.toList vs) (hk : Run P T N Q (.ops all rest :: k) ((d, [], .v v) :: env) sto) :
    RunSem P N Q (.ops all ({ dst := some d, op := .call { callee := .value fo, args := as, argTypes := ts }, type := ty, pos, after := af, guard := none } :: rest) :: k) env sto := by
  intro C a w hN hA
  have hfv : a.eval fo = .func (.func f) #[] #[] := hf.v hA (q := []) trivial
  have hvs := ha.sound hA (q := []) trivial
  have he : as.map a.eval = vs.toArray := by
    apply Array.ext'
    simpa using hvs
  refine wpList_quiet hT rfl rfl (v := v) (w' := w) ?_ (hk.sound hT C _ _ hN (hA.put0 (by rw [hN.1]; exact Nat.le_of_ble_eq_true hd) rfl))
  simp only [execOp, resolve, hfv, Deferred.ofValue, Sem.run_bind, Sem.run_pure, Result.andThen_ok, invoke, Array.empty_append, Array.append_empty, he]
  exact hs w
end
end Go.Sx
end

section
/- Slices that are made; slices that lose their first elements. -/


set_option linter.unusedSectionVars false
namespace Go.Sx
/-- What stands for a type's zero, by the type. -/
inductive MakeT : Ty → {α : Type} → (α → Nat → DV) → α → Prop where
  | int {k : IntKind} {m b : Nat} {z : List Value} : MakeT ⟨.int k, m, b, z⟩ (encI k) 0
  | bool {m b : Nat} {z : List Value} : MakeT ⟨.bool, m, b, z⟩ encBo false
  | str {m b : Nat} {z : List Value} : MakeT ⟨.str, m, b, z⟩ encS .empty
theorem ZeroL.at {f : Nat → DV} {vs : List Value} (h : ZeroL f 0 vs) (ho : vs.all oneV = true) {F : Nat → Prop} {w : World} {j : Nat} {v : Value} (hv : vs[j]? = some v) : DAt F w (f j) v := by
  have := h.get j v hv
  rw [Nat.zero_add] at this
  exact this.at (List.all_eq_true.1 ho v (List.mem_of_getElem? hv))
section
variable {P : Program} {T : Tab} (hT : TabOk P T) {N : Fm} {Q : Env → Sto → Prop}
include hT
theorem RunSem.makeS {α : Type} {enc : α → Nat → DV} {dv : α} {all : Array Oper} {rest : List Oper} {d : Tmp} {t e m b : Nat} {z : List Value} {ye : Ty} {x y : Operand} {n : Int} {ty : TypeId} {pos : String} {af : Array Edge} {k : List It} {env : Env} {sto : Sto}
    (hd : Nat.blt d N.n = true) (hx : Get env [] x (iv n)) (hy : Get env [] y (iv n)) (ht : tget t T = some ⟨.slice e, m, b, z⟩) (he : tget e T = some ye) (hm : MakeT ye enc dv) (hz : ZeroL (enc dv) 0 ye.zero) (hzo : ye.zero.all oneV = true) (hs : Side [] (0 ≤ n ∧ (ye.bytes : Int) * n ≤ 281474976710656 ∧ n ≤ 281474976710656))
    (hk : ∀ v, Run P T N Q (.ops all rest :: k) ((d, [], .o v) :: env) (.row v true e ye.size enc dv (List.replicate n.toNat dv) :: sto)) :
    RunSem P N Q (.ops all ({ dst := some d, op := .makeSlice t x y, type := ty, pos, after := af, guard := none } :: rest) :: k) env sto := by
  intro C a w hN hA
  have hex : a.eval x = .int .i64 n := hx.v hA (q := []) trivial
  have hey : a.eval y = .int .i64 n := hy.v hA (q := []) trivial
  obtain ⟨h0, h1, h2⟩ := hs trivial
  obtain ⟨de, ie, hi1, hi2, hi3, hi4, hi5, hi6, hi7, _⟩ := hT _ _ he
  obtain ⟨dt, it, ht1, _, ht3, _⟩ := hT _ _ ht
  have ht1' : P.underlying t = some (.slice e) := by
    cases dt <;> simp only [TK.fits] at ht3
    subst ht3
    exact ht1
  cases hzv : ie.zero with
  | none => simp [hzv] at hi6
  | some zv =>
    simp only [hzv, Option.map_some, Option.some.injEq] at hi6
    have hzsz : zv.cells.size = ye.size := by rw [← Array.length_toList, hi6, hi7]
    have hr := run_make (P := P) w t e ie zv ht1' hi2 hzv .i64 .i64 n n h0 (Int.le_refl _) (by rw [hi5]; exact h1) (by omega)
    rw [hi4] at hr
    have hA' := hA.newRow (n := true) (e := e) (sz := ye.size) (len := n.toNat) (cap := n.toNat) (enc := enc) (dv := dv) (xs := List.replicate n.toNat dv) (cells := madeCells zv.cells (n.toNat * ye.size)) (by simp) (Nat.le_refl _) (by simp only [maxLen]; omega) (by rw [size_madeCells]; exact Nat.le_refl _) (fun i j hi hj => by
      simp only [List.length_replicate] at hi
      have hlt : i * ye.size + j < n.toNat * ye.size := by
        have : (i + 1) * ye.size ≤ n.toNat * ye.size := Nat.mul_le_mul_right _ hi
        rw [Nat.add_mul, Nat.one_mul] at this
        omega
      have hmod : (i * ye.size + j) % zv.cells.size = j := by rw [hzsz, Nat.add_comm, Nat.add_mul_mod_self_right, Nat.mod_eq_of_lt hj]
      have hj' : j < zv.cells.size := by omega
      refine ⟨zv.cells[j]'hj', ?_, ?_⟩
      · simp only [madeCells, Array.getElem?_map, Array.getElem?_range, hlt, if_true, Option.map_some]
        rw [hmod, getElem!_pos zv.cells j hj']
      · have : (List.replicate n.toNat dv).getD i dv = dv := by simp [List.getD, hi]
        rw [this]
        refine hz.at hzo ?_
        rw [← hi6]
        simp [hj'])
    refine wpList_quiet hT rfl rfl (v := .slice (some ⟨w.heap.size, 0, none⟩) n.toNat n.toNat) (w' := w.alloc (.cells (madeCells zv.cells (n.toNat * ye.size)) e)) ?_ ((hk _).sound hT C _ _ hN (hA'.put0 (by rw [hN.1]; exact Nat.le_of_ble_eq_true hd) ⟨rfl, _, _, _, rfl⟩))
    simp only [execOp, hex, hey, Sem.run_bind]
    rw [hr]
    rfl

theorem Out1.mem {s s' : Sto} {r : Res} (h : Out1 s r s') : r ∈ s := by
  induction h with
  | head => simp
  | tail _ ih => simp [ih]
/-- A row loses its first elements: it is another slice then. -/
theorem RunSem.dropO {α : Type} {enc : α → Nat → DV} {dv : α} {xs : List α} {new : Bool} {sz : Nat} {all : Array Oper} {rest : List Oper} {d : Tmp} {t e e' m b b' : Nat} {z z' : List Value} {ke : TK} {x : Operand} {lo : Option Operand} {vl : Option Value} {l : Int} {ty : TypeId} {pos : String} {af : Array Edge} {k : List It} {env : Env} {sto sto' : Sto} {v : Value}
    (hd : Nat.blt d N.n = true) (hx : Get env [] x (.o v)) (hlo : GetO env [] lo vl) (ho : Out1 sto (.row v new e' sz enc dv xs) sto') (ht : tget t T = some ⟨.slice e, m, b, z⟩) (he : tget e T = some ⟨ke, sz, b', z'⟩) (hl : boundI vl 0 = some l) (hs : Side [] (0 ≤ l ∧ l ≤ xs.length))
    (hk : ∀ v', Run P T N Q (.ops all rest :: k) ((d, [], .o v') :: env) (.row v' new e' sz enc dv (xs.drop l.toNat) :: sto')) :
    RunSem P N Q (.ops all ({ dst := some d, op := .slice t x lo none none, type := ty, pos, after := af, guard := none } :: rest) :: k) env sto := by
  intro C a w hN hA
  have hu := hx.sound hA (q := []) trivial
  obtain ⟨h0, h1⟩ := hs trivial
  simp only [AAt] at hu
  obtain ⟨hev, _⟩ := hu
  have hA1 := hA.perm ho.perm
  obtain ⟨vals, hr1, hr2, hr3, hr4⟩ := hA1.res _ (List.mem_cons_self ..)
  have hlo' := hlo.sound hA (q := []) trivial
  have hex : ∃ A n c, v = .slice A n c ∧ n ≤ c := by
    rcases hr1 with ⟨rfl, rfl⟩ | ⟨g, o, n', cap, cur, rfl, hg, hn, _⟩
    · exact ⟨_, _, _, rfl, Nat.le_refl _⟩
    · exact ⟨_, _, _, rfl, hn⟩
  obtain ⟨A, n, c, rfl, hnc⟩ := hex
  have hn := hr3 _ _ _ rfl
  subst hn
  have hrun := run_sliceAt_slice (w := w) (lo := vl) (hi := none) (mx := none) (hT _ _ ht) (hT _ _ he) (A := A) (len := xs.length) (cap := c) hl rfl rfl (by simp) h0 h1 (by omega) (Int.le_refl _)
  simp only [Int.toNat_natCast] at hrun
  generalize hv' : Value.slice (if c = l.toNat then A else A.map (·.add (l.toNat * sz))) (xs.length - l.toNat) (c - l.toNat) = v' at hrun
  have hkey : v'.ownBlock = (Value.slice A xs.length c).ownBlock ∧ RowAt w e' sz v' (vals.drop (l.toNat * sz)) := by
    subst hv'
    rcases hr1 with ⟨h, hv⟩ | ⟨g, o, n', cap, cur, h, hg, hn', hcap, hsz, hlen, hvals⟩
    · simp only [Value.slice.injEq] at h
      obtain ⟨rfl, h2, rfl⟩ := h
      refine ⟨by simp [Value.ownBlock], .inl ⟨by simp [h2], by rw [hv]; simp⟩⟩
    · simp only [Value.slice.injEq] at h
      obtain ⟨rfl, rfl, rfl⟩ := h
      have hadd : (if c = l.toNat then some (⟨g, o, none⟩ : Addr) else (some (⟨g, o, none⟩ : Addr)).map (·.add (l.toNat * sz))) = some ⟨g, if c = l.toNat then o else o + l.toNat * sz, none⟩ := by
        split
        · rfl
        · simp [Addr.add]
      rw [hadd]
      refine ⟨by simp [Value.ownBlock], .inr ⟨g, _, _, _, cur, rfl, hg, by omega, by omega, ?_, ?_, ?_⟩⟩
      · split
        · rename_i hc
          have : (c - l.toNat) * sz = 0 := by rw [hc]; simp
          omega
        · have : l.toNat * sz + (c - l.toNat) * sz = c * sz := by rw [← Nat.add_mul]; congr 1; omega
          omega
      · rw [List.length_drop, hlen, Nat.sub_mul]
      · rw [hvals]
        split
        · rename_i hc
          have h0 : xs.length - l.toNat = 0 := by omega
          have hx : xs.length = l.toNat := by omega
          rw [h0, hx]
          simp
        · rw [List.drop_take, List.drop_drop, Nat.sub_mul]
  have hA2 : Abs C env (.row v' new e' sz enc dv (xs.drop l.toNat) :: sto') a w := by
    have hb : blocksOf (.row v' new e' sz enc dv (xs.drop l.toNat) :: sto') = blocksOf (.row (.slice A xs.length c) new e' sz enc dv xs :: sto') := by
      simp [blocksOf, Res.blocks, hkey.1]
    have hF : ∀ n b, b < w.heap.size → (C.cx (.row (.slice A xs.length c) new e' sz enc dv xs :: sto')).ok n b → (C.cx (.row v' new e' sz enc dv (xs.drop l.toNat) :: sto')).ok n b ∧ w.heap[b]? = w.heap[b]? := fun n b _ hok => ⟨⟨fun h => hok.1 (show b ∈ blocksOf _ from hb ▸ (show b ∈ blocksOf _ from h)), hok.2⟩, rfl⟩
    refine hA1.step (Kept.refl _ _) (by rw [hb]; exact hA1.nodup) (fun b hm => .inl (by rw [← hb]; exact hm)) (fun r hr => ?_) (fun b _ hm => by rw [← hb]; exact hm)
    rcases List.mem_cons.1 hr with rfl | hr
    · refine ⟨vals.drop (l.toNat * sz), hkey.2, by rw [List.length_drop, hr2, List.length_drop, Nat.sub_mul], ?_, fun i j hi hj => ?_⟩
      · intro A' n' c' h
        rw [← hv'] at h
        simp only [Value.slice.injEq] at h
        rw [← h.2.1, List.length_drop]
      · rw [List.length_drop] at hi
        obtain ⟨y, h1, h2⟩ := hr4 (l.toNat + i) j (by omega) hj
        refine ⟨y, ?_, ?_⟩
        · rw [List.getElem?_drop, ← h1]
          congr 1
          rw [Nat.add_mul, Nat.add_assoc]
        · have : (xs.drop l.toNat).getD i dv = xs.getD (l.toNat + i) dv := by simp [List.getD, List.getElem?_drop]
          rw [this]
          exact h2.mono (fun b hlt hok => hF _ b hlt hok) (Nat.le_refl _)
    · exact RAt.mono hF (Nat.le_refl _) (fun _ _ => rfl) (hA1.res r (by simp [hr]))
  refine wpList_quiet hT rfl rfl (v := v') (w' := w) ?_ ((hk _).sound hT C _ _ hN (hA2.put0 (by rw [hN.1]; exact Nat.le_of_ble_eq_true hd) ?_))
  · simp only [execOp, hev, Option.map_none]
    rw [hlo']
    simp only [Sem.run_bind, hrun]
    rfl
  · rw [← hv']
    exact ⟨rfl, _, _, _, rfl⟩
/-- A guarded call of a value that says true. -/
theorem RunSem.yieldG {J : Sto → Prop} {all : Array Oper} {rest : List Oper} {d gs : Tmp} {g : Nat} {b c : Bool} {q : Path} {fo : Operand} {as : Array Operand} {ts : Array TypeId} {ty : TypeId} {pos : String} {af : Array Edge} {k : List It} {env : Env} {sto stoF sto1 : Sto}
    {fv : Value} {zs args : List AV} (hs : PathHolds ((c, b) :: q) → SatV P fv args stoF (fun z s => z = .v (.bool true) ∧ J s)) (hgs : gslot all g = some gs) (hl : lookup gs env = some (q, .v (.bool c))) (hd : Nat.blt d N.n = true) (hf : Get env ((c, b) :: q) fo (.v fv)) (ha : GetL env ((c, b) :: q) as.toList zs)
    (ht : TakeP sto stoF sto1) (hp : PassL false sto1 zs args)
    (hk : ∀ s, PathHolds ((c, b) :: q) → J s → Run P T N Q (.ops all rest :: k) ((d, (c, b) :: q, .v (.bool true)) :: env) (sto1 ++ s))
    (hn : ¬ PathHolds ((c, b) :: q) → Run P T N Q (.ops all rest :: k) ((d, (c, b) :: q, .v (.bool true)) :: env) sto) :
    RunSem P N Q (.ops all ({ dst := some d, op := .call { callee := .value fo, args := as, argTypes := ts }, type := ty, pos, after := af, guard := some (g, b) } :: rest) :: k) env sto :=
  RunSem.callVG hT hgs hl hs hd hf ha ht hp (by rintro _ _ ⟨rfl, _⟩; rfl) (by rintro _ s h ⟨rfl, hJ⟩; exact hk s h hJ) hn
end
/-- A function's end, by what is asked of it. -/
theorem Ends.any {R : AV → Sto → Prop} {T : Tab} {rs : List ResultVar} {env : Env} {sto s : Sto} {zs zs' : List AV} (h0 : isPanE env = none) (h1 : ResL T env sto rs zs) (h3 : AgeL zs zs') (h4 : StoSub sto s) (h5 : R (wrapRes zs') s) : Ends T rs R env sto := by
  unfold Ends
  rw [h0]
  exact ⟨zs, zs', s, h1, h3, h5, h4⟩
def AgainR {α ι : Type} (Sb : ι → Sto) (p : List α → ι → Prop) (R : Res) (pre : List α) (s : Sto) : Prop := ∃ y', p pre y' ∧ StoSub s (R :: Sb y')
theorem AgainR.mk {α ι : Type} {Sb : ι → Sto} {p : List α → ι → Prop} {R : Res} {pre : List α} {s : Sto} (y : ι) (h1 : p pre y) (h2 : StoSub s (R :: Sb y)) : AgainR Sb p R pre s := ⟨y, h1, h2⟩
section
variable {P : Program} {T : Tab} (hT : TabOk P T) {N : Nat} {Q : Env → Sto → Prop}
include hT
theorem RunSem.rangeK {fb : Bool} {α ι : Type} {f : Operand} {ps : Array Tmp} {assign body : Code} {k : List It} {env kept : Env} {sto rest : Sto} {gf : FuncId} {lb : Array Value} {SI : Sto} {ea : α → List AV} {xs : List α}
    (hit : Iter P gf lb SI ea xs) (ks : List Nat) (Sb : ι → Sto) (p : List α → ι → Prop) (y0 : ι) (h0 : p [] y0) (hg : Get env [] f (.v (.func (.func gf) #[] lb))) (hkept : KeepE env ks kept) (hko : (kept.all fun e => oldA e.2.2) = true)
    (hs : TakeR sto (SI ++ Sb y0) rest) (hold : ∀ y, oldS (Sb y) = true) (holdI : oldS SI = true) (hps : ps.toList.Nodup) (hpl : ∀ t ∈ ps.toList, t < N) (hea : ∀ x, (ea x).length = ps.size) (hdis : ∀ t ∈ ps.toList, t ∉ ks)
    (hbody : ∀ pre x y l fn D, (∃ r, xs = pre ++ x :: r) → p pre y →
      Run P T ⟨N, false, false⟩ (fun _ _ => False) [.c assign, .beg l, .c body, .goal (fun _ s => AgainR Sb p (.rnd l N .busy fn ps assign body D kept) (pre ++ [x]) s)] (parEnv ps.toList (ea x) ++ kept) (.rnd l N .ready fn ps assign body D kept :: Sb y))
    (hk : ∀ y, p xs y → Run P T ⟨N, true, fb⟩ Q k env (SI ++ Sb y ++ rest)) : RunSem P ⟨N, true, fb⟩ Q (.c (.rangeFunc f ps assign body) :: k) env sto :=
  RunSem.range hT hit ks Sb p y0 h0 hg hkept hko hs hold holdI hps hpl hea hdis hbody hk
end
end Go.Sx
end

section
/- A row that is owned is told as data that is only read. -/

set_option linter.unusedSectionVars false
namespace Go.Sx
mutual
inductive FreezeA (v : Value) (r : AV) : AV → AV → Prop where
  | hit : FreezeA v r (.o v) r
  | g {xs ys : List AV} : FreezeL v r xs ys → FreezeA v r (.g xs) (.g ys)
  | t {xs ys : List AV} : FreezeL v r xs ys → FreezeA v r (.t xs) (.t ys)
  | same (z : AV) : FreezeA v r z z
inductive FreezeL (v : Value) (r : AV) : List AV → List AV → Prop where
  | nil : FreezeL v r [] []
  | cons {x y : AV} {xs ys : List AV} : FreezeA v r x y → FreezeL v r xs ys → FreezeL v r (x :: xs) (y :: ys)
end
inductive FreezeE (v : Value) (r : AV) : Env → Env → Prop where
  | nil : FreezeE v r [] []
  | cons {s : Nat} {q : Path} {z z' : AV} {e e' : Env} : FreezeA v r z z' → FreezeE v r e e' → FreezeE v r ((s, q, z) :: e) ((s, q, z') :: e')
inductive FreezeS (v : Value) (r : AV) : Sto → Sto → Prop where
  | nil : FreezeS v r [] []
  | box {b : Nat} {cs cs' : List AV} {s s' : Sto} : FreezeL v r cs cs' → FreezeS v r s s' → FreezeS v r (.box b cs :: s) (.box b cs' :: s')
  | keep {x : Res} {s s' : Sto} : FreezeS v r s s' → FreezeS v r (x :: s) (x :: s')
section
variable {cx cx' : Cx} {w : World} {v : Value} {r : AV}
mutual
theorem FreezeA.sound (hF : ∀ n b, b < w.heap.size → cx.ok n b → cx'.ok n b) (hr : AAt cx' w r v) : ∀ {z z' : AV} {u : Value}, FreezeA v r z z' → AAt cx w z u → AAt cx' w z' u
  | _, _, u, .hit, hz => by
    simp only [AAt] at hz
    obtain ⟨rfl, _⟩ := hz
    exact hr
  | _, _, u, .g h, hz => by
    simp only [AAt] at hz ⊢
    obtain ⟨arr, h1, h2⟩ := hz
    exact ⟨arr, h1, FreezeL.sound hF hr h h2⟩
  | _, _, u, .t h, hz => by
    simp only [AAt] at hz ⊢
    obtain ⟨arr, h1, h2⟩ := hz
    exact ⟨arr, h1, FreezeL.sound hF hr h h2⟩
  | _, _, u, .same z, hz => hz.mono (fun n b hb hok => ⟨hF n b hb hok, rfl⟩) (Nat.le_refl _)
theorem FreezeL.sound (hF : ∀ n b, b < w.heap.size → cx.ok n b → cx'.ok n b) (hr : AAt cx' w r v) : ∀ {xs ys : List AV} {us : List Value}, FreezeL v r xs ys → AAtL cx w xs us → AAtL cx' w ys us
  | _, _, us, .nil, h => by cases us <;> simp_all [AAtL]
  | _, _, [], .cons _ _, h => by simp [AAtL] at h
  | _, _, u :: us, .cons h1 h2, h => by
    simp only [AAtL] at h ⊢
    exact ⟨FreezeA.sound hF hr h1 h.1, FreezeL.sound hF hr h2 h.2⟩
end
end
theorem FreezeE.look {v : Value} {r : AV} {e e' : Env} (h : FreezeE v r e e') {s : Nat} {q : Path} {z' : AV} (hl : lookup s e' = some (q, z')) : ∃ z, lookup s e = some (q, z) ∧ FreezeA v r z z' := by
  induction h with
  | nil => simp [lookup] at hl
  | cons h1 _ ih =>
    rw [lookup_cons] at hl ⊢
    split at hl
    · rename_i hs
      rw [if_pos hs]
      simp only [Option.some.injEq, Prod.mk.injEq] at hl
      obtain ⟨rfl, rfl⟩ := hl
      exact ⟨_, rfl, h1⟩
    · rename_i hs
      rw [if_neg hs]
      exact ih hl
theorem FreezeS.blocks {v : Value} {r : AV} {s s' : Sto} (h : FreezeS v r s s') : blocksOf s' = blocksOf s := by
  induction h with
  | nil => rfl
  | box _ _ ih => simp only [blocksOf, List.flatMap_cons] at ih ⊢; rw [ih]; rfl
  | keep _ ih => simp only [blocksOf, List.flatMap_cons] at ih ⊢; rw [ih]
theorem FreezeS.res {cx cx' : Cx} {w : World} {v : Value} {r : AV} (hF : ∀ n b, b < w.heap.size → cx.ok n b → cx'.ok n b) (hr : AAt cx' w r v) {s s' : Sto} (h : FreezeS v r s s') (hs : ∀ x ∈ s, RAt cx w x) : ∀ x ∈ s', RAt cx' w x := by
  induction h with
  | nil => intro x hx; cases hx
  | box h1 _ ih =>
    intro x hx
    rcases List.mem_cons.1 hx with rfl | hx
    · obtain ⟨arr, e, k1, k2⟩ := hs _ (List.mem_cons_self ..)
      exact ⟨arr, e, k1, FreezeL.sound hF hr h1 k2⟩
    · exact ih (fun x hx => hs x (List.mem_cons_of_mem _ hx)) x hx
  | keep _ ih =>
    intro x hx
    rcases List.mem_cons.1 hx with rfl | hx
    · exact RAt.mono (fun n b hb hok => ⟨hF n b hb hok, rfl⟩) (Nat.le_refl _) (fun _ _ => rfl) (hs _ (List.mem_cons_self ..))
    · exact ih (fun x hx => hs x (List.mem_cons_of_mem _ hx)) x hx
theorem Abs.freeze {C : Ctx} {env env' : Env} {sto rest rest' : Sto} {a : Act} {w : World} (hA : Abs C env sto a w) {α : Type} {v : Value} {n nw : Bool} {e : TypeId} {sz : Nat} {enc : α → Nat → DV} {dv : α} {xs : List α}
    (hp : Pull v n e sz enc dv xs sto rest) (hn : nw = true → n = true ∧ ∀ b ∈ C.O, C.B ≤ b) (he : FreezeE v (.d nw sz enc dv xs) env env') (hs : FreezeS v (.d nw sz enc dv xs) rest rest') : Abs C env' rest' a w := by
  obtain ⟨h1, h2, h3⟩ := hp.mem
  have hb := hs.blocks
  have hnd := List.nodup_append.1 (h3.nodup_iff.1 hA.nodup)
  have hsub : ∀ b ∈ blocksOf rest', b ∈ blocksOf sto := fun b hm => h3.mem_iff.2 (List.mem_append_right _ (hb ▸ hm))
  have hF : ∀ n b, b < w.heap.size → (C.cx sto).ok n b → (C.cx rest').ok n b := fun n b _ hok => ⟨fun hm => hok.1 (hsub b hm), hok.2⟩
  have hr : AAt (C.cx rest') w (.d nw sz enc dv xs) v := by
    simp only [AAt]
    refine row_data (hA.res _ h1) (fun b hlt hok => ⟨(hF n b hlt hok).1, hok.2.1, fun hw => hok.2.2 (hn hw).1⟩) (fun b hm => ?_)
    have hsrc := hA.src b (h3.mem_iff.2 (List.mem_append_left _ hm))
    refine ⟨fun hm' => hnd.2.2 b hm b (hb ▸ hm') rfl, fun hx => ?_, fun hw => ?_⟩
    · rcases hsrc with h | h
      · exact hA.xown b h hx
      · have := hA.xlt b hx; omega
    · rcases hsrc with h | h
      · exact (hn hw).2 b h
      · exact Nat.le_trans hA.base h
  refine ⟨hA.kept, by rw [hb]; exact hnd.2.1, fun b hm => hA.src b (hsub b hm), hs.res hF hr (fun x hx => hA.res x (h2 x hx)), fun s q z' hl hq => ?_, fun s q z' hl hq => ?_, hA.tsize, hA.defers.sub hsub, hA.xlt, hA.xown, hA.base⟩
  · obtain ⟨z, k1, k2⟩ := he.look hl
    exact k2.sound hF hr (hA.slots s q z k1 hq)
  · obtain ⟨z, k1, _⟩ := he.look hl
    exact hA.envU s q z k1 hq
section
variable {P : Program} {T : Tab} (hT : TabOk P T) {N : Fm} {Q : Env → Sto → Prop}
include hT
theorem RunSem.freeze {k : List It} {env env' : Env} {sto rest rest' : Sto} (nw : Bool) {α : Type} (v : Value) {n : Bool} {e : TypeId} {sz : Nat} {enc : α → Nat → DV} {dv : α} {xs : List α}
    (hp : Pull v n e sz enc dv xs sto rest) (hn : (!nw || (n && N.fresh)) = true) (he : FreezeE v (.d nw sz enc dv xs) env env') (hs : FreezeS v (.d nw sz enc dv xs) rest rest') (h : Run P T N Q k env' rest') : RunSem P N Q k env sto := by
  intro C a w hN hA
  refine h.sound hT C a w hN (hA.freeze hp (fun hw => ?_) he hs)
  subst hw
  simp only [Bool.not_true, Bool.false_or, Bool.and_eq_true] at hn
  exact ⟨hn.1, hN.2.2 hn.2⟩
end
end Go.Sx
end

section
/- A frame: what is owned beside is left alone; a context begun anew. -/

set_option linter.unusedSectionVars false
namespace Go.Sx
/-- The context, begun anew here: the resources F are kept aside. -/
def Ctx.re (C : Ctx) (w : World) (F sto : Sto) : Ctx := { C with w0 := w, O := blocksOf sto, X := fun b => C.X b ∨ b ∈ blocksOf F }
theorem re_ok {C : Ctx} {w : World} {F sto s : Sto} {n : Bool} {b : Nat} : ((C.re w F sto).cx s).ok n b ↔ (C.cx (F ++ s)).ok n b := by
  simp only [Cx.ok, Ctx.cx, Ctx.re, cxOf, blocksOf_append, List.mem_append]
  constructor
  · rintro ⟨h1, h2, h3⟩
    exact ⟨fun h => h.elim (fun h => h2 (.inr h)) h1, fun h => h2 (.inl h), h3⟩
  · rintro ⟨h1, h2, h3⟩
    exact ⟨fun h => h1 (.inr h), fun h => h.elim h2 (fun h => h1 (.inl h)), h3⟩
section
variable {C : Ctx} {env env' : Env} {F sto sto' : Sto} {a a' : Act} {w w' : World}
theorem Abs.blockX (h : Abs C env sto a w) : ∀ b ∈ blocksOf sto, ¬ C.X b := by
  intro b hb hx
  rcases h.src b hb with h' | h'
  · exact h.xown b h' hx
  · have := h.xlt b hx; omega
theorem Abs.reIn (h : Abs C env (F ++ sto) a w) : Abs (C.re w F sto) env sto a w := by
  have hnd := List.nodup_append.1 (show (blocksOf F ++ blocksOf sto).Nodup from blocksOf_append F sto ▸ h.nodup)
  have hl := h.lt
  rw [blocksOf_append] at hl
  have hX := h.blockX
  rw [blocksOf_append] at hX
  refine ⟨Kept.refl _ _, hnd.2.1, fun b hb => .inl hb, fun r hr => RAt.mono (fun n b _ hok => ⟨re_ok.2 hok, rfl⟩) (Nat.le_refl _) (fun _ _ => rfl) (h.res r (List.mem_append_right _ hr)),
    fun s q z hl hq => AAt.mono (fun n b _ hok => ⟨re_ok.2 hok, rfl⟩) (Nat.le_refl _) (h.slots s q z hl hq), h.envU, h.tsize, ⟨h.defers.1, fun d hd => ?_⟩, ?_, ?_, Nat.le_trans h.base h.kept.size⟩
  · obtain ⟨r, h1, h2, h3, h4⟩ := h.defers.2 d hd
    exact ⟨r, h1, h2, fun hm => h3 (by rw [blocksOf_append]; exact List.mem_append_right _ hm), h4⟩
  · rintro b (hb | hb)
    · exact Nat.lt_of_lt_of_le (h.xlt b hb) h.kept.size
    · exact hl b (List.mem_append_left _ hb)
  · rintro b hb (hx | hx)
    · exact hX b (List.mem_append_right _ hb) hx
    · exact hnd.2.2 b hx b hb rfl
theorem Ctx.fits_re {N : Fm} (h : Abs C env (F ++ sto) a w) (hN : C.fits N) : (C.re w F sto).fits N := by
  refine ⟨hN.1, hN.2.1, fun hf b hb => ?_⟩
  rcases h.src b (by rw [blocksOf_append]; exact List.mem_append_right _ hb) with h' | h'
  · exact hN.2.2 hf b h'
  · exact Nat.le_trans h.base h'
/-- Whatever was told of the state ahead is told of it behind, with what was kept aside. -/
theorem Abs.reKeep (h : Abs C env (F ++ sto) a w) (h' : Abs (C.re w F sto) env' sto' a' w') {env2 : Env} {a2 : Act} (h2 : Abs C env2 (F ++ sto) a2 w) : Abs C env2 (F ++ sto') a2 w' := by
  have hnd := List.nodup_append.1 (show (blocksOf F ++ blocksOf sto).Nodup from blocksOf_append F sto ▸ h.nodup)
  have hl := h.lt
  rw [blocksOf_append] at hl
  have hdis : ∀ b, b ∈ blocksOf F → b ∈ blocksOf sto' → False := by
    intro b hF hs
    rcases h'.src b hs with h1 | h1
    · exact hnd.2.2 b hF b h1 rfl
    · have := hl b (List.mem_append_left _ hF)
      have : w.heap.size ≤ b := h1
      omega
  have hkb : ∀ b, b < w.heap.size → b ∉ blocksOf sto → w'.heap[b]? = w.heap[b]? := fun b hb hn => h'.kept.block b hb hn
  refine h2.step ⟨h'.kept.os, h'.kept.tape, h'.kept.output, h'.kept.size, fun b hb hn => hkb b hb (fun hm => hn (by rw [blocksOf_append]; exact List.mem_append_right _ hm))⟩ ?_ (fun b hb => ?_) (fun r hr => ?_) (fun b hb hm => ?_)
  · rw [blocksOf_append]
    exact List.nodup_append.2 ⟨hnd.1, h'.nodup, fun x hx y hy e => hdis x hx (e ▸ hy)⟩
  · rw [blocksOf_append] at hb ⊢
    rcases List.mem_append.1 hb with h1 | h1
    · exact .inl (List.mem_append_left _ h1)
    · rcases h'.src b h1 with h3 | h3
      · exact .inl (List.mem_append_right _ h3)
      · exact .inr h3
  · rcases List.mem_append.1 hr with h1 | h1
    · refine RAt.mono (cx := C.cx (F ++ sto)) (w := w) (fun n b hb hok => ?_) h'.kept.size (fun b hb => ?_) (h.res r (List.mem_append_left _ h1))
      · have hns : b ∉ blocksOf sto := fun hm => hok.1 (by show b ∈ blocksOf (F ++ sto); rw [blocksOf_append]; exact List.mem_append_right _ hm)
        refine ⟨⟨fun hm => ?_, hok.2⟩, hkb b hb hns⟩
        have hm' : b ∈ blocksOf (F ++ sto') := hm
        rw [blocksOf_append] at hm'
        rcases List.mem_append.1 hm' with h3 | h3
        · exact hok.1 (by show b ∈ blocksOf (F ++ sto); rw [blocksOf_append]; exact List.mem_append_left _ h3)
        · rcases h'.src b h3 with h4 | h4
          · exact hns h4
          · have : w.heap.size ≤ b := h4
            omega
      · have hbF : b ∈ blocksOf F := List.mem_flatMap.2 ⟨r, h1, hb⟩
        exact hkb b (hl b (List.mem_append_left _ hbF)) (fun hm => hnd.2.2 b hbF b hm rfl)
    · exact RAt.mono (fun n b _ hok => ⟨re_ok.1 hok, rfl⟩) (Nat.le_refl _) (fun _ _ => rfl) (h'.res r h1)
  · rw [blocksOf_append] at hm ⊢
    rcases List.mem_append.1 hm with h1 | h1
    · exact List.mem_append_left _ h1
    · rcases h'.src b h1 with h3 | h3
      · exact List.mem_append_right _ h3
      · have : w.heap.size ≤ b := h3
        omega
theorem Abs.reOut (h : Abs C env (F ++ sto) a w) (h' : Abs (C.re w F sto) env' sto' a' w') : Abs C env' (F ++ sto') a' w' := by
  have hs := h.reKeep h' h
  refine ⟨hs.kept, hs.nodup, hs.src, hs.res, fun s q z hl hq => AAt.mono (fun n b _ hok => ⟨re_ok.1 hok, rfl⟩) (Nat.le_refl _) (h'.slots s q z hl hq), h'.envU, h'.tsize, ⟨h'.defers.1, fun d hd => ?_⟩, hs.xlt, hs.xown, hs.base⟩
  obtain ⟨r, h1, h2, h3, h4⟩ := h'.defers.2 d hd
  refine ⟨r, h1, h2, fun hm => ?_, h4⟩
  rw [blocksOf_append] at hm
  rcases List.mem_append.1 hm with h5 | h5
  · obtain ⟨x, hx, hxr⟩ := List.mem_flatMap.1 h5
    exact (hs.res x (List.mem_append_left _ hx)).noDef r hxr _ h4
  · exact h3 h5
end

theorem postK_outgrown {P : Program} {C : Ctx} {Q : Env → Sto → Prop} : ∀ {k : List It} {a : Act} {w : World}, ¬ postK P C Q k .outgrown a w
  | [], a, w => fun h => h
  | .blk i :: k, a, w => by simp only [postK]; exact postK_outgrown
  | .c c :: k, a, w => by simp only [postK]; exact postK_outgrown
  | .ops all l :: k, a, w => by simp only [postK]; exact postK_outgrown
  | .goal J :: k, a, w => by simp only [postK]; exact postK_outgrown
  | .beg l :: k, a, w => by simp only [postK]; exact postK_outgrown
theorem postK_panic_inv {P : Program} {C : Ctx} {Q : Env → Sto → Prop} {ch : List PanicEntry} : ∀ {k : List It} {a : Act} {w : World}, postK P C Q k (.panic ch) a w → ∃ x sto, ch = [{ v := x, recovered := false }] ∧ Q (panEnv x) sto ∧ Abs C [] sto a w
  | [], a, w => fun h => h
  | .blk i :: k, a, w => by simp only [postK]; exact postK_panic_inv
  | .c c :: k, a, w => by simp only [postK]; exact postK_panic_inv
  | .ops all l :: k, a, w => by simp only [postK]; exact postK_panic_inv
  | .goal J :: k, a, w => by simp only [postK]; exact postK_panic_inv
  | .beg l :: k, a, w => by simp only [postK]; exact postK_panic_inv

theorem wpIn_turn {F : Fence} {n : Nat} {P : Program} {o : Oper} {a : Act} {w : World} {K K' : Act → World → Prop} {Q Q' : Exit → Act → World → Prop} (hK : ∀ a' w', K a' w' → (∃ v, a'.tmps = (a.put o.dst v).tmps) → K' a' w')
    (hp : ∀ ch w', Q (.panic ch) a w' → Q' (.panic ch) a w') (ho : ¬ LetsOut Q) (h : o.wpIn F n P a w K Q) : o.wpIn F n P a w K' Q' := by
  unfold Oper.wpIn at *
  refine ⟨h.1, ?_⟩
  have hh := h.2
  generalize (o.semAt F.round a.eval).run P w = r at *
  cases r with
  | ok x w' =>
    cases x <;> simp only [Oper.uponIn] at hh ⊢ <;>
      first
        | exact hK _ _ hh ⟨_, rfl⟩
        | exact ⟨hh.1, CallsIn.mono hh.2 (fun e w'' he => by cases e <;> first | exact hK _ _ he ⟨_, rfl⟩ | exact hp _ _ he | exact absurd he ho)⟩
        | exact ⟨hh.1, RowsIn.mono hh.2 (fun _ _ he => hK _ _ he ⟨_, rfl⟩)⟩
        | exact ⟨hh.1, RoundIn.mono hh.2 (fun e w'' he => by cases e <;> first | exact hK _ _ he ⟨_, rfl⟩ | exact hp _ _ he | exact absurd he ho)⟩
        | (refine hK _ _ hh ⟨undef, ?_⟩; cases o.dst <;> rfl)
  | halt x w' => cases x <;> simp only [Oper.uponIn] at hh ⊢ <;> first | exact hp _ _ hh | exact hh
theorem wpOpIn_turn {F : Fence} {n : Nat} {P : Program} {ops : Array Oper} {i : Nat} {o : Oper} (hi : ops[i]? = some o) {a : Act} {w : World} {K K' : Act → World → Prop} {Q Q' : Exit → Act → World → Prop} (hK : ∀ a' w', K a' w' → (∃ v, a'.tmps = (a.put o.dst v).tmps) → K' a' w')
    (hp : ∀ ch w', Q (.panic ch) a w' → Q' (.panic ch) a w') (ho : ¬ LetsOut Q) (h : wpOpIn F n P ops Q i K a w) : wpOpIn F n P ops Q' i K' a w := by
  unfold wpOpIn at *
  simp only [hi] at h ⊢
  split
  · rename_i hw
    simp only [hw, if_true] at h
    exact wpIn_turn hK hp ho h
  · rename_i hw
    simp only [hw] at h
    exact ⟨h.1, hK _ _ h.2 ⟨_, rfl⟩⟩
end Go.Sx
end

section
/- A statement whose order Go leaves open: what floats, what is laid at any time, and what goes in turn. -/


set_option linter.unusedSectionVars false
namespace Go.Sx

inductive DK where
  | fl | al | mn
structure FL : Type 1 where
  i : Nat
  d : Nat
  q : Path
  z : AV
/-- What may be laid at any time: its slot, and what is laid, by a parameter. -/
structure AI : Type 1 where
  i : Nat
  d : Nat
  ι : Type
  uf : ι → Value
  zf : ι → AV
  rf : ι → Res

def GuardOk (all : Array Oper) (o : Oper) (env : Env) (q : Path) : Prop :=
  match o.guard with
  | none => q = []
  | some (g, b) => ∃ gs q0 c, gslot all g = some gs ∧ lookup gs env = some (q0, .v (.bool c)) ∧ q = (c, b) :: q0
def FlAt (P : Program) (N : Fm) (ops : Array Oper) (env : Env) (sto : Sto) (f : FL) : Prop :=
  ∃ o, ops[f.i]? = some o ∧ o.dst = some f.d ∧ f.d < N.n ∧ GuardOk ops o env f.q ∧ AOp P N (rs (o.looksAt ops) env) sto o f.q f.z
def FlFact (P : Program) (N : Fm) (ops : Array Oper) (env : Env) (sto : Sto) (f : FL) : Prop := FlAt P N ops env sto f ∧ lookup f.d env = some (f.q, f.z)
def AlFact (P : Program) (N : Fm) (ops : Array Oper) (A : AI) : Prop :=
  ∃ o, ops[A.i]? = some o ∧ o.dst = some A.d ∧ o.guard = none ∧ isDefer o.op = false ∧ A.d < N.n ∧ (∀ x cx w, AAt cx w (A.zf x) (A.uf x)) ∧
    ∀ C env sto a w, Abs C env sto a w → ∃ x w', (execOp a.eval o).run P w = .ok (.value (A.uf x)) w' ∧ Abs C env (A.rf x :: sto) a w'
def actE (act : List FL) : Env := act.map fun f => (f.d, f.q, f.z)

/-- The walk, in an order. -/
def DSem (P : Program) (N : Fm) (Q : Env → Sto → Prop) (k : List It) (ops : Array Oper) (al : List AI) : List (DK × Nat) → Env → Sto → List FL → Prop
  | [], env, sto, _ => RunSem P N Q k env sto
  | (.fl, i) :: r, env, sto, act => ∃ d q z, FlAt P N ops env sto ⟨i, d, q, z⟩ ∧ DSem P N Q k ops al r ((d, q, z) :: env) sto (⟨i, d, q, z⟩ :: act)
  | (.al, i) :: r, env, sto, act => ∀ A ∈ al, A.i = i → ∀ x, DSem P N Q k ops al r ((A.d, [], A.zf x) :: env) (A.rf x :: sto) act
  | (.mn, i) :: r, env, sto, act => ∃ o act' envm, ops[i]? = some o ∧ (∀ f ∈ act, f ∈ act' ∨ edgeTo o f.i = true) ∧ (∀ f ∈ act', f ∈ act) ∧
      (∀ s q z, lookup s envm = some (q, z) → lookup s env = some (q, z) ∧ (∀ f ∈ act', f.d ≠ s) ∧ ∀ A ∈ al, (DK.al, A.i) ∈ r → A.d ≠ s) ∧
      RunSem P N Q [.ops ops [o], .goal fun env' sto' => (∀ f ∈ act', FlFact P N ops (actE act' ++ env') sto' f) ∧ DSem P N Q k ops al r (actE act' ++ env') sto' act'] envm sto

/-! ### The order -/
def depAll (ops : Array Oper) : List Nat → List (DK × Nat) → Bool
  | _, [] => true
  | S, (.al, _) :: r => depAll ops S r
  | S, (.fl, i) :: r => (match ops[i]? with | some o => S.any (edgeTo o) | none => false) && depAll ops (i :: S) r
  | S, (.mn, i) :: r => (match ops[i]? with | some o => S.any (edgeTo o) | none => false) && depAll ops (i :: S) r
def alNext (ops : Array Oper) (x : Nat) : List (DK × Nat) → Bool
  | (.al, _) :: r => alNext ops x r
  | (.mn, m) :: _ => match ops[m]? with | some o => edgeTo o x | none => false
  | _ => false
def stepOk (ops : Array Oper) (done : List Nat) (k : DK) (i : Nat) (r : List (DK × Nat)) : Bool :=
  match ops[i]? with
  | none => false
  | some o => (o.after.toList.all fun e => !Region.binds .any e || done.contains e.on) && !isDefer o.op &&
    match k with
    | .fl => o.dst.isSome
    | .al => o.dst.isSome && alNext ops i r
    | .mn => depAll ops [i] r
def ordGo (ops : Array Oper) : List Nat → List (DK × Nat) → Bool
  | _, [] => true
  | done, (k, i) :: r => stepOk ops done k i r && ordGo ops (i :: done) r
/-- What floats, or is laid, has a slot of its own; what looks at it waits for it. -/
def pairOk (ops : Array Oper) (x y : DK × Nat) (first : Bool) : Bool :=
  match x.1 with
  | .mn => true
  | _ => match ops[x.2]?, ops[y.2]? with
    | some ox, some oy => match ox.dst with
      | some d => !(oy.dst == some d) && (match y.1 with
        | .fl => !(oy.looksAt ops).contains d || (first && edgeTo oy x.2)
        | _ => true)
      | none => false
    | _, _ => false
def selfOk (ops : Array Oper) (x : DK × Nat) : Bool :=
  match x.1 with
  | .fl => match ops[x.2]? with
    | some o => match o.dst with
      | some d => !(o.looksAt ops).contains d
      | none => false
    | none => false
  | _ => true
def pairsOk (ops : Array Oper) : List (DK × Nat) → Bool
  | [] => true
  | x :: r => (r.all fun y => !(x.2 == y.2) && pairOk ops x y true && pairOk ops y x false) && selfOk ops x && pairsOk ops r
def ordOk (ops : Array Oper) (ord : List (DK × Nat)) : Bool :=
  ((List.range ops.size).all fun j => ord.any fun x => x.2 == j) && ordGo ops [] ord && pairsOk ops ord

theorem edgeTo_spec {o : Oper} {j : Nat} (h : edgeTo o j = true) : ∃ e ∈ o.after, Region.binds .any e = true ∧ e.on = j := by
  unfold edgeTo at h
  obtain ⟨e, he, hb⟩ := List.any_eq_true.1 h
  rw [Bool.and_eq_true] at hb
  exact ⟨e, by simpa using he, hb.1, by simpa using hb.2⟩

theorem pairsOk_spec {ops : Array Oper} : ∀ {ord : List (DK × Nat)}, pairsOk ops ord = true → ∀ {done r : List (DK × Nat)} {x : DK × Nat}, ord = done ++ x :: r →
    (∀ y ∈ r, x.2 ≠ y.2 ∧ pairOk ops x y true = true ∧ pairOk ops y x false = true) ∧ selfOk ops x = true
  | [], _, done, r, x, he => by cases done <;> cases he
  | y :: ord, h, [], r, x, he => by
    simp only [List.nil_append, List.cons.injEq] at he
    obtain ⟨rfl, rfl⟩ := he
    simp only [pairsOk, Bool.and_eq_true, List.all_eq_true, Bool.not_eq_true', beq_eq_false_iff_ne, ne_eq] at h
    exact ⟨fun z hz => ⟨(h.1.1 z hz).1.1, (h.1.1 z hz).1.2, (h.1.1 z hz).2⟩, h.1.2⟩
  | y :: ord, h, z :: done, r, x, he => by
    simp only [List.cons_append, List.cons.injEq] at he
    simp only [pairsOk, Bool.and_eq_true] at h
    exact pairsOk_spec h.2 he.2

/-- Two places of an order. -/
theorem pair_get {ops : Array Oper} {ord done r : List (DK × Nat)} (h : pairsOk ops ord = true) (he : ord = done ++ r) {x y : DK × Nat} (hx : x ∈ done) (hy : y ∈ r) :
    x.2 ≠ y.2 ∧ pairOk ops x y true = true ∧ pairOk ops y x false = true := by
  obtain ⟨d1, d2, rfl⟩ := List.append_of_mem hx
  exact (pairsOk_spec h (done := d1) (r := d2 ++ r) (x := x) (by rw [he]; simp)).1 y (List.mem_append_right _ hy)
theorem pair_any {ops : Array Oper} {ord : List (DK × Nat)} (h : pairsOk ops ord = true) {x y : DK × Nat} (hx : x ∈ ord) (hy : y ∈ ord) (hne : x ≠ y) :
    x.2 ≠ y.2 ∧ ∃ b, pairOk ops x y b = true := by
  obtain ⟨d1, d2, rfl⟩ := List.append_of_mem hx
  rcases List.mem_append.1 hy with h1 | h1
  · obtain ⟨k1, k2, k3⟩ := pair_get h rfl h1 (List.mem_cons_self ..)
    exact ⟨fun e => k1 e.symm, _, k3⟩
  · rcases List.mem_cons.1 h1 with h1 | h1
    · exact absurd h1.symm hne
    · obtain ⟨k1, k2, k3⟩ := (pairsOk_spec h rfl).1 y h1
      exact ⟨k1, _, k2⟩

theorem depAll_spec {ops : Array Oper} {listed : Array Bool} : ∀ {r : List (DK × Nat)} {S : List Nat}, depAll ops S r = true → (∀ s ∈ S, listed.getD s false = false) → (∀ k i, (k, i) ∈ r → k ≠ .al → listed.getD i false = false) →
    ∀ k i, (k, i) ∈ r → k ≠ .al → ∃ o, ops[i]? = some o ∧ ∃ e ∈ o.after, Region.binds .any e = true ∧ listed.getD e.on false = false
  | [], S, _, _, _, k, i, hm, _ => by cases hm
  | (.al, x) :: r, S, h, hS, hr, k, i, hm, hk => by
    rcases List.mem_cons.1 hm with h1 | h1
    · simp only [Prod.mk.injEq] at h1
      exact absurd h1.1 hk
    · exact depAll_spec (r := r) h hS (fun k i hm => hr k i (List.mem_cons_of_mem _ hm)) k i h1 hk
  | (.fl, x) :: r, S, h, hS, hr, k, i, hm, hk => by
    simp only [depAll, Bool.and_eq_true] at h
    rcases List.mem_cons.1 hm with h1 | h1
    · simp only [Prod.mk.injEq] at h1
      obtain ⟨rfl, rfl⟩ := h1
      have h2 := h.1
      split at h2
      · rename_i o ho
        obtain ⟨s, hs, he⟩ := List.any_eq_true.1 h2
        obtain ⟨e, h3, h4, h5⟩ := edgeTo_spec he
        exact ⟨o, ho, e, h3, h4, h5 ▸ hS s hs⟩
      · cases h2
    · refine depAll_spec (r := r) h.2 (fun s hs => ?_) (fun k i hm => hr k i (List.mem_cons_of_mem _ hm)) k i h1 hk
      rcases List.mem_cons.1 hs with rfl | hs
      · exact hr .fl _ (List.mem_cons_self ..) (by simp)
      · exact hS s hs
  | (.mn, x) :: r, S, h, hS, hr, k, i, hm, hk => by
    simp only [depAll, Bool.and_eq_true] at h
    rcases List.mem_cons.1 hm with h1 | h1
    · simp only [Prod.mk.injEq] at h1
      obtain ⟨rfl, rfl⟩ := h1
      have h2 := h.1
      split at h2
      · rename_i o ho
        obtain ⟨s, hs, he⟩ := List.any_eq_true.1 h2
        obtain ⟨e, h3, h4, h5⟩ := edgeTo_spec he
        exact ⟨o, ho, e, h3, h4, h5 ▸ hS s hs⟩
      · cases h2
    · refine depAll_spec (r := r) h.2 (fun s hs => ?_) (fun k i hm => hr k i (List.mem_cons_of_mem _ hm)) k i h1 hk
      rcases List.mem_cons.1 hs with rfl | hs
      · exact hr .mn _ (List.mem_cons_self ..) (by simp)
      · exact hS s hs

theorem not_ready {ops : Array Oper} {listed : Array Bool} (hsz : listed.size = ops.size) {i : Nat} {o : Oper} (ho : ops[i]? = some o) {e : Edge} (he : e ∈ o.after) (hb : Region.binds .any e = true) (hl : listed.getD e.on false = false) : i ∉ Region.ready .any ops listed := by
  intro hr
  obtain ⟨_, o', ho', hall⟩ := mem_ready.1 hr
  obtain rfl : o = o' := Option.some.inj (ho.symm.trans ho')
  have := hall e he hb
  rw [hl] at this
  cases this
/-- Behind something that is to be laid, and is not, nothing is ready but what is laid. -/
theorem alNext_spec {ops : Array Oper} {listed : Array Bool} (hsz : listed.size = ops.size) {x : Nat} (hx : listed.getD x false = false) : ∀ {r : List (DK × Nat)} {d : List Nat}, alNext ops x r = true → ordGo ops d r = true → (∀ k i, (k, i) ∈ r → k ≠ .al → listed.getD i false = false) →
    ∀ k i, (k, i) ∈ r → k ≠ .al → i ∉ Region.ready .any ops listed
  | [], d, h, _, _, k, i, hm, _ => by cases hm
  | (.al, y) :: r, d, h, hg, hr, k, i, hm, hk => by
    simp only [ordGo, Bool.and_eq_true] at hg
    rcases List.mem_cons.1 hm with h1 | h1
    · simp only [Prod.mk.injEq] at h1
      exact absurd h1.1 hk
    · exact alNext_spec hsz hx (r := r) h hg.2 (fun k i hm => hr k i (List.mem_cons_of_mem _ hm)) k i h1 hk
  | (.fl, y) :: r, d, h, _, _, k, i, hm, hk => by cases h
  | (.mn, y) :: r, d, h, hg, hr, k, i, hm, hk => by
    simp only [ordGo, Bool.and_eq_true] at hg
    simp only [alNext] at h
    split at h
    · rename_i o ho
      rcases List.mem_cons.1 hm with h1 | h1
      · simp only [Prod.mk.injEq] at h1
        obtain ⟨rfl, rfl⟩ := h1
        obtain ⟨e, h3, h4, h5⟩ := edgeTo_spec h
        exact not_ready hsz ho h3 h4 (h5 ▸ hx)
      · have h2 := hg.1
        unfold stepOk at h2
        rw [ho] at h2
        simp only [Bool.and_eq_true] at h2
        obtain ⟨o', ho', e, h3, h4, h5⟩ := depAll_spec h2.2 (fun s hs => by simp at hs; subst hs; exact hr .mn _ (List.mem_cons_self ..) (by simp)) (fun k i hm => hr k i (List.mem_cons_of_mem _ hm)) k i h1 hk
        exact not_ready hsz ho' h3 h4 h5
    · cases h
/-- Where nothing is ready all is done. -/
theorem none_ready {ops : Array Oper} {listed : Array Bool} (hsz : listed.size = ops.size) (hr : Region.ready .any ops listed = []) : ∀ {l : List (DK × Nat)} {d : List Nat}, ordGo ops d l = true → (∀ x ∈ d, listed.getD x false = true) → ∀ k i, (k, i) ∈ l → listed.getD i false = true
  | [], d, _, _, k, i, hm => by cases hm
  | (k0, i0) :: l, d, hg, hd, k, i, hm => by
    simp only [ordGo, Bool.and_eq_true] at hg
    have h0 : listed.getD i0 false = true := by
      have h2 := hg.1
      unfold stepOk at h2
      split at h2
      · cases h2
      · rename_i o ho
        simp only [Bool.and_eq_true] at h2
        cases hb : listed.getD i0 false with
        | true => rfl
        | false =>
          exfalso
          have hlt : i0 < ops.size := (Array.getElem?_eq_some_iff.1 ho).1
          have : i0 ∈ Region.ready .any ops listed := by
            refine mem_ready.2 ⟨by rw [← getD_ft (by omega)]; exact hb, o, ho, fun e he hbn => ?_⟩
            have := List.all_eq_true.1 h2.1.1 e (by simpa using he)
            rw [hbn] at this
            simp only [Bool.not_true, Bool.false_or, List.contains_iff_mem] at this
            exact hd _ this
          rw [hr] at this
          cases this
    rcases List.mem_cons.1 hm with h1 | h1
    · simp only [Prod.mk.injEq] at h1
      obtain ⟨rfl, rfl⟩ := h1
      exact h0
    · exact none_ready hsz hr hg.2 (fun x hx => by rcases List.mem_cons.1 hx with rfl | hx; exact h0; exact hd x hx) k i h1

/-! ### Slots that are not told yet -/
open Classical in
noncomputable def hide (u : Nat → Prop) (env : Env) : Env := env.filter fun e => decide (¬ u e.1)
theorem lookup_hide_yes {u : Nat → Prop} {s : Nat} (hs : u s) : ∀ env : Env, lookup s (hide u env) = none
  | [] => by simp [hide, lookup]
  | (t, q, z) :: e => by
    have ih := lookup_hide_yes hs e
    unfold hide at ih ⊢
    rw [List.filter_cons]
    split
    · rename_i ht
      rw [lookup_cons, if_neg (fun h => (by subst h; simp at ht; exact ht hs)), ih]
    · exact ih
theorem lookup_hide_no {u : Nat → Prop} {s : Nat} (hs : ¬ u s) : ∀ env : Env, lookup s (hide u env) = lookup s env
  | [] => by simp [hide, lookup]
  | (t, q, z) :: e => by
    have ih := lookup_hide_no hs e
    unfold hide at ih ⊢
    rw [List.filter_cons]
    split
    · rw [lookup_cons, lookup_cons, ih]
    · rename_i ht
      rw [lookup_cons, if_neg (fun h => ht (by subst h; simpa using hs)), ih]
theorem hide_some {u : Nat → Prop} {s : Nat} {env : Env} {q : Path} {z : AV} (h : lookup s (hide u env) = some (q, z)) : ¬ u s ∧ lookup s env = some (q, z) := by
  by_cases hs : u s
  · rw [lookup_hide_yes hs] at h; cases h
  · exact ⟨hs, by rwa [lookup_hide_no hs] at h⟩

theorem AOp.frame {P : Program} {N : Fm} {env : Env} {F sto : Sto} {o : Oper} {q : Path} {z : AV} (h : AOp P N env sto o q z) : AOp P N env (F ++ sto) o q z := by
  intro C a w next Q' hN hA hq hnext
  exact h (C.re w F sto) a w next Q' (Ctx.fits_re hA hN) hA.reIn hq (fun v w' h1 h2 h3 => hnext v w' (hA.reOut h1) (fun env' hE => hA.reKeep h1 hE)
    (AAt.mono (fun n b _ hok => ⟨re_ok.1 hok, rfl⟩) (Nat.le_refl _) h3))
theorem rs_congr {ts : List Tmp} {env env' : Env} (h : ∀ s ∈ ts, lookup s env' = lookup s env) : ∀ s q z, lookup s (rs ts env') = some (q, z) → lookup s (rs ts env) = some (q, z) := by
  intro s q z hl
  rw [lookup_rs] at hl ⊢
  split at hl
  · rename_i hs
    rw [if_pos hs, ← h s hs]
    exact hl
  · cases hl
theorem AOp.env {P : Program} {N : Fm} {env env' : Env} {sto : Sto} {o : Oper} {q : Path} {z : AV} (h : AOp P N env sto o q z) (hl : ∀ s q z, lookup s env = some (q, z) → lookup s env' = some (q, z)) : AOp P N env' sto o q z := by
  intro C a w next Q' hN hA hq hnext
  exact h C a w next Q' hN (hA.le hl) hq (fun v w' h1 h2 h3 => hnext v w' (h2 env' hA) h2 h3)
end Go.Sx
end

section
/- Whatever order is drawn: the walk in one order tells of all. -/

set_option linter.unusedSectionVars false
namespace Go.Sx
structure Pn : Type 1 where
  A : AI
  x : A.ι
def HidU (al : List AI) (act : List FL) (r : List (DK × Nat)) (listed : Array Bool) (s : Nat) : Prop :=
  (∃ f ∈ act, f.d = s ∧ listed.getD f.i false = false) ∨ (∃ A ∈ al, A.d = s ∧ (DK.al, A.i) ∈ r)
def HeadOk (listed : Array Bool) : List (DK × Nat) → Prop
  | [] => True
  | (.al, i) :: _ => listed.getD i false = false
  | (.fl, _) :: _ => False
  | (.mn, _) :: _ => True
def pendS (pend : List Pn) : Sto := pend.map fun p => p.A.rf p.x

structure Inv (P : Program) (N : Fm) (ops : Array Oper) (ord : List (DK × Nat)) (al : List AI) (C : Ctx) (done r : List (DK × Nat)) (listed : Array Bool) (env : Env) (sto : Sto) (act : List FL) (pend : List Pn) (a : Act) (w : World) : Prop where
  split : ord = done ++ r
  size : listed.size = ops.size
  closed : ∀ j oj, ops[j]? = some oj → listed.getD j false = true → ∀ e ∈ oj.after, Region.binds .any e = true → listed.getD e.on false = true
  go : ∃ d, ordGo ops d r = true
  hdone : ∀ k i, (k, i) ∈ done → listed.getD i false = true ∨ (k = .fl ∧ ∃ f ∈ act, f.i = i)
  hact : ∀ f ∈ act, (DK.fl, f.i) ∈ done ∧ FlFact P N ops env sto f
  hr : ∀ k i, (k, i) ∈ r → k ≠ .al → listed.getD i false = false
  hpend : ∀ i, (DK.al, i) ∈ r → listed.getD i false = true → ∃ p ∈ pend, p.A.i = i
  pin : ∀ p ∈ pend, p.A ∈ al ∧ (DK.al, p.A.i) ∈ r ∧ a.tmps.getD p.A.d undef = p.A.uf p.x
  pnd : (pend.map fun p => p.A.i).Nodup
  pls : ∀ p ∈ pend, listed.getD p.A.i false = true
  abs : Abs C (hide (HidU al act r listed) env) (pendS pend ++ sto) a w

theorem gslot_looks {ops : Array Oper} {o : Oper} {g gs : Nat} {b : Bool} (hg : o.guard = some (g, b)) (hs : gslot ops g = some gs) : gs ∈ o.looksAt ops := by
  unfold Oper.looksAt
  refine List.mem_append_right _ ?_
  rw [hg]
  unfold gslot at hs
  simp [hs]
theorem GuardOk.congr {ops : Array Oper} {o : Oper} {env env' : Env} {q : Path} (h : GuardOk ops o env q) (hl : ∀ s ∈ o.looksAt ops, lookup s env' = lookup s env) : GuardOk ops o env' q := by
  unfold GuardOk at h ⊢
  cases hg : o.guard with
  | none => rw [hg] at h; exact h
  | some gb =>
    obtain ⟨g, b⟩ := gb
    rw [hg] at h
    obtain ⟨gs, q0, c, h1, h2, h3⟩ := h
    exact ⟨gs, q0, c, h1, by rw [hl gs (gslot_looks hg h1)]; exact h2, h3⟩
theorem FlAt.congr {P : Program} {N : Fm} {ops : Array Oper} {env env' : Env} {sto : Sto} {f : FL} (h : FlAt P N ops env sto f) (hl : ∀ o, ops[f.i]? = some o → ∀ s ∈ o.looksAt ops, lookup s env' = lookup s env) : FlAt P N ops env' sto f := by
  obtain ⟨o, h1, h2, h3, h4, h5⟩ := h
  exact ⟨o, h1, h2, h3, h4.congr (hl o h1), h5.env (rs_congr (fun s hs => (hl o h1 s hs).symm))⟩
theorem FlAt.frame {P : Program} {N : Fm} {ops : Array Oper} {env : Env} {F sto : Sto} {f : FL} (h : FlAt P N ops env sto f) : FlAt P N ops env (F ++ sto) f := by
  obtain ⟨o, h1, h2, h3, h4, h5⟩ := h
  exact ⟨o, h1, h2, h3, h4, h5.frame⟩
theorem Abs.tell {C : Ctx} {env : Env} {sto : Sto} {a : Act} {w : World} (h : Abs C env sto a w) {d : Nat} {z : AV} (hz : AAt (C.cx sto) w z (a.tmps.getD d undef)) : Abs C ((d, [], z) :: env) sto a w := by
  refine ⟨h.kept, h.nodup, h.src, h.res, fun s q z' hl hq => ?_, fun s q z' hl hq => ?_, h.tsize, h.defers, h.xlt, h.xown, h.base⟩
  · rw [lookup_cons] at hl
    split at hl
    · rename_i e
      simp only [Option.some.injEq, Prod.mk.injEq] at hl
      obtain ⟨rfl, rfl⟩ := hl
      rw [e]; exact hz
    · exact h.slots s q z' hl hq
  · rw [lookup_cons] at hl
    split at hl
    · simp only [Option.some.injEq, Prod.mk.injEq] at hl
      obtain ⟨rfl, rfl⟩ := hl
      exact absurd trivial hq
    · exact h.envU s q z' hl hq
theorem lookup_push {d : Nat} {q : Path} {z : AV} {env : Env} {s : Nat} (h : s ≠ d) : lookup s ((d, q, z) :: env) = lookup s env := by rw [lookup_cons, if_neg h]

/-- What pairs say: what floats, or is laid. -/
theorem pairOk_dst {ops : Array Oper} {k k' : DK} {i j : Nat} {b : Bool} {oi oj : Oper} {d : Nat} (h : pairOk ops (k, i) (k', j) b = true) (hk : k ≠ .mn) (hi : ops[i]? = some oi) (hj : ops[j]? = some oj) (hd : oi.dst = some d) : oj.dst ≠ some d := by
  unfold pairOk at h
  cases k with
  | mn => exact absurd rfl hk
  | fl =>
    simp only [hi, hj, hd, Bool.and_eq_true] at h
    intro e
    simp [e] at h
  | al =>
    simp only [hi, hj, hd, Bool.and_eq_true] at h
    intro e
    simp [e] at h
theorem pairOk_looks {ops : Array Oper} {k : DK} {i j : Nat} {b : Bool} {oi oj : Oper} {d : Nat} (h : pairOk ops (k, i) (.fl, j) b = true) (hk : k ≠ .mn) (hi : ops[i]? = some oi) (hj : ops[j]? = some oj) (hd : oi.dst = some d) (hm : d ∈ oj.looksAt ops) : b = true ∧ edgeTo oj i = true := by
  unfold pairOk at h
  cases k with
  | mn => exact absurd rfl hk
  | fl =>
    simp only [hi, hj, hd, Bool.and_eq_true, Bool.or_eq_true, Bool.not_eq_true'] at h
    rcases h.2 with h1 | h1
    · have : (oj.looksAt ops).contains d = true := by simpa using hm
      rw [h1] at this; cases this
    · exact h1
  | al =>
    simp only [hi, hj, hd, Bool.and_eq_true, Bool.or_eq_true, Bool.not_eq_true'] at h
    rcases h.2 with h1 | h1
    · have : (oj.looksAt ops).contains d = true := by simpa using hm
      rw [h1] at this; cases this
    · exact h1

section
variable {P : Program} {N : Fm} {Q : Env → Sto → Prop} {k : List It} {ops : Array Oper} {ord : List (DK × Nat)} {al : List AI} {C : Ctx}

theorem Inv.norm (hp : pairsOk ops ord = true) (hAl : ∀ A ∈ al, AlFact P N ops A) {listed : Array Bool} {a : Act} {w : World} : ∀ (r done : List (DK × Nat)) (env : Env) (sto : Sto) (act : List FL) (pend : List Pn),
    Inv P N ops ord al C done r listed env sto act pend a w → DSem P N Q k ops al r env sto act →
    ∃ r' done' env' sto' act' pend', Inv P N ops ord al C done' r' listed env' sto' act' pend' a w ∧ DSem P N Q k ops al r' env' sto' act' ∧
      HeadOk listed r'
  | [], done, env, sto, act, pend, hI, hD => ⟨[], done, env, sto, act, pend, hI, hD, trivial⟩
  | (.mn, i) :: r, done, env, sto, act, pend, hI, hD => ⟨_, done, env, sto, act, pend, hI, hD, trivial⟩
  | (.fl, i) :: r, done, env, sto, act, pend, hI, hD => by
    obtain ⟨d, q, z, hf, hD⟩ := hD
    obtain ⟨o, h1, h2, h3, h4, h5⟩ := hf
    have hself := (pairsOk_spec hp hI.split).2
    have hself' : d ∉ o.looksAt ops := by
      unfold selfOk at hself
      simp only [h1, h2, Bool.not_eq_true'] at hself
      intro hm
      have : (o.looksAt ops).contains d = true := by simpa using hm
      rw [hself] at this; cases this
    have hli : listed.getD i false = false := hI.hr .fl i (List.mem_cons_self ..) (by simp)
    refine Inv.norm hp hAl r (done ++ [(.fl, i)]) ((d, q, z) :: env) sto (⟨i, d, q, z⟩ :: act) pend ⟨by rw [hI.split]; simp, hI.size, hI.closed, ?_, ?_, ?_, fun k j hm => hI.hr k j (List.mem_cons_of_mem _ hm), fun j hm => hI.hpend j (List.mem_cons_of_mem _ hm), ?_, hI.pnd, hI.pls, ?_⟩ hD
    · obtain ⟨d', hg⟩ := hI.go
      simp only [ordGo, Bool.and_eq_true] at hg
      exact ⟨_, hg.2⟩
    · intro k j hm
      rcases List.mem_append.1 hm with hm | hm
      · rcases hI.hdone k j hm with h | ⟨h, f, hf, e⟩
        · exact .inl h
        · exact .inr ⟨h, f, List.mem_cons_of_mem _ hf, e⟩
      · simp only [List.mem_singleton, Prod.mk.injEq] at hm
        obtain ⟨rfl, rfl⟩ := hm
        exact .inr ⟨rfl, _, List.mem_cons_self .., rfl⟩
    · intro f hf
      rcases List.mem_cons.1 hf with rfl | hf
      · exact ⟨by simp, FlAt.congr (f := ⟨i, d, q, z⟩) ⟨o, h1, h2, h3, h4, h5⟩ (fun o' ho' s hs => by
          obtain rfl : o = o' := Option.some.inj (h1.symm.trans ho')
          exact lookup_push (fun e => hself' (e ▸ hs))), by rw [lookup_cons, if_pos rfl]⟩
      · obtain ⟨k1, k2, k3⟩ := hI.hact f hf
        have k2' := k2
        obtain ⟨of, j1, j2, _⟩ := k2'
        have hpg := pair_get hp hI.split k1 (List.mem_cons_self ..)
        refine ⟨List.mem_append_left _ k1, FlAt.congr k2 (fun o' ho' s hs => lookup_push (fun e => ?_)), ?_⟩
        · subst e
          obtain ⟨hb, _⟩ := pairOk_looks hpg.2.2 (by simp) h1 ho' h2 hs
          cases hb
        · rw [lookup_push, k3]
          intro e
          exact pairOk_dst hpg.2.1 (by simp) j1 h1 j2 (e ▸ h2)
    · intro p hp'
      obtain ⟨k1, k2, k3⟩ := hI.pin p hp'
      refine ⟨k1, ?_, k3⟩
      rcases List.mem_cons.1 k2 with h | h
      · simp at h
      · exact h
    · refine hI.abs.le (fun s q' z' hl => ?_)
      obtain ⟨hu, hl⟩ := hide_some hl
      have hsd : s ≠ d := fun e => hu (.inl ⟨_, List.mem_cons_self .., e.symm, hli⟩)
      rw [lookup_push hsd] at hl
      rw [lookup_hide_no (fun hh => hu ?_)]
      · exact hl
      · rcases hh with ⟨f, h1, h2, h3⟩ | ⟨A, h1, h2, h3⟩
        · exact .inl ⟨f, List.mem_cons_of_mem _ h1, h2, h3⟩
        · refine .inr ⟨A, h1, h2, ?_⟩
          rcases List.mem_cons.1 h3 with h | h
          · simp at h
          · exact h
  | (.al, i) :: r, done, env, sto, act, pend, hI, hD => by
    by_cases hli : listed.getD i false = true
    · obtain ⟨p, hpm, hpi⟩ := hI.hpend i (List.mem_cons_self ..) hli
      obtain ⟨k1, k2, k3⟩ := hI.pin p hpm
      have hD' := hD p.A k1 hpi p.x
      obtain ⟨p1, p2, rfl⟩ := List.append_of_mem hpm
      obtain ⟨o, h1, h2, h3, _, h4, h5, _⟩ := hAl p.A k1
      rw [hpi] at h1
      have hnd := hI.pnd
      simp only [List.map_append, List.map_cons] at hnd
      have hnd2 := List.nodup_append.1 hnd
      have hnot : ∀ p' ∈ p1 ++ p2, p'.A.i ≠ i := by
        intro p' hp' e
        rw [← hpi] at e
        rcases List.mem_append.1 hp' with h | h
        · exact hnd2.2.2 p'.A.i (List.mem_map.2 ⟨p', h, rfl⟩) p.A.i (List.mem_cons_self ..) e
        · exact (List.nodup_cons.1 hnd2.2.1).1 (e ▸ List.mem_map.2 ⟨p', h, rfl⟩)
      refine Inv.norm hp hAl r (done ++ [(.al, i)]) ((p.A.d, [], p.A.zf p.x) :: env) (p.A.rf p.x :: sto) act (p1 ++ p2) ⟨by rw [hI.split]; simp, hI.size, hI.closed, ?_, ?_, ?_, fun k j hm => hI.hr k j (List.mem_cons_of_mem _ hm), ?_, ?_, ?_, (fun p' hp' => hI.pls p' (by
          rcases List.mem_append.1 hp' with h | h
          · exact List.mem_append_left _ h
          · exact List.mem_append_right _ (List.mem_cons_of_mem _ h))), ?_⟩ hD'
      · obtain ⟨d', hg⟩ := hI.go
        simp only [ordGo, Bool.and_eq_true] at hg
        exact ⟨_, hg.2⟩
      · intro k j hm
        rcases List.mem_append.1 hm with hm | hm
        · exact hI.hdone k j hm
        · simp only [List.mem_singleton, Prod.mk.injEq] at hm
          obtain ⟨rfl, rfl⟩ := hm
          exact .inl hli
      · intro f hf
        obtain ⟨j1, j2, j3⟩ := hI.hact f hf
        have j2' := j2
        obtain ⟨of, m1, m2, _⟩ := j2'
        have hpg := pair_get hp hI.split j1 (List.mem_cons_self ..)
        refine ⟨List.mem_append_left _ j1, FlAt.congr (FlAt.frame (F := [p.A.rf p.x]) j2) (fun o' ho' s hs => lookup_push (fun e => ?_)), ?_⟩
        · subst e
          obtain ⟨hb, _⟩ := pairOk_looks hpg.2.2 (by simp) h1 ho' h2 hs
          cases hb
        · rw [lookup_push, j3]
          intro e
          exact pairOk_dst hpg.2.1 (by simp) m1 h1 m2 (e ▸ h2)
      · intro j hm hl
        obtain ⟨p', h6, h7⟩ := hI.hpend j (List.mem_cons_of_mem _ hm) hl
        refine ⟨p', ?_, h7⟩
        rcases List.mem_append.1 h6 with h | h
        · exact List.mem_append_left _ h
        · rcases List.mem_cons.1 h with rfl | h
          · exfalso
            have := pairsOk_spec hp hI.split
            exact (this.1 (.al, j) hm).1 (hpi.symm.trans h7)
          · exact List.mem_append_right _ h
      · intro p' hp'
        obtain ⟨m1, m2, m3⟩ := hI.pin p' (by
          rcases List.mem_append.1 hp' with h | h
          · exact List.mem_append_left _ h
          · exact List.mem_append_right _ (List.mem_cons_of_mem _ h))
        refine ⟨m1, ?_, m3⟩
        rcases List.mem_cons.1 m2 with h | h
        · simp only [Prod.mk.injEq] at h
          exact absurd h.2 (hnot p' hp')
        · exact h
      · rw [List.map_append]
        have := hnd
        refine List.nodup_append.2 ⟨hnd2.1, (List.nodup_cons.1 hnd2.2.1).2, fun x hx y hy => hnd2.2.2 x hx y (List.mem_cons_of_mem _ hy)⟩
      · have hperm : (pendS (p1 ++ p :: p2) ++ sto).Perm (pendS (p1 ++ p2) ++ p.A.rf p.x :: sto) := by
          simp only [pendS, List.map_append, List.map_cons, List.append_assoc]
          refine List.Perm.append_left _ ?_
          exact (List.perm_middle (l₁ := p2.map fun p => p.A.rf p.x)).symm
        have hA := hI.abs.perm hperm
        have hA2 := hA.tell (d := p.A.d) (z := p.A.zf p.x) (by rw [k3]; exact h5 _ _ _)
        refine hA2.le (fun s q' z' hl => ?_)
        obtain ⟨hu, hl⟩ := hide_some hl
        rw [lookup_cons] at hl ⊢
        split at hl
        · rename_i e
          rw [if_pos e]; exact hl
        · rename_i e
          rw [if_neg e, lookup_hide_no (fun hh => hu ?_)]
          · exact hl
          · rcases hh with ⟨f, g1, g2, g3⟩ | ⟨A, g1, g2, g3⟩
            · exact .inl ⟨f, g1, g2, g3⟩
            · refine .inr ⟨A, g1, g2, ?_⟩
              rcases List.mem_cons.1 g3 with h | h
              · simp only [Prod.mk.injEq] at h
                exfalso
                obtain ⟨o', n1, n2, _⟩ := hAl A g1
                rw [h.2, h1] at n1
                obtain rfl := Option.some.inj n1
                rw [h2] at n2
                exact e (g2 ▸ (Option.some.inj n2).symm)
              · exact h
    · exact ⟨_, done, env, sto, act, pend, hI, hD, by simp only [HeadOk]; exact Bool.eq_false_iff.2 hli⟩
end
end Go.Sx
end
