/- The walks' framework, part C: merged texts. -/
import Derived.Test.YtmnnejkcgdfjiaaSxB
import Derived.Laws.CopyRow
import Derived.Laws.IdiomCopy
import Derived.Laws.StructEq
import Derived.DeepKeys
import Derived.KernelRfl
import Derived.Scope
import Derived.Lib.SlBytesConst
import Derived.Below
import Derived.OpenShut
import Derived.ShutString
import Derived.ChangeOld
import Derived.ProofKit
import Derived.SizedLaws
set_option linter.all false
section
/- Whatever order is drawn: the theorem. -/

set_option linter.unusedSectionVars false
namespace Go.Sx
theorem StoSub.drop : ∀ (F s : Sto), StoSub (F ++ s) s
  | [], s => .same s
  | _ :: F, s => .skip (StoSub.drop F s)
theorem actE_look {act : List FL} {s : Nat} {q : Path} {z : AV} (h : lookup s (actE act) = some (q, z)) : ∃ f ∈ act, f.d = s ∧ f.q = q ∧ f.z = z := by
  induction act with
  | nil => simp [actE, lookup] at h
  | cons f act ih =>
    simp only [actE, List.map_cons, lookup_cons] at h
    split at h
    · rename_i e
      simp only [Option.some.injEq, Prod.mk.injEq] at h
      exact ⟨f, List.mem_cons_self .., e.symm, h.1, h.2⟩
    · obtain ⟨f', h1, h2⟩ := ih h
      exact ⟨f', List.mem_cons_of_mem _ h1, h2⟩
theorem put_tmps_other {a : Act} {dst : Option Tmp} {v : Value} {s : Nat} (h : dst ≠ some s) : (a.put dst v).tmps.getD s undef = a.tmps.getD s undef := by
  cases dst with
  | none => rfl
  | some d => exact getD_set_other (fun e => h (by rw [e]))

section
variable {P : Program} {N : Fm} {Q : Env → Sto → Prop} {k : List It} {ops : Array Oper} {ord : List (DK × Nat)} {al : List AI} {C : Ctx}

theorem Inv.ready (hok : ordOk ops ord = true) (hord : ∀ i, (DK.al, i) ∈ ord → ∃ A ∈ al, A.i = i) {done r : List (DK × Nat)} {listed : Array Bool} {env : Env} {sto : Sto} {act : List FL} {pend : List Pn} {a : Act} {w : World}
    (hI : Inv P N ops ord al C done r listed env sto act pend a w) (hm : HeadOk listed r) {j : Nat} (hj : j ∈ Region.ready .any ops listed) :
    (∃ f ∈ act, f.i = j) ∨ (∃ A ∈ al, A.i = j ∧ (DK.al, j) ∈ r) ∨ (∃ t, r = (.mn, j) :: t) := by
  have hj' := hj
  obtain ⟨hju, o, ho, hall⟩ := mem_ready.1 hj'
  have hlt : j < ops.size := (Array.getElem?_eq_some_iff.1 ho).1
  have hjn : listed.getD j false = false := by rw [getD_ft (by rw [hI.size]; exact hlt)]; exact hju
  unfold ordOk at hok
  simp only [Bool.and_eq_true, List.all_eq_true, List.mem_range] at hok
  obtain ⟨x, hx, hxj⟩ := List.any_eq_true.1 (hok.1.1 j hlt)
  obtain ⟨kx, ix⟩ := x
  simp only [beq_iff_eq] at hxj
  subst hxj
  have hx' := hx
  rw [hI.split] at hx
  rcases List.mem_append.1 hx with hd | hr
  · rcases hI.hdone kx ix hd with h | ⟨_, f, hf, e⟩
    · rw [hjn] at h; cases h
    · exact .inl ⟨f, hf, e⟩
  · by_cases hk : kx = .al
    · subst hk
      obtain ⟨A, hA, e⟩ := hord ix hx'
      exact .inr (.inl ⟨A, hA, e, hr⟩)
    · obtain ⟨d, hg⟩ := hI.go
      have hrr := hI.hr
      cases r with
      | nil => cases hr
      | cons y t =>
        obtain ⟨ky, iy⟩ := y
        simp only [ordGo, Bool.and_eq_true] at hg
        cases ky with
        | fl => exact hm.elim
        | al =>
          have h2 := hg.1
          unfold stepOk at h2
          split at h2
          · cases h2
          · simp only [Bool.and_eq_true] at h2
            rcases List.mem_cons.1 hr with h | h
            · simp only [Prod.mk.injEq] at h
              exact absurd h.1 hk
            · exact absurd hj (alNext_spec hI.size hm h2.2.2 hg.2 (fun k i hm => hrr k i (List.mem_cons_of_mem _ hm)) kx ix h hk)
        | mn =>
          rcases List.mem_cons.1 hr with h | h
          · simp only [Prod.mk.injEq] at h
            exact .inr (.inr ⟨t, by rw [h.2]⟩)
          · exfalso
            have h2 := hg.1
            unfold stepOk at h2
            split at h2
            · cases h2
            · simp only [Bool.and_eq_true] at h2
              obtain ⟨o', ho', e, h3, h4, h5⟩ := depAll_spec h2.2 (fun s hs => by simp at hs; subst hs; exact hrr .mn _ (List.mem_cons_self ..) (by simp)) (fun k i hm => hrr k i (List.mem_cons_of_mem _ hm)) kx ix h hk
              exact not_ready hI.size ho' h3 h4 h5 hj

theorem closed_set {listed : Array Bool} (hsz : listed.size = ops.size) (hc : ∀ j oj, ops[j]? = some oj → listed.getD j false = true → ∀ e ∈ oj.after, Region.binds .any e = true → listed.getD e.on false = true) {j : Nat} (hj : j ∈ Region.ready .any ops listed) :
    ∀ j' oj, ops[j']? = some oj → (listed.setIfInBounds j true).getD j' false = true → ∀ e ∈ oj.after, Region.binds .any e = true → (listed.setIfInBounds j true).getD e.on false = true := by
  obtain ⟨hju, o, ho, hall⟩ := mem_ready.1 hj
  have hlt : j < ops.size := (Array.getElem?_eq_some_iff.1 ho).1
  intro j' oj hoj hl e he hb
  rw [set_get (by omega)] at hl ⊢
  split
  · rfl
  · split at hl
    · rename_i e'
      subst e'
      obtain rfl : o = oj := Option.some.inj (ho.symm.trans hoj)
      exact hall e he hb
    · exact hc j' oj hoj hl e he hb

theorem draw_all (hok : ordOk ops ord = true) (hAl : ∀ A ∈ al, AlFact P N ops A) (hord : ∀ i, (DK.al, i) ∈ ord → ∃ A ∈ al, A.i = i) (hN : C.fits N) :
    ∀ (n : Nat) (r done : List (DK × Nat)) (env : Env) (sto : Sto) (act : List FL) (pend : List Pn) (listed : Array Bool) (a : Act) (w : World),
      n = ((List.range ops.size).filter fun j => !listed.getD j false).length → Inv P N ops ord al C done r listed env sto act pend a w → DSem P N Q k ops al r env sto act →
      wpAnyIn (fr C.rnd) 0 P .any ops (postK P C Q k) n listed a w := by
  have hok' := hok
  unfold ordOk at hok'
  simp only [Bool.and_eq_true] at hok'
  have hp := hok'.2
  have hgo0 := hok'.1.2
  intro n
  induction n with
  | zero =>
    intro r done env sto act pend listed a w hn hI hD
    obtain ⟨r, done, env, sto, act, pend, hI, hD, hm⟩ := hI.norm hp hAl _ _ _ _ _ _ hD
    have hall : ∀ j, j < ops.size → listed.getD j false = true := by
      intro j hj
      have h0 : ((List.range ops.size).filter fun j => !listed.getD j false) = [] := List.eq_nil_of_length_eq_zero hn.symm
      have := (List.filter_eq_nil_iff.1 h0) j (by simpa using hj)
      simpa using this
    have hready : Region.ready .any ops listed = [] := by
      rw [List.eq_nil_iff_forall_not_mem]
      intro i hi
      obtain ⟨h3, o, ho, _⟩ := mem_ready.1 hi
      have hlt : i < ops.size := (Array.getElem?_eq_some_iff.1 ho).1
      rw [← getD_ft (by rw [hI.size]; exact hlt), hall i hlt] at h3
      cases h3
    have hin : ∀ k i, (k, i) ∈ r → i < ops.size := by
      obtain ⟨d, hg⟩ := hI.go
      clear hm hD hI hn hready
      induction r generalizing d with
      | nil => intro k i h; cases h
      | cons y t ih =>
        obtain ⟨ky, iy⟩ := y
        simp only [ordGo, Bool.and_eq_true] at hg
        intro k i h
        rcases List.mem_cons.1 h with h | h
        · simp only [Prod.mk.injEq] at h
          obtain ⟨rfl, rfl⟩ := h
          have h2 := hg.1
          unfold stepOk at h2
          split at h2
          · cases h2
          · rename_i o ho
            exact (Array.getElem?_eq_some_iff.1 ho).1
        · exact ih _ hg.2 k i h
    have hr0 : r = [] := by
      cases r with
      | nil => rfl
      | cons y t =>
        obtain ⟨ky, iy⟩ := y
        have h1 := hall iy (hin ky iy (List.mem_cons_self ..))
        cases ky with
        | fl => exact hm.elim
        | al => simp only [HeadOk] at hm; rw [h1] at hm; cases hm
        | mn => rw [hI.hr .mn iy (List.mem_cons_self ..) (by simp)] at h1; cases h1
    subst hr0
    have hp0 : pend = [] := by
      cases pend with
      | nil => rfl
      | cons p t => exact absurd (hI.pin p (List.mem_cons_self ..)).2.1 (by simp)
    subst hp0
    refine ⟨hready, ?_⟩
    have hA := hI.abs
    refine hD C a w hN (hA.le (fun s q z hl => ?_))
    rw [lookup_hide_no]
    · exact hl
    · rintro (⟨f, h1, h2, h3⟩ | ⟨A, h1, h2, h3⟩)
      · obtain ⟨o, ho, _⟩ := (hI.hact f h1).2.1
        rw [hall f.i (Array.getElem?_eq_some_iff.1 ho).1] at h3
        cases h3
      · cases h3
  | succ n ih =>
    intro r done env sto act pend listed a w hn hI hD
    obtain ⟨r, done, env, sto, act, pend, hI, hD, hm⟩ := hI.norm hp hAl _ _ _ _ _ _ hD
    refine ⟨fun h0 => ?_, fun j hj => ?_⟩
    · exfalso
      have hall := none_ready hI.size h0 hgo0 (fun x hx => by cases hx)
      have : ((List.range ops.size).filter fun j => !listed.getD j false) = [] := by
        rw [List.filter_eq_nil_iff]
        intro j hj
        have hj' : j < ops.size := by simpa using hj
        have h1 := hok'.1.1
        simp only [List.all_eq_true, List.mem_range] at h1
        obtain ⟨⟨kx, ix⟩, hx, hxj⟩ := List.any_eq_true.1 (h1 j hj')
        simp only [beq_iff_eq] at hxj
        subst hxj
        simp [-List.getD_eq_getElem?_getD, hall kx ix hx]
      rw [this] at hn
      simp at hn
    · have hjc := hj
      obtain ⟨hju, o, ho, hedges⟩ := mem_ready.1 hjc
      have hlt : j < ops.size := (Array.getElem?_eq_some_iff.1 ho).1
      have hjn : listed.getD j false = false := by rw [getD_ft (by rw [hI.size]; exact hlt)]; exact hju
      have hcount : n = ((List.range ops.size).filter fun i => !(listed.setIfInBounds j true).getD i false).length := by
        have := count_set (l := listed) (i := j) (by rw [hI.size]; exact hlt) hjn ops.size hlt
        omega
      have hset : ∀ i, (listed.setIfInBounds j true).getD i false = if i = j then true else listed.getD i false := fun i => set_get (by rw [hI.size]; exact hlt)
      have hmono : ∀ i, listed.getD i false = true → (listed.setIfInBounds j true).getD i false = true := fun i h => by rw [hset]; split; rfl; exact h
      have hsz' : (listed.setIfInBounds j true).size = ops.size := by simp [hI.size]
      have hcl' := closed_set hI.size hI.closed hj
      have inOrd : ∀ x, x ∈ done → x ∈ ord := fun x hx => by rw [hI.split]; exact List.mem_append_left _ hx
      have inOrd' : ∀ x, x ∈ r → x ∈ ord := fun x hx => by rw [hI.split]; exact List.mem_append_right _ hx
      rcases hI.ready hok hord hm hj with ⟨f, hf, hfj⟩ | ⟨A, hA, hAj, hAr⟩ | ⟨t, rfl⟩
      · -- what floats
        subst hfj
        obtain ⟨hfd, ⟨o', ho', hdst, hdN, hguard, haop⟩, hlook⟩ := hI.hact f hf
        obtain rfl : o = o' := Option.some.inj (ho.symm.trans ho')
        have same : ∀ f' ∈ act, f'.i = f.i → f'.d = f.d := by
          intro f' hf' e
          obtain ⟨_, ⟨o2, h1, h2, _⟩, _⟩ := hI.hact f' hf'
          rw [e, ho] at h1
          obtain rfl := Option.some.inj h1
          rw [hdst] at h2
          exact (Option.some.inj h2).symm
        have hvis : ∀ s ∈ o.looksAt ops, ¬ HidU al act r listed s := by
          rintro s hs (⟨f', h1, h2, h3⟩ | ⟨A, h1, h2, h3⟩)
          · by_cases e : f'.i = f.i
            · have hd : f.d ∈ o.looksAt ops := by rw [← same f' h1 e, h2]; exact hs
              obtain ⟨d1, d2, he⟩ := List.append_of_mem (inOrd _ hfd)
              have hself := (pairsOk_spec hp he).2
              unfold selfOk at hself
              simp only [ho, hdst, Bool.not_eq_true'] at hself
              have : (o.looksAt ops).contains f.d = true := by simpa using hd
              rw [hself] at this; cases this
            · obtain ⟨hfd', ⟨o2, g1, g2, _⟩, _⟩ := hI.hact f' h1
              obtain ⟨_, b, hpo⟩ := pair_any hp (inOrd _ hfd') (inOrd _ hfd) (by simp [e])
              obtain ⟨_, hed⟩ := pairOk_looks hpo (by simp) g1 ho g2 (h2 ▸ hs)
              obtain ⟨e', m1, m2, m3⟩ := edgeTo_spec hed
              have := hedges e' m1 m2
              rw [m3, h3] at this
              cases this
          · obtain ⟨o2, g1, g2, _⟩ := hAl A h1
            have := (pair_get hp hI.split hfd h3).2.2
            obtain ⟨hb, _⟩ := pairOk_looks this (by simp) g1 ho g2 (h2 ▸ hs)
            cases hb
        have hA0 : Abs C (rs (o.looksAt ops) env) (pendS pend ++ sto) a w := hI.abs.le (fun s q z hl => by
          rw [lookup_rs] at hl
          split at hl
          · rename_i hs
            rw [lookup_hide_no (hvis s hs)]
            exact hl
          · cases hl)
        have hgo : ∀ v w', Abs C ((f.d, f.q, f.z) :: hide (HidU al act r listed) env) (pendS pend ++ sto) (a.put (some f.d) v) w' → wpAnyIn (fr C.rnd) 0 P .any ops (postK P C Q k) n (listed.setIfInBounds f.i true) (a.put (some f.d) v) w' := by
          intro v w' hA'
          refine ih r done env sto act pend _ _ _ hcount ⟨hI.split, hsz', hcl', hI.go, ?_, hI.hact, ?_, ?_, ?_, hI.pnd, fun p hp' => hmono _ (hI.pls p hp'), ?_⟩ hD
          · intro k' i hm'
            rcases hI.hdone k' i hm' with h | h
            · exact .inl (hmono _ h)
            · exact .inr h
          · intro k' i hm' hk'
            rw [hset, if_neg (fun e => (pair_get hp hI.split hfd hm').1 e.symm)]
            exact hI.hr k' i hm' hk'
          · intro i hm' hl
            rw [hset, if_neg (fun e => (pair_get hp hI.split hfd hm').1 e.symm)] at hl
            exact hI.hpend i hm' hl
          · intro p hp'
            obtain ⟨h1, h2, h3⟩ := hI.pin p hp'
            obtain ⟨o2, g1, g2, _⟩ := hAl p.A h1
            refine ⟨h1, h2, ?_⟩
            rw [put_tmps_other, h3]
            have := pairOk_dst (pair_get hp hI.split hfd h2).2.2 (by simp) g1 ho g2
            rwa [hdst] at this
          · refine hA'.le (fun s q z hl => ?_)
            obtain ⟨hu, hl⟩ := hide_some hl
            rw [lookup_cons]
            split
            · rename_i e
              rw [e, hlook] at hl
              exact hl
            · rename_i e
              rw [lookup_hide_no (fun hh => hu ?_)]
              · exact hl
              · rcases hh with ⟨f', h1, h2, h3⟩ | h
                · refine .inl ⟨f', h1, h2, ?_⟩
                  rw [hset, if_neg (fun e' => e (h2 ▸ same f' h1 e'))]
                  exact h3
                · exact .inr h
        have hwp : PathHolds f.q → opR C.rnd P o a w (wpAnyIn (fr C.rnd) 0 P .any ops (postK P C Q k) n (listed.setIfInBounds f.i true)) (postK P C Q k) := fun hq =>
          (haop.frame (F := pendS pend)) C a w _ _ hN hA0 hq (fun v w' _ htrans hz => by
            rw [hdst]
            exact hgo v w' ((htrans _ hI.abs).put (by rw [hN.1]; exact hdN) (fun _ => hz) (fun hn => absurd hq hn)))
        unfold wpOpIn
        rw [ho]
        simp only
        unfold GuardOk at hguard
        cases hg : o.guard with
        | none =>
          rw [hg] at hguard
          simp only at hguard
          rw [if_pos (by simp [Region.wanted, hg])]
          exact hwp (by rw [hguard]; trivial)
        | some gb =>
          obtain ⟨g, b⟩ := gb
          rw [hg] at hguard
          obtain ⟨gs, q0, c, h5, h6, hq⟩ := hguard
          have hgsl := gslot_looks hg h5
          have hiff := wanted_iff hI.abs hg h5 ((lookup_hide_no (hvis gs hgsl) env).trans h6)
          rw [← hq] at hiff
          by_cases hpq : PathHolds f.q
          · rw [if_pos (hiff.2 hpq)]
            exact hwp hpq
          · rw [if_neg (fun h => hpq (hiff.1 h)), hdst]
            refine ⟨fun _ _ => trivial, ?_⟩
            exact hgo undef w (hI.abs.put (by rw [hN.1]; exact hdN) (fun h => absurd h hpq) (fun _ => rfl))
      · -- what is laid
        subst hAj
        obtain ⟨o', ho', hdst, hgn, hnd, hdN, hz, hrun⟩ := hAl A hA
        obtain rfl : o = o' := Option.some.inj (ho.symm.trans ho')
        obtain ⟨x, w', hr', hA'⟩ := hrun C _ _ a w hI.abs
        have hpj : ∀ p ∈ pend, p.A.i ≠ A.i := fun p hp' e => by
          have := hI.pls p hp'
          rw [e, hjn] at this
          cases this
        unfold wpOpIn
        rw [ho]
        simp only
        rw [if_pos (by simp [Region.wanted, hgn])]
        refine opR_of hnd hr' ?_
        show wpAnyIn (fr C.rnd) 0 P .any ops (postK P C Q k) n (listed.setIfInBounds A.i true) (a.put o.dst (A.uf x)) w'
        rw [hdst]
        have hput := hA'.put0 (d := A.d) (by rw [hN.1]; exact hdN) (hz x _ _)
        refine ih r done env sto act (⟨A, x⟩ :: pend) _ _ _ hcount ⟨hI.split, hsz', hcl', hI.go, ?_, hI.hact, ?_, ?_, ?_, ?_, ?_, ?_⟩ hD
        · intro k' i hm'
          rcases hI.hdone k' i hm' with h | h
          · exact .inl (hmono _ h)
          · exact .inr h
        · intro k' i hm' hk'
          have hne : i ≠ A.i := (pair_any hp (inOrd' _ hm') (inOrd' _ hAr) (by simp [hk'])).1
          rw [hset, if_neg hne]
          exact hI.hr k' i hm' hk'
        · intro i hm' hl
          rw [hset] at hl
          split at hl
          · rename_i e
            exact ⟨_, List.mem_cons_self .., e.symm⟩
          · obtain ⟨p, h1, h2⟩ := hI.hpend i hm' hl
            exact ⟨p, List.mem_cons_of_mem _ h1, h2⟩
        · intro p hp'
          rcases List.mem_cons.1 hp' with rfl | hp'
          · refine ⟨hA, hAr, ?_⟩
            exact getD_set_same (by rw [hI.abs.tsize, hN.1]; exact hdN)
          · obtain ⟨h1, h2, h3⟩ := hI.pin p hp'
            obtain ⟨o2, g1, g2, _⟩ := hAl p.A h1
            refine ⟨h1, h2, ?_⟩
            rw [put_tmps_other, h3]
            obtain ⟨_, b, hpo⟩ := pair_any hp (inOrd' _ h2) (inOrd' _ hAr) (by simp [hpj p hp'])
            have := pairOk_dst hpo (by simp) g1 ho g2
            rwa [hdst] at this
        · rw [List.map_cons]
          exact List.nodup_cons.2 ⟨fun hm' => by obtain ⟨p, h1, h2⟩ := List.mem_map.1 hm'; exact hpj p h1 h2, hI.pnd⟩
        · intro p hp'
          rcases List.mem_cons.1 hp' with rfl | hp'
          · rw [hset, if_pos rfl]
          · exact hmono _ (hI.pls p hp')
        · refine Abs.le hput (fun s q z hl => ?_)
          obtain ⟨hu, hl⟩ := hide_some hl
          rw [lookup_cons, if_neg (fun e => hu (.inr ⟨A, hA, e.symm, hAr⟩)), lookup_hide_no (fun hh => hu ?_)]
          · exact hl
          · rcases hh with ⟨f', h1, h2, h3⟩ | h
            · refine .inl ⟨f', h1, h2, ?_⟩
              rw [hset, if_neg (fun e' => (pair_get hp hI.split (hI.hact f' h1).1 hAr).1 e')]
              exact h3
            · exact .inr h
      · -- what goes in turn
        obtain ⟨o', act', envm, ho', hcov, hsub, henv, hR⟩ := hD
        obtain rfl : o = o' := Option.some.inj (ho.symm.trans ho')
        have hspec := pairsOk_spec hp hI.split
        have hready : ∀ f ∈ act, edgeTo o f.i = true → listed.getD f.i false = true := by
          intro f _ he
          obtain ⟨e', m1, m2, m3⟩ := edgeTo_spec he
          have := hedges e' m1 m2
          rwa [m3] at this
        have hA : Abs C envm (pendS pend ++ sto) a w := hI.abs.le (fun s q z hl => by
          obtain ⟨h1, h2, h3⟩ := henv s q z hl
          rw [lookup_hide_no]
          · exact h1
          · rintro (⟨f, g1, g2, g3⟩ | ⟨A, g1, g2, g3⟩)
            · rcases hcov f g1 with h | h
              · exact h2 f h g2
              · rw [hready f g1 h] at g3; cases g3
            · refine h3 A g1 ?_ g2
              rcases List.mem_cons.1 g3 with h | h
              · simp at h
              · exact h)
        have hrun := hR (C.re w (pendS pend) sto) a w (Ctx.fits_re hA hN) hA.reIn
        have hw : wpOpIn (fr C.rnd) 0 P ops (postK P (C.re w (pendS pend) sto) Q [.goal fun env' sto' => (∀ f ∈ act', FlFact P N ops (actE act' ++ env') sto' f) ∧ DSem P N Q k ops al t (actE act' ++ env') sto' act']) j
            (postK P (C.re w (pendS pend) sto) Q [.goal fun env' sto' => (∀ f ∈ act', FlFact P N ops (actE act' ++ env') sto' f) ∧ DSem P N Q k ops al t (actE act' ++ env') sto' act'] .normal) a w := by
          have h := hrun
          simp only [postK] at h
          change wpListIn _ _ _ _ _ _ _ _ at h
          unfold wpListIn at h
          unfold wpOpIn
          rw [ho]
          exact h
        refine wpOpIn_turn ho (fun a' w' hJ hsh => ?_) (fun ch w' hpn => ?_) (fun ⟨_, _, h⟩ => postK_outgrown h) hw
        · obtain ⟨env', sto', ⟨hfacts, hD'⟩, hA'⟩ := hJ
          obtain ⟨v, hv⟩ := hsh
          have hout := hA.reOut hA'
          have hkeep := hA.reKeep hA' hI.abs
          have hother : ∀ s, o.dst ≠ some s → a'.tmps.getD s undef = a.tmps.getD s undef := fun s hs => by rw [hv, put_tmps_other hs]
          have hfj : ∀ f ∈ act, f.i ≠ j := fun f hf => (pair_get hp hI.split (hI.hact f hf).1 (List.mem_cons_self ..)).1
          have hfd : ∀ f ∈ act, o.dst ≠ some f.d := by
            intro f hf
            obtain ⟨h1, ⟨o2, g1, g2, _⟩, _⟩ := hI.hact f hf
            exact pairOk_dst (pair_get hp hI.split h1 (List.mem_cons_self ..)).2.1 (by simp) g1 ho g2
          have hActLook : ∀ f ∈ act', listed.getD f.i false = true → lookup f.d (hide (HidU al act ((.mn, j) :: t) listed) env) = some (f.q, f.z) := by
            intro f hf hl
            have hfa := hsub f hf
            obtain ⟨hfdone, ⟨o2, g1, g2, _⟩, hlk⟩ := hI.hact f hfa
            rw [lookup_hide_no, hlk]
            rintro (⟨f2, h1, h2, h3⟩ | ⟨A, h1, h2, h3⟩)
            · by_cases e : f2.i = f.i
              · rw [e, hl] at h3; cases h3
              · obtain ⟨h4, ⟨o3, g3, g4, _⟩, _⟩ := hI.hact f2 h1
                obtain ⟨_, b, hpo⟩ := pair_any hp (inOrd _ h4) (inOrd _ hfdone) (by simp [e])
                exact pairOk_dst hpo (by simp) g3 g1 g4 (h2 ▸ g2)
            · obtain ⟨o3, g3, g4, _⟩ := hAl A h1
              exact pairOk_dst (pair_get hp hI.split hfdone h3).2.2 (by simp) g3 g1 g4 (h2 ▸ g2)
          refine ih t (done ++ [(.mn, j)]) (actE act' ++ env') sto' act' pend _ _ _ hcount ⟨by rw [hI.split]; simp, hsz', hcl', ?_, ?_, fun f hf => ⟨List.mem_append_left _ (hI.hact f (hsub f hf)).1, hfacts f hf⟩, ?_, ?_, ?_, hI.pnd, fun p hp' => hmono _ (hI.pls p hp'), ?_⟩ hD'
          · obtain ⟨d, hg⟩ := hI.go
            simp only [ordGo, Bool.and_eq_true] at hg
            exact ⟨_, hg.2⟩
          · intro k' i hm'
            rcases List.mem_append.1 hm' with hm' | hm'
            · rcases hI.hdone k' i hm' with h | ⟨h, f, hf, e⟩
              · exact .inl (hmono _ h)
              · rcases hcov f hf with h4 | h4
                · exact .inr ⟨h, f, h4, e⟩
                · exact .inl (hmono _ (e ▸ hready f hf h4))
            · simp only [List.mem_singleton, Prod.mk.injEq] at hm'
              left
              rw [hset, if_pos hm'.2]
          · intro k' i hm' hk'
            rw [hset, if_neg (fun e => (hspec.1 _ hm').1 e.symm)]
            exact hI.hr k' i (List.mem_cons_of_mem _ hm') hk'
          · intro i hm' hl
            rw [hset, if_neg (fun e => (hspec.1 _ hm').1 e.symm)] at hl
            exact hI.hpend i (List.mem_cons_of_mem _ hm') hl
          · intro p hp'
            obtain ⟨h1, h2, h3⟩ := hI.pin p hp'
            have h2' : (DK.al, p.A.i) ∈ t := by
              rcases List.mem_cons.1 h2 with h | h
              · simp at h
              · exact h
            obtain ⟨o2, g1, g2, _⟩ := hAl p.A h1
            refine ⟨h1, h2', ?_⟩
            rw [hother, h3]
            exact pairOk_dst (hspec.1 _ h2').2.2 (by simp) g1 ho g2
          · refine ⟨hout.kept, hout.nodup, hout.src, hout.res, fun s q z hl hq => ?_, fun s q z hl hq => ?_, hout.tsize, hout.defers, hout.xlt, hout.xown, hout.base⟩
            all_goals
              obtain ⟨hu, hl⟩ := hide_some hl
              rw [lookup_append] at hl
              cases hla : lookup s (actE act') with
              | none =>
                rw [hla] at hl
                simp only [Option.none_or] at hl
                first
                  | exact hout.slots s q z hl hq
                  | exact hout.envU s q z hl hq
              | some qz =>
                obtain ⟨q', z'⟩ := qz
                rw [hla] at hl
                simp only [Option.some_or, Option.some.injEq, Prod.mk.injEq] at hl
                obtain ⟨rfl, rfl⟩ := hl
                obtain ⟨f, hf, rfl, rfl, rfl⟩ := actE_look hla
                have hl1 : listed.getD f.i false = true := by
                  cases hb : listed.getD f.i false with
                  | true => rfl
                  | false =>
                    exfalso
                    refine hu (.inl ⟨f, hf, rfl, ?_⟩)
                    rw [hset, if_neg (hfj f (hsub f hf))]
                    exact hb
                rw [hother _ (hfd f (hsub f hf))]
                first
                  | exact hkeep.slots _ _ _ (hActLook f hf hl1) hq
                  | exact hkeep.envU _ _ _ (hActLook f hf hl1) hq
        · obtain ⟨x, sto', rfl, hQ, hA'⟩ := postK_panic_inv hpn
          exact postK_panic hQ ((hA.reOut hA').sub (StoSub.drop _ _))

/-- **Whatever order is drawn.** -/
theorem RunSem.drawP (hmix : P.follows .mixedOrders = true) {id : Nat} {env : Env} {sto : Sto} (ord : List (DK × Nat)) (al : List AI) (hok : ordOk ops ord = true) (hAl : ∀ A ∈ al, AlFact P N ops A) (hord : ∀ i, (DK.al, i) ∈ ord → ∃ A ∈ al, A.i = i)
    (hD : DSem P N Q k ops al ord env sto []) : RunSem P N Q (.c (.region id ops true) :: k) env sto := by
  intro C a w hN hA
  refine wpIn_region_any hmix ?_
  have hno : ∀ j, (Array.replicate ops.size false).getD j false = false := by
    intro j
    simp [Array.getElem?_replicate]
    split <;> rfl
  have hok' := hok
  unfold ordOk at hok'
  simp only [Bool.and_eq_true] at hok'
  refine draw_all hok hAl hord hN ops.size ord [] env sto [] [] _ a _ ?_ ⟨rfl, by simp, fun j oj _ hl => (by rw [hno] at hl; cases hl), ⟨_, hok'.1.2⟩, fun k i h => (by cases h), fun f h => (by cases h), fun k i _ _ => hno i, fun i _ hl => (by rw [hno] at hl; cases hl), fun p h => (by cases h), List.nodup_nil, fun p h => (by cases h), ?_⟩ hD
  · have : ((List.range ops.size).filter fun j => !(Array.replicate ops.size false).getD j false) = List.range ops.size := by
      rw [List.filter_eq_self]
      intro j _
      simp [-List.getD_eq_getElem?_getD, hno j]
    rw [this]
    simp
  · refine Abs.le hA.drew (fun s q z hl => ?_)
    exact (hide_some hl).2
end
end Go.Sx
end

section
/- Whatever order is drawn: the walk's rules. -/

set_option linter.unusedSectionVars false
namespace Go.Sx

/-- A literal row of numbers, or of what else, as new data. -/
theorem AOp.lit {P : Program} {T : Tab} (hT : TabOk P T) {N : Fm} {α : Type} (enc : α → Nat → DV) (dv : α) (xs : List α) {all : Array Oper} {d : Tmp} {len : Nat} {t e : TypeId} {ps : Array (Nat × Operand)} {ty : TypeId} {pos : String} {af : Array Edge} {env : Env} {sto : Sto} {yt ye : Ty}
    {zs : List (Nat × AV)} {cs : List AV} {n : Bool} {ds : List DV} (ht : tget t T = some yt) (hte : yt.k = .slice e) (he : tget e T = some ye) (hsm : Nat.ble (len * ye.size) 16777216 = true) (hp : GetPs env [] ps.toList zs)
    (hf : Fills ye.size (zerosA ye.zero ye.size (len * ye.size)) zs cs) (hdn : DownL cs n ds) (hds : ds = litL ye.size enc xs) (hlen : xs.length = len) :
    AOp P N (rs (({ dst := some d, op := .buildSlice t len ps, type := ty, pos, after := af, guard := none } : Oper).looksAt all) env) sto { dst := some d, op := .buildSlice t len ps, type := ty, pos, after := af, guard := none } [] (.d n ye.size enc dv xs) := by
  intro C a w next Q' hN hA hq hnext
  have hp' := hp.rs hT (ts := ({ dst := some d, op := .buildSlice t len ps, type := ty, pos, after := af, guard := none } : Oper).looksAt all) (fun t ht => by
    refine opSlots_looks (mem_opSlots.2 ?_)
    simpa [Op.operands] using ht)
  obtain ⟨cells, hrun, _, hcells⟩ := lit_run hT enc dv xs hA hq ht hte he hsm hp' hf hdn hds
  have hr : (execOp a.eval { dst := some d, op := .buildSlice t len ps, type := ty, pos, after := af, guard := none }).run P w = .ok (.value (.slice (some ⟨w.heap.size, 0, none⟩) len len)) (w.alloc (.cells cells e)) := by
    simp only [execOp, Sem.run_bind]
    rw [hrun]
    rfl
  refine opR_of rfl hr ?_
  exact hnext _ _ (hA.grow (kept_alloc w _)) (fun env' h => h.grow (kept_alloc w _)) (hA.newData hlen hcells)

def isLitB : Op → Bool
  | .buildSlice .. => true
  | _ => false
/-- What floats, told again. -/
inductive FlW (P : Program) (T : Tab) (N : Fm) (ops : Array Oper) (env : Env) (sto : Sto) : FL → Prop where
  | q {i d : Nat} {z : AV} {op : Op} {ty : TypeId} {pos : String} {af : Array Edge} : ops[i]? = some { dst := some d, op, type := ty, pos, after := af, guard := none } → isLitB op = false → Nat.blt d N.n = true → Quiet T env sto [] op z → FlW P T N ops env sto ⟨i, d, [], z⟩
  | g {i d gs g : Nat} {b c : Bool} {q : Path} {z : AV} {op : Op} {ty : TypeId} {pos : String} {af : Array Edge} : ops[i]? = some { dst := some d, op, type := ty, pos, after := af, guard := some (g, b) } → isLitB op = false → Nat.blt d N.n = true → gslot ops g = some gs →
      lookup gs env = some (q, .v (.bool c)) → Quiet T env sto ((c, b) :: q) op z → FlW P T N ops env sto ⟨i, d, (c, b) :: q, z⟩
  | l {α : Type} {enc : α → Nat → DV} {dv : α} {xs : List α} {i d len : Nat} {t e : TypeId} {ps : Array (Nat × Operand)} {ty : TypeId} {pos : String} {af : Array Edge} {yt ye : Ty} {zs : List (Nat × AV)} {cs : List AV} {n : Bool} {ds : List DV} {sz : Nat} :
      ops[i]? = some { dst := some d, op := .buildSlice t len ps, type := ty, pos, after := af, guard := none } → Nat.blt d N.n = true → tget t T = some yt → yt.k = .slice e → tget e T = some ye → Nat.beq ye.size sz = true → Nat.ble (len * sz) 16777216 = true → GetPs env [] ps.toList zs →
      Fills sz (zerosA ye.zero sz (len * sz)) zs cs → DownL cs n ds → ds = litL sz enc xs → xs.length = len → FlW P T N ops env sto ⟨i, d, [], .d n sz enc dv xs⟩
theorem FlW.at {P : Program} {T : Tab} (hT : TabOk P T) {N : Fm} {ops : Array Oper} {env : Env} {sto : Sto} {f : FL} (h : FlW P T N ops env sto f) : FlAt P N ops env sto f := by
  cases h with
  | q ho _ hd hq => exact ⟨_, ho, rfl, Nat.le_of_ble_eq_true hd, rfl, Quiet.aop (o := { dst := some _, op := _, type := _, pos := _, after := _, guard := none }) hT hq⟩
  | g ho _ hd hg hl hq => exact ⟨_, ho, rfl, Nat.le_of_ble_eq_true hd, ⟨_, _, _, hg, hl, rfl⟩, Quiet.aop (o := { dst := some _, op := _, type := _, pos := _, after := _, guard := some _ }) hT hq⟩
  | l ho hd ht hte he hsz hsm hp hf hdn hds hlen =>
    have hsz' := Nat.eq_of_beq_eq_true hsz
    subst hsz'
    exact ⟨_, ho, rfl, Nat.le_of_ble_eq_true hd, rfl, AOp.lit hT _ _ _ ht hte he hsm hp hf hdn hds hlen⟩
inductive FlsW (P : Program) (T : Tab) (N : Fm) (ops : Array Oper) (env : Env) (sto : Sto) : List FL → Prop where
  | nil : FlsW P T N ops env sto []
  | cons {f : FL} {l : List FL} : FlW P T N ops env sto f → lookup f.d env = some (f.q, f.z) → FlsW P T N ops env sto l → FlsW P T N ops env sto (f :: l)
theorem FlsW.all {P : Program} {T : Tab} (hT : TabOk P T) {N : Fm} {ops : Array Oper} {env : Env} {sto : Sto} {l : List FL} (h : FlsW P T N ops env sto l) : ∀ f ∈ l, FlFact P N ops env sto f := by
  induction h with
  | nil => intro f hf; cases hf
  | cons h1 h2 _ ih =>
    intro f hf
    rcases List.mem_cons.1 hf with rfl | hf
    · exact ⟨h1.at hT, h2⟩
    · exact ih f hf

/-- Which of what floats is not waited for. -/
def bindB (g : Edge) : Bool := Region.binds .any g
def edgeN (o : Oper) (j : Nat) : Bool := o.after.toList.any fun e => bindB e && Nat.beq e.on j
theorem edgeN_eq (o : Oper) (j : Nat) : edgeN o j = edgeTo o j := by
  have hb : ∀ a b : Nat, Nat.beq a b = (a == b) := by
    intro a b
    cases h : Nat.beq a b with
    | true => rw [Nat.eq_of_beq_eq_true h]; simp
    | false => exact (beq_eq_false_iff_ne.2 (Nat.ne_of_beq_eq_false h)).symm
  unfold edgeN edgeTo bindB
  simp only [hb]
inductive CovB (f : FL) (l : List FL) : Bool → List FL → Prop where
  | wait : CovB f l true l
  | keep : CovB f l false (f :: l)
inductive Cov (o : Oper) : List FL → List FL → Prop where
  | nil : Cov o [] []
  | cons {f : FL} {l l1 l' : List FL} : Cov o l l1 → CovB f l1 (edgeN o f.i) l' → Cov o (f :: l) l'
theorem Cov.spec {o : Oper} {l l' : List FL} (h : Cov o l l') : (∀ f ∈ l, f ∈ l' ∨ edgeTo o f.i = true) ∧ ∀ f ∈ l', f ∈ l := by
  induction h with
  | nil => exact ⟨(fun f h => by cases h), fun f h => h⟩
  | cons _ hb ih =>
    rename_i f l l1 l' _
    generalize hbb : edgeN o f.i = b at hb
    cases hb with
    | wait =>
      refine ⟨fun x hx => ?_, fun x hx => List.mem_cons_of_mem _ (ih.2 x hx)⟩
      rcases List.mem_cons.1 hx with rfl | hx
      · exact .inr (by rw [← edgeN_eq]; exact hbb)
      · exact ih.1 x hx
    | keep =>
      refine ⟨fun x hx => ?_, fun x hx => ?_⟩
      · rcases List.mem_cons.1 hx with rfl | hx
        · exact .inl (List.mem_cons_self ..)
        · rcases ih.1 x hx with h | h
          · exact .inl (List.mem_cons_of_mem _ h)
          · exact .inr h
      · rcases List.mem_cons.1 hx with rfl | hx
        · exact List.mem_cons_self ..
        · exact List.mem_cons_of_mem _ (ih.2 x hx)
/-- Slots that are not told. -/
def memB (s : Nat) (ds : List Nat) : Bool := ds.any (Nat.beq s)
inductive DropB (x : Nat × Path × AV) (e : Env) : Bool → Env → Prop where
  | out : DropB x e true e
  | keep : DropB x e false (x :: e)
inductive Drop : List Nat → Env → Env → Prop where
  | id {e : Env} : Drop [] e e
  | nil {ds : List Nat} : Drop ds [] []
  | cons {ds : List Nat} {x : Nat × Path × AV} {e e1 e' : Env} : Drop ds e e1 → DropB x e1 (memB x.1 ds) e' → Drop ds (x :: e) e'
theorem memB_spec {s : Nat} {ds : List Nat} (h : s ∈ ds) : memB s ds = true := by
  unfold memB
  exact List.any_eq_true.2 ⟨s, h, Nat.beq_refl s⟩
theorem Drop.spec {ds : List Nat} {e e' : Env} (h : Drop ds e e') : ∀ s q z, lookup s e' = some (q, z) → lookup s e = some (q, z) ∧ s ∉ ds := by
  have key : ∀ {ds : List Nat} {e e' : Env}, Drop ds e e' → ∀ s, (s ∉ ds → lookup s e' = lookup s e) ∧ (s ∈ ds → lookup s e' = none) := by
    intro ds e e' h s
    induction h with
    | id => exact ⟨(fun _ => rfl), (fun h => by cases h)⟩
    | nil => exact ⟨fun _ => rfl, fun _ => rfl⟩
    | cons _ hb ih =>
      rename_i ds x e e1 e' _
      obtain ⟨t, q, z⟩ := x
      generalize hbb : memB (t, q, z).1 ds = b at hb
      cases hb with
      | out =>
        refine ⟨fun hs => ?_, ih.2⟩
        rw [ih.1 hs, lookup_cons, if_neg]
        intro e2
        subst e2
        have : s ∈ ds := by
          unfold memB at hbb
          obtain ⟨y, hy, hy2⟩ := List.any_eq_true.1 hbb
          have := Nat.eq_of_beq_eq_true hy2
          simp only at this
          rw [this]
          exact hy
        exact hs this
      | keep =>
        refine ⟨(fun hs => by rw [lookup_cons, lookup_cons, ih.1 hs]), fun hs => ?_⟩
        rw [lookup_cons, if_neg, ih.2 hs]
        intro e2
        subst e2
        rw [memB_spec hs] at hbb
        cases hbb
  intro s q z hl
  have := key h s
  by_cases hs : s ∈ ds
  · rw [this.2 hs] at hl; cases hl
  · rw [this.1 hs] at hl; exact ⟨hl, hs⟩
def isAlB : DK → Bool
  | .al => true
  | _ => false
def alPend (al : List AI) (r : List (DK × Nat)) : List Nat := (al.filter fun A => r.any fun x => isAlB x.1 && Nat.beq x.2 A.i).map (·.d)

def MJ (P : Program) (N : Fm) (Q : Env → Sto → Prop) (k : List It) (ops : Array Oper) (al : List AI) (r : List (DK × Nat)) (act' : List FL) (env' : Env) (sto' : Sto) : Prop :=
  (∀ f ∈ act', FlFact P N ops (actE act' ++ env') sto' f) ∧ DSem P N Q k ops al r (actE act' ++ env') sto' act'

section
variable {P : Program} {T : Tab} (hT : TabOk P T) {N : Fm} {Q : Env → Sto → Prop} {k : List It} {ops : Array Oper} {al : List AI}
include hT
theorem MJ.none {r : List (DK × Nat)} {env' : Env} {sto' : Sto} (h : DSem P N Q k ops al r env' sto' []) : MJ P N Q k ops al r [] env' sto' := ⟨(fun f hf => by cases hf), h⟩
theorem MJ.some {r : List (DK × Nat)} {f : FL} {l : List FL} {env' : Env} {sto' : Sto} (h1 : FlsW P T N ops (actE (f :: l) ++ env') sto' (f :: l)) (h : DSem P N Q k ops al r (actE (f :: l) ++ env') sto' (f :: l)) : MJ P N Q k ops al r (f :: l) env' sto' := ⟨h1.all hT, h⟩
theorem DSem.nilW {env : Env} {sto : Sto} {act : List FL} (h : Run P T N Q k env sto) : DSem P N Q k ops al [] env sto act := h.sound hT
theorem DSem.flW {i d : Nat} {r : List (DK × Nat)} {env : Env} {sto : Sto} {act : List FL} {op : Op} {ty : TypeId} {pos : String} {af : Array Edge} {z : AV} (ho : ops[i]? = Option.some { dst := Option.some d, op, type := ty, pos, after := af, guard := Option.none })
    (hl : isLitB op = false) (hd : Nat.blt d N.n = true) (hq : Quiet T env sto [] op z) (hk : DSem P N Q k ops al r ((d, [], z) :: env) sto (⟨i, d, [], z⟩ :: act)) : DSem P N Q k ops al ((.fl, i) :: r) env sto act :=
  ⟨d, [], z, (FlW.q ho hl hd hq).at hT, hk⟩
theorem DSem.flG {i d gs g : Nat} {b c : Bool} {q : Path} {r : List (DK × Nat)} {env : Env} {sto : Sto} {act : List FL} {op : Op} {ty : TypeId} {pos : String} {af : Array Edge} {z : AV} (ho : ops[i]? = Option.some { dst := Option.some d, op, type := ty, pos, after := af, guard := Option.some (g, b) })
    (hb : isLitB op = false) (hd : Nat.blt d N.n = true) (hg : gslot ops g = Option.some gs) (hl : lookup gs env = Option.some (q, .v (.bool c))) (hq : Quiet T env sto ((c, b) :: q) op z) (hk : DSem P N Q k ops al r ((d, (c, b) :: q, z) :: env) sto (⟨i, d, (c, b) :: q, z⟩ :: act)) : DSem P N Q k ops al ((.fl, i) :: r) env sto act :=
  ⟨d, _, z, (FlW.g ho hb hd hg hl hq).at hT, hk⟩
theorem DSem.flL {α : Type} (enc : α → Nat → DV) (dv : α) (xs : List α) {i d len : Nat} {t e : TypeId} {ps : Array (Nat × Operand)} {r : List (DK × Nat)} {env : Env} {sto : Sto} {act : List FL} {ty : TypeId} {pos : String} {af : Array Edge} {yt ye : Ty} {zs : List (Nat × AV)} {cs : List AV} {n : Bool} {ds : List DV} {sz : Nat}
    (ho : ops[i]? = Option.some { dst := Option.some d, op := .buildSlice t len ps, type := ty, pos, after := af, guard := Option.none }) (hd : Nat.blt d N.n = true) (ht : tget t T = Option.some yt) (hte : yt.k = .slice e) (he : tget e T = Option.some ye) (hsz : Nat.beq ye.size sz = true) (hsm : Nat.ble (len * sz) 16777216 = true) (hp : GetPs env [] ps.toList zs)
    (hf : Fills sz (zerosA ye.zero sz (len * sz)) zs cs) (hdn : DownL cs n ds) (hds : ds = litL sz enc xs) (hlen : xs.length = len)
    (hk : DSem P N Q k ops al r ((d, [], .d n sz enc dv xs) :: env) sto (⟨i, d, [], .d n sz enc dv xs⟩ :: act)) : DSem P N Q k ops al ((.fl, i) :: r) env sto act :=
  ⟨d, [], _, (FlW.l ho hd ht hte he hsz hsm hp hf hdn hds hlen).at hT, hk⟩
/-- A row of numbers. -/
theorem DSem.flI {i d len : Nat} {t e m b m' b' : Nat} {z z' : List Value} {ki : IntKind} {ps : Array (Nat × Operand)} {r : List (DK × Nat)} {env : Env} {sto : Sto} {act : List FL} {ty : TypeId} {pos : String} {af : Array Edge} {zs : List (Nat × AV)} {cs : List AV} {xs : List Int}
    (ho : ops[i]? = Option.some { dst := Option.some d, op := .buildSlice t len ps, type := ty, pos, after := af, guard := Option.none }) (hd : Nat.blt d N.n = true) (ht : tget t T = Option.some ⟨.slice e, m, b, z⟩) (he : tget e T = Option.some ⟨.int ki, 1, b', z'⟩) (hki : (ki == .u8) = false) (hsm : Nat.ble (len * 1) 16777216 = true) (hp : GetPs env [] ps.toList zs)
    (hf : Fills 1 (zerosA z' 1 (len * 1)) zs cs) (hx : IntsL ki cs xs) (hlen : Nat.beq xs.length len = true)
    (hk : DSem P N Q k ops al r ((d, [], .d true 1 (encI ki) 0 xs) :: env) sto (⟨i, d, [], .d true 1 (encI ki) 0 xs⟩ :: act)) : DSem P N Q k ops al ((.fl, i) :: r) env sto act :=
  DSem.flL hT (encI ki) 0 xs ho hd ht rfl he rfl hsm hp hf hx.down rfl (Nat.eq_of_beq_eq_true hlen) hk
theorem DSem.mnW {i : Nat} {r : List (DK × Nat)} {env envm : Env} {sto : Sto} {act act' : List FL} {o : Oper} (ho : ops[i]? = Option.some o) (hc : Cov o act act') (hd : Drop (act'.map (·.d) ++ alPend al r) env envm)
    (hk : Run P T N Q [.ops ops [o], .goal (MJ P N Q k ops al r act')] envm sto) : DSem P N Q k ops al ((.mn, i) :: r) env sto act := by
  refine ⟨o, act', envm, ho, hc.spec.1, hc.spec.2, fun s q z hl => ?_, hk.sound hT⟩
  obtain ⟨h1, h2⟩ := hd.spec s q z hl
  refine ⟨h1, fun f hf e => h2 (List.mem_append_left _ (List.mem_map.2 ⟨f, hf, e⟩)), fun A hA hm e => h2 (List.mem_append_right _ (List.mem_map.2 ⟨A, List.mem_filter.2 ⟨hA, ?_⟩, e⟩))⟩
  exact List.any_eq_true.2 ⟨_, hm, by simp only [isAlB, Bool.true_and]; exact Nat.beq_refl _⟩

/-! ### What is laid -/
def AI.box (i d : Nat) (zs : List AV) : AI := ⟨i, d, Nat, fun b => .pointer (Option.some ⟨b, 0, Option.none⟩), fun b => .v (.pointer (Option.some ⟨b, 0, Option.none⟩)), fun b => .box b zs⟩
def AI.row {α : Type} (i d : Nat) (e : TypeId) (sz : Nat) (enc : α → Nat → DV) (dv : α) : AI := ⟨i, d, Nat, fun b => .slice (Option.some ⟨b, 0, Option.none⟩) 0 0, fun b => .o (.slice (Option.some ⟨b, 0, Option.none⟩) 0 0), fun b => .row (.slice (Option.some ⟨b, 0, Option.none⟩) 0 0) true e sz enc dv []⟩
inductive AlsF (P : Program) (T : Tab) (N : Fm) (ops : Array Oper) : List AI → Prop where
  | nil : AlsF P T N ops []
  | box {i d : Nat} {e : TypeId} {ty : TypeId} {pos : String} {af : Array Edge} {y : Ty} {l : List AI} {zs : List AV} : ops[i]? = Option.some { dst := Option.some d, op := .alloc e, type := ty, pos, after := af, guard := Option.none } → Nat.blt d N.n = true → tget e T = Option.some y → zs = y.zero.map .v → AlsF P T N ops l → AlsF P T N ops (AI.box i d zs :: l)
  | row {α : Type} {enc : α → Nat → DV} {dv : α} {i d : Nat} {t e sz : Nat} {ps : Array (Nat × Operand)} {ty : TypeId} {pos : String} {af : Array Edge} {yt ye : Ty} {l : List AI} : ops[i]? = Option.some { dst := Option.some d, op := .buildSlice t 0 ps, type := ty, pos, after := af, guard := Option.none } → ps = #[] → Nat.blt d N.n = true → tget t T = Option.some yt → yt.k = .slice e → tget e T = Option.some ye → Nat.beq ye.size sz = true →
      AlsF P T N ops l → AlsF P T N ops (AI.row i d e sz enc dv :: l)
theorem AlsF.all {l : List AI} (h : AlsF P T N ops l) : ∀ A ∈ l, AlFact P N ops A := by
  induction h with
  | nil => intro A hA; cases hA
  | box ho hd ht hz _ ih =>
    rename_i i d e ty pos af y l zs _
    intro A hA
    rcases List.mem_cons.1 hA with rfl | hA
    · subst hz
      refine ⟨_, ho, rfl, rfl, rfl, Nat.le_of_ble_eq_true hd, fun x cx w => rfl, fun C env sto a w hAb => ?_⟩
      obtain ⟨i', h1, h2, h3, h4, h5⟩ := (hT _ _ ht).info
      cases hz : i'.zero with
      | none => simp [hz] at h4
      | some zv =>
        simp only [hz, Option.map_some, Option.some.injEq] at h4
        have hzz : AAtL (C.cx sto) w (y.zero.map .v) zv.cells.toList := by
          rw [h4]
          exact AAtL.of_get (by simp) (fun j z u hz hu => by
            simp only [List.getElem?_map, hu, Option.map_some, Option.some.injEq] at hz
            subst hz
            rfl)
        have hA' := (hAb.newBox (e := e) hzz)
        refine ⟨w.heap.size, _, ?_, hA'⟩
        simp only [execOp, Instr.alloc, zeroValue, typeInfo, Sem.run_bind, run_program, Result.andThen_ok, h1, hz, newVar, newRow, run_newObj, Sem.run_pure]
        rfl
    · exact ih A hA
  | row ho hps hd ht hte he hsz _ ih =>
    rename_i α enc dv i d t e sz ps ty pos af yt ye l _
    intro A hA
    rcases List.mem_cons.1 hA with rfl | hA
    · subst hps
      have hsz' := Nat.eq_of_beq_eq_true hsz
      subst hsz'
      refine ⟨_, ho, rfl, rfl, rfl, Nat.le_of_ble_eq_true hd, fun x cx w => ⟨rfl, _, _, _, rfl⟩, fun C env sto a w hAb => ?_⟩
      obtain ⟨cells, hrun, hsize, hcells⟩ := lit_run hT enc dv [] hAb (q := []) trivial ht hte he (len := 0) (ps := #[]) (by simp) GetPs.nil (zs := []) (cs := zerosA ye.zero ye.size (0 * ye.size)) .nil (by simp only [Nat.zero_mul, zerosA, List.range_zero, List.map_nil]; exact DownL.nil) (by simp [litL])
      have hA' := hAb.newRow (n := true) (e := e) (sz := ye.size) (len := 0) (cap := 0) (enc := enc) (dv := dv) (xs := []) (cells := cells) rfl (Nat.le_refl _) (by simp [maxLen]) (by simp) hcells
      refine ⟨w.heap.size, _, ?_, hA'⟩
      simp only [execOp, Sem.run_bind]
      rw [show (#[] : Array (Nat × Operand)).map (fun x => (x.1, a.eval x.2)) = #[] by simp] at hrun
      rw [show ((#[] : Array (Nat × Operand)).map fun (x : Nat × Operand) => (x.1, a.eval x.2)) = #[] by simp]
      rw [hrun]
      rfl
    · exact ih A hA
inductive AlB (D : Prop) : Bool → Prop where
  | hit : D → AlB D true
  | miss : AlB D false
inductive AlsW (i : Nat) (D : AI → Prop) : List AI → Prop where
  | nil : AlsW i D []
  | cons {A : AI} {l : List AI} : AlB (D A) (Nat.beq A.i i) → AlsW i D l → AlsW i D (A :: l)
theorem AlsW.all {i : Nat} {D : AI → Prop} {l : List AI} (h : AlsW i D l) : ∀ A ∈ l, A.i = i → D A := by
  induction h with
  | nil => intro A hA; cases hA
  | cons hb _ ih =>
    rename_i A0 l0 _
    intro A hA e
    rcases List.mem_cons.1 hA with rfl | hA
    · generalize hbb : Nat.beq A.i i = b at hb
      cases hb with
      | hit h => exact h
      | miss => rw [e, Nat.beq_refl] at hbb; cases hbb
    · exact ih A hA e
theorem DSem.alW {i : Nat} {r : List (DK × Nat)} {env : Env} {sto : Sto} {act : List FL} (h : AlsW i (fun A => ∀ x, DSem P N Q k ops al r ((A.d, [], A.zf x) :: env) (A.rf x :: sto) act) al) : DSem P N Q k ops al ((.al, i) :: r) env sto act := h.all hT
def alsB (ord : List (DK × Nat)) (al : List AI) : Bool := ord.all fun x => !isAlB x.1 || al.any fun A => Nat.beq A.i x.2
theorem alsB_spec {ord : List (DK × Nat)} {al : List AI} (h : alsB ord al = true) : ∀ i, (DK.al, i) ∈ ord → ∃ A ∈ al, A.i = i := by
  intro i hi
  have := List.all_eq_true.1 h _ hi
  simp only [isAlB, Bool.not_true, Bool.false_or] at this
  obtain ⟨A, hA, e⟩ := List.any_eq_true.1 this
  exact ⟨A, hA, Nat.eq_of_beq_eq_true e⟩
theorem RunSem.drawW (hmix : P.follows .mixedOrders = true) {id : Nat} {env : Env} {sto : Sto} (ord : List (DK × Nat)) (al : List AI) (hok : ordOk ops ord = true) (hb : alsB ord al = true) (hAl : AlsF P T N ops al)
    (hD : DSem P N Q k ops al ord env sto []) : RunSem P N Q (.c (.region id ops true) :: k) env sto := RunSem.drawP hmix ord al hok (hAl.all hT) (alsB_spec hT hb) hD
end
end Go.Sx
end

section
/- Copies into rows that are owned, of rows of single cells. -/



set_option linter.unusedSectionVars false
namespace Go.Sx
theorem SrcOf.at {cx : Cx} {w : World} {α : Type} {z : AV} {u : Value} {e' : TypeId} {n : Bool} {sz : Nat} {enc : α → Nat → DV} {dv : α} {ys : List α} {sto : Sto}
    (h : SrcOf sto z (.slice e') n sz enc dv ys) (hz : AAt cx w z u) (hr : ∀ r ∈ sto, RAt cx w r) :
    (ys = [] ∧ ∃ A c, u = .slice A 0 c) ∨ ∃ a c, u = .slice (some a) ys.length c ∧ ∀ i j, i < ys.length → j < sz → ∃ y, w.cell? (a.add (i * sz + j)) = some y ∧ DAt (cx.ok n) w (enc (ys.getD i dv) j) y := by
  have data : ∀ {F : Nat → Prop} {α : Type} {n : Bool} {sz : Nat} {enc : α → Nat → DV} {dv : α} {ys : List α}, DAt F w (.sl sz enc dv ys) u → (∀ i j y, i < ys.length → j < sz → DAt F w (enc (ys.getD i dv) j) y → DAt (cx.ok n) w (enc (ys.getD i dv) j) y) →
      (ys = [] ∧ ∃ A c, u = .slice A 0 c) ∨ ∃ a c, u = .slice (some a) ys.length c ∧ ∀ i j, i < ys.length → j < sz → ∃ y, w.cell? (a.add (i * sz + j)) = some y ∧ DAt (cx.ok n) w (enc (ys.getD i dv) j) y := by
    intro F α n sz enc dv ys h hF
    rcases h.inv_sl with h | ⟨a, c, h1, hf, hb, hc, hY⟩
    · exact .inl h
    · refine .inr ⟨a, c, h1, fun i j hi hj => ?_⟩
      obtain ⟨y, h2, h3⟩ := hY i j hi hj
      exact ⟨y, h2, hF i j y hi hj h3⟩
  have row : ∀ {v : Value} {n : Bool} {e : TypeId} {ys : List α} {A : Option Addr} {m c lo hi : Nat}, RAt cx w (.row v n e sz enc dv ys) → v = .slice A m c → lo ≤ hi → hi ≤ m → m ≤ c → u = .slice (if c = lo then A else A.map (·.add (lo * sz))) (hi - lo) (c - lo) →
      ((ys.take hi).drop lo = [] ∧ ∃ A c, u = .slice A 0 c) ∨ ∃ a c, u = .slice (some a) ((ys.take hi).drop lo).length c ∧ ∀ i j, i < ((ys.take hi).drop lo).length → j < sz → ∃ y, w.cell? (a.add (i * sz + j)) = some y ∧ DAt (cx.ok n) w (enc (((ys.take hi).drop lo).getD i dv) j) y := by
    intro v n e ys A m c lo hi h hv h1 h2 h3 hu
    have hm : m = ys.length := by obtain ⟨_, _, _, h5, _⟩ := h; exact h5 _ _ _ hv
    have hlen : ((ys.take hi).drop lo).length = hi - lo := by simp; omega
    by_cases he : hi - lo = 0
    · exact .inl ⟨List.eq_nil_of_length_eq_zero (by omega), _, _, by rw [hu, he]⟩
    · have hA : ∃ a, A = some a := by
        have h' := h
        obtain ⟨vals, h5, _⟩ := h'
        rcases h5 with ⟨h6, _⟩ | ⟨g, o, n', cap, cur, h6, _⟩
        · rw [h6] at hv; simp at hv; omega
        · rw [h6] at hv; simp at hv; exact ⟨_, hv.1.symm⟩
      obtain ⟨a, rfl⟩ := hA
      refine .inr ⟨a.add (lo * sz), c - lo, by rw [hu, hlen, if_neg (by omega)]; rfl, fun i j hi' hj => ?_⟩
      obtain ⟨y, h5, h6⟩ := row_cell h hv (i := lo + i) (j := j) (by omega) hj
      refine ⟨y, by rw [add_add]; exact h5, ?_⟩
      have : ((ys.take hi).drop lo).getD i dv = ys.getD (lo + i) dv := by
        simp only [List.getD, List.getElem?_drop, List.getElem?_take]
        rw [if_pos (by omega)]
      rw [this]
      exact h6
  cases h with
  | row h =>
    simp only [AAt] at hz
    obtain ⟨rfl, _⟩ := hz
    have hR := hr _ h.mem
    obtain ⟨vals, h5, h6, h7, h8⟩ := hR
    rcases h5 with ⟨rfl, rfl⟩ | ⟨g, o, n', cap, cur, rfl, _⟩
    · have hx := h7 _ _ _ rfl
      exact .inl ⟨List.eq_nil_of_length_eq_zero hx.symm, _, _, rfl⟩
    · have hx := h7 _ _ _ rfl
      subst hx
      exact .inr ⟨_, _, rfl, fun i j hi hj => row_cell (hr _ h.mem) rfl hi hj⟩
  | sub h =>
    simp only [AAt] at hz
    obtain ⟨A, m, c, rfl, h1, h2, h3, h4⟩ := hz
    exact row (hr _ h.mem) rfl h1 h2 h3 h4
  | dataB =>
    simp only [AAt] at hz
    refine data hz (fun i j y hi hj hd' => ?_)
    have := hd'.inv_v
    have h1 := hd'.inv_one
    subst this
    exact .v _ h1
  | dataI =>
    simp only [AAt] at hz
    refine data hz (fun i j y hi hj hd' => ?_)
    have := hd'.inv_v
    have h1 := hd'.inv_one
    subst this
    exact .v _ h1
  | data =>
    simp only [AAt] at hz
    exact data hz (fun i j y hi hj hd' => hd')
  | nil =>
    simp only [AAt] at hz
    exact .inl ⟨rfl, _, _, hz⟩

/-- A row whose cells turn. -/
theorem Abs.rowTurn {C : Ctx} {env : Env} {sto rest : Sto} {a : Act} {w : World} (hA : Abs C env sto a w) {α : Type} {v : Value} {n n2 : Bool} {e : TypeId} {sz : Nat} {enc : α → Nat → DV} {dv : α} {xs xs' : List α}
    (hp : Pull v n e sz enc dv xs sto rest) (hl : xs'.length = xs.length) {g o n0 cap0 : Nat} {cur cur' : Array Value} (hv : v = .slice (some ⟨g, o, none⟩) n0 cap0) (hg : w.heap[g]? = some (.cells cur e (0, 0))) (hn0 : n0 ≤ cap0) (hm0 : cap0 ≤ maxLen) (hc0 : o + cap0 * sz ≤ cur.size) (hsz : cur'.size = cur.size)
    (hnew : ∀ i j, i < xs.length → j < sz → ∃ y, cur'[o + (i * sz + j)]? = some y ∧ DAt ((C.cx sto).ok n2) w (enc (xs'.getD i dv) j) y) : Abs C env (.row v n2 e sz enc dv xs' :: rest) a (w.setRow g cur') := by
  obtain ⟨hm, hrest, hperm⟩ := hp.mem
  have hlt : g < w.heap.size := (Array.getElem?_eq_some_iff.1 hg).1
  have hown : g ∈ blocksOf sto := hperm.mem_iff.2 (List.mem_append_left _ (by rw [hv]; simp [Value.ownBlock]))
  have hbs : (blocksOf sto).Perm (blocksOf (.row v n2 e sz enc dv xs' :: rest)) := hperm
  have hnd := hbs.nodup_iff.1 hA.nodup
  have hnd' := hperm.nodup_iff.1 hA.nodup
  have hmem : ∀ b, b ∈ blocksOf (.row v n2 e sz enc dv xs' :: rest) ↔ b ∈ blocksOf sto := fun b => (hbs.mem_iff).symm
  have hF : ∀ m k, k < w.heap.size → (C.cx sto).ok m k → (C.cx (.row v n2 e sz enc dv xs' :: rest)).ok m k ∧ (w.setRow g cur').heap[k]? = w.heap[k]? := by
    intro m k _ hok
    exact ⟨⟨fun h => hok.1 ((hmem k).1 h), hok.2⟩, setRow_other w g k _ (fun e => hok.1 (e ▸ hown))⟩
  have hsize : (w.setRow g cur').heap.size = w.heap.size := by simp [World.setRow]
  have hlen : n0 = xs.length := by
    obtain ⟨_, _, _, h5, _⟩ := hA.res _ hm
    exact h5 _ _ _ hv
  have hmul2 : n0 * sz ≤ cap0 * sz := Nat.mul_le_mul_right _ hn0
  refine hA.step ⟨rfl, rfl, rfl, by rw [hsize]; exact Nat.le_refl _, fun k _ hk => setRow_other w g k _ (fun e => hk (e ▸ hown))⟩ hnd (fun b hb => .inl ((hmem b).1 hb)) ?_ (fun b _ hb => (hmem b).1 hb)
  intro r hr
  rcases List.mem_cons.1 hr with rfl | hr
  · refine ⟨(cur'.toList.drop o).take (n0 * sz), .inr ⟨g, o, n0, cap0, cur', hv, setRow_heap w g cur _ e _ hg, hn0, hm0, by omega, ?_, rfl⟩, ?_, fun A m c h => ?_, fun p q hp' hq => ?_⟩
    · simp; omega
    · rw [hl, ← hlen]; simp; omega
    · rw [hv] at h
      simp only [Value.slice.injEq] at h
      omega
    · rw [hl] at hp'
      have hpq : p * sz + q < n0 * sz := by
        have : (p + 1) * sz ≤ xs.length * sz := Nat.mul_le_mul_right _ hp'
        rw [Nat.add_mul, Nat.one_mul, ← hlen] at this
        omega
      have hg1 : ((cur'.toList.drop o).take (n0 * sz))[p * sz + q]? = cur'[o + (p * sz + q)]? := by
        rw [List.getElem?_take, if_pos hpq, List.getElem?_drop]; simp
      rw [hg1]
      obtain ⟨y, h5, h6⟩ := hnew p q hp' hq
      exact ⟨y, h5, h6.mono (fun b hb hok => hF _ b hb hok) (by rw [hsize]; exact Nat.le_refl _)⟩
  · refine RAt.mono hF (by rw [hsize]; exact Nat.le_refl _) (fun b hb => setRow_other w g b _ (fun e => ?_)) (hA.res r (hrest r hr))
    subst e
    exact (List.nodup_append.1 hnd').2.2 b (by rw [hv]; simp [Value.ownBlock]) b (List.mem_flatMap.2 ⟨r, hr, hb⟩) rfl

/-- Where a copy goes. -/
inductive CpDst : AV → Value → Nat → Nat → Nat → Prop where
  | own {v : Value} {m : Nat} : CpDst (.o v) v m 0 m
  | part {v : Value} {m lo hi : Nat} : CpDst (.s v 1 lo hi) v m lo hi
def spliceL {α : Type} (xs ys : List α) (lo hi : Nat) : List α := xs.take lo ++ (ys.take (hi - lo) ++ xs.drop (lo + min ys.length (hi - lo)))
theorem spliceL_all {α : Type} (xs ys : List α) (h : ys.length = xs.length) : spliceL xs ys 0 xs.length = ys := by
  unfold spliceL
  rw [List.take_zero, List.nil_append, Nat.zero_add, Nat.sub_zero, List.take_of_length_le (by omega), List.drop_of_length_le (by omega), List.append_nil]
theorem spliceL_len {α : Type} (xs ys : List α) {lo hi : Nat} (h1 : lo ≤ hi) (h2 : hi ≤ xs.length) : (spliceL xs ys lo hi).length = xs.length := by
  simp only [spliceL, List.length_append, List.length_take, List.length_drop]
  omega
theorem spliceL_get {α : Type} (xs ys : List α) {lo hi : Nat} (h1 : lo ≤ hi) (h2 : hi ≤ xs.length) (i : Nat) (d : α) : (spliceL xs ys lo hi).getD i d = if lo ≤ i ∧ i < lo + min ys.length (hi - lo) then ys.getD (i - lo) d else xs.getD i d := by
  simp only [spliceL, List.getD, List.getElem?_append, List.length_take, List.getElem?_take, List.getElem?_drop]
  by_cases h3 : i < lo
  · rw [if_pos (by omega), if_pos h3, if_neg (by omega)]
  · rw [if_neg (by omega)]
    by_cases h4 : i < lo + min ys.length (hi - lo)
    · rw [if_pos (by omega), if_pos (by omega), if_pos (by omega), show i - min lo xs.length = i - lo by omega]
    · rw [if_neg (by omega), if_neg (by omega)]
      congr 2
      omega
section
variable {P : Program} {T : Tab} (hT : TabOk P T) {N : Fm} {Q : Env → Sto → Prop}
include hT
theorem Abs.copy {C : Ctx} {env : Env} {sto rest : Sto} {a : Act} {w : World} (hA : Abs C env sto a w) {t tx ty e e' : TypeId} {yt yx ye : Ty} {zx zy : AV} {ux uy : Value} {α : Type} {v : Value} {n n' : Bool} {lo hi : Nat} {enc : α → Nat → DV} {dv : α} {xs ys : List α}
    (hx : AAt (C.cx sto) w zx ux) (hy : AAt (C.cx sto) w zy uy) (ht : tget t T = some yt) (hte : yt.k = .slice e) (htx : tget tx T = some yx) (hxk : yx.k = .slice e') (he : tget e T = some ye) (hsz : ye.size = 1)
    (hd : CpDst zx v xs.length lo hi) (hp : Pull v n e 1 enc dv xs sto rest) (hs : SrcOf sto zy (.slice e') n' 1 enc dv ys) :
    ∃ w', (Builtin.copy_ #[t, tx] ty #[ux, uy]).run P w = .ok (goInt ((min ys.length (hi - lo) : Nat) : Int)) w' ∧ Abs C env (.row v (n && n') e 1 enc dv (spliceL xs ys lo hi) :: rest) a w' := by
  obtain ⟨de, ie, hi1, hi2, hi3, hi4, hi5, hi6, hi7, _⟩ := hT _ _ he
  obtain ⟨dt, it, ht1, _, ht3, _⟩ := hT _ _ ht
  have ht1' : P.underlying t = some (.slice e) := by
    rw [hte] at ht3
    cases dt <;> simp only [TK.fits] at ht3
    subst ht3
    exact ht1
  have hsize1 : (P.info? e).map (·.size) = some 1 := by rw [hi2]; simp [hi4, hsz]
  obtain ⟨hm, hrest, hperm⟩ := hp.mem
  have hR := hA.res _ hm
  have hR' := hR
  obtain ⟨vals, h1, h2, h3, h4⟩ := hR'
  have hbs : (blocksOf sto).Perm (blocksOf (.row v (n && n') e 1 enc dv xs :: rest)) := hperm
  have hmem : ∀ b, b ∈ blocksOf (.row v (n && n') e 1 enc dv xs :: rest) ↔ b ∈ blocksOf sto := fun b => (hbs.mem_iff).symm
  have hok : ∀ m b, (C.cx sto).ok m b → (C.cx (.row v (n && n') e 1 enc dv xs :: rest)).ok m b := fun m b h => ⟨fun h' => h.1 ((hmem b).1 h'), h.2⟩
  have hweak : Abs C env (.row v (n && n') e 1 enc dv xs :: rest) a w := by
    refine hA.step (Kept.refl _ _) (hbs.nodup_iff.1 hA.nodup) (fun b hb => .inl ((hmem b).1 hb)) (fun r hr => ?_) (fun b _ hb => (hmem b).1 hb)
    rcases List.mem_cons.1 hr with rfl | hr
    · refine ⟨vals, h1, h2, h3, fun i j hi hj => ?_⟩
      obtain ⟨y, hy1, hy2⟩ := h4 i j hi hj
      exact ⟨y, hy1, hy2.mono (fun b hb h => ⟨⟨(hok n b h).1, (hok n b h).2.1, fun h' => h.2.2 (by simp only [Bool.and_eq_true] at h'; exact h'.1)⟩, rfl⟩) (Nat.le_refl _)⟩
    · exact RAt.mono (fun m b _ h => ⟨hok m b h, rfl⟩) (Nat.le_refl _) (fun _ _ => rfl) (hA.res r (hrest r hr))
  have hsrc := hs.at hy hA.res
  have hdd : ∃ A dL dC, ux = .slice A dL dC ∧ dL = hi - lo ∧ lo ≤ hi ∧ hi ≤ xs.length ∧ (∀ g o n0 cap0, v = .slice (some ⟨g, o, none⟩) n0 cap0 → hi - lo ≠ 0 → A = some ⟨g, o + lo, none⟩) ∧ (A = none → hi - lo = 0 ∨ v = .slice none 0 0) := by
    cases hd with
    | own =>
      simp only [AAt] at hx
      obtain ⟨rfl, A, m, c, hv⟩ := hx
      have := h3 _ _ _ hv
      refine ⟨A, m, c, hv, by omega, Nat.zero_le _, Nat.le_refl _, fun g o n0 cap0 h _ => ?_, fun hA' => ?_⟩
      · rw [hv] at h
        simp only [Value.slice.injEq] at h
        exact h.1
      · subst hA'
        rcases h1 with ⟨h5, _⟩ | ⟨g, o, n0, cap0, cur, h5, _⟩
        · exact .inr h5
        · rw [hv] at h5; simp at h5
    | part =>
      simp only [AAt] at hx
      obtain ⟨A, m, c, hv, k1, k2, k3, rfl⟩ := hx
      have := h3 _ _ _ hv
      refine ⟨_, _, _, rfl, rfl, k1, by omega, fun g o n0 cap0 h hne => ?_, fun hA' => ?_⟩
      · rw [hv] at h
        simp only [Value.slice.injEq] at h
        rw [h.1, if_neg (by omega), Option.map_some, Nat.mul_one, add_none]
      · by_cases hne : hi - lo = 0
        · exact .inl hne
        · rw [if_neg (by omega)] at hA'
          cases A with
          | some a => simp at hA'
          | none =>
            rcases h1 with ⟨h5, _⟩ | ⟨g, o, n0, cap0, cur, h5, _⟩
            · exact .inr h5
            · rw [hv] at h5; simp at h5
  obtain ⟨A, dL, dC, rfl, rfl, hle, hhi, hA1, hA2⟩ := hdd
  have hnothing : min ys.length (hi - lo) = 0 → (∃ A' c, uy = .slice A' ys.length c) → ∃ w', (Builtin.copy_ #[t, tx] ty #[.slice A (hi - lo) dC, uy]).run P w = .ok (goInt ((min ys.length (hi - lo) : Nat) : Int)) w' ∧ Abs C env (.row v (n && n') e 1 enc dv (spliceL xs ys lo hi) :: rest) a w' := by
    rintro h0 ⟨A', c, rfl⟩
    refine ⟨w, ?_, ?_⟩
    · have := run_copy_none (P := P) w t tx ty e A A' (hi - lo) dC ys.length c ht1' hsize1 (by simpa using h0)
      rw [this, h0]
      rfl
    · have : spliceL xs ys lo hi = xs := by
        unfold spliceL
        have h5 : ys.take (hi - lo) = [] := by
          rcases Nat.eq_zero_or_pos ys.length with h | h
          · rw [List.eq_nil_of_length_eq_zero h]; exact List.take_nil
          · rw [show hi - lo = 0 by omega]; rfl
        rw [h5, h0, Nat.add_zero, List.nil_append, List.take_append_drop]
      rw [this]
      exact hweak
  rcases hsrc with ⟨rfl, A', c, rfl⟩ | ⟨ad, c, rfl, hcell⟩
  · exact hnothing (by simp) ⟨A', c, rfl⟩
  · by_cases h0 : min ys.length (hi - lo) = 0
    · exact hnothing h0 ⟨_, c, rfl⟩
    · rcases h1 with ⟨h5, _⟩ | ⟨g, o, n0, cap0, cur, hv, hg, hn0, hm0, hc0, hl0, hvals⟩
      · have := h3 _ _ _ h5
        omega
      · have hAA := hA1 g o n0 cap0 hv (by omega)
        subst hAA
        have hxl := h3 _ _ _ hv
        have hch : ∃ Y : Nat → Value, ∀ k, k < ys.length → w.cell? (ad.add k) = some (Y k) ∧ DAt ((C.cx sto).ok n') w (enc (ys.getD k dv) 0) (Y k) := by
          have hk' : ∀ k, k < ys.length → ∃ y, w.cell? (ad.add k) = some y ∧ DAt ((C.cx sto).ok n') w (enc (ys.getD k dv) 0) y := by
            intro k hk
            obtain ⟨y, h6, h7⟩ := hcell k 0 hk (by omega)
            exact ⟨y, by simpa using h6, h7⟩
          exact ⟨fun k => if h : k < ys.length then (hk' k h).choose else undef, fun k hk => by simp only [hk, dif_pos]; exact (hk' k hk).choose_spec⟩
        obtain ⟨Y, hY⟩ := hch
        let cs : List Value := (List.range (min ys.length (hi - lo))).map Y
        have hcsl : cs.length = min ys.length (hi - lo) := by simp [cs]
        have hcs : ∀ k, k < cs.length → cs[k]? = some (Y k) := by
          intro k hk
          simp only [cs, List.getElem?_map]
          rw [List.getElem?_range (by omega)]
          rfl
        have hrun := run_copy_row (P := P) w t tx ty e g (o + lo) (hi - lo) dC ad ys.length c cur e cs ht1' hsize1 hg (by rw [hcsl]; try rfl) (fun k u hu => by
          have hk : k < cs.length := (List.getElem?_eq_some_iff.1 hu).1
          rw [hcs k hk] at hu
          rw [← (Option.some.inj hu)]
          exact (hY k (by omega)).1) (by omega) (fun u hu => by
          obtain ⟨k, hk, rfl⟩ := List.mem_iff_getElem.1 hu
          have := hcs k hk
          rw [List.getElem?_eq_getElem hk] at this
          rw [Option.some.inj this]
          exact oneV_one (hY k (by omega)).2.inv_one)
        rw [← hcsl]
        refine ⟨_, hrun, ?_⟩
        refine hA.rowTurn hp (spliceL_len xs ys hle hhi) hv hg hn0 hm0 hc0 ?_ (fun i j hi' hj => ?_)
        · simp only [List.size_toArray, List.length_append, List.length_take, List.length_drop, Array.length_toList]
          omega
        · obtain rfl : j = 0 := by omega
          have hget : (cur.toList.take (o + lo) ++ cs ++ cur.toList.drop (o + lo + cs.length)).toArray[o + (i * 1 + 0)]? = if lo ≤ i ∧ i < lo + cs.length then cs[i - lo]? else cur[o + i]? := by
            rw [List.getElem?_toArray, Nat.mul_one, Nat.add_zero, List.getElem?_append, List.getElem?_append, List.getElem?_take, List.getElem?_drop]
            have hl1 : (cur.toList.take (o + lo)).length = o + lo := by rw [List.length_take, Array.length_toList]; omega
            rw [List.length_append, hl1]
            by_cases h6 : i < lo
            · rw [if_pos (by omega), if_pos (by omega), if_pos (by omega), if_neg (by omega)]; simp
            · by_cases h7 : i < lo + cs.length
              · rw [if_pos (by omega), if_neg (by omega), if_pos (by omega)]
                congr 1
                omega
              · rw [if_neg (by omega), if_neg (by omega)]
                rw [show o + lo + cs.length + (o + i - (o + lo + cs.length)) = o + i by omega]
                simp
          rw [hget, spliceL_get xs ys hle hhi, ← hcsl]
          by_cases hin : lo ≤ i ∧ i < lo + cs.length
          · rw [if_pos hin, if_pos hin, hcs _ (by omega)]
            exact ⟨_, rfl, (hY (i - lo) (by omega)).2.mono (fun b hb h => ⟨⟨h.1, h.2.1, fun h' => h.2.2 (by simp only [Bool.and_eq_true] at h'; exact h'.2)⟩, rfl⟩) (Nat.le_refl _)⟩
          · rw [if_neg hin, if_neg hin]
            obtain ⟨y, hy1, hy2⟩ := h4 i 0 hi' (by omega)
            refine ⟨y, ?_, hy2.mono (fun b hb h => ⟨⟨h.1, h.2.1, fun h' => h.2.2 (by simp only [Bool.and_eq_true] at h'; exact h'.1)⟩, rfl⟩) (Nat.le_refl _)⟩
            rw [hvals, List.getElem?_take, if_pos (by omega), List.getElem?_drop] at hy1
            simpa using hy1
theorem RunSem.copyO {α : Type} {all : Array Oper} {rest : List Oper} {d : Tmp} {x y : Operand} {t tx e e' : TypeId} {ty : TypeId} {pos : String} {af : Array Edge} {k : List It} {env : Env} {sto sto' : Sto} {zx zy : AV} {yt yx ye : Ty} {v : Value} {n n' : Bool} {lo hi : Nat} {enc : α → Nat → DV} {dv : α} {xs ys : List α}
    (hd : Nat.blt d N.n = true) (hx : Get env [] x zx) (hy : Get env [] y zy) (ht : tget t T = some yt) (hte : yt.k = .slice e) (htx : tget tx T = some yx) (hxk : yx.k = .slice e') (he : tget e T = some ye) (hsz : Nat.beq ye.size 1 = true)
    (hp : Pull v n e 1 enc dv xs sto sto') (hc : CpDst zx v xs.length lo hi) (hs : SrcOf sto zy (.slice e') n' 1 enc dv ys)
    (hk : Run P T N Q (.ops all rest :: k) ((d, [], .v (.int .i64 (min ys.length (hi - lo) : Nat))) :: env) (.row v (n && n') e 1 enc dv (spliceL xs ys lo hi) :: sto')) :
    RunSem P N Q (.ops all ({ dst := some d, op := .call { callee := .builtin .copy, args := #[x, y], argTypes := #[t, tx] }, type := ty, pos, after := af, guard := none } :: rest) :: k) env sto := by
  intro C a w hN hA
  obtain ⟨w', hrun, hA'⟩ := hA.copy hT (ty := ty) (hx.sound hA (q := []) trivial) (hy.sound hA (q := []) trivial) ht hte htx hxk he (Nat.eq_of_beq_eq_true hsz) hc hp hs
  refine wpList_quiet hT rfl rfl (v := goInt ((min ys.length (hi - lo) : Nat) : Int)) (w' := w') ?_ (hk.sound hT C _ _ hN (hA'.put0 (by rw [hN.1]; exact Nat.le_of_ble_eq_true hd) rfl))
  simp only [execOp, resolve, invoke, builtin, Sem.run_bind, List.map_toArray, List.map_cons, List.map_nil, Result.andThen_ok, Sem.run_pure]
  simp [hrun, Result.andThen]
end
end Go.Sx
end

section
/- Structs and arrays of plain cells, held against each other. -/




set_option linter.unusedSectionVars false
namespace Go.Sx
def eqV : Value → Value → Bool
  | .int _ a, .int _ b => decide (a = b)
  | .bool a, .bool b => a == b
  | .string a, .string b => decide (a = b)
  | _, _ => false
def eqC : List Value → List Value → Bool
  | [], [] => true
  | x :: xs, y :: ys => eqV x y && eqC xs ys
  | _, _ => false
inductive AllVals : List AV → List Value → Prop where
  | nil : AllVals [] []
  | cons {x : Value} {zs : List AV} {vs : List Value} : AllVals zs vs → AllVals (.v x :: zs) (x :: vs)
theorem AllVals.at {cx : Cx} {w : World} {zs : List AV} {vs : List Value} (h : AllVals zs vs) : ∀ {us : List Value}, AAtL cx w zs us → us = vs := by
  induction h with
  | nil => intro us hu; cases us <;> simp_all [AAtL]
  | cons _ ih =>
    intro us hu
    cases us with
    | nil => simp [AAtL] at hu
    | cons u us =>
      simp only [AAtL, AAt] at hu
      rw [hu.1, ih hu.2]
def kV : Value → Nat
  | .int .. => 0
  | .bool _ => 1
  | .string _ => 2
  | _ => 3
def kD : TypeDesc → Nat
  | .int _ => 0
  | .bool => 1
  | .string => 2
  | _ => 4
def sameK : List Value → List Value → Bool
  | [], [] => true
  | .int k _ :: xs, .int k' _ :: ys => (k == k') && sameK xs ys
  | .bool _ :: xs, .bool _ :: ys => sameK xs ys
  | .string _ :: xs, .string _ :: ys => sameK xs ys
  | _, _ => false
/-- Fields, one cell each, in turn, of these kinds. -/
def offsB (P : Program) : List Field → List Nat → Nat → Bool
  | [], [], _ => true
  | f :: fs, k :: ks, i => f.name != "_" && Nat.beq f.offset i && (match P.underlying f.type with | some d => Nat.beq (kD d) k && Nat.blt k 3 | none => false) && offsB P fs ks (i + 1)
  | _, _, _ => false
def eqStructB (P : Program) (t : TypeId) (ks : List Nat) : Bool :=
  !P.eqGuardType P.depth t && match P.underlying t with
  | some (.struct fs) => !P.stoodInHeld t && offsB P fs.toList ks 0
  | some (.array n e) => (match P.underlying e with | some (.int _) => true | _ => false) && (match P.info? e with | some _ => Nat.beq (P.cellsOf e) 1 | none => false) && Nat.beq n ks.length && ks.all (Nat.beq 0)
  | _ => false
section
variable {P : Program} (w : World)
theorem run_cell (d : Nat) {t : TypeId} {td : TypeDesc} {x y : Value} (ht : P.underlying t = some td) (hx : kV x = kD td) (hs : sameK [x] [y] = true) : (Op.equalIn (d + 1) t x y).run P w = .ok (eqV x y) w := by
  cases x <;> cases y <;> simp only [sameK, Bool.and_eq_true, beq_iff_eq, reduceCtorEq, Bool.false_eq_true] at hs
  · cases td <;> simp [kV, kD] at hx
    rw [run_equalIn_bool w d t _ _ ht]
    rfl
  · cases td <;> simp [kV, kD] at hx
    obtain ⟨rfl, _⟩ := hs
    rw [run_equalIn_int w d t _ _ _ _ ht]
    rfl
  · cases td <;> simp [kV, kD] at hx
    rw [run_equalIn_string w d t _ _ ht, ← beq_toListBytes, ba_beq]
    rfl
theorem run_part_cell {t : TypeId} {td : TypeDesc} (ht : P.underlying t = some td) (hk : kD td < 3) {xs : Array Value} {off : Nat} {v : Value} (hx : xs[off]? = some v) : (part t xs off).run P w = .ok v w := by
  cases td <;> simp [kD] at hk <;> simp [part, isAgg, run_underlying ht, hx]
theorem sameK_cons {x y : Value} {xs ys : List Value} (h : sameK (x :: xs) (y :: ys) = true) : sameK [x] [y] = true ∧ sameK xs ys = true := by
  cases x <;> cases y <;> simp [sameK] at h ⊢ <;> simp_all
theorem sameK_length : ∀ {xs ys : List Value}, sameK xs ys = true → xs.length = ys.length
  | [], [], _ => rfl
  | [], _ :: _, h => by simp [sameK] at h
  | x :: _, [], h => by cases x <;> simp [sameK] at h
  | x :: xs, y :: ys, h => by simp [sameK_length (sameK_cons h).2]
theorem run_eqFields_cells (d : Nat) : ∀ (fs : List Field) (ks : List Nat) (pre pre' xs ys : List Value), offsB P fs ks pre.length = true → pre.length = pre'.length → xs.map kV = ks → sameK xs ys = true →
    (Op.eqFields (d + 1) (pre ++ xs).toArray (pre' ++ ys).toArray fs).run P w = .ok (eqC xs ys) w
  | [], ks, pre, pre', xs, ys, h, _, hk, hs => by
    cases ks with
    | nil =>
      have : xs = [] := by simpa using hk
      subst this
      have : ys = [] := List.eq_nil_of_length_eq_zero (sameK_length hs).symm
      subst this
      simp [Op.eqFields, eqC]
    | cons => simp [offsB] at h
  | f :: fs, [], pre, pre', xs, ys, h, _, _, _ => by simp [offsB] at h
  | f :: fs, k :: ks, pre, pre', xs, ys, h, hp, hk, hs => by
    cases xs with
    | nil => simp at hk
    | cons x xs =>
      cases ys with
      | nil => have := sameK_length hs; simp at this
      | cons y ys =>
        simp only [List.map_cons, List.cons.injEq] at hk
        simp only [offsB, Bool.and_eq_true, bne_iff_ne, ne_eq] at h
        obtain ⟨⟨⟨hn, ho⟩, ht⟩, hr⟩ := h
        have ho' := Nat.eq_of_beq_eq_true ho
        cases hu : P.underlying f.type with
        | none => simp [hu] at ht
        | some td =>
          simp only [hu, Bool.and_eq_true] at ht
          have h1 := Nat.eq_of_beq_eq_true ht.1
          have h2 : k < 3 := Nat.le_of_ble_eq_true ht.2
          obtain ⟨hs1, hs2⟩ := sameK_cons hs
          have hpx : (part f.type (pre ++ x :: xs).toArray f.offset).run P w = .ok x w := run_part_cell w hu (by omega) (by rw [ho']; simp)
          have hpy : (part f.type (pre' ++ y :: ys).toArray f.offset).run P w = .ok y w := run_part_cell w hu (by omega) (by rw [ho', hp]; simp)
          have hc := run_cell w d hu (x := x) (y := y) (by rw [hk.1, h1]) hs1
          simp only [Op.eqFields, ne_eq, hn, not_false_eq_true, if_true, Sem.run_bind, hpx, hpy, hc, Result.andThen_ok, eqC]
          cases hb : eqV x y with
          | false => simp
          | true =>
            simp only [Bool.not_true, Bool.false_eq_true, if_false, Bool.true_and]
            have ih := run_eqFields_cells d fs ks (pre ++ [x]) (pre' ++ [y]) xs ys (by simpa using hr) (by simp [hp]) hk.2 hs2
            simpa using ih
theorem run_eqItems_cells (d : Nat) {e : TypeId} {kk : IntKind} (hu : P.underlying e = some (.int kk)) : ∀ (xs ys pre pre' : List Value), pre.length = pre'.length → (∀ x ∈ xs, kV x = 0) → sameK xs ys = true →
    (Op.eqItems (d + 1) e 1 (pre ++ xs).toArray (pre' ++ ys).toArray (List.range' pre.length xs.length)).run P w = .ok (eqC xs ys) w
  | [], ys, pre, pre', hp, hk, hs => by
    have : ys = [] := List.eq_nil_of_length_eq_zero (sameK_length hs).symm
    subst this
    simp [Op.eqItems, eqC]
  | x :: xs, ys, pre, pre', hp, hk, hs => by
    cases ys with
    | nil => have := sameK_length hs; simp at this
    | cons y ys =>
      obtain ⟨hs1, hs2⟩ := sameK_cons hs
      have hpx : (part e (pre ++ x :: xs).toArray (pre.length * 1)).run P w = .ok x w := run_part_cell w hu (by simp [kD]) (by simp)
      have hpy : (part e (pre' ++ y :: ys).toArray (pre.length * 1)).run P w = .ok y w := run_part_cell w hu (by simp [kD]) (by simp [hp])
      have hc := run_cell w d hu (x := x) (y := y) (by rw [hk x (List.mem_cons_self ..)]; rfl) hs1
      simp only [List.length_cons, List.range'_succ, Op.eqItems, Sem.run_bind, hpx, hpy, hc, Result.andThen_ok, eqC]
      cases hb : eqV x y with
      | false => simp
      | true =>
        simp only [Bool.not_true, Bool.false_eq_true, if_false, Bool.true_and]
        have ih := run_eqItems_cells d hu xs ys (pre ++ [x]) (pre' ++ [y]) (by simp [hp]) (fun z hz => hk z (List.mem_cons_of_mem _ hz)) hs2
        simpa using ih
theorem run_eq_agg {t : TypeId} {ks : List Nat} (h : eqStructB P t ks = true) {xs ys : List Value} (hk : xs.map kV = ks) (hs : sameK xs ys = true) : (Op.equal t (.agg xs.toArray) (.agg ys.toArray)).run P w = .ok (eqC xs ys) w := by
  unfold eqStructB at h
  simp only [Bool.and_eq_true] at h
  have h2 := h.2
  split at h2
  · rename_i fs hu
    simp only [Bool.and_eq_true, Bool.not_eq_true'] at h2
    have hf : P.fieldsOf t = fs := by simp [Program.fieldsOf, hu]
    have := run_equalIn_struct w 9999 t xs.toArray ys.toArray (by rw [hf]; exact hu) h2.1
    rw [hf] at this
    show (Op.equalIn (9999 + 1) t _ _).run P w = _
    rw [this]
    have := run_eqFields_cells (P := P) w 9998 fs.toList ks [] [] xs ys h2.2 rfl hk hs
    simpa using this
  · rename_i n e hu
    simp only [Bool.and_eq_true] at h2
    obtain ⟨⟨⟨he, hi⟩, hn⟩, ha⟩ := h2
    cases hue : P.underlying e with
    | none => simp [hue] at he
    | some de =>
      cases hie : P.info? e with
      | none => simp [hie] at hi
      | some i =>
        simp only [hie] at hi
        have hi1 := Nat.eq_of_beq_eq_true hi
        have hn' := Nat.eq_of_beq_eq_true hn
        cases de <;> simp [hue] at he
        rename_i kk
        show (Op.equalIn (9999 + 1) t _ _).run P w = _
        rw [run_equalIn_array w 9999 xs.toArray ys.toArray hu hie]
        rw [hi1, hn', ← hk, List.length_map, List.range_eq_range']
        have := run_eqItems_cells (P := P) w 9998 hue xs ys [] [] rfl (fun x hx => ?_) hs
        · simpa using this
        · have := List.all_eq_true.1 ha (kV x) (by rw [← hk]; exact List.mem_map.2 ⟨x, hx, rfl⟩)
          exact (Nat.eq_of_beq_eq_true this).symm
  · cases h2
end
/-- Two of them are held against each other. -/
def eqR (op : BinOp) (b : Bool) : Bool :=
  match op with
  | .neq => !b
  | _ => b
def isEqB : BinOp → Bool
  | .eql | .neq => true
  | _ => false
theorem AOp.eqAgg {P : Program} {N : Fm} {env : Env} {sto : Sto} {q : Path} {d : Option Tmp} {op : BinOp} {t t' : TypeId} {x y : Operand} {ty : TypeId} {pos : String} {af : Array Edge} {g : Option (Nat × Bool)} {za zb : List AV} {xs ys : List Value} {ks : List Nat}
    (hop : isEqB op = true) (he : eqStructB P t ks = true) (hx : Get env q x (.g za)) (hy : Get env q y (.g zb)) (ha : AllVals za xs) (hb : AllVals zb ys) (hk : xs.map kV = ks) (hs : sameK xs ys = true) :
    AOp P N env sto { dst := d, op := .binOp op t x y t', type := ty, pos, after := af, guard := g } q (.v (.bool (eqR op (eqC xs ys)))) := by
  intro C a w next Q' hN hA hq hnext
  have h1 := hx.sound hA hq
  have h2 := hy.sound hA hq
  simp only [AAt] at h1 h2
  obtain ⟨ax, e1, k1⟩ := h1
  obtain ⟨ay, e2, k2⟩ := h2
  have e1' := ha.at k1
  have e2' := hb.at k2
  have f1 : a.eval x = .agg xs.toArray := by rw [e1, ← e1']
  have f2 : a.eval y = .agg ys.toArray := by rw [e2, ← e2']
  have hrun := run_eq_agg w he hk hs
  have hg : P.eqGuardType P.depth t = false := by
    unfold eqStructB at he
    simp only [Bool.and_eq_true, Bool.not_eq_true'] at he
    exact he.1
  have hr : (execOp a.eval { dst := d, op := .binOp op t x y t', type := ty, pos, after := af, guard := g }).run P w = .ok (.value (.bool (eqR op (eqC xs ys)))) w := by
    cases op <;> simp [isEqB] at hop
    · simp [execOp, f1, f2, eqGuard, hg, binOp, hrun, eqR]
    · simp [execOp, f1, f2, eqGuard, hg, binOp, hrun, eqR]
  refine opR_of rfl hr ?_
  exact hnext _ _ hA (fun _ h => h) rfl
section
variable {P : Program} {T : Tab} (hT : TabOk P T) {N : Fm} {Q : Env → Sto → Prop}
include hT
theorem RunSem.ofAOp {all : Array Oper} {rest : List Oper} {d : Tmp} {op : Op} {ty : TypeId} {pos : String} {af : Array Edge} {k : List It} {env : Env} {sto : Sto} {z : AV} (hd : Nat.blt d N.n = true)
    (hop : AOp P N env sto { dst := some d, op, type := ty, pos, after := af, guard := none } [] z) (hk : Run P T N Q (.ops all rest :: k) ((d, [], z) :: env) sto) :
    RunSem P N Q (.ops all ({ dst := some d, op, type := ty, pos, after := af, guard := none } :: rest) :: k) env sto := by
  intro C a w hN hA
  refine wpListR_yes (by simp [Region.wanted]) ?_
  exact hop C a w _ _ hN hA trivial (fun v w' hA' _ hz => hk.sound hT C _ _ hN (hA'.put0 (by rw [hN.1]; exact Nat.le_of_ble_eq_true hd) hz))
theorem RunSem.eqAgg {all : Array Oper} {rest : List Oper} {d : Tmp} {op : BinOp} {t t' : TypeId} {x y : Operand} {ty : TypeId} {pos : String} {af : Array Edge} {k : List It} {env : Env} {sto : Sto} {za zb : List AV} {xs ys : List Value} {ks : List Nat}
    (he : eqStructB P t ks = true) (hop : isEqB op = true) (hd : Nat.blt d N.n = true) (hx : Get env [] x (.g za)) (hy : Get env [] y (.g zb)) (ha : AllVals za xs) (hb : AllVals zb ys) (hk : xs.map kV = ks) (hs : sameK xs ys = true)
    (hr : Run P T N Q (.ops all rest :: k) ((d, [], .v (.bool (eqR op (eqC xs ys)))) :: env) sto) :
    RunSem P N Q (.ops all ({ dst := some d, op := .binOp op t x y t', type := ty, pos, after := af, guard := none } :: rest) :: k) env sto :=
  RunSem.ofAOp hT hd (AOp.eqAgg hop he hx hy ha hb hk hs) hr
theorem RunSem.eqAggG {all : Array Oper} {rest : List Oper} {d gs : Tmp} {g : Nat} {b c : Bool} {q : Path} {op : BinOp} {t t' : TypeId} {x y : Operand} {ty : TypeId} {pos : String} {af : Array Edge} {k : List It} {env : Env} {sto : Sto} {za zb : List AV} {xs ys : List Value} {ks : List Nat}
    (he : eqStructB P t ks = true) (hop : isEqB op = true) (hd : Nat.blt d N.n = true) (hgs : gslot all g = some gs) (hl : lookup gs env = some (q, .v (.bool c))) (hx : Get env ((c, b) :: q) x (.g za)) (hy : Get env ((c, b) :: q) y (.g zb)) (ha : AllVals za xs) (hb : AllVals zb ys) (hk : xs.map kV = ks) (hs : sameK xs ys = true)
    (hr : Run P T N Q (.ops all rest :: k) ((d, (c, b) :: q, .v (.bool (eqR op (eqC xs ys)))) :: env) sto) :
    RunSem P N Q (.ops all ({ dst := some d, op := .binOp op t x y t', type := ty, pos, after := af, guard := some (g, b) } :: rest) :: k) env sto :=
  RunSem.ofAOpG hT hd hgs hl (AOp.eqAgg hop he hx hy ha hb hk hs) hr
/-- A literal row, as new data. -/
theorem RunSem.litD {α : Type} (enc : α → Nat → DV) (dv : α) (xs : List α) {all : Array Oper} {rest : List Oper} {d : Tmp} {len sz : Nat} {t e : TypeId} {ps : Array (Nat × Operand)} {ty : TypeId} {pos : String} {af : Array Edge} {k : List It} {env : Env} {sto : Sto} {yt ye : Ty}
    {zs : List (Nat × AV)} {cs : List AV} {n : Bool} {ds : List DV} (hd : Nat.blt d N.n = true) (ht : tget t T = some yt) (hte : yt.k = .slice e) (he : tget e T = some ye) (hsz : Nat.beq ye.size sz = true) (hsm : Nat.ble (len * sz) 16777216 = true) (hp : GetPs env [] ps.toList zs)
    (hf : Fills sz (zerosA ye.zero sz (len * sz)) zs cs) (hdn : DownL cs n ds) (hds : ds = litL sz enc xs) (hlen : xs.length = len)
    (hk : Run P T N Q (.ops all rest :: k) ((d, [], .d n sz enc dv xs) :: env) sto) :
    RunSem P N Q (.ops all ({ dst := some d, op := .buildSlice t len ps, type := ty, pos, after := af, guard := none } :: rest) :: k) env sto := by
  have hsz' := Nat.eq_of_beq_eq_true hsz
  subst hsz'
  refine RunSem.ofAOp hT hd ((AOp.lit hT (all := #[]) (N := N) enc dv xs ht hte he hsm hp hf hdn hds hlen).env (fun s q z hl => ?_)) hk
  rw [lookup_rs] at hl
  split at hl
  · exact hl
  · cases hl
theorem RunSem.litDI {all : Array Oper} {rest : List Oper} {d : Tmp} {len : Nat} {t e m b m' b' : Nat} {z z' : List Value} {ki : IntKind} {ps : Array (Nat × Operand)} {ty : TypeId} {pos : String} {af : Array Edge} {k : List It} {env : Env} {sto : Sto} {zs : List (Nat × AV)} {cs : List AV} {xs : List Int}
    (hd : Nat.blt d N.n = true) (ht : tget t T = some ⟨.slice e, m, b, z⟩) (he : tget e T = some ⟨.int ki, m', b', z'⟩) (hm : Nat.beq m' 1 = true) (hki : (ki == .u8) = false) (hsm : Nat.ble (len * 1) 16777216 = true) (hp : GetPs env [] ps.toList zs)
    (hf : Fills 1 (zerosA z' 1 (len * 1)) zs cs) (hx : IntsL ki cs xs) (hlen : Nat.beq xs.length len = true)
    (hk : Run P T N Q (.ops all rest :: k) ((d, [], .d true 1 (encI ki) 0 xs) :: env) sto) :
    RunSem P N Q (.ops all ({ dst := some d, op := .buildSlice t len ps, type := ty, pos, after := af, guard := none } :: rest) :: k) env sto :=
  RunSem.litD hT (encI ki) 0 xs hd ht rfl he hm hsm hp hf hx.down rfl (Nat.eq_of_beq_eq_true hlen) hk
end
end Go.Sx
end

section
/- A guarded operation that is not done. -/

set_option linter.unusedSectionVars false
namespace Go.Sx
section
variable {P : Program} {T : Tab} (hT : TabOk P T) {N : Fm} {Q : Env → Sto → Prop}
include hT
theorem RunSem.deadG (z : AV) {all : Array Oper} {rest : List Oper} {d gs : Tmp} {g : Nat} {b c : Bool} {q : Path} {op : Op} {ty : TypeId} {pos : String} {af : Array Edge} {k : List It} {env : Env} {sto : Sto}
    (hd : Nat.blt d N.n = true) (hgs : gslot all g = some gs) (hl : lookup gs env = some (q, .v (.bool c))) (hdead : PathHolds ((c, b) :: q) → False)
    (hk : Run P T N Q (.ops all rest :: k) ((d, (c, b) :: q, z) :: env) sto) :
    RunSem P N Q (.ops all ({ dst := some d, op, type := ty, pos, after := af, guard := some (g, b) } :: rest) :: k) env sto :=
  RunSem.ofAOpG hT hd hgs hl (fun _ _ _ _ _ _ _ hq _ => absurd hq hdead) hk
end
end Go.Sx
end

section
/- Scopes and labels; rows that grow by zeros, and rows that are cut. -/


set_option linter.unusedSectionVars false
namespace Go.Sx
section
variable {P : Program} {b : Frame} {a : Act} {k : List Item} {cs : List Frame} {w : World} {Q : Exit → Act → World → Prop} {F : Fence} {n : Nat}
theorem stepR_scope {c : Code} : step P (lone (b.atR a (.code (.scope c) :: k)) cs w) = .next (lone (b.atR a (.code c :: .inScope c :: k)) cs w) :=
  step_lone_go (by simp [stepG, stepG.exec, Frame.atR])
theorem stepR_inScope {c : Code} : step P (lone (b.atR a (.inScope c :: k)) cs w) = .next (lone (b.atR a k) cs w) :=
  step_lone_go (by simp [stepG, stepG.exec, Frame.atR])
theorem wpIn_scope {c : Code} (h : c.wpIn F n P (Exit.noGoto Q) a w) : (Code.scope c).wpIn F n P Q a w := by
  intro b k cs hro hb hr
  have h0 : (lone (b.atR a (.code (.scope c) :: k)) cs w).fenced P F := fenced_calm hb hr rfl
  obtain ⟨e, a₁, w₁, hq, harr⟩ := h b (.inScope c :: k) cs hro hb hr
  cases e with
  | normal => exact ⟨.normal, a₁, w₁, hq, .head h0 stepR_scope (StepsIn.trans harr (.one (fenced_calm hb hr rfl) stepR_inScope))⟩
  | exit id =>
    have hx : exitTo id (.inScope c :: k) = exitTo id k := by simp [exitTo]
    exact ⟨.exit id, a₁, w₁, hq, fun k' hk => .head h0 stepR_scope (harr.1 k' (by rw [hx]; exact hk)),
      fun hr' hk => let ⟨k₁, h1, h2⟩ := harr.2 hr' (by rw [hx]; exact hk); ⟨k₁, h1, .head h0 stepR_scope h2⟩⟩
  | goto l => exact hq.elim
  | ret => exact ⟨_, a₁, w₁, hq, .of_steps (.one h0 stepR_scope) harr⟩
  | panic ch => exact ⟨_, a₁, w₁, hq, .of_steps (.one h0 stepR_scope) harr⟩
  | outgrown => exact ⟨_, a₁, w₁, hq, .of_steps (.one h0 stepR_scope) harr⟩
end
theorem run_append_zeros {P : Program} (w : World) {t ti ty e : TypeId} {ki : IntKind} {ie : TypeInfo} {zv : Value} {sz by' j : Nat} (ht : P.underlying t = some (.slice e)) (hti : P.underlying ti = some (.int ki)) (hi2 : P.info? e = some ie) (hi4 : ie.size = sz) (hi5 : ie.bytes = by') (hzv : ie.zero = some zv)
    (hj0 : 1 ≤ j) (hj : j ≤ 140737488355328) (hb : j * by' ≤ 140737488355328) (hfit : Builtin.nextslicecap j 0 * by' ≤ 281474976710656) :
    (Builtin.append_ #[t, ti] ty #[.slice none 0 0, .int .i64 (j : Int)]).run P w =
        .ok (.slice (some ⟨w.heap.size, 0, none⟩) j (grownCap w j 0 e)) (w.drew.alloc (.cells ((if j * sz = 0 then #[] else Builtin.zeroCells zv.cells j) ++ Builtin.zeroCells zv.cells (grownCap w j 0 e - j)) e)) := by
  have e1 : IntKind.i64.wrap (j : Int) = j := wi64 (by omega)
  have hb' : (j : Int) * (by' : Int) ≤ 140737488355328 := by rw [← Int.natCast_mul]; omega
  have e2 : ¬ ((j : Int) < 0) := by omega
  have e3 : ¬ (281474976710656 < (j : Int) * (by' : Int)) := by omega
  have e5 : ¬ (9223372036854775807 < (j : Int)) := by omega
  have e6 : ¬ (281474976710656 < Builtin.nextslicecap j 0 * by') := by omega
  have e7 : j ≠ 0 := by omega
  by_cases h00 : sz = 0
  · simp [Builtin.append_, run_underlying ht, run_underlying hti, sizeOf, typeInfo, zeroValue, hi2, hi4, hi5, hzv, asInt, asIntOf, e1, e2, e3, e5, e6, e7, h00, Question.forced, Builtin.firstCells, newRow, grownCap]
  · have e8 : j * sz ≠ 0 := Nat.mul_ne_zero e7 h00
    simp [Builtin.append_, run_underlying ht, run_underlying hti, sizeOf, typeInfo, zeroValue, hi2, hi4, hi5, hzv, asInt, asIntOf, e1, e2, e3, e5, e6, e7, e8, h00, Question.forced, Builtin.firstCells, newRow, grownCap]
theorem postK_goto {P : Program} {C : Ctx} {Q : Env → Sto → Prop} {l : Nat} {a : Act} {w : World} : ∀ {k : List It}, postK P C Q k (.goto l) a w → False
  | [], h => h
  | .c _ :: k, h => by simp only [postK] at h; exact postK_goto h
  | .ops _ _ :: k, h => by simp only [postK] at h; exact postK_goto h
  | .blk _ :: k, h => by simp only [postK] at h; exact postK_goto h
  | .goal _ :: k, h => by simp only [postK] at h; exact postK_goto h
  | .beg _ :: k, h => by simp only [postK] at h; exact postK_goto h
section
variable {P : Program} {T : Tab} (hT : TabOk P T) {N : Fm} {Q : Env → Sto → Prop}
include hT
theorem RunSem.scope {c : Code} {k : List It} {env : Env} {sto : Sto} (h : Run P T N Q (.c c :: k) env sto) : RunSem P N Q (.c (.scope c) :: k) env sto := by
  intro C a w hN hA
  show wpR C.rnd P (Code.scope c) (postK P C Q k) a w
  refine wpIn_scope (wpIn_mono (h.sound hT C a w hN hA) (fun e a' w' hq => ?_))
  cases e with
  | goto l => exact (postK_goto hq).elim
  | normal => exact hq
  | exit id => exact hq
  | ret => exact hq
  | panic ch => exact hq
  | outgrown => exact hq
theorem RunSem.label {l : Nat} {k : List It} {env : Env} {sto : Sto} (h : Run P T N Q k env sto) : RunSem P N Q (.c (.label l) :: k) env sto := by
  intro C a w hN hA
  show wpR C.rnd P (Code.label l) (postK P C Q k) a w
  exact wpIn_label (h.sound hT C a w hN hA)
/-- The room of the nil slice. -/
theorem RunSem.capN {all : Array Oper} {rest : List Oper} {d : Tmp} {x : Operand} {t e m b : Nat} {z : List Value} {A : Option Addr} {n c : Nat} {ty : TypeId} {pos : String} {af : Array Edge} {k : List It} {env : Env} {sto : Sto}
    (hd : Nat.blt d N.n = true) (hx : Get env [] x (.v (.slice A n c))) (ht : tget t T = some ⟨.slice e, m, b, z⟩) (hk : Run P T N Q (.ops all rest :: k) ((d, [], iv c) :: env) sto) :
    RunSem P N Q (.ops all ({ dst := some d, op := .call { callee := .builtin .cap, args := #[x], argTypes := #[t] }, type := ty, pos, after := af, guard := none } :: rest) :: k) env sto := by
  intro C a w hN hA
  have hex : a.eval x = .slice A n c := hx.v hA (q := []) trivial
  obtain ⟨dt, it, ht1, _, ht3, _⟩ := hT _ _ ht
  have ht1' : P.underlying t = some (.slice e) := by
    cases dt <;> simp only [TK.fits] at ht3
    subst ht3
    exact ht1
  refine wpList_quiet hT rfl rfl (v := .int .i64 c) (w' := w) ?_ (hk.sound hT C _ _ hN (hA.put0 (by rw [hN.1]; exact Nat.le_of_ble_eq_true hd) rfl))
  simp [execOp, resolve, invoke, builtin, hex, Builtin.cap_, run_underlying ht1', goInt]
/-- A part of the nil slice. -/
theorem RunSem.cutN {all : Array Oper} {rest : List Oper} {d : Tmp} {t e m b b' : Nat} {z z' : List Value} {ke : TK} {sz : Nat} {x : Operand} {hi : Option Operand} {vh : Option Value} {ty : TypeId} {pos : String} {af : Array Edge} {k : List It} {env : Env} {sto : Sto}
    (hd : Nat.blt d N.n = true) (hx : Get env [] x (.v (.slice none 0 0))) (hh : GetO env [] hi vh) (ht : tget t T = some ⟨.slice e, m, b, z⟩) (he : tget e T = some ⟨ke, sz, b', z'⟩) (hu : boundI vh 0 = some 0)
    (hk : Run P T N Q (.ops all rest :: k) ((d, [], .v (.slice none 0 0)) :: env) sto) :
    RunSem P N Q (.ops all ({ dst := some d, op := .slice t x none hi none, type := ty, pos, after := af, guard := none } :: rest) :: k) env sto := by
  intro C a w hN hA
  have hex : a.eval x = .slice none 0 0 := hx.v hA (q := []) trivial
  have hhi := hh.sound hA (q := []) trivial
  have hrun := run_sliceAt_slice (w := w) (lo := none) (hi := vh) (mx := none) (hT _ _ ht) (hT _ _ he) (A := none) (len := 0) (cap := 0) (l := 0) rfl hu rfl (by simp) (by omega) (by omega) (by omega) (by omega)
  refine wpList_quiet hT rfl rfl (v := .slice none 0 0) (w' := w) ?_ (hk.sound hT C _ _ hN (hA.put0 (by rw [hN.1]; exact Nat.le_of_ble_eq_true hd) rfl))
  simp only [execOp, hex, Option.map_none]
  rw [hhi]
  simp only [Sem.run_bind, hrun]
  rfl
/-- A row is cut: it is another slice then. -/
theorem RunSem.cutO {α : Type} {enc : α → Nat → DV} {dv : α} {xs : List α} {new : Bool} {sz : Nat} {all : Array Oper} {rest : List Oper} {d : Tmp} {t e e' m b b' : Nat} {z z' : List Value} {ke : TK} {x : Operand} {hi : Option Operand} {vh : Option Value} {u : Int} {ty : TypeId} {pos : String} {af : Array Edge} {k : List It} {env : Env} {sto sto' : Sto} {v : Value}
    (hd : Nat.blt d N.n = true) (hx : Get env [] x (.o v)) (hhi : GetO env [] hi vh) (ho : Out1 sto (.row v new e' sz enc dv xs) sto') (ht : tget t T = some ⟨.slice e, m, b, z⟩) (he : tget e T = some ⟨ke, sz, b', z'⟩) (hu : boundI vh xs.length = some u) (hs : Side [] (0 ≤ u ∧ u ≤ xs.length))
    (hk : ∀ v', Run P T N Q (.ops all rest :: k) ((d, [], .o v') :: env) (.row v' new e' sz enc dv (xs.take u.toNat) :: sto')) :
    RunSem P N Q (.ops all ({ dst := some d, op := .slice t x none hi none, type := ty, pos, after := af, guard := none } :: rest) :: k) env sto := by
  intro C a w hN hA
  have hux := hx.sound hA (q := []) trivial
  obtain ⟨h0, h1⟩ := hs trivial
  simp only [AAt] at hux
  obtain ⟨hev, _⟩ := hux
  have hA1 := hA.perm ho.perm
  obtain ⟨vals, hr1, hr2, hr3, hr4⟩ := hA1.res _ (List.mem_cons_self ..)
  have hhi' := hhi.sound hA (q := []) trivial
  have hex : ∃ A n c, v = .slice A n c ∧ n ≤ c := by
    rcases hr1 with ⟨rfl, rfl⟩ | ⟨g, o, n', cap, cur, rfl, hg, hn, _⟩
    · exact ⟨_, _, _, rfl, Nat.le_refl _⟩
    · exact ⟨_, _, _, rfl, hn⟩
  obtain ⟨A, n, c, rfl, hnc⟩ := hex
  have hn := hr3 _ _ _ rfl
  subst hn
  have hrun := run_sliceAt_slice (w := w) (lo := none) (hi := vh) (mx := none) (hT _ _ ht) (hT _ _ he) (A := A) (len := xs.length) (cap := c) (l := 0) rfl hu rfl (by simp) (by omega) h0 (by omega) (Int.le_refl _)
  simp only [Int.toNat_natCast, Int.toNat_zero, Nat.zero_mul, Nat.sub_zero] at hrun
  have hadd : (if c = 0 then A else A.map (·.add 0)) = A := by
    split
    · rfl
    · cases A with
      | none => rfl
      | some a => simp [Addr.add]
  rw [hadd] at hrun
  have hle : u.toNat ≤ xs.length := by omega
  have hmul : u.toNat * sz ≤ xs.length * sz := Nat.mul_le_mul_right _ hle
  generalize hv' : Value.slice A u.toNat c = v' at hrun
  have hkey : v'.ownBlock = (Value.slice A xs.length c).ownBlock ∧ RowAt w e' sz v' (vals.take (u.toNat * sz)) := by
    subst hv'
    rcases hr1 with ⟨h, hv⟩ | ⟨g, o, n', cap, cur, h, hg, hn', hcap, hsz, hlen, hvals⟩
    · simp only [Value.slice.injEq] at h
      obtain ⟨rfl, h2, rfl⟩ := h
      refine ⟨by simp [Value.ownBlock], .inl ⟨by simp only [Value.slice.injEq, true_and, and_true]; omega, by rw [hv]; simp⟩⟩
    · simp only [Value.slice.injEq] at h
      obtain ⟨rfl, rfl, rfl⟩ := h
      refine ⟨by simp [Value.ownBlock], .inr ⟨g, o, _, _, cur, rfl, hg, by omega, hcap, hsz, ?_, ?_⟩⟩
      · rw [List.length_take, hlen]; omega
      · rw [hvals, List.take_take, Nat.min_eq_left hmul]
  have hA2 : Abs C env (.row v' new e' sz enc dv (xs.take u.toNat) :: sto') a w := by
    have hb : blocksOf (.row v' new e' sz enc dv (xs.take u.toNat) :: sto') = blocksOf (.row (.slice A xs.length c) new e' sz enc dv xs :: sto') := by
      simp [blocksOf, Res.blocks, hkey.1]
    have hF : ∀ n b, b < w.heap.size → (C.cx (.row (.slice A xs.length c) new e' sz enc dv xs :: sto')).ok n b → (C.cx (.row v' new e' sz enc dv (xs.take u.toNat) :: sto')).ok n b ∧ w.heap[b]? = w.heap[b]? := fun n b _ hok => ⟨⟨fun h => hok.1 (show b ∈ blocksOf _ from hb ▸ (show b ∈ blocksOf _ from h)), hok.2⟩, rfl⟩
    refine hA1.step (Kept.refl _ _) (by rw [hb]; exact hA1.nodup) (fun b hm => .inl (by rw [← hb]; exact hm)) (fun r hr => ?_) (fun b _ hm => by rw [← hb]; exact hm)
    rcases List.mem_cons.1 hr with rfl | hr
    · refine ⟨vals.take (u.toNat * sz), hkey.2, by rw [List.length_take, hr2, List.length_take, Nat.min_eq_left hmul, Nat.min_eq_left hle], ?_, fun i j hi hj => ?_⟩
      · intro A' n' c' h
        rw [← hv'] at h
        simp only [Value.slice.injEq] at h
        rw [← h.2.1, List.length_take]
        omega
      · rw [List.length_take] at hi
        obtain ⟨y, h1, h2⟩ := hr4 i j (by omega) hj
        refine ⟨y, ?_, ?_⟩
        · rw [List.getElem?_take, ← h1]
          have : (i + 1) * sz ≤ u.toNat * sz := Nat.mul_le_mul_right _ (by omega)
          rw [Nat.add_mul, Nat.one_mul] at this
          rw [if_pos (by omega)]
        · have : (xs.take u.toNat).getD i dv = xs.getD i dv := by simp only [List.getD]; rw [List.getElem?_take, if_pos (by omega)]
          rw [this]
          exact h2.mono (fun b hlt hok => hF _ b hlt hok) (Nat.le_refl _)
    · exact RAt.mono hF (Nat.le_refl _) (fun _ _ => rfl) (hA1.res r (by simp [hr]))
  refine wpList_quiet hT rfl rfl (v := v') (w' := w) ?_ ((hk _).sound hT C _ _ hN (hA2.put0 (by rw [hN.1]; exact Nat.le_of_ble_eq_true hd) ?_))
  · simp only [execOp, hev, Option.map_none]
    rw [hhi']
    simp only [Sem.run_bind, hrun]
    rfl
  · rw [← hv']
    exact ⟨rfl, _, _, _, rfl⟩
/-- The nil slice grows by zeros. -/
theorem RunSem.growZ {α : Type} (enc : α → Nat → DV) (dv : α) {all : Array Oper} {rest : List Oper} {d : Tmp} {x y : Operand} {n : Int} {t ti e m b m' b' : Nat} {z z' : List Value} {ki : IntKind} {ye : Ty} {ty : TypeId} {pos : String} {af : Array Edge} {k : List It} {env : Env} {sto : Sto}
    (hd : Nat.blt d N.n = true) (hx : Get env [] x (.v (.slice none 0 0))) (hy : Get env [] y (iv n)) (ht : tget t T = some ⟨.slice e, m, b, z⟩) (hti : tget ti T = some ⟨.int ki, m', b', z'⟩) (he : tget e T = some ye) (hz : ZeroL (enc dv) 0 ye.zero) (hzo : ye.zero.all oneV = true)
    (hb1 : Nat.ble 1 ye.bytes = true) (hs : Side [] (1 ≤ n ∧ n * (ye.bytes : Int) ≤ 140737488355328))
    (hk : ∀ v, Run P T N Q (.ops all rest :: k) ((d, [], .o v) :: env) (.row v true e ye.size enc dv (List.replicate n.toNat dv) :: sto)) :
    RunSem P N Q (.ops all ({ dst := some d, op := .call { callee := .builtin .append, args := #[x, y], argTypes := #[t, ti] }, type := ty, pos, after := af, guard := none } :: rest) :: k) env sto := by
  intro C a w hN hA
  have hex : a.eval x = .slice none 0 0 := hx.v hA (q := []) trivial
  have hey : a.eval y = .int .i64 n := hy.v hA (q := []) trivial
  obtain ⟨h0, h1⟩ := hs trivial
  obtain ⟨j, rfl⟩ := Int.eq_ofNat_of_zero_le (show 0 ≤ n by omega)
  obtain ⟨de, ie, hi1, hi2, hi3, hi4, hi5, hi6, hi7, _⟩ := hT _ _ he
  obtain ⟨dt, it, ht1, _, ht3, _⟩ := hT _ _ ht
  obtain ⟨dti, iti, hti1, _, hti3, _⟩ := hT _ _ hti
  have ht1' : P.underlying t = some (.slice e) := by
    cases dt <;> simp only [TK.fits] at ht3
    subst ht3
    exact ht1
  have hti1' : P.underlying ti = some (.int ki) := by
    cases dti <;> simp only [TK.fits] at hti3
    subst hti3
    exact hti1
  have hb1' := Nat.le_of_ble_eq_true hb1
  have hj1 : j * 1 ≤ j * ye.bytes := Nat.mul_le_mul_left _ hb1'
  have hjb : j * ye.bytes ≤ 140737488355328 := by rw [← Int.natCast_mul] at h1; omega
  have hj0 : 1 ≤ j := by omega
  cases hzv : ie.zero with
  | none => simp [hzv] at hi6
  | some zv =>
    simp only [hzv, Option.map_some, Option.some.injEq] at hi6
    have hzsz : zv.cells.size = ye.size := by rw [← Array.length_toList, hi6, hi7]
    have hfit := growsrc_fits (need := j) (old := 0) (bytes := ye.bytes) (by omega) hjb
    have hrun : (Builtin.append_ #[t, ti] ty #[.slice none 0 0, .int .i64 (j : Int)]).run P w =
        .ok (.slice (some ⟨w.heap.size, 0, none⟩) j (grownCap w j 0 e)) (w.drew.alloc (.cells ((if j * ye.size = 0 then #[] else Builtin.zeroCells zv.cells j) ++ Builtin.zeroCells zv.cells (grownCap w j 0 e - j)) e)) := by
      exact run_append_zeros w ht1' hti1' hi2 hi4 hi5 hzv hj0 (by omega) (by omega) hfit
    have hge := grownCap_ge w j 0 e
    have hcm := grownCap_le_maxLen w j 0 e (by simp only [maxLen]; omega)
    have hA0 := hA.drew
    have hcells : ((if j * ye.size = 0 then #[] else Builtin.zeroCells zv.cells j) ++ Builtin.zeroCells zv.cells (grownCap w j 0 e - j)).size = grownCap w j 0 e * ye.size := by
      split
      · rename_i h
        have hs0 : ye.size = 0 := by
          rcases Nat.mul_eq_zero.1 h with h | h
          · omega
          · exact h
        simp [size_zeroCells, hzsz, hs0]
      · rw [Array.size_append, size_zeroCells, size_zeroCells, hzsz, ← Nat.add_mul]
        congr 1
        omega
    have hA' := hA0.newRow (n := true) (e := e) (sz := ye.size) (len := j) (cap := grownCap w j 0 e) (enc := enc) (dv := dv) (xs := List.replicate j dv) (cells := (if j * ye.size = 0 then #[] else Builtin.zeroCells zv.cells j) ++ Builtin.zeroCells zv.cells (grownCap w j 0 e - j)) (by simp) hge hcm (by rw [hcells]; exact Nat.le_refl _) (fun i l hi hl => by
      simp only [List.length_replicate] at hi
      have hlt : i * ye.size + l < j * ye.size := by
        have : (i + 1) * ye.size ≤ j * ye.size := Nat.mul_le_mul_right _ hi
        rw [Nat.add_mul, Nat.one_mul] at this
        omega
      have hmod : (i * ye.size + l) % zv.cells.size = l := by rw [hzsz, Nat.add_comm, Nat.add_mul_mod_self_right, Nat.mod_eq_of_lt hl]
      have hl' : l < zv.cells.size := by omega
      refine ⟨zv.cells[l]'hl', ?_, ?_⟩
      · rw [if_neg (by omega), Array.getElem?_append_left (by rw [size_zeroCells, hzsz]; exact hlt)]
        simp only [Builtin.zeroCells, Array.getElem?_map, Array.getElem?_range, hzsz, hlt, if_true, Option.map_some]
        rw [← hzsz] at hmod ⊢
        rw [hmod, getElem!_pos zv.cells l hl']
      · have : (List.replicate j dv).getD i dv = dv := by simp [List.getD, hi]
        rw [this]
        refine hz.at hzo ?_
        rw [← hi6]
        simp [hl'])
    refine wpList_quiet hT rfl rfl (v := .slice (some ⟨w.heap.size, 0, none⟩) j (grownCap w j 0 e)) (w' := w.drew.alloc (.cells ((if j * ye.size = 0 then #[] else Builtin.zeroCells zv.cells j) ++ Builtin.zeroCells zv.cells (grownCap w j 0 e - j)) e)) ?_ ((hk _).sound hT C _ _ hN (hA'.put0 (by rw [hN.1]; exact Nat.le_of_ble_eq_true hd) ⟨rfl, _, _, _, rfl⟩))
    simp [execOp, resolve, invoke, builtin, hex, hey, hrun]
end
end Go.Sx
end

section
/- Arrays of numbers in boxes, told by a function. -/

namespace Go.Sx
def tabA (n : Nat) (k : IntKind) (f : Nat → Int) : List AV := (List.range n).map fun i => .v (.int k (f i))
theorem tab_len (n : Nat) (k : IntKind) (f : Nat → Int) : (tabA n k f).length = n := by simp [tabA]
theorem tab_get {n : Nat} {k : IntKind} {f : Nat → Int} {i : Nat} (h : i < n) : (tabA n k f)[i]? = some (.v (.int k (f i))) := by
  simp [tabA, h]
theorem tab_read {n : Nat} {k : IntKind} {f : Nat → Int} {i : Nat} (h : i < n) : readB false 1 (tabA n k f) (0 + i * 1) = some (.v (.int k (f i))) := by
  rw [Nat.mul_one, Nat.zero_add]
  exact tab_get h
theorem tab_all {n : Nat} {k : IntKind} {f : Nat → Int} : readB true n (tabA n k f) 0 = some (.g (tabA n k f)) := by
  have h : Nat.ble (0 + n) (tabA n k f).length = true := by rw [tab_len, Nat.zero_add, Nat.ble_eq]; exact Nat.le_refl _
  have e : ((tabA n k f).drop 0).take n = tabA n k f := by rw [List.drop_zero, List.take_of_length_le (by rw [tab_len]; exact Nat.le_refl _)]
  unfold readB
  simp only [h, e]
theorem tab_cells {n : Nat} {k : IntKind} {f : Nat → Int} : cellsA (.g (tabA n k f)) = some (tabA n k f) := by
  have h : (tabA n k f).all oneA = true := by
    rw [List.all_eq_true]
    intro z hz
    obtain ⟨i, _, rfl⟩ := List.mem_map.1 hz
    rfl
  simp only [cellsA, h]
theorem Upd.set : ∀ {cs : List AV} {j : Nat} {z : AV}, j < cs.length → Upd cs j [z] (cs.set j z)
  | [], j, z, h => by simp at h
  | c :: cs, 0, z, _ => .put (.done cs)
  | c :: cs, j + 1, z, h => .skip (Upd.set (by simpa using h))
theorem tab_upd {n : Nat} {k : IntKind} {f : Nat → Int} {i : Nat} {x : Int} (h : i < n) : Upd (tabA n k f) (0 + i * 1) [.v (.int k x)] (tabA n k (fun j => if j = i then x else f j)) := by
  have : tabA n k (fun j => if j = i then x else f j) = (tabA n k f).set i (.v (.int k x)) := by
    apply List.ext_getElem?
    intro j
    rw [List.getElem?_set, tab_len]
    by_cases hj : j < n
    · rw [tab_get hj]
      by_cases e : i = j
      · subst e; simp [h]
      · rw [if_neg e, tab_get hj, if_neg (fun h => e h.symm)]
    · have e : i ≠ j := by omega
      rw [if_neg e, List.getElem?_eq_none (by rw [tab_len]; omega), List.getElem?_eq_none (by rw [tab_len]; omega)]
  rw [this, Nat.mul_one, Nat.zero_add]
  exact Upd.set (by rw [tab_len]; exact h)
theorem tab_zero (n : Nat) (k : IntKind) : (List.replicate n (Value.int k 0)).map AV.v = tabA n k (fun _ => 0) := by
  apply List.ext_getElem?
  intro j
  by_cases hj : j < n
  · rw [tab_get hj]; simp [hj]
  · rw [List.getElem?_eq_none (by simp; omega), List.getElem?_eq_none (by rw [tab_len]; omega)]
/-- All of an array is put. -/
theorem Upd.all : ∀ {cs zs : List AV}, zs.length = cs.length → Upd cs 0 zs zs
  | [], [], _ => .done []
  | [], _ :: _, h => by simp at h
  | _ :: _, [], h => by simp at h
  | c :: cs, z :: zs, h => .put (Upd.all (by simpa using h))
end Go.Sx
namespace Go.Sx
theorem tab_beq (n : Nat) (k : IntKind) (f : Nat → Int) : Nat.beq (tabA n k f).length n = true := by rw [tab_len]; exact Nat.beq_refl n
theorem tab_put (n : Nat) (k : IntKind) (f g : Nat → Int) : Upd (tabA n k f) 0 (tabA n k g) (tabA n k g) := Upd.all (by rw [tab_len, tab_len])
end Go.Sx
namespace Go.Sx
theorem ages_vals : ∀ l : List Value, AgeL (l.map AV.v) (l.map AV.v)
  | [] => .nil
  | _ :: l => .cons (.v rfl) (ages_vals l)
theorem fresh_vals : ∀ l : List Value, freshL (l.map AV.v) = true
  | [] => by simp [freshL]
  | _ :: l => by simp [freshL, freshA, fresh_vals l]
theorem tab_map (n : Nat) (k : IntKind) (f : Nat → Int) : tabA n k f = ((List.range n).map fun i => Value.int k (f i)).map AV.v := by simp [tabA]
theorem tab_age (n : Nat) (k : IntKind) (f : Nat → Int) : AgeL (tabA n k f) (tabA n k f) := by rw [tab_map]; exact ages_vals _
theorem tab_fresh (n : Nat) (k : IntKind) (f : Nat → Int) : freshA (.g (tabA n k f)) = true := by rw [tab_map, freshA]; exact fresh_vals _
end Go.Sx
namespace Go.Sx
theorem tab_put0 (n : Nat) (k : IntKind) (x : Value) (f : Nat → Int) : Upd ((List.replicate n x).map AV.v) 0 (tabA n k f) (tabA n k f) := Upd.all (by rw [tab_len]; simp)
end Go.Sx
namespace Go.Sx
theorem tab_read8 (k : IntKind) (f : Nat → Int) (x : Int) : readB false 1 (tabA 256 k f) (0 + (IntKind.u8.wrap x).toNat * 1) = some (.v (.int k (f (IntKind.u8.wrap x).toNat))) :=
  tab_read (by rw [IntKind.wrap_u8']; omega)
end Go.Sx
namespace Go.Sx
/-- A number turned to another kind, that stays what it is. -/
theorem Conv.to {T : Tab} {s d : TypeId} {k k' : IntKind} {n n' : Int} {m b : Nat} {z : List Value} {ys : Ty} (h1 : tget s T = some ys) (h2 : tget d T = some ⟨.int k, m, b, z⟩) (h : k.wrap n = n') : Conv T s d (.v (.int k' n)) (.v (.int k n')) := h ▸ .int h1 h2
end Go.Sx
namespace Go.Sx
/-- A fact that a walk's arithmetic does not look at. -/
structure Hid (p : Prop) : Prop where
  out : p
end Go.Sx
end

section
/- Constant texts as bytes. -/


set_option linter.unusedSectionVars false
namespace Go.Sx
theorem Abs.newBytes {C : Ctx} {env : Env} {sto : Sto} {a : Act} {w : World} (hA : Abs C env sto a w) {e : TypeId} {n : Bool} {len : Nat} {xs : List UInt8} {cells : Array Value} {f : Nat × Nat} (hl : xs.length = len)
    (hc : ∀ i j, i < xs.length → j < 1 → ∃ y, cells[i * 1 + j]? = some y ∧ DAt ((C.cx sto).ok n) w (encB (xs.getD i 0) j) y) :
    AAt (C.cx sto) (w.alloc (.cells cells e f)) (.d n 1 encB 0 xs) (.slice (some ⟨w.heap.size, 0, none⟩) len len) := by
  subst hl
  simp only [AAt]
  refine DAt.of_cells ⟨fun hm => ?_, fun hx => ?_, fun _ => Nat.le_trans hA.base hA.kept.size⟩ (by simp) (Nat.le_refl _) (fun i j hi hj => ?_)
  · have := hA.lt _ hm
    simp at this
  · have h1 := hA.xlt _ hx
    have h2 := hA.kept.size
    simp at h1
    omega
  · obtain ⟨y, h1, h2⟩ := hc i j hi hj
    refine ⟨y, ?_, h2.mono (fun b hb hok => ⟨hok, heapOld w _ b hb⟩) (by simp)⟩
    have : (w.alloc (.cells cells e f)).heap[w.heap.size]? = some (.cells cells e f) := by
      show (w.heap.push _)[w.heap.size]? = _
      simp
    rw [add_none, Nat.zero_add]
    unfold World.cell?
    simp only [this]
    exact h1
section
variable {P : Program} {T : Tab} (hT : TabOk P T) {N : Fm} {Q : Env → Sto → Prop}
include hT
theorem RunSem.litB (xs : List UInt8) {all : Array Oper} {rest : List Oper} {d1 d2 : Tmp} {len : Nat} {t e m b m' b' : Nat} {z z' : List Value} {ps : Array (Nat × Operand)} {ty ty' : TypeId} {pos pos' : String} {af af' : Array Edge} {k : List It} {env : Env} {sto : Sto}
    {zs : List (Nat × AV)} {cs : List AV} {n : Bool} {ds : List DV} (hd1 : Nat.blt d1 N.n = true) (hd2 : Nat.blt d2 N.n = true) (ht : tget t T = some ⟨.slice e, m, b, z⟩) (he : tget e T = some ⟨.int .u8, m', b', z'⟩) (hm : Nat.beq m' 1 = true) (hsm : Nat.ble (len * 1) 16777216 = true) (hp : GetPs env [] ps.toList zs)
    (hf : Fills 1 (zerosA z' 1 (len * 1)) zs cs) (hdn : DownL cs n ds) (hds : ds = litL 1 encB xs) (hlen : xs.length = len)
    (hk : Run P T N Q (.ops all rest :: k) ((d2, [], .d n 1 encB 0 xs) :: (d1, [], .d n 1 encB 0 xs) :: env) sto) :
    RunSem P N Q (.ops all ({ dst := some d1, op := .buildSlice t len ps, type := ty, pos, after := af, guard := none } :: { dst := some d2, op := .convert t t (.tmp d1), type := ty', pos := pos', after := af', guard := none } :: rest) :: k) env sto := by
  have hm' := Nat.eq_of_beq_eq_true hm
  subst hm'
  intro C a w hN hA
  obtain ⟨cells, hrun, hsize, hcells⟩ := lit_run hT encB 0 xs hA (q := []) trivial ht rfl he hsm hp hf hdn hds
  obtain ⟨dt, it, ht1, _, ht3, _⟩ := hT _ _ ht
  obtain ⟨de, ie, he1, _, he3, _⟩ := hT _ _ he
  have ht1' : P.underlying t = some (.slice e) := by
    cases dt <;> simp only [TK.fits] at ht3
    subst ht3
    exact ht1
  have he1' : P.underlying e = some (.int .u8) := by
    cases de <;> simp only [TK.fits] at he3
    subst he3
    exact he1
  have hconv := Lib.run_convert_bytes_const w t e cells len len ht1' he1'
  have hlt1 : d1 < a.tmps.size := by rw [hA.tsize, hN.1]; exact Nat.le_of_ble_eq_true hd1
  have hA' : Abs C env sto a (w.alloc (.cells cells e (cells.size, cells.size + 1))) := hA.grow (kept_alloc w _)
  have hz := hA.newBytes (e := e) (n := n) (len := len) (f := (cells.size, cells.size + 1)) hlen hcells
  have hA1 := hA'.put0 (d := d1) (by rw [hN.1]; exact Nat.le_of_ble_eq_true hd1) hz
  have hA2 := hA1.put0 (d := d2) (by rw [hN.1]; exact Nat.le_of_ble_eq_true hd2) hz
  refine wpListR_yes (by simp [Region.wanted]) ?_
  refine opR_of (res := .ok (.value (.slice (some ⟨w.heap.size, 0, none⟩) len len)) (w.alloc (.cells cells e))) rfl (by simp only [execOp, Sem.run_bind]; rw [hrun]; rfl) ?_
  refine wpListR_yes (by simp [Region.wanted]) ?_
  refine opR_of (res := .ok (.value (.slice (some ⟨w.heap.size, 0, none⟩) len len)) (w.alloc (.cells cells e (cells.size, cells.size + 1)))) rfl ?_ (hk.sound hT C _ _ hN hA2)
  have hev : (a.put (some d1) (.slice (some ⟨w.heap.size, 0, none⟩) len len)).eval (.tmp d1) = .slice (some ⟨w.heap.size, 0, none⟩) len len := by
    show (a.tmps.setIfInBounds d1 _).getD d1 undef = _
    exact getD_set_same hlt1
  simp only [execOp, hev, Sem.run_bind, hconv]
  rfl
theorem RunSem.litBG (xs : List UInt8) {all : Array Oper} {rest : List Oper} {d1 d2 gs : Tmp} {g : Nat} {bb c : Bool} {q : Path} {len : Nat} {t e m b m' b' : Nat} {z z' : List Value} {ps : Array (Nat × Operand)} {ty ty' : TypeId} {pos pos' : String} {af af' : Array Edge} {k : List It} {env : Env} {sto : Sto}
    {zs : List (Nat × AV)} {cs : List AV} {n : Bool} {ds : List DV} (hd1 : Nat.blt d1 N.n = true) (hd2 : Nat.blt d2 N.n = true) (hgs : gslot all g = some gs) (hl : lookup gs env = some (q, .v (.bool c))) (hne : Nat.beq gs d1 = false) (ht : tget t T = some ⟨.slice e, m, b, z⟩) (he : tget e T = some ⟨.int .u8, m', b', z'⟩) (hm : Nat.beq m' 1 = true) (hsm : Nat.ble (len * 1) 16777216 = true) (hp : GetPs env ((c, bb) :: q) ps.toList zs)
    (hf : Fills 1 (zerosA z' 1 (len * 1)) zs cs) (hdn : DownL cs n ds) (hds : ds = litL 1 encB xs) (hlen : xs.length = len)
    (hk : Run P T N Q (.ops all rest :: k) ((d2, (c, bb) :: q, .d n 1 encB 0 xs) :: (d1, (c, bb) :: q, .d n 1 encB 0 xs) :: env) sto) :
    RunSem P N Q (.ops all ({ dst := some d1, op := .buildSlice t len ps, type := ty, pos, after := af, guard := some (g, bb) } :: { dst := some d2, op := .convert t t (.tmp d1), type := ty', pos := pos', after := af', guard := some (g, bb) } :: rest) :: k) env sto := by
  have hm' := Nat.eq_of_beq_eq_true hm
  subst hm'
  intro C a w hN hA
  have hlt1 : d1 < C.N := by rw [hN.1]; exact Nat.le_of_ble_eq_true hd1
  have hlt2 : d2 < C.N := by rw [hN.1]; exact Nat.le_of_ble_eq_true hd2
  have hl1 : ∀ z, lookup gs ((d1, (c, bb) :: q, z) :: env) = some (q, .v (.bool c)) := fun z => by
    rw [lookup_cons, if_neg (Nat.ne_of_beq_eq_false hne)]
    exact hl
  have hiff := wanted_iff (o := { dst := some d1, op := .buildSlice t len ps, type := ty, pos, after := af, guard := some (g, bb) }) hA rfl hgs hl
  by_cases hh : PathHolds ((c, bb) :: q)
  · obtain ⟨cells, hrun, hsize, hcells⟩ := lit_run hT encB 0 xs hA (q := (c, bb) :: q) hh ht rfl he hsm hp hf hdn hds
    obtain ⟨dt, it, ht1, _, ht3, _⟩ := hT _ _ ht
    obtain ⟨de, ie, he1, _, he3, _⟩ := hT _ _ he
    have ht1' : P.underlying t = some (.slice e) := by
      cases dt <;> simp only [TK.fits] at ht3
      subst ht3
      exact ht1
    have he1' : P.underlying e = some (.int .u8) := by
      cases de <;> simp only [TK.fits] at he3
      subst he3
      exact he1
    have hconv := Lib.run_convert_bytes_const w t e cells len len ht1' he1'
    have hA' : Abs C env sto a (w.alloc (.cells cells e (cells.size, cells.size + 1))) := hA.grow (kept_alloc w _)
    have hz := hA.newBytes (e := e) (n := n) (len := len) (f := (cells.size, cells.size + 1)) hlen hcells
    have hA1 := hA'.put hlt1 (q := (c, bb) :: q) (z := .d n 1 encB 0 xs) (fun _ => hz) (fun h => absurd hh h)
    have hA2 := hA1.put hlt2 (q := (c, bb) :: q) (z := .d n 1 encB 0 xs) (fun _ => hz) (fun h => absurd hh h)
    refine wpListR_yes (hiff.2 hh) ?_
    refine opR_of (res := .ok (.value (.slice (some ⟨w.heap.size, 0, none⟩) len len)) (w.alloc (.cells cells e))) rfl (by simp only [execOp, Sem.run_bind]; rw [hrun]; rfl) ?_
    have hiff2 := wanted_iff (o := { dst := some d2, op := .convert t t (.tmp d1), type := ty', pos := pos', after := af', guard := some (g, bb) }) hA1 rfl hgs (hl1 _)
    refine wpListR_yes (hiff2.2 hh) ?_
    refine opR_of (res := .ok (.value (.slice (some ⟨w.heap.size, 0, none⟩) len len)) (w.alloc (.cells cells e (cells.size, cells.size + 1)))) rfl ?_ (hk.sound hT C _ _ hN hA2)
    have hev : (a.put (some d1) (.slice (some ⟨w.heap.size, 0, none⟩) len len)).eval (.tmp d1) = .slice (some ⟨w.heap.size, 0, none⟩) len len := by
      show (a.tmps.setIfInBounds d1 _).getD d1 undef = _
      exact getD_set_same (by rw [hA.tsize]; exact hlt1)
    simp only [execOp, hev, Sem.run_bind, hconv]
    rfl
  · have hA1 := hA.put hlt1 (q := (c, bb) :: q) (z := .d n 1 encB 0 xs) (fun h => absurd h hh) (fun _ => rfl)
    have hiff2 := wanted_iff (o := { dst := some d2, op := .convert t t (.tmp d1), type := ty', pos := pos', after := af', guard := some (g, bb) }) hA1 rfl hgs (hl1 _)
    refine wpListR_no (fun h => hh (hiff.1 h)) ?_
    refine wpListR_no (fun h => hh (hiff2.1 h)) ?_
    exact hk.sound hT C _ _ hN (hA1.put hlt2 (fun h => absurd h hh) (fun _ => rfl))
end
end Go.Sx
end

section
/- A row grows, and the slice that it was is still read. -/

set_option linter.unusedSectionVars false
namespace Go.Sx
section
variable {P : Program} {T : Tab} (hT : TabOk P T) {N : Fm} {Q : Env → Sto → Prop}
include hT
theorem RunSem.appendK {s : Nat} {all : Array Oper} {rest : List Oper} {d : Tmp} {x y : Operand} {t tx e : TypeId} {ty : TypeId} {pos : String} {af : Array Edge} {k : List It} {env : Env} {sto sto' : Sto} {zy : AV} {yt yx ye : Ty} {α : Type} {v : Value} {n n' : Bool} {sz : Nat} {enc : α → Nat → DV} {dv : α} {xs ys : List α}
    (hd : Nat.blt d N.n = true) (hs : lookup s env = some ([], .o v)) (hx : Get env [] x (.o v)) (hy : Get env [] y zy) (ht : tget t T = some yt) (hte : yt.k = .slice e) (htx : tget tx T = some yx) (he : tget e T = some ye) (hdst : DstOf sto (.o v) v n e sz enc dv xs sto') (hsrc : SrcOf sto zy yx.k n' sz enc dv ys) (hsz : Nat.beq ye.size sz = true) (hb1 : Nat.ble 1 ye.bytes = true)
    (hb : Side [] ((xs.length + ys.length) * ye.bytes ≤ 140737488355328))
    (hk1 : ∀ v', Run P T N Q (.ops all rest :: k) ((d, [], .o v') :: (s, [], .s v' sz 0 xs.length) :: env) (.row v' (n && n') e sz enc dv (xs ++ ys) :: sto'))
    (hk2 : ∀ v', Run P T N Q (.ops all rest :: k) ((d, [], .o v') :: env) (.row v' (n && n') e sz enc dv (xs ++ ys) :: .row v n e sz enc dv xs :: sto')) :
    RunSem P N Q (.ops all ({ dst := some d, op := .call { callee := .builtin .append, args := #[x, y], argTypes := #[t, tx] }, type := ty, pos, after := af, guard := none } :: rest) :: k) env sto := by
  intro C a w hN hA
  obtain ⟨v', w', hrun, hA', ⟨A, m, c, hv'⟩, hcase⟩ := hA.append hT (ty := ty) (hx.sound hA (q := []) trivial) (hy.sound hA (q := []) trivial) ht hte htx he hdst hsrc (Nat.eq_of_beq_eq_true hsz) (Nat.le_of_ble_eq_true hb1) (hb trivial)
  have hdlt : d < C.N := by rw [hN.1]; exact Nat.le_of_ble_eq_true hd
  have hexec : (execOp a.eval { dst := some d, op := .call { callee := .builtin .append, args := #[x, y], argTypes := #[t, tx] }, type := ty, pos, after := af, guard := none }).run P w = .ok (.value v') w' := by
    simp [execOp, resolve, invoke, builtin, hrun]
  rcases hcase with ⟨A', c', e1, e2⟩ | hA2
  · refine wpList_quiet hT rfl rfl (v := v') (w' := w') hexec ((hk1 v').sound hT C _ _ hN ?_)
    have hsv : (a.tmps.getD s undef) = v := by
      have := hA.slots s [] (.o v) hs trivial
      simp only [AAt] at this
      exact this.1
    have hA3 : Abs C ((s, [], .s v' sz 0 xs.length) :: env) (.row v' (n && n') e sz enc dv (xs ++ ys) :: sto') a w' := by
      refine ⟨hA'.kept, hA'.nodup, hA'.src, hA'.res, fun s' q' z' hl hq => ?_, fun s' q' z' hl hq => ?_, hA'.tsize, hA'.defers, hA'.xlt, hA'.xown, hA'.base⟩
      · rw [lookup_cons] at hl
        split at hl
        · rename_i es
          simp only [Option.some.injEq, Prod.mk.injEq] at hl
          obtain ⟨rfl, rfl⟩ := hl
          subst es
          simp only [AAt]
          have hle : xs.length ≤ c' := by
            obtain ⟨vals, hr1, hr2, hr3, _⟩ := hA'.res _ (List.mem_cons_self ..)
            rcases hr1 with ⟨h, _⟩ | ⟨g, o, n2, cap, cur, h, hg, hn, _⟩
            · rw [e2] at h
              simp only [Value.slice.injEq] at h
              omega
            · rw [e2] at h
              simp only [Value.slice.injEq] at h
              omega
          have hle2 : xs.length + ys.length ≤ c' := by
            obtain ⟨vals, hr1, hr2, hr3, _⟩ := hA'.res _ (List.mem_cons_self ..)
            rcases hr1 with ⟨h, _⟩ | ⟨g, o, n2, cap, cur, h, hg, hn, _⟩
            · rw [e2] at h
              simp only [Value.slice.injEq] at h
              omega
            · rw [e2] at h
              simp only [Value.slice.injEq] at h
              omega
          refine ⟨A', xs.length + ys.length, c', e2, Nat.zero_le _, by omega, hle2, ?_⟩
          rw [hsv, e1, Nat.zero_mul, Nat.sub_zero, Nat.sub_zero]
          have hadd : (if c' = 0 then A' else A'.map (·.add 0)) = A' := by
            split
            · rfl
            · cases A' with
              | none => rfl
              | some a => simp [Addr.add]
          rw [hadd]
        · exact hA'.slots s' q' z' hl hq
      · rw [lookup_cons] at hl
        split at hl
        · simp only [Option.some.injEq, Prod.mk.injEq] at hl
          obtain ⟨rfl, rfl⟩ := hl
          exact absurd trivial hq
        · exact hA'.envU s' q' z' hl hq
    exact hA3.put0 hdlt ⟨rfl, A, m, c, hv'⟩
  · exact wpList_quiet hT rfl rfl (v := v') (w' := w') hexec ((hk2 v').sound hT C _ _ hN (hA2.put0 hdlt ⟨rfl, A, m, c, hv'⟩))
end
end Go.Sx
end

section
/- A guarded operation that is done for sure. -/

set_option linter.unusedSectionVars false
namespace Go.Sx
theorem wpListR_inv {r : Option Nat} {P : Program} {ops : Array Oper} {Q : Exit → Act → World → Prop} {o : Oper} {rest : List Oper} {a : Act} {w : World} (hw : Region.wanted o (yielded ops a.tmps) = true) (h : wpListR r P ops Q (o :: rest) a w) : opR r P o a w (wpListR r P ops Q rest) Q := by
  change wpListIn _ _ _ _ _ _ _ _ at h
  unfold wpListIn at h
  rw [if_pos hw] at h
  exact h
/-- The same environment, where what surely holds is dropped from paths. -/
inductive Live : Env → Env → Prop where
  | nil : Live [] []
  | cut {t : Nat} {q : Path} {z : AV} {e e' : Env} : PathHolds q → Live e e' → Live ((t, q, z) :: e) ((t, [], z) :: e')
  | keep {x : Nat × Path × AV} {e e' : Env} : Live e e' → Live (x :: e) (x :: e')
theorem Live.refl : ∀ e, Live e e
  | [] => .nil
  | _ :: e => .keep (Live.refl e)
theorem Live.look {e e' : Env} (h : Live e e') {s : Nat} {q' : Path} {z : AV} (hl : lookup s e' = some (q', z)) : ∃ q, lookup s e = some (q, z) ∧ (q = q' ∨ (q' = [] ∧ PathHolds q)) := by
  induction h with
  | nil => exact ⟨q', hl, .inl rfl⟩
  | cut hq _ ih =>
    rw [lookup_cons] at hl ⊢
    split at hl
    · rename_i he
      simp only [Option.some.injEq, Prod.mk.injEq] at hl
      obtain ⟨rfl, rfl⟩ := hl
      rw [if_pos he]
      exact ⟨_, rfl, .inr ⟨rfl, hq⟩⟩
    · rename_i he
      rw [if_neg he]
      exact ih hl
  | @keep x _ _ _ ih =>
    obtain ⟨t, q, z0⟩ := x
    rw [lookup_cons] at hl ⊢
    split at hl
    · rename_i he
      rw [if_pos he]
      simp only [Option.some.injEq, Prod.mk.injEq] at hl
      obtain ⟨rfl, rfl⟩ := hl
      exact ⟨_, rfl, .inl rfl⟩
    · rename_i he
      rw [if_neg he]
      exact ih hl
theorem Abs.live {C : Ctx} {env env' : Env} {sto : Sto} {a : Act} {w : World} (hA : Abs C env sto a w) (h : Live env env') : Abs C env' sto a w := by
  refine ⟨hA.kept, hA.nodup, hA.src, hA.res, fun s q z hl hq => ?_, fun s q z hl hq => ?_, hA.tsize, hA.defers, hA.xlt, hA.xown, hA.base⟩
  · obtain ⟨q0, h1, h2⟩ := h.look hl
    rcases h2 with rfl | ⟨_, h2⟩
    · exact hA.slots s _ z h1 hq
    · exact hA.slots s _ z h1 h2
  · obtain ⟨q0, h1, h2⟩ := h.look hl
    rcases h2 with rfl | ⟨h2, _⟩
    · exact hA.envU s _ z h1 hq
    · subst h2; exact absurd trivial hq
section
variable {P : Program} {T : Tab} (hT : TabOk P T) {N : Fm} {Q : Env → Sto → Prop}
include hT
theorem RunSem.liveG {all : Array Oper} {rest : List Oper} {d : Option Tmp} {gs : Tmp} {g : Nat} {b c : Bool} {q : Path} {op : Op} {ty : TypeId} {pos : String} {af : Array Edge} {k : List It} {env env' : Env} {sto : Sto}
    (hgs : gslot all g = some gs) (hl : lookup gs env = some (q, .v (.bool c))) (hlive : PathHolds ((c, b) :: q)) (he : Live env env')
    (hk : RunSem P N Q (.ops all ({ dst := d, op, type := ty, pos, after := af, guard := none } :: rest) :: k) env' sto) :
    RunSem P N Q (.ops all ({ dst := d, op, type := ty, pos, after := af, guard := some (g, b) } :: rest) :: k) env sto := by
  intro C a w hN hA
  have hiff := wanted_iff (o := { dst := d, op, type := ty, pos, after := af, guard := some (g, b) }) hA rfl hgs hl
  refine wpListR_yes (hiff.2 hlive) ?_
  have h := wpListR_inv (o := { dst := d, op, type := ty, pos, after := af, guard := none }) (by simp [Region.wanted]) (hk C a w hN (hA.live he))
  exact h
end
end Go.Sx
end

section
/- All of it. -/
end

section
/- From a contract to what a law's row asks. -/


set_option linter.unusedSectionVars false
namespace Go.Sx
open Go.RowKit

theorem Kept.below {w w' : World} (h : Kept [] w w') : Below w.heap.size w w' := ⟨h.os, h.tape, h.output, h.size, fun k hk => h.block k hk (by simp)⟩

theorem Sat.law {P : Program} {f : FuncId} {args : List AV} {v : Value} {vs : List Value} {w : World} (h : Sat P f args [] (Gives (ι := Unit) (fun _ => .v v) (fun _ => []) (fun _ => True)))
    (hargs : AAtL (cxOf w.heap.size (fun _ => False) []) w args vs) : Calls P f vs.toArray w fun e w' => e = .returned v ∧ Below w.heap.size w w' := by
  refine (h.2 (fun _ => False) w vs (fun b h => h.elim) (fun b h => by cases h) (by simp [blocksOf]) (fun r h => by cases h) hargs).mono ?_
  rintro e w' ⟨z, s, ⟨_, rfl, rfl, _⟩, hk, _, _, _, ho⟩
  obtain ⟨u, rfl, hu⟩ := ho.inv rfl
  simp only [AAt] at hu
  subst hu
  exact ⟨rfl, hk.below⟩

/-- A row of numbers that came in, as data. -/
theorem data_ints {w : World} {k : IntKind} {a : Option Addr} {len cap : Nat} {zs : List Int} {α : Type} (enc : α → Nat → DV) (dv : α) (f : Int → α) (hf : ∀ n, (Lit.int k n).wf = true → enc (f n) 0 = .v (.int k n))
    (h : (a = none ∧ len = 0 ∧ cap = 0 ∧ zs = []) ∨ ∃ x, a = some x ∧ len ≤ cap ∧ cap ≤ maxLen ∧ zs.length = cap ∧ (∀ i, i < zs.length → w.cell? (x.add i) = some (.int k (zs.getD i 0))) ∧ ∀ n ∈ zs, (Lit.int k n).wf = true) :
    AAt (cxOf w.heap.size (fun _ => False) []) w (.d false 1 enc dv ((zs.take len).map f)) (.slice a len cap) := by
  simp only [AAt]
  rcases h with ⟨rfl, rfl, rfl, rfl⟩ | ⟨x, rfl, hl, hm, hz, hcell, hwf⟩
  · exact .nil _ _ _ _ _
  · rcases Nat.eq_zero_or_pos len with h0 | h0
    · subst h0
      exact .nil _ _ _ _ _
    · have hlen : ((zs.take len).map f).length = len := by simp; omega
      have hb : x.block < w.heap.size := by
        have := World.block_lt_of_cell? w _ (hcell 0 (by omega))
        rwa [add_block] at this
      have := DAt.of_cells (F := (cxOf w.heap.size (fun _ => False) []).ok false) (w := w) (sz := 1) (enc := enc) (dv := dv) (xs := (zs.take len).map f) (a := x) (c := cap) ⟨by simp [cxOf, blocksOf], fun h => h, fun h => by cases h⟩ hb (by omega) (fun i j hi hj => by
        have hj0 : j = 0 := by omega
        subst hj0
        rw [hlen] at hi
        refine ⟨.int k (zs.getD i 0), by rw [Nat.mul_one, Nat.add_zero]; exact hcell i (by omega), ?_⟩
        have hg : ((zs.take len).map f).getD i dv = f (zs.getD i 0) := by
          simp [List.getD, List.getElem?_take, hi, show i < zs.length by omega]
        rw [hg, hf _ (hwf _ (by rw [List.getD, List.getElem?_eq_getElem (by omega)]; exact List.getElem_mem _))]
        exact .v _ rfl)
      rwa [hlen] at this

end Go.Sx
end

section
/- Arguments that came in, of whatever plain type, as data. -/






set_option linter.unusedSectionVars false
namespace Go.Sx
open Go.RowKit

/-- What a type is like. -/
inductive TC where
  | int (k : IntKind) | byte | bool | str | sl (c : TC) | nil | cons (c r : TC)
def TC.ty : TC → Type
  | .int _ => Int
  | .byte => UInt8
  | .bool => Bool
  | .str => ByteArray
  | .sl c => List c.ty
  | .nil => Unit
  | .cons c r => c.ty × r.ty
def TC.size : TC → Nat
  | .nil => 0
  | .cons c r => c.size + r.size
  | _ => 1
def TC.dflt : (c : TC) → c.ty
  | .int _ => (0 : Int)
  | .byte => (0 : UInt8)
  | .bool => false
  | .str => ByteArray.empty
  | .sl _ => []
  | .nil => ()
  | .cons c r => (c.dflt, r.dflt)
def TC.enc : (c : TC) → c.ty → Nat → DV
  | .int k => encI k
  | .byte => encB
  | .bool => encBo
  | .str => encS
  | .sl c => fun xs _ => .sl c.size c.enc c.dflt xs
  | .nil => fun _ _ => .v undef
  | .cons c r => fun x j => if j < c.size then c.enc x.1 j else r.enc x.2 (j - c.size)
def TC.wf : (c : TC) → c.ty → Prop
  | .int k, x => (Lit.int k x).wf = true
  | .byte, _ => True
  | .bool, _ => True
  | .str, s => s.size ≤ 140737488351232
  | .sl c, xs => List.length (α := c.ty) xs ≤ 140737488351232 ∧ ∀ x, List.Mem (α := c.ty) x xs → c.wf x
  | .nil, _ => True
  | .cons c r, x => c.wf x.1 ∧ r.wf x.2
def fieldsOf (T : Tab) (y : Ty) : List (TypeId × Nat) :=
  match y.k with
  | .struct fs => fs
  | .array n e => match tget e T with
    | some ye => (List.range n).map fun i => (e, i * ye.size)
    | none => []
  | _ => []
mutual
def TC.ok (T : Tab) : TC → TypeId → Bool
  | .int k, t => match tget t T with | some ⟨.int k', 1, _, _⟩ => k == k' | _ => false
  | .byte, t => match tget t T with | some ⟨.int .u8, 1, _, _⟩ => true | _ => false
  | .bool, t => match tget t T with | some ⟨.bool, 1, _, _⟩ => true | _ => false
  | .str, t => match tget t T with | some ⟨.str, 1, _, _⟩ => true | _ => false
  | .sl c, t => match tget t T with | some ⟨.slice e, 1, _, _⟩ => (match tget e T with | some y => Nat.ble 1 y.bytes | none => false) && c.ok T e | _ => false
  | .nil, _ => false
  | .cons c r, t => match tget t T with
    | some y => match fieldsOf T y with
      | (ft, o) :: fs => o == 0 && (c.ok T ft && (r.okF T fs c.size && (c.size + r.size == y.size)))
      | [] => false
    | none => false
def TC.okF (T : Tab) : TC → List (TypeId × Nat) → Nat → Bool
  | .nil, [], _ => true
  | .cons c r, (ft, o) :: fs, off => o == off && (c.ok T ft && r.okF T fs (off + c.size))
  | _, _, _ => false
end

theorem TC.pos {T : Tab} : ∀ {c : TC} {t : TypeId}, c.ok T t = true → c.size ≠ 0
  | .int _, _, _ => by simp [TC.size]
  | .byte, _, _ => by simp [TC.size]
  | .bool, _, _ => by simp [TC.size]
  | .str, _, _ => by simp [TC.size]
  | .sl _, _, _ => by simp [TC.size]
  | .nil, _, h => by simp [TC.ok] at h
  | .cons c r, t, h => by
    simp only [TC.ok] at h
    split at h
    · split at h
      · simp only [Bool.and_eq_true] at h
        have := TC.pos h.2.1
        simp only [TC.size]
        omega
      · cases h
    · cases h
theorem cells?_get {w : World} {a : Addr} {n : Nat} {row : List Value} (h : w.cells? 0 a n = some row) {j : Nat} (hj : j < n) {u : Value} (hu : row[j]? = some u) : w.cell? (a.add j) = some u := by
  unfold World.cells? at h
  rw [if_pos (Nat.zero_le _)] at h
  have key : ∀ (l : List Nat) (r : List Value), l.mapM (fun i => w.cell? (a.add i)) = some r → ∀ (i x : Nat) (u : Value), l[i]? = some x → r[i]? = some u → w.cell? (a.add x) = some u := by
    intro l
    induction l with
    | nil => intro r h i x u h1; simp at h1
    | cons y l ih =>
      intro r h i x u h1 h2
      rw [List.mapM_cons] at h
      cases hy : w.cell? (a.add y) with
      | none => simp [hy] at h
      | some v =>
        cases hl : l.mapM (fun i => w.cell? (a.add i)) with
        | none => simp [hy, hl] at h
        | some r' =>
          simp [hy, hl] at h
          subst h
          cases i with
          | zero => simp at h1 h2; subst h1 h2; exact hy
          | succ i => exact ih r' hl i x u (by simpa using h1) (by simpa using h2)
  exact key _ _ h j j u (List.getElem?_range hj) hu
section
variable {H : Type} {enc : TypeId × Value → H} {P : Program} {T : Tab} (hT : TabOk P T) {w : World} {spare : Nat → Bool} {held : Bool} {F : Nat → Prop} (hF : ∀ b, F b)
include hT
theorem cellsOf_eq {t : TypeId} {y : Ty} (h : tget t T = some y) : P.cellsOf t = y.size := by
  obtain ⟨d, i, h1, h2, h3, h4, _⟩ := hT _ _ h
  simp [Program.cellsOf, h2, h4]
theorem bytesOf_eq {t : TypeId} {y : Ty} (h : tget t T = some y) : P.bytesOf t = y.bytes := by
  obtain ⟨d, i, h1, h2, h3, h4, h5, _⟩ := hT _ _ h
  simp [Program.bytesOf, h2, h5]
theorem TC.size_eq {c : TC} {t : TypeId} (h : c.ok T t = true) : P.cellsOf t = c.size := by
  cases c <;> simp only [TC.ok] at h <;> (try cases h) <;> split at h <;> (try cases h)
  all_goals first
    | (rename_i hg; exact cellsOf_eq hT hg)
    | (rename_i y hg
       split at h
       · simp only [Bool.and_eq_true, beq_iff_eq] at h
         rw [cellsOf_eq hT hg, ← h.2.2.2]; rfl
       · cases h)
omit hT in
theorem weightsAll_get {e : TypeId} : ∀ {ds : List (DataW H)} {i : Nat} {d : DataW H}, (DataW.weightsAll P e ds).all (· ≤ reachBytes) = true → ds[i]? = some d → (d.weights P e).all (· ≤ reachBytes) = true
  | [], i, d, _, h => by simp at h
  | d0 :: ds, 0, d, h, hd => by
    simp only [DataW.weightsAll, List.all_append, Bool.and_eq_true] at h
    simp at hd
    exact hd ▸ h.1
  | d0 :: ds, i + 1, d, h, hd => by
    simp only [DataW.weightsAll, List.all_append, Bool.and_eq_true] at h
    exact weightsAll_get h.2 (by simpa using hd)
omit hT in
theorem weightsEach_get : ∀ {ts : List TypeId} {ds : List (DataW H)} {i : Nat} {t : TypeId} {d : DataW H}, (DataW.weightsEach P ts ds).all (· ≤ reachBytes) = true → ts[i]? = some t → ds[i]? = some d → (d.weights P t).all (· ≤ reachBytes) = true
  | [], ds, i, t, d, _, h, _ => by simp at h
  | t0 :: ts, [], i, t, d, _, _, h => by simp at h
  | t0 :: ts, d0 :: ds, 0, t, d, h, ht, hd => by
    simp only [DataW.weightsEach, List.all_append, Bool.and_eq_true] at h
    simp at ht hd
    exact ht ▸ hd ▸ h.1
  | t0 :: ts, d0 :: ds, i + 1, t, d, h, ht, hd => by
    simp only [DataW.weightsEach, List.all_append, Bool.and_eq_true] at h
    exact weightsEach_get h.2 (by simpa using ht) (by simpa using hd)
theorem fields_trod {t : TypeId} {y : Ty} (hg : tget t T = some y) {f : TypeId × Nat} {fs : List (TypeId × Nat)} (hf : fieldsOf T y = f :: fs) {fuel : Nat} {cs : List Value} {x : DataW H × List MemPlace} (h : DataW.trod enc P w 0 spare held fuel t cs = some x) (hwt : (x.1.weights P t).all (· ≤ reachBytes) = true) :
    ∃ m, cs.length = P.cellsOf t ∧ ∀ (i : Nat) ft o, (f :: fs)[i]? = some (ft, o) → ∃ x, DataW.trod enc P w 0 spare held m ft ((cs.drop o).take (P.cellsOf ft)) = some x ∧ (x.1.weights P ft).all (· ≤ reachBytes) = true := by
  obtain ⟨d, i, h1, h2, h3, _⟩ := hT _ _ hg
  rw [← hf]
  unfold fieldsOf at hf ⊢
  split at hf
  · rename_i fs' hk
    rw [hk] at h3
    cases d <;> simp only [TK.fits] at h3
    rename_i fa
    obtain ⟨xs, m, rfl, rfl, hl, hxl, hall⟩ := DataW.trod_struct h1 h
    simp only [DataW.weights, h1] at hwt
    refine ⟨m, hl, fun i ft o hi => ?_⟩
    rw [← h3, List.getElem?_map] at hi
    cases he : fa.toList[i]? with
    | none => simp [he] at hi
    | some fi =>
      rw [he] at hi
      simp at hi
      obtain ⟨rfl, rfl⟩ := hi
      have he' : fa[i]? = some fi := by simpa using he
      rw [hall i fi he']
      have : i < xs.length := by rw [hxl]; exact (Array.getElem?_eq_some_iff.1 he').1
      exact ⟨xs[i], List.getElem?_eq_getElem this, weightsEach_get (i := i) hwt (by rw [List.getElem?_map, he]; rfl) (by rw [List.getElem?_map, List.getElem?_eq_getElem this]; rfl)⟩
  · rename_i n e hk
    rw [hk] at h3
    cases d <;> simp only [TK.fits] at h3
    obtain ⟨rfl, rfl⟩ := h3
    split at hf
    · rename_i ye hge
      obtain ⟨xs, m, rfl, rfl, hl, hxl, hall⟩ := DataW.trod_array h1 h
      simp only [DataW.weights, h1] at hwt
      refine ⟨m, hl, fun i ft o hi => ?_⟩
      have hsz := cellsOf_eq hT hge
      rw [List.getElem?_map] at hi
      cases he : (List.range n)[i]? with
      | none => simp [he] at hi
      | some i' =>
        rw [he] at hi
        simp at hi
        obtain ⟨rfl, rfl⟩ := hi
        have hii : i' = i ∧ i < n := by
          obtain ⟨h1, h2⟩ := List.getElem?_eq_some_iff.1 he
          exact ⟨by simpa using h2.symm, by simpa using h1⟩
        obtain ⟨rfl, hin⟩ := hii
        rw [← hsz, hall i' hin]
        have hix : i' < xs.length := by omega
        exact ⟨xs[i'], List.getElem?_eq_getElem hix, weightsAll_get (i := i') hwt (by rw [List.getElem?_map, List.getElem?_eq_getElem hix]; rfl)⟩
    · cases hf
  · cases hf
include hF
mutual
theorem TC.open : ∀ (c : TC) {t : TypeId} {fuel : Nat} {cs : List Value} {x : DataW H × List MemPlace}, c.ok T t = true → DataW.trod enc P w 0 spare held fuel t cs = some x → (x.1.weights P t).all (· ≤ reachBytes) = true →
    ∃ v : c.ty, c.wf v ∧ cs.length = c.size ∧ ∀ j, j < c.size → ∃ u, cs[j]? = some u ∧ DAt F w (c.enc v j) u
  | .int k, t, fuel, cs, x, ho, h, hwt => by
    simp only [TC.ok] at ho
    split at ho
    · rename_i k' b z hg
      have hk : k = k' := by simpa using ho
      subst hk
      obtain ⟨d, i, h1, _, h3, _⟩ := hT _ _ hg
      cases d <;> simp only [TK.fits] at h3
      subst h3
      obtain ⟨n, rfl, _, hw⟩ := DataW.trod_int h1 h
      refine ⟨n, hw, rfl, fun j hj => ?_⟩
      have : j = 0 := by simp [TC.size] at hj; omega
      subst this
      exact ⟨_, rfl, .v _ rfl⟩
    · cases ho
  | .byte, t, fuel, cs, x, ho, h, hwt => by
    simp only [TC.ok] at ho
    split at ho
    · rename_i b z hg
      obtain ⟨d, i, h1, _, h3, _⟩ := hT _ _ hg
      cases d <;> simp only [TK.fits] at h3
      subst h3
      obtain ⟨n, rfl, _, hw⟩ := DataW.trod_int h1 h
      refine ⟨UInt8.ofNat n.toNat, trivial, rfl, fun j hj => ?_⟩
      have : j = 0 := by simp [TC.size] at hj; omega
      subst this
      have hb := bounds_u8 hw
      have e : ((UInt8.ofNat n.toNat).toNat : Int) = n := by simp; omega
      refine ⟨_, rfl, ?_⟩
      simp only [TC.enc, encB, e]
      exact .v _ rfl
    · cases ho
  | .bool, t, fuel, cs, x, ho, h, hwt => by
    simp only [TC.ok] at ho
    split at ho
    · rename_i b z hg
      obtain ⟨d, i, h1, _, h3, _⟩ := hT _ _ hg
      cases d <;> simp only [TK.fits] at h3
      obtain ⟨n, rfl, _⟩ := DataW.trod_bool h1 h
      refine ⟨n, trivial, rfl, fun j hj => ?_⟩
      have : j = 0 := by simp [TC.size] at hj; omega
      subst this
      exact ⟨_, rfl, .v _ rfl⟩
    · cases ho
  | .str, t, fuel, cs, x, ho, h, hwt => by
    simp only [TC.ok] at ho
    split at ho
    · rename_i b z hg
      obtain ⟨d, i, h1, _, h3, _⟩ := hT _ _ hg
      cases d <;> simp only [TK.fits] at h3
      obtain ⟨s, rfl, rfl, _⟩ := DataW.trod_string h1 h
      have hw : s.size ≤ 140737488351232 := of_decide_eq_true (by have h9 := hwt; simp [DataW.weights, reachBytes] at h9; exact h9)
      refine ⟨s, hw, rfl, fun j hj => ?_⟩
      have : j = 0 := by simp [TC.size] at hj; omega
      subst this
      exact ⟨_, rfl, .v _ rfl⟩
    · cases ho
  | .sl c, t, fuel, cs, x, ho, h, hwt => by
    simp only [TC.ok] at ho
    split at ho
    · rename_i e b z hg
      obtain ⟨d, i, h1, _, h3, _⟩ := hT _ _ hg
      cases d <;> simp only [TK.fits] at h3
      subst h3
      simp only [Bool.and_eq_true] at ho
      obtain ⟨hob, ho⟩ := ho
      have hsz := TC.size_eq hT ho
      rcases DataW.trod_slice h1 h with ⟨rfl, _⟩ | ⟨a, len, cap, elems, rest, n, _, rfl, rfl, _, hl, hm, hlen, hel, _⟩
      · refine ⟨[], ⟨by simp, fun x hx => by cases hx⟩, rfl, fun j hj => ?_⟩
        have : j = 0 := by simp [TC.size] at hj; omega
        subst this
        exact ⟨_, rfl, .nil _ _ _ _ _⟩
      · simp only [DataW.weights, h1, List.all_cons, List.all_append, Bool.and_eq_true, List.length_map, decide_eq_true_eq] at hwt
        have hlim : len ≤ 140737488351232 := by
          split at hob
          · rename_i ye hye
            have hb1 := Nat.le_of_ble_eq_true hob
            rw [bytesOf_eq hT hye] at hwt
            have h5 := hwt.1
            have : (elems.length + rest.length) * 1 ≤ (elems.length + rest.length) * ye.bytes := Nat.mul_le_mul_left _ hb1
            simp only [reachBytes] at h5
            omega
          · cases hob
        have each : ∀ i, ∃ v : c.ty, i < len → c.wf v ∧ ∀ j, j < c.size → ∃ u, w.cell? (a.add (i * c.size + j)) = some u ∧ DAt F w (c.enc v j) u := by
          intro i
          by_cases hi : i < len
          · have h2 := hel i hi
            have h3 : ∃ y, elems[i]? = some y := ⟨elems[i], List.getElem?_eq_getElem (by omega)⟩
            obtain ⟨y, hy⟩ := h3
            rw [hy] at h2
            cases hr : w.cells? 0 (a.add (i * P.cellsOf e)) (P.cellsOf e) with
            | none => simp [hr] at h2
            | some row =>
              rw [hr] at h2
              simp only [Option.bind_some] at h2
              obtain ⟨v, hv1, hv2, hv3⟩ := TC.open c ho h2 (weightsAll_get (i := i) hwt.2.1 (by rw [List.getElem?_map, hy]; rfl))
              refine ⟨v, fun _ => ⟨hv1, fun j hj => ?_⟩⟩
              obtain ⟨u, hu1, hu2⟩ := hv3 j hj
              refine ⟨u, ?_, hu2⟩
              have hc := cells?_get hr (by rw [hsz]; exact hj) hu1
              have ha := add_add a i c.size 0 j
              rw [Nat.zero_mul, Nat.zero_add, Nat.add_zero] at ha
              rw [← ha, ← hsz]
              exact hc
          · exact ⟨c.dflt, fun h => absurd h hi⟩
        let vs : List c.ty := (List.range len).map fun i => (each i).choose
        have hvl : vs.length = len := by simp [vs]
        have hvg : ∀ i, i < len → vs.getD i c.dflt = (each i).choose := fun i hi => by simp [vs, List.getD, hi]
        refine ⟨vs, ⟨?_, fun x hx => ?_⟩, rfl, fun j hj => ?_⟩
        · show vs.length ≤ 140737488351232
          omega
        · obtain ⟨i, hi, rfl⟩ := List.mem_map.1 hx
          exact ((each i).choose_spec (by simpa using hi)).1
        · have : j = 0 := by simp [TC.size] at hj; omega
          subst this
          refine ⟨_, rfl, ?_⟩
          show DAt F w (.sl c.size c.enc c.dflt vs) _
          rcases Nat.eq_zero_or_pos len with h0 | h0
          · have : vs = [] := List.eq_nil_of_length_eq_zero (by omega)
            rw [this, h0]
            exact .nil _ _ _ _ _
          · rcases Nat.eq_zero_or_pos c.size with hz | hz
            · exact absurd hz (TC.pos ho)
            · obtain ⟨u, hu, _⟩ := ((each 0).choose_spec h0).2 0 hz
              rw [← hvl]
              refine DAt.of_cells (hF _) ?_ (by omega) (fun i j hi hj => ?_)
              · have := World.block_lt_of_cell? w _ hu
                rwa [add_block] at this
              · rw [hvl] at hi
                rw [hvg i hi]
                exact ((each i).choose_spec hi).2 j hj
    · cases ho
  | .nil, t, fuel, cs, x, ho, h, hwt => by simp [TC.ok] at ho
  | .cons c r, t, fuel, cs, x, ho, h, hwt => by
    have hsz := TC.size_eq hT ho
    simp only [TC.ok] at ho
    split at ho
    · rename_i y hg
      split at ho
      · rename_i ft o fs hfo
        simp only [Bool.and_eq_true, beq_iff_eq] at ho
        obtain ⟨rfl, h2, h3, h4⟩ := ho
        obtain ⟨m, hl, hall⟩ := fields_trod hT hg hfo h hwt
        obtain ⟨x0, hx0, hw0⟩ := hall 0 ft 0 rfl
        obtain ⟨v, hv1, hv2, hv3⟩ := TC.open c h2 hx0 hw0
        obtain ⟨v', hr1, hr2⟩ := TC.openF r h3 (fun i ft o hi => hall (i + 1) ft o hi)
        refine ⟨(v, v'), ⟨hv1, hr1⟩, by rw [hl, hsz], fun j hj => ?_⟩
        simp only [TC.enc]
        split
        · rename_i hjc
          obtain ⟨u, hu1, hu2⟩ := hv3 j hjc
          refine ⟨u, ?_, hu2⟩
          rw [List.drop_zero, List.getElem?_take] at hu1
          split at hu1
          · exact hu1
          · cases hu1
        · rename_i hjc
          obtain ⟨u, hu1, hu2⟩ := hr2 (j - c.size) (by simp only [TC.size] at hj; omega)
          refine ⟨u, ?_, hu2⟩
          rw [← hu1]
          congr 1
          omega
      · cases ho
    · cases ho
theorem TC.openF : ∀ (c : TC) {fs : List (TypeId × Nat)} {off fuel : Nat} {cs : List Value}, c.okF T fs off = true → (∀ (i : Nat) ft o, fs[i]? = some (ft, o) → ∃ x, DataW.trod enc P w 0 spare held fuel ft ((cs.drop o).take (P.cellsOf ft)) = some x ∧ (x.1.weights P ft).all (· ≤ reachBytes) = true) →
    ∃ v : c.ty, c.wf v ∧ ∀ j, j < c.size → ∃ u, cs[off + j]? = some u ∧ DAt F w (c.enc v j) u
  | .nil, fs, off, fuel, cs, ho, h => ⟨(), trivial, fun j hj => by simp [TC.size] at hj⟩
  | .cons c r, [], off, fuel, cs, ho, h => by simp [TC.okF] at ho
  | .cons c r, (ft, o) :: fs, off, fuel, cs, ho, h => by
    simp only [TC.okF, Bool.and_eq_true, beq_iff_eq] at ho
    obtain ⟨rfl, h2, h3⟩ := ho
    obtain ⟨x0, hx0, hw0⟩ := h 0 ft o rfl
    obtain ⟨v, hv1, hv2, hv3⟩ := TC.open c h2 hx0 hw0
    obtain ⟨v', hr1, hr2⟩ := TC.openF r h3 (fun i ft o hi => h (i + 1) ft o hi)
    refine ⟨(v, v'), ⟨hv1, hr1⟩, fun j hj => ?_⟩
    simp only [TC.enc]
    split
    · rename_i hjc
      obtain ⟨u, hu1, hu2⟩ := hv3 j hjc
      refine ⟨u, ?_, hu2⟩
      rw [List.getElem?_take] at hu1
      split at hu1
      · rw [List.getElem?_drop] at hu1; exact hu1
      · cases hu1
    · rename_i hjc
      obtain ⟨u, hu1, hu2⟩ := hr2 (j - c.size) (by simp only [TC.size] at hj; omega)
      refine ⟨u, ?_, hu2⟩
      rw [← hu1]
      congr 1
      omega
  | .int _, fs, off, fuel, cs, ho, h => by cases fs <;> simp [TC.okF] at ho
  | .byte, fs, off, fuel, cs, ho, h => by cases fs <;> simp [TC.okF] at ho
  | .bool, fs, off, fuel, cs, ho, h => by cases fs <;> simp [TC.okF] at ho
  | .str, fs, off, fuel, cs, ho, h => by cases fs <;> simp [TC.okF] at ho
  | .sl _, fs, off, fuel, cs, ho, h => by cases fs <;> simp [TC.okF] at ho
end
end

def TC.agg : TC → Bool
  | .cons .. => true
  | _ => false
open Go.ChangeShapes Go.WideShapes in
theorem TC.arg {H : Type} {enc : TypeId × Value → H} {P : Program} {T : Tab} (hT : TabOk P T) {w : World} {spare : Nat → Bool} {held : Bool} (c : TC) {t : TypeId} {v : Value} {r : Reach} {b0 : Nat} {d : DataW H} {p : List MemPlace} (ho : c.ok T t = true)
    (hv : Value.okWide P w r b0 t v) (hd : DataW.Trod enc P w 0 spare held t v d p) (hwt : (d.weights P t).all (· ≤ reachBytes) = true) : ∃ x : c.ty, c.wf x ∧ AAt (cxOf w.heap.size (fun _ => False) []) w (valA false c.agg c.size (c.enc x)) v := by
  obtain ⟨fuel, hf⟩ := hd
  have hF : ∀ b, (cxOf w.heap.size (fun _ => False) []).ok false b := fun b => ⟨by simp [cxOf, blocksOf], fun h => h, fun h => by cases h⟩
  obtain ⟨x, hw, hl, hall⟩ := TC.open hT hF c ho hf hwt
  refine ⟨x, hw, ?_⟩
  have one : c.agg = false → c.size = 1 → v.cells = #[v] → AAt (cxOf w.heap.size (fun _ => False) []) w (valA false c.agg c.size (c.enc x)) v := by
    intro ha hs hc
    obtain ⟨u, hu1, hu2⟩ := hall 0 (by omega)
    rw [hc] at hu1
    simp at hu1
    subst hu1
    rw [ha]
    exact upD_at hu2
  cases c with
  | int k =>
    simp only [TC.ok] at ho
    split at ho
    · rename_i hg
      obtain ⟨dd, i, h1, _, h3, _⟩ := hT _ _ hg
      cases dd <;> simp only [TK.fits] at h3
      obtain ⟨n, rfl⟩ := okWide_int h1 hv
      exact one rfl rfl rfl
    · cases ho
  | byte =>
    simp only [TC.ok] at ho
    split at ho
    · rename_i hg
      obtain ⟨dd, i, h1, _, h3, _⟩ := hT _ _ hg
      cases dd <;> simp only [TK.fits] at h3
      obtain ⟨n, rfl⟩ := okWide_int h1 hv
      exact one rfl rfl rfl
    · cases ho
  | bool =>
    simp only [TC.ok] at ho
    split at ho
    · rename_i hg
      obtain ⟨dd, i, h1, _, h3, _⟩ := hT _ _ hg
      cases dd <;> simp only [TK.fits] at h3
      obtain ⟨n, rfl⟩ := okWide_bool h1 hv
      exact one rfl rfl rfl
    · cases ho
  | str =>
    simp only [TC.ok] at ho
    split at ho
    · rename_i hg
      obtain ⟨dd, i, h1, _, h3, _⟩ := hT _ _ hg
      cases dd <;> simp only [TK.fits] at h3
      obtain ⟨n, rfl⟩ := okWide_string h1 hv
      exact one rfl rfl rfl
    · cases ho
  | sl c =>
    simp only [TC.ok] at ho
    split at ho
    · rename_i hg
      obtain ⟨dd, i, h1, _, h3, _⟩ := hT _ _ hg
      cases dd <;> simp only [TK.fits] at h3
      obtain ⟨a, len, cap, rfl⟩ := okWide_slice h1 hv
      exact one rfl rfl rfl
    · cases ho
  | nil => simp [TC.ok] at ho
  | cons c r =>
    simp only [TC.ok] at ho
    split at ho
    · rename_i y hg
      obtain ⟨dd, i, h1, _, h3, _⟩ := hT _ _ hg
      have hagg : ∃ cs, v = .agg cs := by
        split at ho
        · rename_i ft o fs hfo
          unfold fieldsOf at hfo
          split at hfo
          · rename_i hk
            rw [hk] at h3
            cases dd <;> simp only [TK.fits] at h3
            simp only [Value.okWide, h1] at hv
            obtain ⟨cs, rfl, _⟩ := hv
            exact ⟨cs, rfl⟩
          · rename_i hk
            rw [hk] at h3
            cases dd <;> simp only [TK.fits] at h3
            simp only [Value.okWide, h1] at hv
            obtain ⟨cs, rfl, _⟩ := hv
            exact ⟨cs, rfl⟩
          · cases hfo
        · cases ho
      obtain ⟨arr, rfl⟩ := hagg
      show AAt _ w (.g ((List.range (TC.cons c r).size).map fun j => upD false ((TC.cons c r).enc x j))) _
      simp only [AAt]
      simp only [Value.cells] at hl hall
      refine ⟨arr, rfl, AAtL.of_get (by rw [List.length_map, List.length_range]; exact hl.symm) (fun j z u hz hu => ?_)⟩
      rw [List.getElem?_map] at hz
      cases hj : (List.range (TC.cons c r).size)[j]? with
      | none => simp [hj] at hz
      | some j' =>
        rw [hj] at hz
        have hjj : j < (TC.cons c r).size ∧ j' = j := by
          rw [List.getElem?_eq_some_iff] at hj
          obtain ⟨h1, h2⟩ := hj
          exact ⟨by simpa using h1, by simpa using h2.symm⟩
        obtain ⟨hlt, rfl⟩ := hjj
        simp at hz
        subst hz
        obtain ⟨u', k1, k2⟩ := hall j' hlt
        rw [k1] at hu
        cases hu
        exact upD_at k2
    · cases ho
end Go.Sx
end
