/- Layer 10: what comes of it may be, and nothing is left to give. -/
import Derived.Test.YtncflfhmdncabaaSxUDisp2
set_option linter.all false
namespace Go.Sx
abbrev ModeP (s : St) (i : Nat) : Prop :=
  (((s.r i).mode = 0 ∨ (s.r i).mode = 3 ∨ (s.r i).mode = 4) ∧ (s.r i).task = 0) ∨
  (((s.r i).mode = 1 ∨ (s.r i).mode = 2 ∨ (s.r i).mode = 4) ∧ ¬ ((s.r i).mode = 4 ∧ (s.r i).task = 0) ∧ 0 ≤ findI s.K (s.r i).task ∧ (s.t (findI s.K (s.r i).task).toNat).st = (if (s.r i).mode = 1 then 2 else 3) ∧ (s.t (findI s.K (s.r i).task).toNat).rb = i)
theorem mode_get {s : St} {i : Nat} (h : modeB s i = true) : ModeP s i := by
  unfold modeB at h
  split at h
  · rename_i hc
    have h := of_decide_eq_true h
    left
    refine ⟨?_, h⟩
    rcases hc with e | e | e
    · exact .inl e
    · exact .inr (.inl e)
    · exact .inr (.inr e.1)
  · rename_i hc
    have h := of_decide_eq_true h
    exact .inr ⟨h.1, fun e => hc (.inr (.inr e)), h.2⟩
theorem mode_of {s : St} {i : Nat} (h : ModeP s i) : modeB s i = true := by
  unfold modeB
  rcases h with ⟨h1, h2⟩ | ⟨h1, h2, h3⟩
  · rw [if_pos]
    · exact decide_eq_true h2
    · rcases h1 with e | e | e
      · exact .inl e
      · exact .inr (.inl e)
      · exact .inr (.inr ⟨e, h2⟩)
  · rw [if_neg]
    · exact decide_eq_true ⟨h1, h3⟩
    · rintro (e | e | e)
      · omega
      · omega
      · exact h2 e
abbrev TaskP (g : Gr) (s : St) (i : Nat) : Prop :=
  (1 ≤ (s.t i).id ∧ (s.t i).id ≤ 2147483647 ∧ findI s.K (s.t i).id = i) ∧ floorB g (s.t i).fr = true ∧ floorB g (s.t i).to = true ∧ (s.t i).fr ≠ (s.t i).to ∧
  (((s.t i).st = 1 ∧ (s.t i).rb = -1) ∨ ((s.t i).st ≠ 1 ∧ (0 ≤ (s.t i).rb ∧ (s.t i).rb < s.R.length) ∧ (((s.t i).st = 2 ∨ (s.t i).st = 3) ∧ (s.r (s.t i).rb.toNat).task = (s.t i).id ∨ (s.t i).st = 4)))
theorem task_get {g : Gr} {s : St} {i : Nat} (h : taskB g s i = true) : TaskP g s i := by
  unfold taskB at h
  rw [Bool.and_eq_true, Bool.and_eq_true, Bool.and_eq_true, Bool.and_eq_true, decide_eq_true_eq, decide_eq_true_eq] at h
  refine ⟨h.1, h.2.1, h.2.2.1, h.2.2.2.1, ?_⟩
  have h5 := h.2.2.2.2
  split at h5
  · rename_i e
    exact .inl ⟨e, of_decide_eq_true h5⟩
  · rename_i e
    rw [Bool.and_eq_true, decide_eq_true_eq] at h5
    refine .inr ⟨e, h5.1, ?_⟩
    have h6 := h5.2
    split at h6
    · rename_i e2
      exact .inl ⟨e2, of_decide_eq_true h6⟩
    · exact .inr (of_decide_eq_true h6)
theorem task_of {g : Gr} {s : St} {i : Nat} (h : TaskP g s i) : taskB g s i = true := by
  unfold taskB
  rw [Bool.and_eq_true, Bool.and_eq_true, Bool.and_eq_true, Bool.and_eq_true, decide_eq_true_eq, decide_eq_true_eq]
  refine ⟨h.1, h.2.1, h.2.2.1, h.2.2.2.1, ?_⟩
  rcases h.2.2.2.2 with ⟨e, e2⟩ | ⟨e, e2, e3⟩
  · rw [if_pos e]
    exact decide_eq_true e2
  · rw [if_neg e, Bool.and_eq_true, decide_eq_true_eq]
    refine ⟨e2, ?_⟩
    split
    · rename_i e4
      rcases e3 with e3 | e3
      · exact decide_eq_true e3.2
      · omega
    · rename_i e4
      rcases e3 with e3 | e3
      · exact absurd e3.1 e4
      · exact decide_eq_true e3
theorem findI_congr {l l' : List Tk} (hl : l'.length = l.length) (h : ∀ i, i < l.length → (l'.getD i dT).id = (l.getD i dT).id) (id : Int) : findI l' id = findI l id := by
  cases hf : findN l id with
  | none =>
    have h1 := findN_none.1 hf
    rw [findI_no h1, findI_no (fun k hk => by rw [h k (by omega)]; exact h1 k (by omega))]
  | some n =>
    obtain ⟨h1, h2, h3⟩ := findN_some.1 hf
    rw [findI_is h1 h2 h3, findI_is (n := n) (by omega) (by rw [h n h1]; exact h2) (fun k hk => by rw [h k (by omega)]; exact h3 k hk)]
theorem charge_task (r : Rb) : (chargeR r).task = r.task := by unfold chargeR; split <;> rfl
theorem charge_cell (r : Rb) : (chargeR r).cell = r.cell := by unfold chargeR; split <;> rfl
theorem charge_bat (r : Rb) : (chargeR r).bat = r.bat := by unfold chargeR; split <;> rfl
theorem charge_hold (r : Rb) : (chargeR r).hold = r.hold := by unfold chargeR; split <;> rfl
theorem charge_on {r : Rb} (h : r.mode ≠ 0) : chargeR r = r := by unfold chargeR; rw [if_neg (fun e => h e.1)]
theorem charge_mode (r : Rb) : (chargeR r).mode = r.mode ∨ (r.mode = 0 ∧ (chargeR r).mode = 3) := by
  unfold chargeR
  split
  · rename_i h; exact .inr ⟨h.1, rfl⟩
  · exact .inl rfl
theorem right_disp {g : Gr} {s : St} (h : rightS g s = true) : rightS g (dispS g s) = true := by
  obtain ⟨h0, hr, ht, hb⟩ := right_get h
  have G := disp_giv g s s.K.length (Nat.le_refl _)
  unfold dispS
  generalize (dispK g s s.K.length).1 = p at G
  generalize (dispK g s s.K.length).2 = l at G
  have lenR : (chargeS p).R.length = s.R.length := by show (p.R.map chargeR).length = _; rw [List.length_map, G.lenR]
  have lenK : (chargeS p).K.length = s.K.length := G.lenK
  have ar : ∀ i, i < s.R.length → (chargeS p).r i = chargeR (p.r i) := fun i hi => charge_r (by rw [G.lenR]; exact hi)
  have at' : ∀ j, (chargeS p).t j = p.t j := fun j => rfl
  have kid : ∀ j, j < s.K.length → (p.t j).id = (s.t j).id := fun j hj => by
    rcases G.tsk j hj with e | ⟨_, i, _, _, _, _, e⟩ <;> rw [e] <;> rfl
  have fi : ∀ id, findI (chargeS p).K id = findI s.K id := fun id => findI_congr lenK (fun i hi => kid i hi) id
  have same : ∀ i, i < s.R.length → ((chargeS p).r i).cell = (s.r i).cell ∧ ((chargeS p).r i).bat = (s.r i).bat ∧ ((chargeS p).r i).hold = (s.r i).hold := fun i hi => by
    rw [ar i hi, charge_cell, charge_bat, charge_hold]
    rcases G.rob i hi with e | ⟨j, _, _, _, e, _⟩
    · rw [e.1]; exact ⟨rfl, rfl, rfl⟩
    · rw [e]; exact ⟨rfl, rfl, rfl⟩
  refine right_of ⟨⟨?_, ?_, by rw [lenR]; exact h0.2.2.1, by rw [lenK]; exact h0.2.2.2⟩, fun i hi => ?_, fun j hj => ?_, fun i hi => ?_⟩
  · show 0 ≤ p.tick; rw [G.tick]; exact h0.1
  · show p.tick ≤ _; rw [G.tick]; exact h0.2.1
  · rw [lenR] at hi
    obtain ⟨r1, r2, r3, r4⟩ := robot_get (hr i hi)
    obtain ⟨s1, s2, s3⟩ := same i hi
    refine robot_of ⟨by rw [s1]; exact r1, by rw [s2, s3]; exact r2, fun k hk => by rw [(same k (by omega)).1, s1]; exact r3 k hk, mode_of ?_⟩
    unfold ModeP
    rw [ar i hi, fi]
    simp only [at']
    rw [charge_task]
    rcases G.rob i hi with e | ⟨j, e1, e2, e3, e4, e5⟩
    · rw [e.1]
      rcases mode_get r4 with ⟨m1, m2⟩ | ⟨m1, m2, m3, m4, m5⟩
      · left
        refine ⟨?_, m2⟩
        rcases charge_mode (s.r i) with c | c
        · rw [c]; exact m1
        · exact .inr (.inl c.2)
      · right
        rw [charge_on (by omega)]
        have hf := findI_ge s.K (s.r i).task
        have hu : p.t (findI s.K (s.r i).task).toNat = s.t (findI s.K (s.r i).task).toNat := by
          rcases G.tsk (findI s.K (s.r i).task).toNat (by omega) with u | ⟨_, _, _, _, u, _⟩
          · exact u
          · rw [u] at m4
            split at m4 <;> omega
        rw [hu]
        exact ⟨m1, m2, m3, m4, m5⟩
    · right
      rw [e4, charge_on (by simp [giveR])]
      have t1 := task_get (ht j e1)
      show ((giveR (s.r i) (s.t j).id).mode = 1 ∨ _) ∧ _
      have : findI s.K (giveR (s.r i) (s.t j).id).task = j := t1.1.2.2
      rw [this, Int.toNat_natCast, e5]
      refine ⟨.inl rfl, fun e => ?_, by omega, rfl, rfl⟩
      exact absurd e.1 (by simp [giveR])
  · rw [lenK] at hj
    obtain ⟨t1, t2, t3, t4, t5⟩ := task_get (ht j hj)
    apply task_of
    unfold TaskP
    rw [at', fi, lenR]
    rcases G.tsk j hj with e | ⟨_, i, e1, e2, e3, e4, e5⟩
    · rw [e]
      refine ⟨t1, t2, t3, t4, ?_⟩
      rcases t5 with t5 | ⟨u1, u2, u3⟩
      · exact .inl t5
      · refine .inr ⟨u1, u2, ?_⟩
        rcases u3 with ⟨u3, u4⟩ | u3
        · left
          refine ⟨u3, ?_⟩
          rw [ar _ (by omega), charge_task]
          rcases G.rob (s.t j).rb.toNat (by omega) with w | ⟨_, _, w, _⟩
          · rw [w.1]; exact u4
          · unfold freeB at w
            have w := of_decide_eq_true w
            omega
        · exact .inr u3
    · rw [e5]
      refine ⟨t1, t2, t3, t4, .inr ⟨by simp [giveT], by simp [giveT]; omega, .inl ⟨.inl rfl, ?_⟩⟩⟩
      show ((chargeS p).r (i : Int).toNat).task = (s.t j).id
      rw [Int.toNat_natCast, ar i e1, charge_task, e4]
      rfl
  · have hB : (chargeS p).B = s.B := G.B
    rw [hB] at hi
    have := hb i hi
    unfold blockB at this ⊢
    rw [hB]
    exact this
/-! ### Nothing is left -/
theorem best_none {g : Gr} {s : St} {t : Int} : bestI g s t = -1 ↔ (0 ≤ t ∧ t < s.K.length ∧ (s.t t.toNat).st = 1 → ∀ i, i < s.R.length → costI g s (s.t t.toNat).fr i < 0) := by
  unfold bestI
  constructor
  · intro h hw
    rw [if_pos hw] at h
    exact (minI_none _ _).1 h
  · intro h
    split
    · rename_i hw
      exact (minI_none _ _).2 (h hw)
    · rfl
theorem left_give {g : Gr} {p : St} {n k j : Nat} (hn : n < p.K.length) (hk : k < p.R.length) (hj : j ≠ n) (h : bestI g p j = -1) : bestI g (giveS p n k) j = -1 := by
  rw [best_none] at h ⊢
  rintro ⟨h1, h2, h3⟩ i hi
  have lK : (giveS p n k).K.length = p.K.length := by simp [giveS]
  have lR : (giveS p n k).R.length = p.R.length := by simp [giveS]
  rw [Int.toNat_natCast, give_t hn, if_neg hj] at h3 ⊢
  rw [lK] at h2
  rw [lR] at hi
  have hc := h ⟨h1, h2, by rw [Int.toNat_natCast]; exact h3⟩ i hi
  rw [Int.toNat_natCast] at hc
  unfold costI at hc ⊢
  rw [give_r hk]
  by_cases e : i = k
  · rw [if_pos e, free_giveR, if_neg (by decide)]
    omega
  · rw [if_neg e]
    exact hc
theorem left_same {g : Gr} {p : St} {n k : Nat} (hn : n < p.K.length) : bestI g (giveS p n k) n = -1 := by
  rw [best_none]
  rintro ⟨_, _, h3⟩
  rw [Int.toNat_natCast, give_t hn, if_pos rfl] at h3
  cases h3
theorem disp_left (g : Gr) (s : St) : ∀ n, ∀ j : Nat, j < n → bestI g (dispK g s n).1 j = -1
  | 0, j, h => by omega
  | n + 1, j, h => by
    have ih := disp_left g s n
    unfold dispK
    split
    · rename_i hb
      rcases Nat.lt_succ_iff_lt_or_eq.1 h with h' | h'
      · exact ih j h'
      · subst h'; exact hb
    · rename_i hb
      rcases bestI_rng g (dispK g s n).1 n with e | ⟨e1, e2, e3, e4, e5, e6⟩
      · exact absurd e hb
      · rcases Nat.lt_succ_iff_lt_or_eq.1 h with h' | h'
        · exact left_give (by omega) (by omega) (by omega) (ih j h')
        · subst h'; exact left_same (by omega)
theorem best_charge (g : Gr) (p : St) (t : Int) : bestI g (chargeS p) t = -1 ↔ bestI g p t = -1 := by
  rw [best_none, best_none]
  have lR : (chargeS p).R.length = p.R.length := by simp [chargeS]
  have hc : ∀ fr i, i < p.R.length → costI g (chargeS p) fr i = costI g p fr i := fun fr i hi => by
    unfold costI
    rw [charge_r hi, free_charge, charge_cell]
    rfl
  constructor
  · intro h hw i hi
    have := h hw i (by rw [lR]; exact hi)
    rw [hc _ i hi] at this
    exact this
  · intro h hw i hi
    rw [lR] at hi
    rw [hc _ i hi]
    exact h hw i hi
theorem left_disp (g : Gr) (s : St) (t : Int) : bestI g (dispS g s) t = -1 := by
  unfold dispS
  rw [best_charge]
  by_cases h : 0 ≤ t ∧ t < s.K.length
  · obtain ⟨j, rfl⟩ := Int.eq_ofNat_of_zero_le h.1
    exact disp_left g s _ j (by omega)
  · rw [best_none]
    rintro ⟨h1, h2, _⟩
    have := (disp_giv g s s.K.length (Nat.le_refl _)).lenK
    omega
theorem charge_twice (r : Rb) : chargeR (chargeR r) = chargeR r := by
  rcases charge_mode r with c | c
  · by_cases h : r.mode = 0 ∧ r.bat < 100
    · unfold chargeR
      simp [h]
    · have : chargeR r = r := by unfold chargeR; rw [if_neg h]
      rw [this, this]
  · exact charge_on (by rw [c.2]; decide)
theorem disp_stays {g : Gr} {a : St} (h : ∀ t, bestI g a t = -1) : ∀ n, dispK g a n = (a, [])
  | 0 => rfl
  | n + 1 => by
    unfold dispK
    rw [disp_stays h n]
    simp only
    rw [if_pos (h _)]
theorem disp_again (g : Gr) (s : St) : dispS g (dispS g s) = dispS g s ∧ dispL g (dispS g s) = [] := by
  have h := disp_stays (left_disp g s) (dispS g s).K.length
  refine ⟨?_, ?_⟩
  · show chargeS (dispK g (dispS g s) (dispS g s).K.length).1 = dispS g s
    rw [h]
    show chargeS (dispS g s) = dispS g s
    unfold dispS chargeS
    simp only [List.map_map]
    congr 1
    apply List.map_congr_left
    intro r _
    exact charge_twice r
  · unfold dispL
    rw [h]
/-- No idle robot's battery is low. -/
theorem disp_low (g : Gr) (s : St) {i : Nat} (hi : i < s.R.length) : ¬ (((dispS g s).r i).mode = 0 ∧ ((dispS g s).r i).bat < 100) := by
  have G := disp_giv g s s.K.length (Nat.le_refl _)
  unfold dispS
  rw [charge_r (by rw [G.lenR]; exact hi)]
  unfold chargeR
  split
  · rintro ⟨h, _⟩
    cases h
  · rename_i h; exact h
theorem once_facts (g : Gr) (s : St) : (∀ q ∈ dispL g s, ∃ i : Nat, q.2 = (i : Int) ∧ i < s.R.length ∧ (s.r i).mode = 0 ∧ 100 ≤ (s.r i).bat ∧ ((dispS g s).r i).mode = 1) ∧
    (dispL g s).Pairwise (fun a b => a.2 ≠ b.2) ∧
    (∀ i, i < s.R.length → (∀ q ∈ dispL g s, q.2 ≠ (i : Int)) → (dispS g s).r i = s.r i ∨ ((dispS g s).r i).mode = 3) ∧
    ∀ i, i < s.R.length → ((dispS g s).r i).cell = (s.r i).cell := by
  have G := disp_giv g s s.K.length (Nat.le_refl _)
  unfold dispS dispL
  generalize (dispK g s s.K.length).1 = p at G ⊢
  generalize (dispK g s s.K.length).2 = l at G ⊢
  have ar : ∀ i, i < s.R.length → (chargeS p).r i = chargeR (p.r i) := fun i hi => charge_r (by rw [G.lenR]; exact hi)
  refine ⟨fun q hq => ?_, G.once, fun i hi h => ?_, fun i hi => ?_⟩
  · obtain ⟨j, i, rfl, h1, h2, h3⟩ := G.prs q hq
    unfold freeB at h2
    have h2 := of_decide_eq_true h2
    refine ⟨i, rfl, h1, h2.1, h2.2.2, ?_⟩
    rw [ar i h1, charge_on (by omega)]
    exact h3
  · rw [ar i hi]
    have e : p.r i = s.r i := Classical.byContradiction fun hne => by
      obtain ⟨q, hq, hq2⟩ := G.mem i hi hne
      exact h q hq hq2
    rw [e]
    by_cases hc : (s.r i).mode = 0 ∧ (s.r i).bat < 100
    · right
      unfold chargeR
      rw [if_pos hc]
    · left
      unfold chargeR
      rw [if_neg hc]
  · rw [ar i hi, charge_cell]
    rcases G.rob i hi with e | ⟨j, _, _, _, e, _⟩
    · rw [e.1]
    · rw [e]; rfl
/-- Who was given something, so far. -/
structure GivenI (n : Nat) (l : List (Int × Int)) (k : Nat) (G : List Bool) : Prop where
  len : G.length = n
  is : ∀ i, i < n → (G.getD i false = true ↔ ∃ q ∈ l.take k, q.2 = (i : Int))
theorem GivenI.start {n : Nat} {l : List (Int × Int)} : GivenI n l 0 (List.replicate n false) := by
  refine ⟨by simp, fun i hi => ?_⟩
  simp [List.getD, hi]
theorem GivenI.fresh {n k i : Nat} {l : List (Int × Int)} {G : List Bool} (h : GivenI n l k G) (hp : l.Pairwise fun a b => a.2 ≠ b.2) (hk : k < l.length) (hi : i < n) (he : (l.getD k (0, 0)).2 = (i : Int)) : G.getD i false = false := by
  cases hG : G.getD i false with
  | false => rfl
  | true =>
    obtain ⟨q, hq, hq2⟩ := (h.is i hi).1 hG
    have e : l = l.take k ++ l.drop k := (List.take_append_drop k l).symm
    rw [e] at hp
    have := (List.pairwise_append.1 hp).2.2 q hq (l.getD k (0, 0)) (by rw [List.drop_eq_getElem_cons hk, List.getD, List.getElem?_eq_getElem hk]; exact List.mem_cons_self ..)
    exact absurd (hq2.trans he.symm) this
theorem GivenI.step {n k i : Nat} {l : List (Int × Int)} {G : List Bool} (h : GivenI n l k G) (hk : k < l.length) (hi : i < n) (he : (l.getD k (0, 0)).2 = (i : Int)) : GivenI n l (k + 1) (G.set i true) := by
  refine ⟨by rw [List.length_set]; exact h.len, fun j hj => ?_⟩
  have et : l.take (k + 1) = l.take k ++ [l.getD k (0, 0)] := by rw [List.take_succ_eq_append_getElem hk, List.getD, List.getElem?_eq_getElem hk]; rfl
  rw [getD_set (by rw [h.len]; exact hi), et]
  by_cases e : j = i
  · rw [if_pos e]
    exact ⟨fun _ => ⟨l.getD k (0, 0), by simp [-List.getD_eq_getElem?_getD], by rw [he, e]⟩, fun _ => rfl⟩
  · rw [if_neg e, h.is j hj]
    constructor
    · rintro ⟨q, hq, hq2⟩
      exact ⟨q, List.mem_append_left _ hq, hq2⟩
    · rintro ⟨q, hq, hq2⟩
      rcases List.mem_append.1 hq with hq | hq
      · exact ⟨q, hq, hq2⟩
      · rw [List.mem_singleton.1 hq, he] at hq2
        omega
theorem GivenI.fin {n i : Nat} {l : List (Int × Int)} {G : List Bool} (h : GivenI n l l.length G) (hi : i < n) (hG : ¬ G.getD i false = true) : ∀ q ∈ l, q.2 ≠ (i : Int) := by
  intro q hq e
  refine hG ((h.is i hi).2 ⟨q, ?_, e⟩)
  rw [List.take_length]
  exact hq
end Go.Sx
