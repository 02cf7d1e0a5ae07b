/- Layer 10: who gets what. -/
import Derived.Test.YtncflfhmdncabaaSxUState
import Derived.Test.YtncflfhmdncabaaSxUDist5
set_option linter.all false
namespace Go.Sx
/-- The first of the least, but for those below 0. -/
def minI (f : Nat → Int) : Nat → Int
  | 0 => -1
  | n + 1 => if 0 ≤ f n ∧ (minI f n = -1 ∨ f n < f (minI f n).toNat) then (n : Int) else minI f n
theorem minI_rng (f : Nat → Int) : ∀ n, minI f n = -1 ∨ (0 ≤ minI f n ∧ minI f n < n ∧ 0 ≤ f (minI f n).toNat)
  | 0 => .inl rfl
  | n + 1 => by
    have ih := minI_rng f n
    unfold minI
    split
    · rename_i h
      right
      refine ⟨by omega, by omega, ?_⟩
      rw [Int.toNat_natCast]
      exact h.1
    · rcases ih with h | ⟨h1, h2, h3⟩
      · exact .inl h
      · exact .inr ⟨h1, by omega, h3⟩
theorem minI_none (f : Nat → Int) : ∀ n, minI f n = -1 ↔ ∀ i, i < n → f i < 0
  | 0 => ⟨fun _ i hi => by omega, fun _ => rfl⟩
  | n + 1 => by
    have ih := minI_none f n
    unfold minI
    constructor
    · intro h i hi
      split at h
      · omega
      · rename_i hn
        rcases Nat.lt_succ_iff_lt_or_eq.1 hi with h' | h'
        · exact ih.1 h i h'
        · subst h'
          have : ¬ 0 ≤ f i := fun h0 => hn ⟨h0, .inl h⟩
          omega
    · intro h
      have h0 := h n (by omega)
      rw [if_neg (by omega)]
      exact ih.2 (fun i hi => h i (by omega))
theorem minI_congr {f f' : Nat → Int} : ∀ n, (∀ i, i < n → f i = f' i) → minI f n = minI f' n
  | 0, _ => rfl
  | n + 1, h => by
    have ih := minI_congr n (fun i hi => h i (by omega))
    have hr := minI_rng f n
    unfold minI
    rw [← ih, h n (by omega)]
    rcases hr with e | ⟨e1, e2, _⟩
    · simp [e]
    · rw [h (minI f n).toNat (by omega)]
def freeB (r : Rb) : Bool := decide (r.mode = 0 ∧ r.task = 0 ∧ 100 ≤ r.bat)
noncomputable def costI (g : Gr) (s : St) (fr : Int) (i : Nat) : Int := if freeB (s.r i) = true then farG g s.B (s.r i).cell fr else -1
noncomputable def costR (g : Gr) (s : St) (fr : Int) (i : Nat) : Int := if (s.r i).mode = 0 ∧ 100 ≤ (s.r i).bat then farG g s.B (s.r i).cell fr else -1
noncomputable def bestI (g : Gr) (s : St) (t : Int) : Int := if 0 ≤ t ∧ t < s.K.length ∧ (s.t t.toNat).st = 1 then minI (costI g s (s.t t.toNat).fr) s.R.length else -1
/-- Idle robots have no tasks; all stand on the floor. -/
structure Idl (g : Gr) (s : St) : Prop where
  cell : ∀ i, i < s.R.length → floorB g (s.r i).cell = true
  idle : ∀ i, i < s.R.length → (s.r i).mode = 0 → (s.r i).task = 0
theorem cost_eq {g : Gr} {s : St} (h : Idl g s) (fr : Int) {i : Nat} (hi : i < s.R.length) : costR g s fr i = costI g s fr i := by
  unfold costR costI freeB
  by_cases h0 : (s.r i).mode = 0
  · have := h.idle i hi h0
    simp [h0, this, -List.getD_eq_getElem?_getD]
  · simp [h0, -List.getD_eq_getElem?_getD]
theorem cost_eq' {g : Gr} {s : St} {i : Nat} (h : (s.R.getD i dR).mode = 0 → (s.R.getD i dR).task = 0) (fr : Int) : costR g s fr i = costI g s fr i := by
  unfold costR costI freeB
  by_cases h0 : (s.r i).mode = 0
  · have := h h0
    simp [h0, this, -List.getD_eq_getElem?_getD]
  · simp [h0, -List.getD_eq_getElem?_getD]
theorem costI_ge (g : Gr) (s : St) (fr : Int) (i : Nat) : -1 ≤ costI g s fr i := by
  unfold costI
  split
  · exact farG_ge ..
  · omega
theorem bestI_rng (g : Gr) (s : St) (t : Int) : bestI g s t = -1 ∨ (0 ≤ bestI g s t ∧ bestI g s t < s.R.length ∧ freeB (s.r (bestI g s t).toNat) = true ∧ 0 ≤ t ∧ t < s.K.length ∧ (s.t t.toNat).st = 1) := by
  unfold bestI
  split
  · rename_i h
    rcases minI_rng (costI g s (s.t t.toNat).fr) s.R.length with e | ⟨e1, e2, e3⟩
    · exact .inl e
    · right
      refine ⟨e1, e2, ?_, h⟩
      generalize minI (costI g s (s.t t.toNat).fr) s.R.length = m at *
      unfold costI at e3
      split at e3
      · assumption
      · omega
  · exact .inl rfl
def giveT (t : Tk) (k : Nat) : Tk := ⟨t.id, t.fr, t.to, 2, k⟩
def giveR (r : Rb) (id : Int) : Rb := ⟨r.cell, 1, id, r.bat, r.hold⟩
def giveS (s : St) (i k : Nat) : St := ⟨s.tick, s.R.set k (giveR (s.r k) (s.t i).id), s.K.set i (giveT (s.t i) k), s.B⟩
noncomputable def dispK (g : Gr) (s : St) : Nat → St × List (Int × Int)
  | 0 => (s, [])
  | n + 1 => if bestI g (dispK g s n).1 n = -1 then dispK g s n else (giveS (dispK g s n).1 n (bestI g (dispK g s n).1 n).toNat, (dispK g s n).2 ++ [((n : Int), bestI g (dispK g s n).1 n)])
def chargeR (r : Rb) : Rb := if r.mode = 0 ∧ r.bat < 100 then ⟨r.cell, 3, r.task, r.bat, r.hold⟩ else r
def chargeS (s : St) : St := ⟨s.tick, s.R.map chargeR, s.K, s.B⟩
noncomputable def dispS (g : Gr) (s : St) : St := chargeS (dispK g s s.K.length).1
noncomputable def dispL (g : Gr) (s : St) : List (Int × Int) := (dispK g s s.K.length).2
theorem getD_set {α : Type} {l : List α} {i j : Nat} {a d : α} (hi : i < l.length) : (l.set i a).getD j d = if j = i then a else l.getD j d := by
  simp only [List.getD, List.getElem?_set]
  by_cases h : i = j
  · subst h; simp [hi]
  · simp [h, Ne.symm h]
theorem give_r {s : St} {i k j : Nat} (hk : k < s.R.length) : (giveS s i k).r j = if j = k then giveR (s.r k) (s.t i).id else s.r j := getD_set hk
theorem give_t {s : St} {i k j : Nat} (hi : i < s.K.length) : (giveS s i k).t j = if j = i then giveT (s.t i) k else s.t j := getD_set hi
theorem charge_r {s : St} {i : Nat} (hi : i < s.R.length) : (chargeS s).r i = chargeR (s.r i) := by
  show (s.R.map chargeR).getD i dR = chargeR (s.R.getD i dR)
  simp [List.getD, hi]
theorem free_giveR (r : Rb) (id : Int) : freeB (giveR r id) = false := by simp [freeB, giveR]
theorem free_charge (r : Rb) : freeB (chargeR r) = freeB r := by
  unfold freeB chargeR
  split
  · rename_i h
    simp [h.1]
    omega
  · rfl
/-- What was given. -/
structure Giv (s p : St) (n : Nat) (l : List (Int × Int)) : Prop where
  tick : p.tick = s.tick
  B : p.B = s.B
  lenR : p.R.length = s.R.length
  lenK : p.K.length = s.K.length
  rob : ∀ i, i < s.R.length → (p.r i = s.r i ∧ ∀ q ∈ l, q.2 ≠ i) ∨ ∃ j, j < s.K.length ∧ freeB (s.r i) = true ∧ (s.t j).st = 1 ∧ p.r i = giveR (s.r i) (s.t j).id ∧ p.t j = giveT (s.t j) i
  tsk : ∀ j, j < s.K.length → p.t j = s.t j ∨ (j < n ∧ ∃ i, i < s.R.length ∧ freeB (s.r i) = true ∧ (s.t j).st = 1 ∧ p.r i = giveR (s.r i) (s.t j).id ∧ p.t j = giveT (s.t j) i)
  prs : ∀ q ∈ l, ∃ j i : Nat, q = ((j : Int), (i : Int)) ∧ i < s.R.length ∧ freeB (s.r i) = true ∧ (p.r i).mode = 1
  once : l.Pairwise fun a b => a.2 ≠ b.2
  mem : ∀ i, i < s.R.length → p.r i ≠ s.r i → ∃ q ∈ l, q.2 = (i : Int)
theorem Giv.start (s : St) : Giv s s 0 [] := ⟨rfl, rfl, rfl, rfl, fun i _ => .inl ⟨rfl, by simp⟩, fun j _ => .inl rfl, by simp, by simp, fun i _ h => absurd rfl h⟩
theorem Giv.step {s p : St} {n k : Nat} {l : List (Int × Int)} (h : Giv s p n l) (hn : n < s.K.length) (hk : k < s.R.length) (hf : freeB (p.r k) = true) (hw : (p.t n).st = 1) : Giv s (giveS p n k) (n + 1) (l ++ [((n : Int), (k : Int))]) := by
  have hk' : k < p.R.length := by rw [h.lenR]; exact hk
  have hn' : n < p.K.length := by rw [h.lenK]; exact hn
  have ek : p.r k = s.r k ∧ ∀ q ∈ l, q.2 ≠ k := by
    rcases h.rob k hk with e | ⟨j, _, _, _, e, _⟩
    · exact e
    · rw [e, free_giveR] at hf; cases hf
  have en : p.t n = s.t n := by
    rcases h.tsk n hn with e | ⟨e, _⟩
    · exact e
    · omega
  have hfk : freeB (s.r k) = true := by rw [← ek.1]; exact hf
  have hwn : (s.t n).st = 1 := by rw [← en]; exact hw
  refine ⟨h.tick, h.B, by simp [giveS, h.lenR], by simp [giveS, h.lenK], fun i hi => ?_, fun j hj => ?_, fun q hq => ?_, ?_, fun i hi hne => ?_⟩
  · rw [give_r hk']
    by_cases e : i = k
    · subst e
      right
      refine ⟨n, hn, hfk, hwn, by rw [if_pos rfl, ek.1, en], ?_⟩
      rw [give_t hn', if_pos rfl, en]
    · rw [if_neg e]
      rcases h.rob i hi with e1 | ⟨j, e1, e2, e3, e4, e5⟩
      · left
        refine ⟨e1.1, fun q hq => ?_⟩
        rcases List.mem_append.1 hq with hq | hq
        · exact e1.2 q hq
        · rw [List.mem_singleton.1 hq]
          simp only
          omega
      · right
        refine ⟨j, e1, e2, e3, e4, ?_⟩
        rw [give_t hn', if_neg]
        · exact e5
        · intro ej
          subst ej
          rw [e5] at hw
          cases hw
  · rw [give_t hn']
    by_cases e : j = n
    · subst e
      right
      refine ⟨by omega, k, hk, hfk, hwn, by rw [give_r hk', if_pos rfl, ek.1, en], by rw [if_pos rfl, en]⟩
    · rw [if_neg e]
      rcases h.tsk j hj with e1 | ⟨e0, i, e1, e2, e3, e4, e5⟩
      · exact .inl e1
      · right
        refine ⟨by omega, i, e1, e2, e3, ?_, e5⟩
        rw [give_r hk', if_neg]
        · exact e4
        · intro ei
          subst ei
          rw [e4, free_giveR] at hf
          cases hf
  · rcases List.mem_append.1 hq with hq | hq
    · obtain ⟨j, i, e1, e2, e3, e4⟩ := h.prs q hq
      refine ⟨j, i, e1, e2, e3, ?_⟩
      rw [give_r hk']
      split
      · rfl
      · exact e4
    · refine ⟨n, k, List.mem_singleton.1 hq, hk, hfk, ?_⟩
      rw [give_r hk', if_pos rfl]
      rfl
  · rw [List.pairwise_append]
    refine ⟨h.once, by simp, fun a ha b hb => ?_⟩
    rw [List.mem_singleton.1 hb]
    exact ek.2 a ha
  · rw [give_r hk'] at hne
    by_cases e : i = k
    · exact ⟨((n : Int), (k : Int)), by simp, by rw [e]⟩
    · rw [if_neg e] at hne
      obtain ⟨q, hq, hq2⟩ := h.mem i hi hne
      exact ⟨q, List.mem_append_left _ hq, hq2⟩
theorem disp_giv (g : Gr) (s : St) : ∀ n, n ≤ s.K.length → Giv s (dispK g s n).1 n (dispK g s n).2
  | 0, _ => Giv.start s
  | n + 1, hn => by
    have ih := disp_giv g s n (by omega)
    unfold dispK
    split
    · refine ⟨ih.tick, ih.B, ih.lenR, ih.lenK, ih.rob, fun j hj => ?_, ih.prs, ih.once, ih.mem⟩
      rcases ih.tsk j hj with e | ⟨e, e2⟩
      · exact .inl e
      · exact .inr ⟨by omega, e2⟩
    · rename_i hb
      rcases bestI_rng g (dispK g s n).1 n with e | ⟨e1, e2, e3, e4, e5, e6⟩
      · exact absurd e hb
      · have := ih.step (n := n) (k := (bestI g (dispK g s n).1 n).toNat) (by omega) (by rw [← ih.lenR]; omega) e3 (by simpa using e6)
        rwa [show (((bestI g (dispK g s n).1 (n : Int)).toNat : Nat) : Int) = bestI g (dispK g s n).1 (n : Int) by omega] at this
theorem giv_idl {g : Gr} {s p : St} {n : Nat} {l : List (Int × Int)} (h : Giv s p n l) (hI : Idl g s) : Idl g p := by
  refine ⟨fun i hi => ?_, fun i hi h0 => ?_⟩
  · rw [h.lenR] at hi
    rcases h.rob i hi with e | ⟨j, _, _, _, e, _⟩
    · rw [e.1]; exact hI.cell i hi
    · rw [e]; exact hI.cell i hi
  · rw [h.lenR] at hi
    rcases h.rob i hi with e | ⟨j, _, _, _, e, _⟩
    · rw [e.1] at h0 ⊢; exact hI.idle i hi h0
    · rw [e] at h0; cases h0
theorem disp_no {g : Gr} {s : St} {n : Nat} {R : List Rb} {K : List Tk} {l : List (Int × Int)} (h : dispK g s n = (⟨s.tick, R, K, s.B⟩, l)) (hb : bestI g ⟨s.tick, R, K, s.B⟩ n = -1) : dispK g s (n + 1) = (⟨s.tick, R, K, s.B⟩, l) := by
  unfold dispK
  rw [h]
  simp only
  rw [if_pos hb]
theorem disp_yes {g : Gr} {s : St} {n k : Nat} {R : List Rb} {K : List Tk} {l : List (Int × Int)} (h : dispK g s n = (⟨s.tick, R, K, s.B⟩, l)) (hb : bestI g ⟨s.tick, R, K, s.B⟩ n = k) : dispK g s (n + 1) = (⟨s.tick, R.set k (giveR (R.getD k dR) (K.getD n dT).id), K.set n (giveT (K.getD n dT) k), s.B⟩, l ++ [((n : Int), (k : Int))]) := by
  unfold dispK
  rw [h]
  simp only
  rw [hb, if_neg (by omega), Int.toNat_natCast]
  rfl
theorem disp_len (g : Gr) (s : St) : ∀ n, (dispK g s n).2.length ≤ n
  | 0 => by simp [dispK]
  | n + 1 => by
    have := disp_len g s n
    unfold dispK
    split
    · omega
    · simp; omega
def chK (R : List Rb) (k : Nat) : List Rb := (R.take k).map chargeR ++ R.drop k
theorem chK_len (R : List Rb) (k : Nat) : (chK R k).length = R.length := by simp [chK]; omega
theorem chK_at {R : List Rb} {k : Nat} : (chK R k).getD k dR = R.getD k dR := by
  simp only [chK, List.getD]
  by_cases h : k < R.length
  · rw [List.getElem?_append_right (by simp; omega)]
    simp [Nat.min_eq_left (Nat.le_of_lt h)]
  · rw [List.getElem?_eq_none (by simp; omega), List.getElem?_eq_none (by omega)]
theorem chK_set {R : List Rb} {k : Nat} (h : k < R.length) : chK R (k + 1) = (chK R k).set k (chargeR (R.getD k dR)) := by
  unfold chK
  rw [List.set_append_right _ _ (by simp; omega)]
  simp only [List.length_map, List.length_take, Nat.min_eq_left (Nat.le_of_lt h), Nat.sub_self]
  rw [List.drop_eq_getElem_cons h, List.set_cons_zero, List.take_succ_eq_append_getElem h, List.map_append, List.append_assoc]
  simp [List.getD, h]
theorem chK_no {R : List Rb} {k : Nat} (h : k < R.length) (hn : chargeR (R.getD k dR) = R.getD k dR) : chK R (k + 1) = chK R k := by
  rw [chK_set h, hn]
  apply List.ext_getElem (by simp)
  intro i h1 h2
  rw [List.getElem_set]
  split
  · rename_i e
    subst e
    have := chK_at (R := R) (k := k)
    rw [List.getD, List.getElem?_eq_getElem h2] at this
    exact this.symm
  · rfl
theorem chK_all (R : List Rb) : chK R R.length = R.map chargeR := by simp [chK]
end Go.Sx
