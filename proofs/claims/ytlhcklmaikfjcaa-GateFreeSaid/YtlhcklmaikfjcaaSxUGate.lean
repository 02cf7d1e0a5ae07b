/- Layer 8: who goes where, as lists. -/
import Derived.Test.YtlhcklmaikfjcaaSxMore
set_option linter.all false
namespace Go.Sx
def meets1 (f t : List Int) (i k : Nat) : Bool := decide (t.getD i 0 = t.getD k 0 ∨ t.getD i 0 = f.getD k 0 ∧ t.getD k 0 = f.getD i 0)
def clashK (f t : List Int) (n i : Nat) : List Nat := (List.range n).filter fun k => decide (i < k) && meets1 f t i k
/-- From robot i on. -/
def clashGo (f t : List Int) (n : Nat) : Nat → Nat → Int × Int
  | 0, _ => (-1, -1)
  | m + 1, i => match clashK f t n i with
    | k :: _ => ((i : Int), (k : Int))
    | [] => clashGo f t n m (i + 1)
def clashB (f t : List Int) : Int × Int := clashGo f t (min f.length t.length) (min f.length t.length) 0

def against (c w : List Int) (i k : Nat) : Bool :=
  decide (k ≠ i ∧ (w.getD k 0 = c.getD k 0 ∧ c.getD k 0 = w.getD i 0 ∨ w.getD k 0 ≠ c.getD k 0 ∧ w.getD k 0 = w.getD i 0 ∧ k < i ∨ c.getD k 0 = w.getD i 0 ∧ w.getD k 0 = c.getD i 0))
def kept1 (c bl w : List Int) (i : Nat) : Bool :=
  decide (w.getD i 0 ≠ c.getD i 0) && (decide (w.getD i 0 ∈ bl) || (List.range c.length).any (against c w i))
def round1 (c bl w : List Int) : List Int := (List.range c.length).map fun i => if kept1 c bl w i then c.getD i 0 else w.getD i 0
def gateGo (c bl : List Int) : Nat → List Int → List Int
  | 0, w => w
  | f + 1, w => if (List.range c.length).any (kept1 c bl w) then gateGo c bl f (round1 c bl w) else w
def gateB (c w bl : List Int) : List Int × Int := if c.length ≠ w.length then ([], 1) else if ¬ c.Nodup then ([], 6) else (gateGo c bl (c.length + 1) w, 0)

/-- How many want to go. -/
def movers (c w : List Int) : Nat := ((List.range c.length).filter fun i => decide (w.getD i 0 ≠ c.getD i 0)).length
theorem round1_len (c bl w : List Int) : (round1 c bl w).length = c.length := by simp [round1]
theorem round1_get (c bl w : List Int) (i : Nat) (h : i < c.length) : (round1 c bl w).getD i 0 = if kept1 c bl w i then c.getD i 0 else w.getD i 0 := by
  simp [round1, List.getD, h]
theorem filter_lt {l : List Nat} {p q : Nat → Bool} (h : ∀ x ∈ l, q x = true → p x = true) {y : Nat} (hy : y ∈ l) (h1 : p y = true) (h2 : q y = false) : (l.filter q).length < (l.filter p).length := by
  induction l with
  | nil => simp at hy
  | cons x l ih =>
    have hle : (l.filter q).length ≤ (l.filter p).length := by
      clear ih hy
      induction l with
      | nil => simp
      | cons z l ih =>
        have := ih (fun x hx => h x (by simp at hx ⊢; rcases hx with rfl | hx <;> simp_all))
        simp only [List.filter_cons]
        have hz := h z (by simp)
        cases hq : q z <;> cases hp : p z <;> simp_all <;> omega
    simp only [List.filter_cons]
    rcases List.mem_cons.1 hy with rfl | hy
    · simp [h1, h2]; omega
    · have := ih (fun x hx => h x (by simp [hx])) hy
      have hx := h x (by simp)
      cases hq : q x <;> cases hp : p x <;> simp_all <;> omega
theorem movers_round (c bl w : List Int) (h : (List.range c.length).any (kept1 c bl w) = true) : movers c (round1 c bl w) < movers c w := by
  obtain ⟨i, hi, hk⟩ := List.any_eq_true.1 h
  refine filter_lt (y := i) (fun x hx hq => ?_) hi ?_ ?_
  · have hx' : x < c.length := by simpa using hx
    simp only [round1_get c bl w x hx'] at hq
    split at hq
    · simp at hq
    · exact hq
  · simp only [kept1, Bool.and_eq_true] at hk
    exact hk.1
  · have hi' : i < c.length := by simpa using hi
    have := round1_get c bl w i hi'
    rw [if_pos hk] at this
    rw [this]
    simp
theorem movers_le (c w : List Int) : movers c w ≤ c.length := by
  unfold movers
  exact Nat.le_trans (List.length_filter_le _ _) (by simp)
/-- Who is the first that wants to go to a cell, of the first k. -/
def firstG (c w : List Int) : Nat → List (Int × Int)
  | 0 => []
  | k + 1 => if (mget (firstG c w k) (w.getD k 0)).isNone ∧ w.getD k 0 ≠ c.getD k 0 then mset (firstG c w k) (w.getD k 0) (k : Int) else firstG c w k
/-- Whether a robot is kept, as the crowd's maps tell it. -/
def keptG (c w : List Int) (who first : List (Int × Int)) (shut : List (Int × Bool)) (i : Nat) : Bool :=
  (w.getD i 0 != c.getD i 0) && (((mget shut (w.getD i 0)).getD false || ((mget first (w.getD i 0)).getD 0 != (i : Int))) ||
    ((mget who (w.getD i 0)).isSome && (!(w.getD ((mget who (w.getD i 0)).getD 0).toNat 0 != c.getD ((mget who (w.getD i 0)).getD 0).toNat 0) || (w.getD ((mget who (w.getD i 0)).getD 0).toNat 0 == c.getD i 0))))
def shutG : List Int → List (Int × Bool) → List (Int × Bool)
  | [], es => es
  | x :: bl, es => shutG bl (mset es x true)
theorem shutG_get (x : Int) : ∀ (bl : List Int) (es : List (Int × Bool)), (mget (shutG bl es) x).getD false = (decide (x ∈ bl) || (mget es x).getD false)
  | [], es => by simp [shutG]
  | y :: bl, es => by
    rw [shutG, shutG_get x bl, mget_mset]
    by_cases h : x = y
    · subst h; simp
    · simp [h]
def whoG (c : List Int) : Nat → List (Int × Int)
  | 0 => []
  | k + 1 => mset (whoG c k) (c.getD k 0) (k : Int)
theorem whoG_some (c : List Int) (x v : Int) : ∀ k, mget (whoG c k) x = some v → ∃ j : Nat, j < k ∧ v = j ∧ c.getD j 0 = x
  | 0, h => by simp [whoG, mget_nil] at h
  | k + 1, h => by
    rw [whoG, mget_mset] at h
    split at h
    · rename_i e
      simp at h
      exact ⟨k, by omega, h.symm, e.symm⟩
    · obtain ⟨j, h1, h2⟩ := whoG_some c x v k h
      exact ⟨j, by omega, h2⟩
theorem whoG_none (c : List Int) (x : Int) : ∀ k, mget (whoG c k) x = none → ∀ j, j < k → c.getD j 0 ≠ x
  | 0, _, j, hj => by omega
  | k + 1, h, j, hj => by
    rw [whoG, mget_mset] at h
    split at h
    · cases h
    · rename_i e
      rcases Nat.lt_succ_iff_lt_or_eq.1 hj with h' | h'
      · exact whoG_none c x k h j h'
      · subst h'; exact fun e' => e e'.symm
theorem firstG_spec (c w : List Int) (x : Int) : ∀ k, match mget (firstG c w k) x with
    | none => ∀ j, j < k → ¬ (w.getD j 0 = x ∧ w.getD j 0 ≠ c.getD j 0)
    | some v => ∃ j : Nat, j < k ∧ v = j ∧ w.getD j 0 = x ∧ w.getD j 0 ≠ c.getD j 0 ∧ ∀ j', j' < j → ¬ (w.getD j' 0 = x ∧ w.getD j' 0 ≠ c.getD j' 0)
  | 0 => by simp [firstG, mget_nil]
  | k + 1 => by
    have ih := firstG_spec c w x k
    rw [firstG]
    by_cases hc : (mget (firstG c w k) (w.getD k 0)).isNone = true ∧ w.getD k 0 ≠ c.getD k 0
    · rw [if_pos hc, mget_mset]
      by_cases hx : x = w.getD k 0
      · subst hx
        rw [if_pos rfl]
        have hn : mget (firstG c w k) (w.getD k 0) = none := by simpa using hc.1
        rw [hn] at ih
        exact ⟨k, by omega, rfl, rfl, hc.2, ih⟩
      · rw [if_neg hx]
        cases hg : mget (firstG c w k) x with
        | none =>
          rw [hg] at ih
          intro j hj
          rcases Nat.lt_succ_iff_lt_or_eq.1 hj with h | h
          · exact ih j h
          · subst h; exact fun h => hx h.1.symm
        | some v =>
          rw [hg] at ih
          obtain ⟨j, h1, h2⟩ := ih
          exact ⟨j, by omega, h2⟩
    · rw [if_neg hc]
      cases hg : mget (firstG c w k) x with
      | none =>
        rw [hg] at ih
        intro j hj
        rcases Nat.lt_succ_iff_lt_or_eq.1 hj with h | h
        · exact ih j h
        · subst h
          intro h
          exact hc ⟨by rw [h.1, hg]; rfl, h.2⟩
      | some v =>
        rw [hg] at ih
        obtain ⟨j, h1, h2⟩ := ih
        exact ⟨j, by omega, h2⟩

theorem List.Nodup.getElem_inj_iff' {c : List Int} (h : c.Nodup) {i j : Nat} (hi : i < c.length) (hj : j < c.length) (e : c[i] = c[j]) : i = j := by
  rcases Nat.lt_trichotomy i j with h' | h' | h'
  · exact absurd e (List.pairwise_iff_getElem.1 h i j hi hj h')
  · exact h'
  · exact absurd e.symm (List.pairwise_iff_getElem.1 h j i hj hi h')
theorem nodup_getD {c : List Int} (h : c.Nodup) {i j : Nat} (hi : i < c.length) (hj : j < c.length) (e : c.getD i 0 = c.getD j 0) : i = j := by
  simp only [List.getD, List.getElem?_eq_getElem hi, List.getElem?_eq_getElem hj, Option.getD_some] at e
  exact (List.Nodup.getElem_inj_iff' h hi hj e)
theorem keptG_eq (c bl w : List Int) (hl : c.length = w.length) (hn : c.Nodup) (i : Nat) (hi : i < c.length) : keptG c w (whoG c c.length) (firstG c w w.length) (shutG bl []) i = kept1 c bl w i := by
  unfold keptG kept1
  by_cases hm : w.getD i 0 = c.getD i 0
  · have e1 : (w.getD i 0 != c.getD i 0) = false := by rw [hm]; simp
    have e2 : decide (w.getD i 0 ≠ c.getD i 0) = false := by rw [hm]; simp
    rw [e1, e2, Bool.false_and, Bool.false_and]
  have hf := firstG_spec c w (w.getD i 0) w.length
  rw [shutG_get]
  have hm' : (w.getD i 0 != c.getD i 0) = true := by simpa using hm
  rw [hm', Bool.true_and, decide_eq_true hm, Bool.true_and]
  simp only [mget_nil, Option.getD_none, Bool.or_false]
  cases hb : decide (w.getD i 0 ∈ bl) with
  | true => simp
  | false =>
    rw [Bool.false_or, Bool.false_or]
    rw [Bool.eq_iff_iff]
    simp only [Bool.or_eq_true, Bool.and_eq_true, List.any_eq_true, List.mem_range, against, decide_eq_true_eq, bne_iff_ne, Bool.not_eq_true', beq_iff_eq]
    cases hfi : mget (firstG c w w.length) (w.getD i 0) with
    | none =>
      rw [hfi] at hf
      exact absurd ⟨rfl, hm⟩ (hf i (by omega))
    | some v =>
      rw [hfi] at hf
      obtain ⟨j, hj1, rfl, hj2, hj3, hj4⟩ := hf
      simp only [Option.getD_some]
      have hji : j ≤ i := by
        rcases Nat.lt_or_ge i j with h | h
        · exact absurd ⟨rfl, hm⟩ (hj4 i h)
        · exact h
      constructor
      · rintro (h | ⟨h1, h2⟩)
        · exact ⟨j, by omega, by omega, .inr (.inl ⟨hj3, hj2, by omega⟩)⟩
        · cases hw : mget (whoG c c.length) (w.getD i 0) with
          | none => rw [hw] at h1; cases h1
          | some k =>
            obtain ⟨k', hk1, rfl, hk2⟩ := whoG_some c _ _ _ hw
            rw [hw] at h2
            simp only [Option.getD_some, Int.toNat_natCast] at h2
            have hki : k' ≠ i := fun e => by subst e; exact hm hk2.symm
            rcases h2 with h2 | h2
            · have h2' : w.getD k' 0 = c.getD k' 0 := by simpa using h2
              exact ⟨k', hk1, hki, .inl ⟨h2', hk2⟩⟩
            · exact ⟨k', hk1, hki, .inr (.inr ⟨hk2, h2⟩)⟩
      · rintro ⟨k, hk, hki, h⟩
        have who : c.getD k 0 = w.getD i 0 → mget (whoG c c.length) (w.getD i 0) = some (k : Int) := by
          intro h
          cases hw : mget (whoG c c.length) (w.getD i 0) with
          | none => exact absurd h (whoG_none c _ _ hw k hk)
          | some k2 =>
            obtain ⟨k', hk1, rfl, hk2⟩ := whoG_some c _ _ _ hw
            rw [nodup_getD hn hk1 hk (hk2.trans h.symm)]
        rcases h with ⟨h1, h2⟩ | ⟨h1, h2, h3⟩ | ⟨h1, h2⟩
        · right
          rw [who h2]
          simp only [Option.isSome_some, Option.getD_some, Int.toNat_natCast]
          exact ⟨trivial, .inl (by rw [h1]; simp)⟩
        · left
          intro e
          have : j = i := by omega
          subst this
          exact hj4 k h3 ⟨h2, h1⟩
        · right
          rw [who h1]
          simp only [Option.isSome_some, Option.getD_some, Int.toNat_natCast]
          exact ⟨trivial, .inr h2⟩
def setL (c : List Int) : List Nat → List Int → List Int
  | [], w => w
  | i :: l, w => setL c l (w.set i (c.getD i 0))
theorem setL_len (c : List Int) : ∀ (l : List Nat) (w : List Int), (setL c l w).length = w.length
  | [], w => rfl
  | i :: l, w => by rw [setL, setL_len c l]; simp
theorem setL_get (c : List Int) (k : Nat) : ∀ (l : List Nat) (w : List Int), k < w.length → (setL c l w).getD k 0 = if k ∈ l then c.getD k 0 else w.getD k 0
  | [], w, _ => by simp [setL]
  | i :: l, w, hk => by
    rw [setL, setL_get c k l _ (by simpa using hk)]
    by_cases h : k = i
    · subst h
      simp [List.getD, hk]
    · have : (w.set i (c.getD i 0)).getD k 0 = w.getD k 0 := by simp [List.getD, List.getElem?_set_ne (Ne.symm h)]
      rw [this]
      simp [h]
theorem ext_getD {a b : List Int} (hl : a.length = b.length) (h : ∀ i, i < a.length → a.getD i 0 = b.getD i 0) : a = b :=
  List.ext_getElem hl (fun i h1 h2 => by have := h i h1; simpa [List.getD, h1, h2] using this)
theorem setL_round (c bl w : List Int) (hl : c.length = w.length) : setL c ((List.range c.length).filter (kept1 c bl w)) w = round1 c bl w := by
  refine ext_getD (by rw [setL_len, round1_len, hl]) (fun i hi => ?_)
  rw [setL_len] at hi
  rw [setL_get c i _ w hi, round1_get c bl w i (by omega)]
  simp [show i < c.length by omega]
theorem any_filter {l : List Nat} {p : Nat → Bool} : l.any p = !(l.filter p).isEmpty := by
  induction l with
  | nil => rfl
  | cons x l ih => simp only [List.any_cons, List.filter_cons]; cases h : p x <;> simp [ih]
theorem filter_congr' {l : List Nat} {p q : Nat → Bool} (h : ∀ x ∈ l, p x = q x) : l.filter p = l.filter q := List.filter_congr h
theorem not_nodup_take {c : List Int} {k : Nat} (hk : k < c.length) (h : c.getD k 0 ∈ c.take k) : ¬ c.Nodup := by
  intro hn
  have : c = c.take k ++ c.drop k := (List.take_append_drop k c).symm
  rw [this] at hn
  refine (List.nodup_append.1 hn).2.2 _ h _ ?_ rfl
  have e : c.drop k = c[k] :: c.drop (k + 1) := List.drop_eq_getElem_cons hk
  rw [List.getD, List.getElem?_eq_getElem hk, Option.getD_some, e]
  exact List.mem_cons_self ..
theorem nodup_take_succ {c : List Int} {k : Nat} (hk : k < c.length) (hn : (c.take k).Nodup) (h : c.getD k 0 ∉ c.take k) : (c.take (k + 1)).Nodup := by
  rw [List.take_add_one, List.getElem?_eq_getElem hk]
  rw [List.getD, List.getElem?_eq_getElem hk] at h
  refine List.nodup_append.2 ⟨hn, by simp, fun a ha b hb e => ?_⟩
  simp at hb
  subst hb
  subst e
  exact h (by simpa using ha)
theorem mem_take_getD {c : List Int} {k : Nat} {x : Int} (h : x ∈ c.take k) : ∃ j, j < k ∧ j < c.length ∧ c.getD j 0 = x := by
  obtain ⟨j, hj, e⟩ := List.mem_iff_getElem.1 h
  simp at hj
  refine ⟨j, by omega, by omega, ?_⟩
  rw [List.getElem_take] at e
  rw [List.getD, List.getElem?_eq_getElem (by omega), ← e]
  rfl
theorem getD_mem_take {c : List Int} {j k : Nat} (hj : j < k) (hk : k ≤ c.length) : c.getD j 0 ∈ c.take k := by
  rw [List.getD, List.getElem?_eq_getElem (by omega)]
  exact List.mem_iff_getElem.2 ⟨j, by simp; omega, by simp [List.getElem_take]⟩
theorem setL_snoc (c : List Int) (i : Nat) : ∀ (l : List Nat) (w : List Int), setL c (l ++ [i]) w = (setL c l w).set i (c.getD i 0)
  | [], w => rfl
  | j :: l, w => by rw [List.cons_append, setL, setL, setL_snoc c i l]
theorem filter_least {p : Nat → Bool} : ∀ {n k : Nat}, k < n → p k = true → (∀ j, j < k → p j = false) → ∃ l, (List.range n).filter p = k :: l := by
  intro n
  induction n with
  | zero => intro k h; omega
  | succ n ih =>
    intro k hk hp hn
    rw [List.range_succ, List.filter_append]
    rcases Nat.lt_succ_iff_lt_or_eq.1 hk with h | h
    · obtain ⟨l, e⟩ := ih h hp hn
      exact ⟨l ++ [n].filter p, by rw [e]; rfl⟩
    · subst h
      have : (List.range k).filter p = [] := List.filter_eq_nil_iff.2 fun j hj => by rw [hn j (by simpa using hj)]; simp
      exact ⟨[], by rw [this]; simp [hp]⟩
theorem filter_none {p : Nat → Bool} {n : Nat} (h : ∀ j, j < n → p j = false) : (List.range n).filter p = [] := List.filter_eq_nil_iff.2 fun j hj => by rw [h j (by simpa using hj)]; simp
theorem gateGo_len (c bl : List Int) : ∀ (f : Nat) (w : List Int), w.length = c.length → (gateGo c bl f w).length = c.length
  | 0, w, h => h
  | f + 1, w, h => by
    rw [gateGo]
    split
    · exact gateGo_len c bl f _ (round1_len ..)
    · exact h
theorem gateGo_done (c bl : List Int) : ∀ (f : Nat) (w : List Int), movers c w < f → ∀ i, i < c.length → kept1 c bl (gateGo c bl f w) i = false
  | 0, w, h, _, _ => by omega
  | f + 1, w, h, i, hi => by
    rw [gateGo]
    split
    · rename_i hk
      exact gateGo_done c bl f _ (by have := movers_round c bl w hk; omega) i hi
    · rename_i hk
      cases hb : kept1 c bl w i with
      | false => rfl
      | true => exact absurd (List.any_eq_true.2 ⟨i, by simpa using hi, hb⟩) hk
theorem gateGo_of (c bl w0 : List Int) : ∀ (f : Nat) (w : List Int), (∀ i, i < c.length → w.getD i 0 = w0.getD i 0 ∨ w.getD i 0 = c.getD i 0) → ∀ i, i < c.length → (gateGo c bl f w).getD i 0 = w0.getD i 0 ∨ (gateGo c bl f w).getD i 0 = c.getD i 0
  | 0, w, h => h
  | f + 1, w, h => by
    rw [gateGo]
    split
    · refine gateGo_of c bl w0 f _ (fun i hi => ?_)
      rw [round1_get c bl w i hi]
      split
      · exact .inr rfl
      · exact h i hi
    · exact h
theorem kept1_free {c bl w w0 : List Int} {i : Nat} (h : ∀ i, i < c.length → w.getD i 0 = w0.getD i 0 ∨ w.getD i 0 = c.getD i 0) (hw : w.getD i 0 = w0.getD i 0)
    (h1 : ∀ k, k < c.length → c.getD k 0 ≠ w0.getD i 0) (h2 : ∀ k, k < c.length → k ≠ i → w0.getD k 0 ≠ w0.getD i 0) (h3 : w0.getD i 0 ∉ bl) : kept1 c bl w i = false := by
  cases hb : kept1 c bl w i with
  | false => rfl
  | true =>
    exfalso
    simp only [kept1, Bool.and_eq_true, Bool.or_eq_true, decide_eq_true_eq, List.any_eq_true, List.mem_range, against, hw] at hb
    obtain ⟨_, hb | ⟨k, hk, hki, hb⟩⟩ := hb
    · exact h3 hb
    · rcases hb with ⟨_, hb⟩ | ⟨ha, hb, _⟩ | ⟨hb, _⟩
      · exact h1 k hk hb
      · rcases h k hk with e | e
        · exact h2 k hk hki (e.symm.trans hb)
        · exact ha e
      · exact h1 k hk hb
theorem gateGo_free (c bl w0 : List Int) (i : Nat) (hi : i < c.length) (h1 : ∀ k, k < c.length → c.getD k 0 ≠ w0.getD i 0) (h2 : ∀ k, k < c.length → k ≠ i → w0.getD k 0 ≠ w0.getD i 0) (h3 : w0.getD i 0 ∉ bl) :
    ∀ (f : Nat) (w : List Int), (∀ i, i < c.length → w.getD i 0 = w0.getD i 0 ∨ w.getD i 0 = c.getD i 0) → w.getD i 0 = w0.getD i 0 → (gateGo c bl f w).getD i 0 = w0.getD i 0
  | 0, w, _, hw => hw
  | f + 1, w, h, hw => by
    rw [gateGo]
    split
    · refine gateGo_free c bl w0 i hi h1 h2 h3 f _ (fun j hj => ?_) ?_
      · rw [round1_get c bl w j hj]
        split
        · exact .inr rfl
        · exact h j hj
      · rw [round1_get c bl w i hi, kept1_free h hw h1 h2 h3]
        exact hw
    · exact hw
/-- What comes of a gate. -/
structure Gated (c w bl a : List Int) : Prop where
  len : a.length = c.length
  wlen : w.length = c.length
  nodup : c.Nodup
  of : ∀ i, i < c.length → a.getD i 0 = w.getD i 0 ∨ a.getD i 0 = c.getD i 0
  done : ∀ i, i < c.length → kept1 c bl a i = false
  free : ∀ i, i < c.length → (∀ k, k < c.length → c.getD k 0 ≠ w.getD i 0) → (∀ k, k < c.length → k ≠ i → w.getD k 0 ≠ w.getD i 0) → w.getD i 0 ∉ bl → a.getD i 0 = w.getD i 0
theorem gateB_gated {c w bl : List Int} (h : (gateB c w bl).2 = 0) : Gated c w bl (gateB c w bl).1 := by
  unfold gateB at h ⊢
  split at h
  · cases h
  · rename_i h1
    split at h
    · cases h
    · rename_i h2
      rw [if_neg h1, if_neg h2]
      exact ⟨gateGo_len c bl _ w (by omega), by omega, by simpa using h2, gateGo_of c bl w _ w (fun i _ => .inl rfl), gateGo_done c bl _ w (by have := movers_le c w; omega),
        fun i hi k1 k2 k3 => gateGo_free c bl w i hi k1 k2 k3 _ w (fun i _ => .inl rfl) rfl⟩
theorem gateB_err {c w bl : List Int} (h : (gateB c w bl).2 ≠ 0) : (gateB c w bl).1 = [] := by
  unfold gateB at h ⊢
  split
  · rfl
  · rename_i h1
    rw [if_neg h1] at h
    split
    · rfl
    · rename_i h2
      rw [if_neg h2] at h
      exact absurd rfl h
theorem Gated.bl_ok {c w bl a : List Int} (h : Gated c w bl a) {i : Nat} (hi : i < c.length) (hm : a.getD i 0 ≠ c.getD i 0) : a.getD i 0 ∉ bl := by
  have := h.done i hi
  simp only [kept1, decide_eq_true hm, Bool.true_and, Bool.or_eq_false_iff, decide_eq_false_iff_not] at this
  exact this.1
theorem Gated.against_no {c w bl a : List Int} (h : Gated c w bl a) {i k : Nat} (hi : i < c.length) (hk : k < c.length) (hm : a.getD i 0 ≠ c.getD i 0) : ¬ (k ≠ i ∧ (a.getD k 0 = c.getD k 0 ∧ c.getD k 0 = a.getD i 0 ∨ a.getD k 0 ≠ c.getD k 0 ∧ a.getD k 0 = a.getD i 0 ∧ k < i ∨ c.getD k 0 = a.getD i 0 ∧ a.getD k 0 = c.getD i 0)) := by
  have := h.done i hi
  simp only [kept1, decide_eq_true hm, Bool.true_and, Bool.or_eq_false_iff, List.any_eq_false, List.mem_range, against, decide_eq_true_eq] at this
  exact this.2 k hk
theorem Gated.meet {c w bl a : List Int} (h : Gated c w bl a) {i k : Nat} (hi : i < c.length) (hk : k < c.length) (hne : k ≠ i) : meets1 c a i k = false := by
  have dist : c.getD i 0 ≠ c.getD k 0 := fun e => hne (nodup_getD h.nodup hi hk e).symm
  rw [meets1, decide_eq_false_iff_not]
  by_cases mi : a.getD i 0 = c.getD i 0
  · by_cases mk : a.getD k 0 = c.getD k 0
    · rintro (e | ⟨e, _⟩)
      · exact dist (mi.symm.trans (e.trans mk))
      · exact dist (mi.symm.trans e)
    · have := h.against_no hk hi mk
      rintro (e | ⟨e, _⟩)
      · exact this ⟨Ne.symm hne, .inl ⟨mi, mi.symm.trans e⟩⟩
      · exact dist (mi.symm.trans e)
  · have h1 := h.against_no hi hk mi
    rintro (e | ⟨e, e2⟩)
    · by_cases mk : a.getD k 0 = c.getD k 0
      · exact h1 ⟨hne, .inl ⟨mk, mk.symm.trans e.symm⟩⟩
      · rcases Nat.lt_or_ge k i with hlt | hge
        · exact h1 ⟨hne, .inr (.inl ⟨mk, e.symm, hlt⟩)⟩
        · exact h.against_no hk hi mk ⟨Ne.symm hne, .inr (.inl ⟨mi, e, by omega⟩)⟩
    · exact h1 ⟨hne, .inr (.inr ⟨e.symm, e2⟩)⟩
theorem clashGo_none {f t : List Int} {n : Nat} (h : ∀ i k, i < n → k < n → i < k → meets1 f t i k = false) : ∀ m i, m + i ≤ n → clashGo f t n m i = (-1, -1)
  | 0, _, _ => rfl
  | m + 1, i, hm => by
    have : clashK f t n i = [] := filter_none fun k hk => by
      by_cases hik : i < k
      · rw [h i k (by omega) hk hik, Bool.and_false]
      · rw [decide_eq_false hik, Bool.false_and]
    rw [clashGo, this]
    exact clashGo_none h m (i + 1) (by omega)
theorem Gated.clash {c w bl a : List Int} (h : Gated c w bl a) : clashB c a = (-1, -1) := by
  unfold clashB
  have hl := h.len
  rw [show min c.length a.length = c.length by omega]
  exact clashGo_none (fun i k hi hk hik => h.meet hi hk (by omega)) _ _ (by omega)
theorem Gated.again {c w bl a : List Int} (h : Gated c w bl a) : gateB c a bl = (a, 0) := by
  have hl := h.len
  rw [gateB, if_neg (by omega), if_neg (by simpa using h.nodup), gateGo, if_neg]
  intro hk
  obtain ⟨i, hi, hk⟩ := List.any_eq_true.1 hk
  rw [h.done i (by simpa using hi)] at hk
  cases hk
theorem gateB_len (c w bl : List Int) : (gateB c w bl).1.length ≤ c.length := by
  by_cases h : (gateB c w bl).2 = 0
  · rw [(gateB_gated h).len]; exact Nat.le_refl _
  · rw [gateB_err h]; exact Nat.zero_le _
end Go.Sx
