/- Layer 12: by which ways robots go, and to which cells. -/
import Derived.Test.YtmnnejkcgdfjiaaSxUGrid
set_option linter.all false
namespace Go.Sx
abbrev DLL (l : List (List Int)) : AV := .d false 1 (encL 1 (encI .i64) 0) [] l
def encP2 (p : Int × Int) (j : Nat) : DV := match j with
  | 0 => .v (.int .i64 p.1)
  | _ => .v (.int .i64 p.2)
theorem ext_getD {α : Type} {a b : List α} (d : α) (hl : a.length = b.length) (h : ∀ i, i < a.length → a.getD i d = b.getD i d) : a = b :=
  List.ext_getElem hl (fun i h1 h2 => by have := h i h1; rw [List.getD, List.getD, List.getElem?_eq_getElem h1, List.getElem?_eq_getElem h2] at this; exact this)
theorem getD_mem {α : Type} {a : List α} {d : α} {i : Nat} (h : i < a.length) : a.getD i d ∈ a := by rw [List.getD, List.getElem?_eq_getElem h]; exact List.getElem_mem _
theorem mem_getD {α : Type} {a : List α} {d x : α} (h : x ∈ a) : ∃ i, i < a.length ∧ a.getD i d = x := by obtain ⟨i, hi, rfl⟩ := List.getElem_of_mem h; exact ⟨i, hi, by rw [List.getD, List.getElem?_eq_getElem hi]; rfl⟩
def waysL (g : Gr) (c : Int) : List Nat := (List.range 5).filter fun w : Nat => (goesB g c w).isSome
theorem waysL_len (g : Gr) (c : Int) : (waysL g c).length ≤ 5 := Nat.le_trans (List.length_filter_le _ _) (by simp)
def wayTo (g : Gr) (c x : Int) : Option Int := ((waysL g c).find? fun w : Nat => decide ((goesB g c w).getD 0 = x)).map Int.ofNat
def refWay (g : Gr) (c x : Int) : Nat → Int → Int
  | 0, w => w
  | k + 1, w => refWay g c x k (if (goesB g c k).isSome ∧ (goesB g c k).getD 0 = x then (k : Int) else w)
theorem refWay_find (g : Gr) (c x : Int) : ∀ (k : Nat) (w : Int), refWay g c x k w = match ((List.range k).filter fun w : Nat => (goesB g c w).isSome).find? fun w : Nat => decide ((goesB g c w).getD 0 = x) with | some j => (j : Int) | none => w
  | 0, w => rfl
  | k + 1, w => by
    rw [refWay, refWay_find g c x k, List.range_succ, List.filter_append, List.find?_append]
    cases hf : ((List.range k).filter fun w : Nat => (goesB g c w).isSome).find? fun w : Nat => decide ((goesB g c w).getD 0 = x) with
    | some j => rfl
    | none =>
      simp only [Option.none_or]
      by_cases h1 : (goesB g c k).isSome = true
      · by_cases h2 : (goesB g c k).getD 0 = x
        · rw [if_pos ⟨h1, h2⟩, List.filter_cons, if_pos h1]
          simp [h2]
        · rw [if_neg (fun h => h2 h.2), List.filter_cons, if_pos h1]
          simp [h2]
      · rw [if_neg (fun h => h1 h.1), List.filter_cons, if_neg h1]
        simp
theorem refWay_to (g : Gr) (c x : Int) : refWay g c x 5 (-1) = (wayTo g c x).getD (-1) := by
  rw [refWay_find, wayTo, waysL]
  cases ((List.range 5).filter fun w : Nat => (goesB g c w).isSome).find? fun w : Nat => decide ((goesB g c w).getD 0 = x) <;> rfl
theorem wayTo_some {g : Gr} {c x w : Int} (h : wayTo g c x = some w) : goesB g c w = some x ∧ 0 ≤ w ∧ w ≤ 4 := by
  unfold wayTo at h
  rw [Option.map_eq_some_iff] at h
  obtain ⟨a, h1, rfl⟩ := h
  have h2 := List.find?_some h1
  have h3 := List.mem_of_find?_eq_some h1
  simp only [waysL, List.mem_filter, List.mem_range] at h3
  simp only [decide_eq_true_eq] at h2
  refine ⟨?_, by simp, by simp; omega⟩
  show goesB g c (a : Int) = some x
  cases hg : goesB g c (a : Int) with
  | none => rw [hg] at h3; simp at h3
  | some y => rw [hg] at h2; simp at h2; rw [h2]
/-- Ways that go are found. -/
theorem wayTo_goes {g : Gr} {c x k : Int} (h : goesB g c k = some x) (h0 : 0 ≤ k) (h4 : k ≤ 4) : ∃ w, wayTo g c x = some w ∧ w ≤ k := by
  obtain ⟨n, rfl⟩ := Int.eq_ofNat_of_zero_le h0
  have hn : n < 5 := by omega
  have hmem : n ∈ waysL g c := by simp [waysL, hn, h]
  have hp : decide ((goesB g c (n : Int)).getD 0 = x) = true := by simp [h]
  cases hf : (waysL g c).find? fun w : Nat => decide ((goesB g c w).getD 0 = x) with
  | none => exact absurd hp (by simpa using (List.find?_eq_none.1 hf) n hmem)
  | some j =>
    refine ⟨(j : Int), by rw [wayTo, hf]; rfl, ?_⟩
    have h1 : ∀ (l : List Nat) (p : Nat → Bool), l.Pairwise (· < ·) → l.find? p = some j → n ∈ l → p n = true → j ≤ n := by
      intro l p
      induction l with
      | nil => intro _ h; simp at h
      | cons a l ih =>
        intro hs hf hm hp
        rw [List.find?_cons] at hf
        split at hf
        · simp only [Option.some.injEq] at hf
          subst hf
          rcases List.mem_cons.1 hm with rfl | hm
          · exact Nat.le_refl _
          · exact Nat.le_of_lt ((List.pairwise_cons.1 hs).1 _ hm)
        · rename_i hpa
          rcases List.mem_cons.1 hm with rfl | hm
          · rw [hp] at hpa; cases hpa
          · exact ih (List.pairwise_cons.1 hs).2 hf hm hp
    have := h1 (waysL g c) _ (by
      unfold waysL
      exact List.Pairwise.filter _ (List.pairwise_lt_range)) hf hmem hp
    omega

/-! ### All robots -/
def allM (q : Int → Int → Option Int) : List Int → List Int → Option (List Int)
  | [], [] => some []
  | x :: xs, y :: ys => match q x y with
    | some z => (allM q xs ys).map (z :: ·)
    | none => none
  | _, _ => none
/-- What is gone through, till one goes nowhere. -/
def allP (q : Int → Int → Option Int) : List Int → List Int → List Int
  | x :: xs, y :: ys => match q x y with
    | some z => z :: allP q xs ys
    | none => []
  | _, _ => []
def oL (o : Option (List Int)) : List Int := o.getD []
def oE (o : Option (List Int)) : Int := if o.isSome then 0 else 1
theorem oE_none : oE none = 1 := rfl
theorem oE_some (l : List Int) : oE (some l) = 0 := rfl
theorem oL_none : oL none = [] := rfl
theorem oL_some (l : List Int) : oL (some l) = l := rfl
theorem allM_len {q : Int → Int → Option Int} : ∀ {xs ys l : List Int}, allM q xs ys = some l → l.length = xs.length ∧ l.length = ys.length
  | [], [], l, h => by simp [allM] at h; subst h; simp
  | [], _ :: _, l, h => by simp [allM] at h
  | _ :: _, [], l, h => by simp [allM] at h
  | x :: xs, y :: ys, l, h => by
    simp only [allM] at h
    split at h
    · rw [Option.map_eq_some_iff] at h
      obtain ⟨a, h1, rfl⟩ := h
      have := allM_len h1
      simp; omega
    · cases h
theorem allM_ne {q : Int → Int → Option Int} {xs ys : List Int} (h : xs.length ≠ ys.length) : allM q xs ys = none := by
  cases hm : allM q xs ys with
  | none => rfl
  | some l => have := allM_len hm; omega
theorem allP_le {q : Int → Int → Option Int} : ∀ xs ys : List Int, (allP q xs ys).length ≤ xs.length
  | [], ys => by simp [allP]
  | _ :: _, [] => by simp [allP]
  | x :: xs, y :: ys => by
    simp only [allP]
    split
    · have := allP_le (q := q) xs ys
      simp; omega
    · simp
theorem allP_all {q : Int → Int → Option Int} : ∀ {xs ys : List Int}, xs.length = ys.length → allM q xs ys = if (allP q xs ys).length = xs.length then some (allP q xs ys) else none
  | [], [], _ => by simp [allM, allP]
  | [], _ :: _, h => by simp at h
  | _ :: _, [], h => by simp at h
  | x :: xs, y :: ys, h => by
    simp only [List.length_cons, Nat.add_right_cancel_iff] at h
    simp only [allM, allP]
    have hq' : q x y = none ∨ ∃ z, q x y = some z := by
      cases q x y with
      | none => exact .inl rfl
      | some z => exact .inr ⟨z, rfl⟩
    rcases hq' with hq | ⟨z, hq⟩
    · simp [hq]
    · simp only [hq, allP_all h, List.length_cons, Nat.add_right_cancel_iff]
      by_cases h2 : (allP q xs ys).length = xs.length <;> simp [h2]
theorem allP_at {q : Int → Int → Option Int} {xs ys : List Int} {i : Nat} (hl : xs.length = ys.length) (hi : i < xs.length) : allP q (xs.drop i) (ys.drop i) = match q (xs.getD i 0) (ys.getD i 0) with | some z => z :: allP q (xs.drop (i + 1)) (ys.drop (i + 1)) | none => [] := by
  rw [List.drop_eq_getElem_cons hi, List.drop_eq_getElem_cons (show i < ys.length by omega), allP]
  simp [List.getD, hi, show i < ys.length by omega]
theorem allM_at {q : Int → Int → Option Int} {xs ys : List Int} {i : Nat} (hl : xs.length = ys.length) (hi : i < xs.length) : allM q (xs.drop i) (ys.drop i) = match q (xs.getD i 0) (ys.getD i 0) with | some z => (allM q (xs.drop (i + 1)) (ys.drop (i + 1))).map (z :: ·) | none => none := by
  rw [List.drop_eq_getElem_cons hi, List.drop_eq_getElem_cons (show i < ys.length by omega), allM]
  simp [List.getD, hi, show i < ys.length by omega]
theorem allM_get {q : Int → Int → Option Int} {xs ys l : List Int} (h : allM q xs ys = some l) : ∀ i, i < l.length → q (xs.getD i 0) (ys.getD i 0) = some (l.getD i 0) := by
  induction xs generalizing ys l with
  | nil =>
    cases ys with
    | nil => simp [allM] at h; subst h; simp
    | cons => simp [allM] at h
  | cons x xs ih =>
    cases ys with
    | nil => simp [allM] at h
    | cons y ys =>
      simp only [allM] at h
      split at h
      · rename_i z hz
        rw [Option.map_eq_some_iff] at h
        obtain ⟨a, h1, rfl⟩ := h
        intro i hi
        cases i with
        | zero => simpa using hz
        | succ i => simpa using ih h1 i (by simpa using hi)
      · cases h
theorem allM_of {q : Int → Int → Option Int} : ∀ {xs ys l : List Int}, xs.length = l.length → ys.length = l.length → (∀ i, i < l.length → q (xs.getD i 0) (ys.getD i 0) = some (l.getD i 0)) → allM q xs ys = some l
  | [], [], [], _, _, _ => rfl
  | [], [], _ :: _, h, _, _ => by simp at h
  | [], _ :: _, l, h, h', _ => by cases l <;> simp_all
  | _ :: _, [], l, h, h', _ => by cases l <;> simp_all
  | _ :: _, _ :: _, [], h, _, _ => by simp at h
  | x :: xs, y :: ys, z :: l, h, h', hq => by
    have h0 : q x y = some z := by simpa using hq 0 (by simp)
    rw [allM, h0]
    rw [allM_of (xs := xs) (ys := ys) (l := l) (by simpa using h) (by simpa using h') (fun i hi => by simpa using hq (i + 1) (by simpa using hi))]
    rfl
def goM (g : Gr) : List Int → List Int → Option (List Int) := allM (goesB g)
def waysM (g : Gr) : List Int → List Int → Option (List Int) := allM (wayTo g)
def walkM (g : Gr) : List Int → List (List Int) → Option (List (List Int))
  | cells, [] => some [cells]
  | cells, w :: l => match goM g cells w with
    | some n => (walkM g n l).map (cells :: ·)
    | none => none
def wL (o : Option (List (List Int))) : List (List Int) := o.getD []
def wE (o : Option (List (List Int))) : Int := if o.isSome then 0 else 1
end Go.Sx
