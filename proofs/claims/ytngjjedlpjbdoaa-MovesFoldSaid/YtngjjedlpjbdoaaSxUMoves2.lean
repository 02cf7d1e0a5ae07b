/- Layer 12: who stands next to whom; walks. -/
import Derived.Test.YtngjjedlpjbdoaaSxUMoves
set_option linter.all false
namespace Go.Sx
def inC (g : Gr) (a : Int) : Bool := decide (0 ≤ a ∧ a < g.C.size)
def nearB (g : Gr) (a b : Int) : Bool := inC g a && (inC g b && decide ((a % g.W - b % g.W) * (a % g.W - b % g.W) + (a / g.W - b / g.W) * (a / g.W - b / g.W) = 1))
def nextL (g : Gr) (a : Int) : List Int := [a - g.W, a + g.W] ++ ((if 0 < a % g.W then [a - 1] else []) ++ (if a % g.W < g.W - 1 then [a + 1] else []))
theorem next_tt {g : Gr} {a : Int} (h1 : 0 < a % g.W) (h2 : a % g.W < g.W - 1) : [a - g.W, a + g.W] ++ [a - 1] ++ [a + 1] = nextL g a := by simp [nextL, h1, h2]
theorem next_tf {g : Gr} {a : Int} (h1 : 0 < a % g.W) (h2 : ¬ a % g.W < g.W - 1) : [a - g.W, a + g.W] ++ [a - 1] = nextL g a := by simp [nextL, h1, h2]
theorem next_ft {g : Gr} {a : Int} (h1 : ¬ 0 < a % g.W) (h2 : a % g.W < g.W - 1) : [a - g.W, a + g.W] ++ [a + 1] = nextL g a := by simp [nextL, h1, h2]
theorem next_ff {g : Gr} {a : Int} (h1 : ¬ 0 < a % g.W) (h2 : ¬ a % g.W < g.W - 1) : [a - g.W, a + g.W] = nextL g a := by simp [nextL, h1, h2]
theorem nextL_len (g : Gr) (a : Int) : (nextL g a).length ≤ 4 := by
  unfold nextL
  split <;> split <;> simp
theorem getD_drop {l : List Int} {n j : Nat} : (l.drop n).getD j 0 = l.getD (n + j) 0 := by simp [List.getD]
theorem sq_sum {x y : Int} : x * x + y * y = 1 ↔ (x = 0 ∧ (y = 1 ∨ y = -1)) ∨ (y = 0 ∧ (x = 1 ∨ x = -1)) := by
  constructor
  · intro h
    have h2 : ∀ z : Int, z * z ≤ 1 → -1 ≤ z ∧ z ≤ 1 := by
      intro z hz
      constructor
      · apply Classical.byContradiction; intro hn
        have : 2 ≤ -z := by omega
        have := Int.mul_le_mul this this (by omega) (by omega)
        rw [Int.neg_mul_neg] at this
        omega
      · apply Classical.byContradiction; intro hn
        have : 2 ≤ z := by omega
        have := Int.mul_le_mul this this (by omega) (by omega)
        omega
    have h0 : ∀ z : Int, 0 ≤ z * z := fun z => by
      rcases Int.le_total 0 z with h | h
      · exact Int.mul_nonneg h h
      · have := Int.mul_nonneg (show 0 ≤ -z by omega) (show 0 ≤ -z by omega)
        rwa [Int.neg_mul_neg] at this
    have hx := h2 x (by have := h0 y; omega)
    have hy := h2 y (by have := h0 x; omega)
    have ex : x = -1 ∨ x = 0 ∨ x = 1 := by omega
    have ey : y = -1 ∨ y = 0 ∨ y = 1 := by omega
    rcases ex with rfl | rfl | rfl <;> rcases ey with rfl | rfl | rfl <;> simp at h ⊢
  · rintro (⟨rfl, rfl | rfl⟩ | ⟨rfl, rfl | rfl⟩) <;> rfl
theorem near_next {g : Gr} (hg : GrOk g) {a b : Int} : (inC g a && (inC g b && decide (b ∈ nextL g a))) = nearB g a b := by
  unfold nearB
  cases ha : inC g a with
  | false => rfl
  | true =>
    cases hb : inC g b with
    | false => rfl
    | true =>
      simp only [Bool.true_and]
      simp only [inC, decide_eq_true_eq] at ha hb
      have hW := hg.w.1
      have e1 := Int.mul_ediv_add_emod a g.W
      have e2 := Int.mul_ediv_add_emod b g.W
      have a1 := Int.emod_nonneg a (show g.W ≠ 0 by omega)
      have a2 := Int.emod_lt_of_pos a (show 0 < g.W by omega)
      have b1 := Int.emod_nonneg b (show g.W ≠ 0 by omega)
      have b2 := Int.emod_lt_of_pos b (show 0 < g.W by omega)
      have uniq : ∀ (q r : Int), b = g.W * q + r → 0 ≤ r → r < g.W → b / g.W = q ∧ b % g.W = r := by
        intro q r h h1 h2
        have := (Int.ediv_emod_unique (show 0 < g.W by omega) (a := b) (r := r) (q := q)).2 ⟨by omega, h1, h2⟩
        exact this
      have d1 : g.W * (a / g.W + 1) = g.W * (a / g.W) + g.W := by rw [Int.mul_add, Int.mul_one]
      have d2 : g.W * (a / g.W - 1) = g.W * (a / g.W) - g.W := by rw [Int.mul_sub, Int.mul_one]
      apply decide_eq_decide.2
      rw [sq_sum]
      constructor
      · intro h
        simp only [nextL, List.mem_append, List.mem_cons, List.not_mem_nil, or_false] at h
        rcases h with (h | h) | h | h
        · have := uniq (a / g.W - 1) (a % g.W) (by omega) a1 a2
          left; omega
        · have := uniq (a / g.W + 1) (a % g.W) (by omega) a1 a2
          left; omega
        · split at h
          · simp only [List.mem_singleton] at h
            have := uniq (a / g.W) (a % g.W - 1) (by omega) (by omega) (by omega)
            right; omega
          · simp at h
        · split at h
          · simp only [List.mem_singleton] at h
            have := uniq (a / g.W) (a % g.W + 1) (by omega) (by omega) (by omega)
            right; omega
          · simp at h
      · intro h
        simp only [nextL, List.mem_append, List.mem_cons, List.not_mem_nil, or_false]
        rcases h with ⟨h1, h2 | h2⟩ | ⟨h1, h2 | h2⟩
        · have e : b / g.W = a / g.W - 1 := by omega
          rw [e, d2] at e2
          left; left; omega
        · have e : b / g.W = a / g.W + 1 := by omega
          rw [e, d1] at e2
          left; right; omega
        · have e : b / g.W = a / g.W := by omega
          rw [e] at e2
          right; left
          rw [if_pos (by omega)]
          simp; omega
        · have e : b / g.W = a / g.W := by omega
          rw [e] at e2
          right; right
          rw [if_pos (by omega)]
          simp; omega
theorem near_bounds {g : Gr} (hg : GrOk g) {a b : Int} (ha : 0 ≤ a ∧ a < g.C.size) (hb : 0 ≤ b ∧ b < g.C.size) :
    (-65536 ≤ a % g.W - b % g.W ∧ a % g.W - b % g.W ≤ 65536) ∧ (-65536 ≤ a / g.W - b / g.W ∧ a / g.W - b / g.W ≤ 65536) ∧
    (0 ≤ (a % g.W - b % g.W) * (a % g.W - b % g.W) ∧ (a % g.W - b % g.W) * (a % g.W - b % g.W) ≤ 4294967296) ∧ (0 ≤ (a / g.W - b / g.W) * (a / g.W - b / g.W) ∧ (a / g.W - b / g.W) * (a / g.W - b / g.W) ≤ 4294967296) := by
  have hd := divmod_facts ha.1 hg.w
  have he := divmod_facts hb.1 hg.w
  have hs := hg.size
  have hw := hg.w
  have sq : ∀ z : Int, -65536 ≤ z ∧ z ≤ 65536 → 0 ≤ z * z ∧ z * z ≤ 4294967296 := by
    intro z hz
    rcases Int.le_total 0 z with h | h
    · exact ⟨Int.mul_nonneg h h, Int.mul_le_mul hz.2 hz.2 h (by omega)⟩
    · have h1 := Int.mul_nonneg (show 0 ≤ -z by omega) (show 0 ≤ -z by omega)
      have h2 := Int.mul_le_mul (show -z ≤ 65536 by omega) (show -z ≤ 65536 by omega) (by omega) (by omega)
      rw [Int.neg_mul_neg] at h1 h2
      exact ⟨h1, h2⟩
  have h1 : -65536 ≤ a % g.W - b % g.W ∧ a % g.W - b % g.W ≤ 65536 := by omega
  have h2 : -65536 ≤ a / g.W - b / g.W ∧ a / g.W - b / g.W ≤ 65536 := by omega
  exact ⟨h1, h2, sq _ h1, sq _ h2⟩
theorem nearB_in {g : Gr} {a b : Int} (ha : 0 ≤ a ∧ a < g.C.size) (hb : 0 ≤ b ∧ b < g.C.size) : nearB g a b = decide ((a % g.W - b % g.W) * (a % g.W - b % g.W) + (a / g.W - b / g.W) * (a / g.W - b / g.W) = 1) := by
  simp [nearB, inC, ha, hb]
theorem nearB_out {g : Gr} {a b : Int} (h : ¬ ((0 ≤ a ∧ a < g.C.size) ∧ (0 ≤ b ∧ b < g.C.size))) : nearB g a b = false := by
  unfold nearB inC
  rw [Bool.and_eq_false_iff]
  by_cases ha : 0 ≤ a ∧ a < g.C.size
  · right
    rw [Bool.and_eq_false_iff]
    left
    exact decide_eq_false (fun hb => h ⟨ha, hb⟩)
  · left
    exact decide_eq_false ha
/-- A robot's row of pairs, so far. -/
def rowP (p : Int → Int → Bool) (l : List Int) (i j : Nat) : List (Int × Int) := ((List.range' (i + 1) j).filter fun k : Nat => p (l.getD i 0) (l.getD k 0)).map fun k : Nat => ((i : Int), (k : Int))
def pairsP (p : Int → Int → Bool) (l : List Int) (n : Nat) : List (Int × Int) := (List.range n).flatMap fun i => rowP p l i (l.length - (i + 1))
def nearL (g : Gr) (l : List Int) : List (Int × Int) := pairsP (nearB g) l l.length
theorem rowP_succ (p : Int → Int → Bool) (l : List Int) (i j : Nat) : rowP p l i (j + 1) = rowP p l i j ++ if p (l.getD i 0) (l.getD (i + 1 + j) 0) then [((i : Int), ((i + 1 + j : Nat) : Int))] else [] := by
  unfold rowP
  rw [List.range'_concat, List.filter_append, List.map_append, Nat.one_mul, List.filter_cons]
  cases p (l.getD i 0) (l.getD (i + 1 + j) 0) <;> simp [-List.getD_eq_getElem?_getD]
theorem pairsP_succ (p : Int → Int → Bool) (l : List Int) (n : Nat) : pairsP p l (n + 1) = pairsP p l n ++ rowP p l n (l.length - (n + 1)) := by
  unfold pairsP
  rw [List.range_succ, List.flatMap_append]
  simp
theorem rowP_no {p : Int → Int → Bool} {l : List Int} {i j : Nat} (h : ∀ b, p (l.getD i 0) b = false) : rowP p l i j = [] := by
  unfold rowP
  rw [List.filter_eq_nil_iff.2 (fun a _ => by rw [h]; simp)]
  rfl
theorem rowP_le (p : Int → Int → Bool) (l : List Int) (i j : Nat) : (rowP p l i j).length ≤ j := by
  unfold rowP
  rw [List.length_map]
  exact Nat.le_trans (List.length_filter_le _ _) (by simp)
theorem pairsP_le (p : Int → Int → Bool) (l : List Int) : ∀ n, (pairsP p l n).length ≤ n * l.length
  | 0 => by simp [pairsP]
  | n + 1 => by
    rw [pairsP_succ, List.length_append, Nat.add_mul]
    have := pairsP_le p l n
    have := rowP_le p l n (l.length - (n + 1))
    omega
/-! ### Walks -/
theorem walkM_ne {g : Gr} : ∀ {l : List (List Int)} {c : List Int} {o : List (List Int)}, walkM g c l = some o → o.length = l.length + 1 ∧ o.getD 0 [] = c
  | [], c, o, h => by simp [walkM] at h; subst h; simp
  | w :: l, c, o, h => by
    simp only [walkM] at h
    split at h
    · rename_i n hn
      rw [Option.map_eq_some_iff] at h
      obtain ⟨a, h1, rfl⟩ := h
      have := walkM_ne h1
      simp [this.1]
    · cases h
theorem walkM_at {g : Gr} {c : List Int} {l : List (List Int)} {k : Nat} (hk : k < l.length) : walkM g c (l.drop k) = match goM g c (l.getD k []) with | some n => (walkM g n (l.drop (k + 1))).map (c :: ·) | none => none := by
  rw [List.drop_eq_getElem_cons hk, walkM, show l.getD k [] = l[k] by simp [List.getD, hk]]
  rfl
/-- A walk, so far. -/
structure WalkI (g : Gr) (cells : List Int) (l : List (List Int)) (k : Nat) (out : List (List Int)) : Prop where
  cur : (out.getD k []).length < 4398046511104
  len : out.length = k + 1
  walk : walkM g cells l = (walkM g (out.getD k []) (l.drop k)).map (out.take k ++ ·)
theorem WalkI.start {g : Gr} {cells : List Int} {l : List (List Int)} (h : cells.length < 4398046511104) : WalkI g cells l 0 [cells] := by
  refine ⟨by simpa using h, rfl, ?_⟩
  simp
theorem WalkI.step {g : Gr} {cells : List Int} {l : List (List Int)} {k : Nat} {out : List (List Int)} {n : List Int} (h : WalkI g cells l k out) (hk : k < l.length) (hg : goM g (out.getD k []) (l.getD k []) = some n) : WalkI g cells l (k + 1) (out ++ [n]) := by
  have hl := h.len
  have e : (out ++ [n]).getD (k + 1) [] = n := by rw [List.getD, List.getElem?_append_right (by omega)]; simp [hl]
  refine ⟨?_, by simp [hl], ?_⟩
  · rw [e]
    have := (allM_len hg).1
    have := h.cur
    omega
  · rw [h.walk, walkM_at hk, hg, e]
    simp only [Option.map_map]
    congr 1
    funext x
    simp only [Function.comp]
    rw [show (out ++ [n]).take (k + 1) = out by rw [List.take_append_of_le_length (by omega), List.take_of_length_le (by omega)]]
    have : out = out.take k ++ [out.getD k []] := by
      conv => lhs; rw [← List.take_append_drop k out]
      congr 1
      rw [List.drop_eq_getElem_cons (show k < out.length by omega), List.drop_of_length_le (by omega), List.getD, List.getElem?_eq_getElem (show k < out.length by omega)]
      rfl
    conv => rhs; rw [this]
    simp [-List.getD_eq_getElem?_getD]
theorem WalkI.none {g : Gr} {cells : List Int} {l : List (List Int)} {k : Nat} {out : List (List Int)} (h : WalkI g cells l k out) (hk : k < l.length) (hg : goM g (out.getD k []) (l.getD k []) = none) : walkM g cells l = none := by
  rw [h.walk, walkM_at hk, hg]
  rfl
theorem WalkI.fin {g : Gr} {cells : List Int} {l : List (List Int)} {out : List (List Int)} (h : WalkI g cells l l.length out) (hl : out.length = l.length + 1) : walkM g cells l = some out := by
  rw [h.walk, List.drop_length, walkM]
  simp only [Option.map_some, Option.some.injEq]
  conv => rhs; rw [← List.take_append_drop l.length out]
  congr 1
  rw [List.drop_eq_getElem_cons (show l.length < out.length by omega), List.drop_of_length_le (by omega), List.getD, List.getElem?_eq_getElem (show l.length < out.length by omega)]
  rfl
end Go.Sx
