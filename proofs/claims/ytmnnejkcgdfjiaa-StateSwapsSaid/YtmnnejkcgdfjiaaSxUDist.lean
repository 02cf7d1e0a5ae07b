/- Layer 4: how far. -/
import Derived.Test.YtmnnejkcgdfjiaaSxUGrid
set_option linter.all false
namespace Go.Sx
/-- Numbers, each once, as a map. -/
def setG (l : List Int) : List (Int × Bool) := l.foldl (fun es x => mset es x true) []
theorem setG_snoc (l : List Int) (x : Int) : setG (l ++ [x]) = mset (setG l) x true := by simp [setG]
theorem setG_get (x : Int) (l : List Int) : mget (setG l) x = if x ∈ l then some true else none := by
  have h : ∀ (l : List Int) (es : List (Int × Bool)), mget (l.foldl (fun es x => mset es x true) es) x = if x ∈ l then some true else mget es x := by
    intro l
    induction l with
    | nil => intro es; simp
    | cons y l ih =>
      intro es
      rw [List.foldl_cons, ih, mget_mset]
      by_cases h1 : x ∈ l
      · simp [h1]
      · by_cases h2 : x = y
        · simp [h2]
        · simp [h1, h2]
  rw [setG, h, mget_nil]
/-- The cells from which a step may go into one, by all ways. -/
def candL (g : Gr) (c : Int) : List (Int × Int) := ([1, 2, 3, 4] : List Int).flatMap fun way => [(way, c - g.W), (way, c - 1), (way, c + 1), (way, c + g.W)]
def goesTo (g : Gr) (c : Int) (p : Int × Int) : Bool := decide (goesB g p.2 p.1 = some c)
def intoK (g : Gr) (c : Int) (k : Nat) : List Int := (((candL g c).take k).filter (goesTo g c)).map (·.2)
def intoL (g : Gr) (c : Int) : List Int := intoK g c 16
theorem candL_get (g : Gr) (c : Int) (k i : Nat) (hk : k < 4) (hi : i < 4) : (candL g c)[4 * k + i]? = some ((k : Int) + 1, ([c - g.W, c - 1, c + 1, c + g.W] : List Int).getD i 0) := by
  have h1 : k = 0 ∨ k = 1 ∨ k = 2 ∨ k = 3 := by omega
  have h2 : i = 0 ∨ i = 1 ∨ i = 2 ∨ i = 3 := by omega
  rcases h1 with h1 | h1 | h1 | h1 <;> rcases h2 with h2 | h2 | h2 | h2 <;> subst h1 <;> subst h2 <;> rfl
theorem intoK_succ {g : Gr} {c : Int} {n : Nat} {p : Int × Int} (h : (candL g c)[n]? = some p) : intoK g c (n + 1) = if goesTo g c p = true then intoK g c n ++ [p.2] else intoK g c n := by
  unfold intoK
  rw [List.take_add_one, h]
  simp only [Option.toList_some, List.filter_append, List.map_append]
  by_cases hp : goesTo g c p = true
  · simp [hp]
  · simp [hp]
theorem intoK_pre {g : Gr} {c : Int} {n : Nat} (h : n ≤ 16) : ∃ r, intoL g c = intoK g c n ++ r := by
  refine ⟨(((candL g c).drop n).filter (goesTo g c)).map (·.2), ?_⟩
  unfold intoL intoK
  rw [← List.map_append, ← List.filter_append]
  congr 2
  rw [List.take_append_drop, List.take_of_length_le]
  simp [candL]
theorem goesTo_yes {g : Gr} {c way x : Int} (h : (goesB g x way).isSome = true ∧ (goesB g x way).getD 0 = c) : goesTo g c (way, x) = true := by
  unfold goesTo
  cases hg : goesB g x way with
  | none => rw [hg] at h; cases h.1
  | some y => rw [hg] at h; simpa using h.2
theorem goesTo_is {g : Gr} {c way x : Int} (h : goesTo g c (way, x) = true) : (goesB g x way).isSome = true ∧ (goesB g x way).getD 0 = c := by
  unfold goesTo at h
  simp only [decide_eq_true_eq] at h
  rw [h]
  exact ⟨rfl, rfl⟩
end Go.Sx
