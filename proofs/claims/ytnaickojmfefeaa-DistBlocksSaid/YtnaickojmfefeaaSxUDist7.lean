/- Layer 4: what is blocked, as a row; the steps of a row. -/
import Derived.Test.YtnaickojmfefeaaSxUDist6
set_option linter.all false
namespace Go.Sx
def ShutAt (g : Gr) (bl : List Int) (sh : List Bool) : Prop := ∀ y, InG g y → sh.getD y.toNat false = decide (y ∈ bl)
theorem ShutAt.start {g : Gr} {bl : List Int} {n : Nat} : ShutAt g (bl.take 0) (List.replicate n false) := by
  intro y hy
  simp only [List.take_zero, List.not_mem_nil, decide_false, List.getD, List.getElem?_replicate]
  split <;> rfl
theorem ShutAt.set {g : Gr} {bl : List Int} {sh : List Bool} {i : Nat} (hl : sh.length = g.C.size) (hi : i < bl.length) (hx : bl.getD i 0 ≥ 0 ∧ bl.getD i 0 < g.C.size) (h : ShutAt g (bl.take i) sh) : ShutAt g (bl.take (i + 1)) (sh.set (bl.getD i 0).toNat true) := by
  intro y hy
  rw [take_snoc hi]
  by_cases e : y = bl.getD i 0
  · subst e
    have : (bl.getD i 0).toNat < sh.length := by omega
    rw [show decide (bl.getD i 0 ∈ bl.take i ++ [bl.getD i 0]) = true from decide_eq_true (by simp only [List.mem_append, List.mem_singleton, or_true])]
    simp only [List.getD, List.getElem?_set, if_true, if_pos this, Option.getD_some]
    simp only [List.getD] at this
    simp [this]
  · have hne : (bl.getD i 0).toNat ≠ y.toNat := by have := hy.1; omega
    have h2 := h y hy
    have h3 : decide (y ∈ bl.take i ++ [bl.getD i 0]) = decide (y ∈ bl.take i) := decide_eq_decide.2 (by simp only [List.mem_append, List.mem_singleton, e, or_false])
    rw [h3, ← h2]
    simp only [List.getD] at hne ⊢
    rw [List.getElem?_set_ne hne]
theorem ShutAt.skip {g : Gr} {bl : List Int} {sh : List Bool} {i : Nat} (hi : i < bl.length) (hx : ¬ (bl.getD i 0 ≥ 0 ∧ bl.getD i 0 < g.C.size)) (h : ShutAt g (bl.take i) sh) : ShutAt g (bl.take (i + 1)) sh := by
  intro y hy
  rw [take_snoc hi, h y hy]
  have e : y ≠ bl.getD i 0 := fun e => hx (by rw [← e]; exact ⟨hy.1, hy.2⟩)
  exact decide_eq_decide.2 (by simp only [List.mem_append, List.mem_singleton, e, or_false])
/-- A step that leads nearer. -/
def Back (g : Gr) (bl l : List Int) (c way : Int) : Prop := ∃ x, goesB g c way = some x ∧ x ∉ bl ∧ D l x = D l c - 1
def WayS (g : Gr) (bl l : List Int) (c : Int) (w : Int) (some : Bool) : Prop := some = true ∨ (some = false ∧ 0 < D l c ∧ ∀ way, 1 ≤ way → way < w → ¬ Back g bl l c way)
theorem WayS.fin {g : Gr} {to : Int} {bl l : List Int} {c : Int} {some : Bool} (h : FieldOk g to bl l) (hc : InG g c) (hw : WayS g bl l c 5 some) : some = true := by
  rcases hw with h1 | ⟨_, h2, h3⟩
  · exact h1
  · obtain ⟨way, x, a1, a2, a3⟩ := h.back c hc h2
    exact absurd ⟨x, a3⟩ (h3 way a1 (by omega))
theorem WayS.no {g : Gr} {bl l : List Int} {c w : Int} {some : Bool} (h : WayS g bl l c w some) (hb : ¬ Back g bl l c w) : WayS g bl l c (w + 1) some := by
  rcases h with h | ⟨h1, h2, h3⟩
  · exact .inl h
  · refine .inr ⟨h1, h2, fun way a1 a2 => ?_⟩
    by_cases e : way = w
    · subst e; exact hb
    · exact h3 way a1 (by omega)
theorem WayS.start {g : Gr} {bl l : List Int} {c : Int} : WayS g bl l c (((0 : Nat) : Int) + 1) (decide (D l c ≤ 0)) := by
  by_cases h : D l c ≤ 0
  · exact .inl (by simp [h])
  · exact .inr ⟨by simp [h], by omega, fun way a1 a2 => by omega⟩
theorem WayS.step {g : Gr} {bl l : List Int} {c w x : Int} {some : Bool} (h : WayS g bl l c w some) (hg : goesB g c w = Option.some x) (hx : x ∉ bl) : WayS g bl l c (w + 1) (some || (D l x == D l c - 1 && decide (D l x ≥ 0))) := by
  cases some with
  | true => exact .inl rfl
  | false =>
    rcases h with h | ⟨_, h2, h3⟩
    · cases h
    · by_cases e : D l x = D l c - 1
      · exact .inl (by simp [e]; omega)
      · refine .inr ⟨by simp [e], h2, fun way a1 a2 => ?_⟩
        by_cases e' : way = w
        · subst e'
          rintro ⟨y, b1, b2, b3⟩
          rw [hg] at b1
          cases b1
          exact e b3
        · exact h3 way a1 (by omega)
theorem Back.none {g : Gr} {bl l : List Int} {c w : Int} (h : goesB g c w = Option.none) : ¬ Back g bl l c w := by
  rintro ⟨x, h1, _⟩
  rw [h] at h1
  cases h1
theorem Back.shut {g : Gr} {bl l : List Int} {c w x : Int} (h : goesB g c w = Option.some x) (hx : x ∈ bl) : ¬ Back g bl l c w := by
  rintro ⟨y, h1, h2, _⟩
  rw [h] at h1
  cases h1
  exact h2 hx
theorem ShutAt.get {g : Gr} {bl : List Int} {sh : List Bool} (h : ShutAt g bl sh) {x : Int} (hx : InG g x) : sh.getD x.toNat false = decide (x ∈ bl) := h x hx
theorem filter_more {p q : Nat → Bool} {x : Nat} : ∀ {L : List Nat}, (∀ y, p y = true → q y = true) → x ∈ L → q x = true → p x = false → (L.filter p).length + 1 ≤ (L.filter q).length := by
  have hle : ∀ L : List Nat, (∀ y, p y = true → q y = true) → (L.filter p).length ≤ (L.filter q).length := by
    intro L h
    induction L with
    | nil => simp
    | cons y L ih =>
      cases hp : p y with
      | true => simp [hp, h y hp]; omega
      | false => cases hq : q y <;> simp [hp, hq] <;> omega
  intro L
  induction L with
  | nil => intro _ hx; simp at hx
  | cons y L ih =>
    intro h hx hq hp
    rcases List.mem_cons.1 hx with rfl | hx
    · have := hle L h
      simp [hp, hq]
      omega
    · have := ih h hx hq hp
      cases hp' : p y with
      | true => simp [hp', h y hp']; omega
      | false => cases hq' : q y <;> simp [hp', hq'] <;> omega
theorem FieldOk.few {g : Gr} {to : Int} {bl l : List Int} (h : FieldOk g to bl l) : ∀ (n : Nat) (c : Int), InG g c → D l c = n → n + 1 ≤ ((List.range g.C.size).filter fun i : Nat => decide (0 ≤ D l (i : Int) ∧ D l (i : Int) ≤ n)).length := by
  intro n
  induction n with
  | zero =>
    intro c hc hd
    have hm : c.toNat ∈ (List.range g.C.size).filter fun i : Nat => decide (0 ≤ D l (i : Int) ∧ D l (i : Int) ≤ (0 : Nat)) := by
      have h1 := hc.1
      have h2 := hc.2
      rw [List.mem_filter, List.mem_range, Int.toNat_of_nonneg h1]
      exact ⟨by omega, by rw [hd]; decide⟩
    have := List.length_pos_of_mem hm
    omega
  | succ n ih =>
    intro c hc hd
    obtain ⟨way, x, w1, w2, hg, hb, hx⟩ := h.back c hc (by omega)
    have h1 := ih x (goesB_in hg).2 (by omega)
    have h3 := hc.1
    have h4 := hc.2
    have h2 := filter_more (p := fun i : Nat => decide (0 ≤ D l (i : Int) ∧ D l (i : Int) ≤ n)) (q := fun i : Nat => decide (0 ≤ D l (i : Int) ∧ D l (i : Int) ≤ (n + 1 : Nat))) (x := c.toNat) (L := List.range g.C.size) (fun y hy => by simp only [decide_eq_true_eq] at hy ⊢; omega) (List.mem_range.2 (by omega)) (by rw [Int.toNat_of_nonneg h3, hd]; simp only [decide_eq_true_eq]; omega) (by rw [Int.toNat_of_nonneg h3, hd]; simp only [decide_eq_false_iff_not]; omega)
    omega
theorem FieldOk.lt {g : Gr} {to : Int} {bl l : List Int} (h : FieldOk g to bl l) {c : Int} (hc : InG g c) : D l c < g.C.size := by
  by_cases h0 : 0 ≤ D l c
  · have h1 := h.few (D l c).toNat c hc (by omega)
    have h2 := List.length_filter_le (fun i : Nat => decide (0 ≤ D l (i : Int) ∧ D l (i : Int) ≤ ((D l c).toNat : Nat))) (List.range g.C.size)
    simp only [List.length_range] at h2
    omega
  · have := hc.1
    have := hc.2
    omega
end Go.Sx
