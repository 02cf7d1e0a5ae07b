/- Layer 4: a row that is right, by trial. -/
import Derived.Test.YtncflfhmdncabaaSxUDist4
set_option linter.all false
namespace Go.Sx
def nearFB (g : Gr) (bl l : List Int) (c way : Int) : Bool :=
  match goesB g c way with
  | none => true
  | some x => decide (x ∈ bl) || decide (D l x < 0) || (decide (0 ≤ D l c) && decide (D l c ≤ D l x + 1))
def backB (g : Gr) (bl l : List Int) (c way : Int) : Bool :=
  match goesB g c way with
  | none => false
  | some x => decide (x ∉ bl) && decide (D l x = D l c - 1)
def cellB (g : Gr) (to : Int) (bl l : List Int) (c : Int) : Bool :=
  decide (-1 ≤ D l c) && (decide (D l c ≠ 0) || decide (c = to)) && nearFB g bl l c 1 && nearFB g bl l c 2 && nearFB g bl l c 3 && nearFB g bl l c 4 && (decide (D l c ≤ 0) || backB g bl l c 1 || backB g bl l c 2 || backB g bl l c 3 || backB g bl l c 4)
def fieldB (g : Gr) (to : Int) (bl l : List Int) : Bool := floorB g to && decide (l.length = g.C.size) && decide (D l to = 0) && (List.range g.C.size).all fun i => cellB g to bl l i
theorem nearFB_get {g : Gr} {bl l : List Int} {c way x : Int} (h : nearFB g bl l c way = true) (hg : goesB g c way = some x) (hb : x ∉ bl) (hd : 0 ≤ D l x) : 0 ≤ D l c ∧ D l c ≤ D l x + 1 := by
  unfold nearFB at h
  rw [hg] at h
  simp only [Bool.or_eq_true, Bool.and_eq_true, decide_eq_true_eq] at h
  rcases h with (h | h) | h
  · exact absurd h hb
  · omega
  · exact h
theorem backB_get {g : Gr} {bl l : List Int} {c way : Int} (h : backB g bl l c way = true) : ∃ x, goesB g c way = some x ∧ x ∉ bl ∧ D l x = D l c - 1 := by
  unfold backB at h
  cases hg : goesB g c way with
  | none => rw [hg] at h; cases h
  | some x =>
    rw [hg] at h
    simp only [Bool.and_eq_true, decide_eq_true_eq] at h
    exact ⟨x, rfl, h.1, h.2⟩
theorem fieldB_ok {g : Gr} {to : Int} {bl l : List Int} (h : fieldB g to bl l = true) : FieldOk g to bl l := by
  unfold fieldB at h
  simp only [Bool.and_eq_true, decide_eq_true_eq, List.all_eq_true, List.mem_range] at h
  obtain ⟨⟨⟨_, h2⟩, h3⟩, h4⟩ := h
  have hc : ∀ c, InG g c → cellB g to bl l c = true := fun c hc => by
    have h0 := hc.1
    have h1 := hc.2
    have := h4 c.toNat (by omega)
    rwa [Int.toNat_of_nonneg h0] at this
  have hC : ∀ c, InG g c → _ := fun c hi => by
    have := hc c hi
    unfold cellB at this
    simp only [Bool.and_eq_true, Bool.or_eq_true, decide_eq_true_eq] at this
    exact this
  refine ⟨h2, fun c hi => (hC c hi).1.1.1.1.1.1, h3, fun c hi h0 => ?_, fun c way x w1 w2 hg hb hd => ?_, fun c hi hp => ?_⟩
  · rcases (hC c hi).1.1.1.1.1.2 with h | h
    · exact absurd h0 h
    · exact h
  · have hi := (goesB_in hg).1
    have h := hC c hi
    have : way = 1 ∨ way = 2 ∨ way = 3 ∨ way = 4 := by omega
    rcases this with rfl | rfl | rfl | rfl
    · exact nearFB_get h.1.1.1.1.2 hg hb hd
    · exact nearFB_get h.1.1.1.2 hg hb hd
    · exact nearFB_get h.1.1.2 hg hb hd
    · exact nearFB_get h.1.2 hg hb hd
  · rcases (hC c hi).2 with (((h | h) | h) | h) | h
    · omega
    · obtain ⟨x, a⟩ := backB_get h; exact ⟨1, x, by decide, by decide, a⟩
    · obtain ⟨x, a⟩ := backB_get h; exact ⟨2, x, by decide, by decide, a⟩
    · obtain ⟨x, a⟩ := backB_get h; exact ⟨3, x, by decide, by decide, a⟩
    · obtain ⟨x, a⟩ := backB_get h; exact ⟨4, x, by decide, by decide, a⟩
theorem fieldL_of {g : Gr} {to : Int} {bl l : List Int} (h : fieldB g to bl l = true) : fieldL g to bl = l := fieldL_eq (by unfold fieldB at h; simp only [Bool.and_eq_true] at h; exact h.1.1.1) (fieldB_ok h)
def g0 : Gr := ⟨4, 2, ⟨#[46, 46, 46, 35, 46, 46, 46, 46]⟩⟩
theorem g0_ok : GrOk g0 := rightG_ok (by decide +kernel)
theorem f02 : fieldL g0 2 [] = [2, 1, 0, -1, 3, 2, 1, 2] := fieldL_of (by decide +kernel)
theorem f021 : fieldL g0 2 [1] = [4, 1, 0, -1, 3, 2, 1, 2] := fieldL_of (by decide +kernel)
theorem f07 : fieldL g0 7 [] = [4, 3, 2, -1, 3, 2, 1, 0] := fieldL_of (by decide +kernel)
theorem f05 : fieldL g0 5 [] = [2, 1, 2, -1, 1, 0, 1, 2] := fieldL_of (by decide +kernel)
theorem e02 : fieldE g0 2 = 0 := by decide +kernel
theorem far47 : farG g0 [] 4 7 = 3 := by unfold farG; rw [f07]; decide +kernel
theorem near0 : nearG g0 [] 0 [7, 2, 3, 5] = (2, 2) := by
  have a : farG g0 [] 0 7 = 4 := by unfold farG; rw [f07]; decide +kernel
  have b : farG g0 [] 0 2 = 2 := by unfold farG; rw [f02]; decide +kernel
  have c : farG g0 [] 0 3 = -1 := by unfold farG; rw [if_neg (by decide +kernel)]
  have d : farG g0 [] 0 5 = 2 := by unfold farG; rw [f05]; decide +kernel
  simp [nearG, nearStep, a, b, c, d]
end Go.Sx
