/- Layer 4: how far, which is nearest. -/
import Derived.Test.YtmnnejkcgdfjiaaSxUDist3
set_option linter.all false
namespace Go.Sx
noncomputable def farG (g : Gr) (bl : List Int) (c to : Int) : Int := if floorB g to = true ∧ floorB g c = true then D (fieldL g to bl) c else -1
theorem fieldL_cases (g : Gr) (to : Int) (bl : List Int) : FieldOk g to bl (fieldL g to bl) ∨ fieldL g to bl = [] := by
  unfold fieldL
  split
  · rename_i h; exact .inl (Classical.choose_spec h.2)
  · exact .inr rfl
theorem farG_ge (g : Gr) (bl : List Int) (c to : Int) : -1 ≤ farG g bl c to := by
  unfold farG
  split
  · rename_i h
    rcases fieldL_cases g to bl with hf | hf
    · exact hf.ge c (floorB_lt h.2)
    · rw [hf]; simp [D]
  · omega
noncomputable def nearStep (g : Gr) (bl : List Int) (c : Int) (s : Int × Int) (x : Int) : Int × Int :=
  if farG g bl c x ≠ -1 ∧ (s.2 = -1 ∨ farG g bl c x < s.2 ∨ farG g bl c x = s.2 ∧ x < s.1) then (x, farG g bl c x) else s
noncomputable def nearG (g : Gr) (bl : List Int) (c : Int) (l : List Int) : Int × Int := l.foldl (nearStep g bl c) (-1, -1)
theorem nearG_snoc (g : Gr) (bl : List Int) (c : Int) (l : List Int) (x : Int) : nearG g bl c (l ++ [x]) = nearStep g bl c (nearG g bl c l) x := by simp [nearG]
theorem nearG_ge (g : Gr) (bl : List Int) (c : Int) (l : List Int) : -1 ≤ (nearG g bl c l).2 := by
  have h : ∀ (l : List Int) (s : Int × Int), -1 ≤ s.2 → -1 ≤ (l.foldl (nearStep g bl c) s).2 := by
    intro l
    induction l with
    | nil => intro s h; exact h
    | cons x l ih =>
      intro s h
      rw [List.foldl_cons]
      apply ih
      unfold nearStep
      split
      · exact farG_ge ..
      · exact h
  exact h l _ (by decide)
theorem take_snoc {l : List Int} {k : Nat} (h : k < l.length) : l.take (k + 1) = l.take k ++ [l.getD k 0] := by
  rw [List.take_add_one, List.getElem?_eq_getElem h]
  simp [List.getD, h]
theorem fieldL_len (g : Gr) (to : Int) (bl : List Int) (hne : fieldL g to bl ≠ []) : (fieldL g to bl).length = g.C.size := by
  rcases fieldL_cases g to bl with hf | hf
  · exact hf.len
  · exact absurd hf hne
theorem FieldP.get {g : Gr} {to : Int} {bl : List Int} (h : FieldP g to bl) (hf : floorB g to = true) : FieldOk g to bl (fieldL g to bl) := h hf
theorem near_take {g : Gr} {bl : List Int} {c : Int} {l : List Int} {k : Nat} (h : k < l.length) : nearG g bl c (l.take (k + 1)) = nearStep g bl c (nearG g bl c (l.take k)) (l.getD k 0) := by rw [take_snoc h, nearG_snoc]
theorem step_yes {g : Gr} {bl : List Int} {c x : Int} {s : Int × Int} (h : ¬ farG g bl c x = -1 ∧ ((s.2 = -1 ∨ farG g bl c x < s.2) ∨ farG g bl c x = s.2 ∧ x < s.1)) : nearStep g bl c s x = (x, farG g bl c x) := by
  unfold nearStep
  rw [if_pos ⟨h.1, by rcases h.2 with (h | h) | h <;> simp [h]⟩]
theorem step_no {g : Gr} {bl : List Int} {c x : Int} {s : Int × Int} (h : ¬ (¬ farG g bl c x = -1 ∧ ((s.2 = -1 ∨ farG g bl c x < s.2) ∨ farG g bl c x = s.2 ∧ x < s.1))) : nearStep g bl c s x = s := by
  unfold nearStep
  rw [if_neg (fun h' => h ⟨h'.1, by rcases h'.2 with h | h | h <;> simp [h]⟩)]
theorem nearG_zero (g : Gr) (bl : List Int) (c : Int) (l : List Int) : nearG g bl c (l.take 0) = (-1, -1) := rfl
end Go.Sx
