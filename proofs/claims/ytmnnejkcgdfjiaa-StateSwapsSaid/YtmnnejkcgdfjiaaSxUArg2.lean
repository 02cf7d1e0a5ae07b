/- States that came in: their sizes; two of them. -/
import Derived.Test.YtmnnejkcgdfjiaaSxUArg
set_option linter.all false
namespace Go.Sx
end Go.Sx
namespace Go.Sx
abbrev c2St : TC := .cons cSt (.cons cSt .nil)
theorem AAt.st2 {cx : Cx} {w : World} {x : c2St.ty} {v : Value} (h : AAt cx w (valA false c2St.agg c2St.size (c2St.enc x)) v) :
    AAt cx w (.g [iv (toSt x.1).tick, DR (toSt x.1).R, DT (toSt x.1).K, DI (toSt x.1).B, iv (toSt x.2.1).tick, DR (toSt x.2.1).R, DT (toSt x.2.1).K, DI (toSt x.2.1).B]) v := by
  have h' : AAt cx w (.g [iv x.1.1, .d false 5 cRb.enc cRb.dflt x.1.2.1, .d false 5 cRb.enc cRb.dflt x.1.2.2.1, DI x.1.2.2.2.1, iv x.2.1.1, .d false 5 cRb.enc cRb.dflt x.2.1.2.1, .d false 5 cRb.enc cRb.dflt x.2.1.2.2.1, DI x.2.1.2.2.2.1]) v := h
  simp only [AAt] at h' ⊢
  obtain ⟨arr, h1, h2⟩ := h'
  refine ⟨arr, h1, ?_⟩
  generalize arr.toList = us at h2
  match us, h2 with
  | [u0, u1, u2, u3, u4, u5, u6, u7], ⟨a0, a1, a2, a3, a4, a5, a6, a7, a8⟩ =>
    exact ⟨a0, DAt.map toRb rfl encR_to a1, DAt.map toTk rfl encT_to a2, a3, a4, DAt.map toRb rfl encR_to a5, DAt.map toTk rfl encT_to a6, a7, a8⟩
theorem map_hid {α : Type} {l : List α} {f : α → Tk} (h : ∀ x, List.Mem x l → -9223372036854775808 ≤ (f x).id ∧ (f x).id ≤ 9223372036854775807) (i : Nat) : -9223372036854775808 ≤ ((l.map f).getD i dT).id ∧ ((l.map f).getD i dT).id ≤ 9223372036854775807 := by
  by_cases hi : i < l.length
  · have e : (l.map f).getD i dT = f (l[i]'hi) := by simp [List.getD, hi]
    rw [e]
    exact h _ (List.getElem_mem hi)
  · have e : (l.map f).getD i dT = dT := by simp only [List.getD]; rw [List.getElem?_eq_none (by simp; omega)]; rfl
    rw [e]
    exact ⟨by decide, by decide⟩
theorem map_lt {α β : Type} {l : List α} {f : α → β} {n : Nat} (h : l.length < n) : (l.map f).length < n := by rw [List.length_map]; exact h
theorem St_hid {x : cSt.ty} (h : TC.wf cSt x) (hb : ∀ n, (Lit.int .i64 n).wf = true → -9223372036854775808 ≤ n ∧ n ≤ 9223372036854775807) (i : Nat) : -9223372036854775808 ≤ ((toSt x).K.getD i dT).id ∧ ((toSt x).K.getD i dT).id ≤ 9223372036854775807 :=
  map_hid (α := cRb.ty) (l := x.2.2.1) (f := toTk) (fun y hy => hb _ (h.2.2.1.2 y hy).1) i
theorem St_R {x : cSt.ty} (h : TC.wf cSt x) : (toSt x).R.length < 4611686018427387904 := map_lt (α := cRb.ty) (l := x.2.1) (f := toRb) (Nat.lt_of_le_of_lt h.2.1.1 (by decide))
theorem St_K {x : cSt.ty} (h : TC.wf cSt x) : (toSt x).K.length < 4611686018427387904 := map_lt (α := cRb.ty) (l := x.2.2.1) (f := toTk) (Nat.lt_of_le_of_lt h.2.2.1.1 (by decide))
theorem St_B {x : cSt.ty} (h : TC.wf cSt x) : (toSt x).B.length < 4611686018427387904 := Nat.lt_of_le_of_lt h.2.2.2.1.1 (by decide)
end Go.Sx
