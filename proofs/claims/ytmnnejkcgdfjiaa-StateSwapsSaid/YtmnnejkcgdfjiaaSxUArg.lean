/- Robots, tasks and states that came in. -/
import Derived.Test.YtmnnejkcgdfjiaaSxUState
import Derived.Test.YtmnnejkcgdfjiaaSxC
set_option linter.all false
namespace Go.Sx
theorem DAt.map {F : Nat → Prop} {w : World} {α β : Type} {sz : Nat} {enc : α → Nat → DV} {dv : α} {xs : List α} {u : Value} (f : α → β) {enc' : β → Nat → DV} {dv' : β} (hdv : f dv = dv') (he : ∀ x j, j < sz → enc' (f x) j = enc x j)
    (h : DAt F w (.sl sz enc dv xs) u) : DAt F w (.sl sz enc' dv' (xs.map f)) u := by
  have hg : ∀ i, (xs.map f).getD i dv' = f (xs.getD i dv) := by
    intro i
    rw [← hdv]
    simp only [List.getD, List.getElem?_map]
    cases xs[i]? <;> rfl
  cases h with
  | nil => exact .nil ..
  | sl _ _ _ _ a c Y h1 h2 h3 h4 h5 =>
    have hl : (xs.map f).length = xs.length := List.length_map ..
    have := DAt.sl (w := w) sz enc' dv' (xs.map f) a c Y h1 h2 (by rw [hl]; exact h3) (by rw [hl]; exact h4) (fun i j hi hj => by rw [hg, he _ _ hj]; exact h5 i j (by rw [← hl]; exact hi) hj)
    rwa [hl] at this
abbrev cRb : TC := .cons (.int .i64) (.cons (.int .i64) (.cons (.int .i64) (.cons (.int .i64) (.cons (.int .i64) .nil))))
abbrev cSt : TC := .cons (.int .i64) (.cons (.sl cRb) (.cons (.sl cRb) (.cons (.sl (.int .i64)) .nil)))
def toRb (x : cRb.ty) : Rb := ⟨x.1, x.2.1, x.2.2.1, x.2.2.2.1, x.2.2.2.2.1⟩
def toTk (x : cRb.ty) : Tk := ⟨x.1, x.2.1, x.2.2.1, x.2.2.2.1, x.2.2.2.2.1⟩
def toSt (x : cSt.ty) : St := ⟨x.1, x.2.1.map toRb, x.2.2.1.map toTk, x.2.2.2.1⟩
theorem encR_to (x : cRb.ty) (j : Nat) (h : j < 5) : encR (toRb x) j = cRb.enc x j := by
  rcases j with _ | _ | _ | _ | _ | j
  · rfl
  · rfl
  · rfl
  · rfl
  · rfl
  · omega
theorem encT_to (x : cRb.ty) (j : Nat) (h : j < 5) : encT (toTk x) j = cRb.enc x j := by
  rcases j with _ | _ | _ | _ | _ | j
  · rfl
  · rfl
  · rfl
  · rfl
  · rfl
  · omega
theorem AAt.st {cx : Cx} {w : World} {x : cSt.ty} {v : Value} (h : AAt cx w (valA false cSt.agg cSt.size (cSt.enc x)) v) : AAt cx w (sA (toSt x)) v := by
  have h' : AAt cx w (.g [iv x.1, .d false 5 cRb.enc cRb.dflt x.2.1, .d false 5 cRb.enc cRb.dflt x.2.2.1, DI x.2.2.2.1]) v := h
  simp only [AAt] at h' ⊢
  obtain ⟨arr, h1, h2⟩ := h'
  refine ⟨arr, h1, ?_⟩
  generalize arr.toList = us at h2
  match us, h2 with
  | [u0, u1, u2, u3], ⟨a0, a1, a2, a3, a4⟩ =>
    exact ⟨a0, DAt.map toRb rfl encR_to a1, DAt.map toTk rfl encT_to a2, a3, a4⟩
end Go.Sx
