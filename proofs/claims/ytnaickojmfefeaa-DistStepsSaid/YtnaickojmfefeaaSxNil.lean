/- Whether a slice is nil. -/
import Derived.Test.YtnaickojmfefeaaSxMapUp
import Derived.Laws.Cover3
set_option linter.unusedSectionVars false
set_option linter.all false
namespace Go.Sx
section
variable {P : Program} {T : Tab} (hT : TabOk P T) {N : Fm} {Q : Env → Sto → Prop}
include hT
theorem RunSem.eqNil {α : Type} {all : Array Oper} {rest : List Oper} {d : Tmp} {t t' : TypeId} {x : Operand} {ty : TypeId} {pos : String} {af : Array Edge} {k : List It} {env : Env} {sto : Sto} {new : Bool} {sz : Nat} {enc : α → Nat → DV} {dv : α} {xs : List α} {e m b : Nat} {z : List Value}
    (hd : Nat.blt d N.n = true) (hx : Get env [] x (.d new sz enc dv xs)) (ht : tget t T = some ⟨.slice e, m, b, z⟩)
    (hk : ∀ r : Bool, (xs ≠ [] → r = false) → Run P T N Q (.ops all rest :: k) ((d, [], .v (.bool r)) :: env) sto) :
    RunSem P N Q (.ops all ({ dst := some d, op := .binOp .eql t x (.const (.slice none 0 0)) t', type := ty, pos, after := af, guard := none } :: rest) :: k) env sto := by
  intro C a w hN hA
  have hu := hx.sound hA (q := []) trivial
  simp only [AAt] at hu
  have key : ∃ A n c, a.eval x = .slice A n c ∧ (xs ≠ [] → A.isNone = false) := by
    rcases hu.inv_sl with ⟨rfl, A, c, h⟩ | ⟨ad, c, h, _⟩
    · exact ⟨A, 0, c, h, fun h => absurd rfl h⟩
    · exact ⟨some ad, _, c, h, fun _ => rfl⟩
  obtain ⟨A, n, c, h1, h2⟩ := key
  refine wpList_quiet hT rfl rfl (v := .bool A.isNone) (w' := w) ?_ ((hk A.isNone h2).sound hT C _ _ hN (hA.put0 (by rw [hN.1]; exact Nat.le_of_ble_eq_true hd) rfl))
  have hue : P.underlying t = some (.slice e) := by
    obtain ⟨dt, it, ht1, _, ht3, _⟩ := hT _ _ ht
    cases dt <;> simp only [TK.fits] at ht3
    subst ht3
    exact ht1
  have he := run_equal_slice_nil (P := P) w t e A n c hue
  have hc : a.eval (.const (.slice none 0 0)) = .slice none 0 0 := rfl
  cases A <;> simp [execOp, h1, hc, eqGuard, binOp, he]
end
end Go.Sx
