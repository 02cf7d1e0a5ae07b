/- From a contract to what a law's row asks. -/
import Derived.Test.YtnaickojmfefeaaSxKit
import Derived.Below
set_option linter.unusedSectionVars false
set_option linter.all false
namespace Go.Sx
open Go.RowKit

theorem Kept.below {w w' : World} (h : Kept [] w w') : Below w.heap.size w w' := ⟨h.os, h.tape, h.output, h.size, fun k hk => h.block k hk (by simp)⟩

theorem Sat.law {P : Program} {f : FuncId} {args : List AV} {v : Value} {vs : List Value} {w : World} (h : Sat P f args [] (Gives (ι := Unit) (fun _ => .v v) (fun _ => []) (fun _ => True)))
    (hargs : AAtL (cxOf w.heap.size (fun _ => False) []) w args vs) : Calls P f vs.toArray w fun e w' => e = .returned v ∧ Below w.heap.size w w' := by
  refine (h.2 (fun _ => False) w vs (fun b h => h.elim) (fun b h => by cases h) (by simp [blocksOf]) (fun r h => by cases h) hargs).mono ?_
  rintro e w' ⟨z, s, ⟨_, rfl, rfl, _⟩, hk, _, _, _, ho⟩
  obtain ⟨u, rfl, hu⟩ := ho.inv rfl
  simp only [AAt] at hu
  subst hu
  exact ⟨rfl, hk.below⟩

/-- A row of numbers that came in, as data. -/
theorem data_ints {w : World} {k : IntKind} {a : Option Addr} {len cap : Nat} {zs : List Int} {α : Type} (enc : α → Nat → DV) (dv : α) (f : Int → α) (hf : ∀ n, (Lit.int k n).wf = true → enc (f n) 0 = .v (.int k n))
    (h : (a = none ∧ len = 0 ∧ cap = 0 ∧ zs = []) ∨ ∃ x, a = some x ∧ len ≤ cap ∧ cap ≤ maxLen ∧ zs.length = cap ∧ (∀ i, i < zs.length → w.cell? (x.add i) = some (.int k (zs.getD i 0))) ∧ ∀ n ∈ zs, (Lit.int k n).wf = true) :
    AAt (cxOf w.heap.size (fun _ => False) []) w (.d false 1 enc dv ((zs.take len).map f)) (.slice a len cap) := by
  simp only [AAt]
  rcases h with ⟨rfl, rfl, rfl, rfl⟩ | ⟨x, rfl, hl, hm, hz, hcell, hwf⟩
  · exact .nil _ _ _ _ _
  · rcases Nat.eq_zero_or_pos len with h0 | h0
    · subst h0
      exact .nil _ _ _ _ _
    · have hlen : ((zs.take len).map f).length = len := by simp; omega
      have hb : x.block < w.heap.size := by
        have := World.block_lt_of_cell? w _ (hcell 0 (by omega))
        rwa [add_block] at this
      have := DAt.of_cells (F := (cxOf w.heap.size (fun _ => False) []).ok false) (w := w) (sz := 1) (enc := enc) (dv := dv) (xs := (zs.take len).map f) (a := x) (c := cap) ⟨by simp [cxOf, blocksOf], fun h => h, fun h => by cases h⟩ hb (by omega) (fun i j hi hj => by
        have hj0 : j = 0 := by omega
        subst hj0
        rw [hlen] at hi
        refine ⟨.int k (zs.getD i 0), by rw [Nat.mul_one, Nat.add_zero]; exact hcell i (by omega), ?_⟩
        have hg : ((zs.take len).map f).getD i dv = f (zs.getD i 0) := by
          simp [List.getD, List.getElem?_take, hi, show i < zs.length by omega]
        rw [hg, hf _ (hwf _ (by rw [List.getD, List.getElem?_eq_getElem (by omega)]; exact List.getElem_mem _))]
        exact .v _ rfl)
      rwa [hlen] at this

end Go.Sx
