import Derived.Test.YtmnnejkcgdfjiaaRows
import Derived.Test.YtmnnejkcgdfjiaaS05State13
import Derived.Test.YtmnnejkcgdfjiaaSxC
import Derived.Test.YtmnnejkcgdfjiaaSxUArg2
import Derived.WalkKit
set_option linter.all false
set_option maxHeartbeats 4000000
set_option maxRecDepth 100000
set_option linter.all false
namespace Go.Proofs.Ytmnnejkcgdfjiaa
open Go.Sx
attribute [local irreducible] RunSem AListSem AgainK Again Side Sx.Ends IntKind.wrap SatV AgainR DSem MJ
end Go.Proofs.Ytmnnejkcgdfjiaa
namespace Go.Proofs.Ytmnnejkcgdfjiaa.stateSwaps
open Go.ChangeShapes Go.WideShapes Go.ChangeAt Go.RowKit
open Go.ChangeMaps (open_string shut_string)
open Go.Sx
set_option linter.unusedVariables false
theorem own : ownKnob Try.prog.godebug = none := by kernel_rfl
theorem laidOut : laidOutB Try.prog = true := by kernel_rfl
theorem walk (x0 : (TC.cons (.int .i64) (.cons (.int .i64) (.cons .str .nil))).ty) (x1 : cSt.ty) (x2 : (TC.cons (.int .i64) (.cons (.int .i64) .nil)).ty) (w0 : (TC.cons (.int .i64) (.cons (.int .i64) (.cons .str .nil))).wf x0) (w1 : cSt.wf x1) (w2 : (TC.cons (.int .i64) (.cons (.int .i64) .nil)).wf x2) (w : World) (v0 : Value) (v1 : Value) (v2 : Value) (h0 : AAt (cxOf w.heap.size (fun _ => False) []) w (valA false (TC.cons (.int .i64) (.cons (.int .i64) (.cons .str .nil))).agg (TC.cons (.int .i64) (.cons (.int .i64) (.cons .str .nil))).size ((TC.cons (.int .i64) (.cons (.int .i64) (.cons .str .nil))).enc x0)) v0) (h1 : AAt (cxOf w.heap.size (fun _ => False) []) w (valA false cSt.agg cSt.size (cSt.enc x1)) v1) (h2 : AAt (cxOf w.heap.size (fun _ => False) []) w (valA false (TC.cons (.int .i64) (.cons (.int .i64) .nil)).agg (TC.cons (.int .i64) (.cons (.int .i64) .nil)).size ((TC.cons (.int .i64) (.cons (.int .i64) .nil)).enc x2)) v2) : Calls Try.prog 5 #[v0, v1, v2] w fun e w' => e = .returned (.bool true) ∧ Below w.heap.size w w' := by
  refine Go.Sx.Sat.law (StateSwaps_ok ⟨x0.1, x0.2.1, x0.2.2.1⟩ (toSt x1) x2.1 x2.2.1 (St_R w1) (St_K w1) (St_B w1) (St_hid w1 (fun _ h => bounds_i64 h))) ⟨h0, h1.st, h2, trivial⟩
set_option maxRecDepth 100000 in
theorem lifted (os : Os) (started : os.Started) (H : Type) (enc : TypeId × Value → H) :
    ReturnsInHanded {} Try.checked os 5 .any (Rows.stateSwapsSpec.pre6 enc Try.prog Try.f5 Rows.stateSwapsRow.domain false) (Rows.stateSwapsSpec.post enc Try.prog Try.f5 false true false false) := by
  refine returnsInHanded_of_change_sized (C := Try.checked) own started (by kernel_rfl) Try.func5
    (ChangeSpec.witness6 (enc := enc) (C := Try.checked) false ⟨#[], #[.agg #[.int .i64 0, .int .i64 0, .string .empty], .agg #[.int .i64 0, .slice none 0 0, .slice none 0 0, .slice none 0 0], .agg #[.int .i64 0, .int .i64 0]], []⟩ 8 (by kernel_rfl) (by kernel_rfl) (by kernel_rfl) (by kernel_rfl)) ?_
  intro W base args ds gs before hval0 hW hcnd hwts _
  have hval : ∀ (j : Nat) t v, Try.f5.params[j]? = some t → args[j]? = some v → Value.okWide Try.prog W .any base t v := hval0
  have hW' := hW
  obtain ⟨p, q, hA0, hV, rfl, hfz, hnd⟩ := hW
  have hA : DataW.TrodAll enc Try.prog W 0 (fun _ => true) true Try.f5.params.toList args.toList ds p := hA0
  rw [Try.params5] at hA hval hwts
  obtain ⟨v0, vs0, d0, ds0, p0, q0, hargs, rfl, rfl, h0, r0⟩ := trodAll_cons hA
  obtain ⟨v1, vs1, d1, ds1, p1, q1, rfl, rfl, rfl, h1, r1⟩ := trodAll_cons r0
  obtain ⟨v2, vs2, d2, ds2, p2, q2, rfl, rfl, rfl, h2, r2⟩ := trodAll_cons r1
  obtain ⟨rfl, rfl, rfl⟩ := trodAll_nil r2
  obtain rfl : args = #[v0, v1, v2] := by cases args; simp_all
  obtain ⟨rfl, rfl⟩ := trodVars_none hV
  have k0 := h0
  have lt0 : ∀ x ∈ p0, x.block < W.heap.size := by obtain ⟨m, hm⟩ := k0; exact DataW.trod_lt m _ _ _ hm
  obtain ⟨x0, wf0, a0⟩ := Go.Sx.TC.arg T_ok (TC.cons (.int .i64) (.cons (.int .i64) (.cons .str .nil))) (by kernel_rfl) (hval 0 _ v0 rfl rfl) h0 (Go.Sx.weightsEach_get (i := 0) hwts rfl rfl)
  have k1 := h1
  have lt1 : ∀ x ∈ p1, x.block < W.heap.size := by obtain ⟨m, hm⟩ := k1; exact DataW.trod_lt m _ _ _ hm
  obtain ⟨x1, wf1, a1⟩ := Go.Sx.TC.arg T_ok cSt (by kernel_rfl) (hval 1 _ v1 rfl rfl) h1 (Go.Sx.weightsEach_get (i := 1) hwts rfl rfl)
  have k2 := h2
  have lt2 : ∀ x ∈ p2, x.block < W.heap.size := by obtain ⟨m, hm⟩ := k2; exact DataW.trod_lt m _ _ _ hm
  obtain ⟨x2, wf2, a2⟩ := Go.Sx.TC.arg T_ok (TC.cons (.int .i64) (.cons (.int .i64) .nil)) (by kernel_rfl) (hval 2 _ v2 rfl rfl) h2 (Go.Sx.weightsEach_get (i := 2) hwts rfl rfl)
  clear hA0 hval0
  refine (walk x0 x1 x2 wf0 wf1 wf2 W v0 v1 v2 a0 a1 a2).mono fun e W' ⟨he, bel⟩ => ?_
  subst he
  exact ⟨_, rfl, _, _, _, [], _, [], hW', trodAll_mk1 (shut_bool (show Try.prog.underlying 4 = some .bool by kernel_rfl) _), (trodAll_cons_mk (Below.trod laidOut (by kernel_rfl) (of_decide_eq_true (by kernel_rfl)) k0 bel lt0) (trodAll_cons_mk (Below.trod laidOut (by kernel_rfl) (of_decide_eq_true (by kernel_rfl)) k1 bel lt1) (trodAll_cons_mk (Below.trod laidOut (by kernel_rfl) (of_decide_eq_true (by kernel_rfl)) k2 bel lt2) trodAll_mk0))), rfl, bel.frame _, fun h => by cases h⟩
theorem over : Rows.stateSwapsRow.holds Try.pinned (OpenSpec.ofChange Rows.stateSwapsSpec) :=
  OpenClaim.holds_of_wide 5 Try.f5 rfl rfl rfl rfl rfl rfl rfl ⟨rfl, rfl, rfl, rfl, rfl⟩ rfl rfl rfl rfl rfl (by kernel_rfl) Try.func5 (by kernel_rfl)
    (of_decide_eq_true (by kernel_rfl)) (by unfold Func.isWrapper; first | (rw [if_pos (by decide +kernel)]; kernel_rfl) | (rw [if_neg (by decide +kernel)]; exact ⟨rfl, rfl⟩))
    (fun os started H enc _ => lifted os started H enc)
theorem proved : Rows.StateSwapsSaid := over
#print axioms proved
end Go.Proofs.Ytmnnejkcgdfjiaa.stateSwaps
namespace Go.Proofs.Ytmnnejkcgdfjiaa
end Go.Proofs.Ytmnnejkcgdfjiaa
