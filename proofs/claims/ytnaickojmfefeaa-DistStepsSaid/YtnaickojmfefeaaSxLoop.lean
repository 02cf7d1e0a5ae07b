/- Loops. -/
import Derived.Test.YtnaickojmfefeaaSxInvoke
import Derived.Deep.LoopGhost
set_option linter.unusedSectionVars false
set_option linter.all false
namespace Go.Sx

inductive EnvSub (env : Env) : Env → Prop where
  | nil : EnvSub env []
  | cons {s : Nat} {z z' : AV} {e : Env} : lookup s env = some ([], z) → Age z z' → EnvSub env e → EnvSub env ((s, [], z') :: e)

theorem EnvSub.sound {env env' : Env} (h : EnvSub env env') {s : Nat} {q : Path} {z' : AV} (hl : lookup s env' = some (q, z')) : q = [] ∧ ∃ z, lookup s env = some ([], z) ∧ Age z z' := by
  induction h with
  | nil => simp [lookup] at hl
  | cons h1 h2 _ ih =>
    rw [lookup_cons] at hl
    split at hl
    · rename_i e
      simp only [Option.some.injEq, Prod.mk.injEq] at hl
      obtain ⟨rfl, rfl⟩ := hl
      exact ⟨rfl, _, e ▸ h1, h2⟩
    · exact ih hl

theorem Abs.envSub {C : Ctx} {env env' : Env} {sto : Sto} {a : Act} {w : World} (hA : Abs C env sto a w) (h : EnvSub env env') : Abs C env' sto a w := by
  refine ⟨hA.kept, hA.nodup, hA.src, hA.res, fun s q z hl hq => ?_, fun s q z hl hq => ?_, hA.tsize, hA.defers, hA.xlt, hA.xown⟩
  · obtain ⟨rfl, z0, h1, h2⟩ := h.sound hl
    exact h2.sound (hA.slots s [] z0 h1 trivial)
  · obtain ⟨rfl, _⟩ := h.sound hl
    exact absurd trivial hq

/-- A round hands its relation on, at a lesser number. -/
def Again (I : Nat → Env → Sto → Prop) (n : Nat) (env : Env) (sto : Sto) : Prop := ∃ m env' sto', m < n ∧ I m env' sto' ∧ EnvSub env env' ∧ StoSub sto sto'
theorem Again.mk {I : Nat → Env → Sto → Prop} {n : Nat} {env : Env} {sto : Sto} (m : Nat) {env' : Env} {sto' : Sto} (h1 : m < n) (h2 : I m env' sto') (h3 : EnvSub env env') (h4 : StoSub sto sto') : Again I n env sto := ⟨m, env', sto', h1, h2, h3, h4⟩

theorem RunSem.loop {P : Program} {T : Tab} (hT : TabOk P T) {N : Fm} {Q : Env → Sto → Prop} {body : Code} {k : List It} {env env0 : Env} {sto sto0 : Sto} (I : Nat → Env → Sto → Prop) (n0 : Nat) (h0 : I n0 env0 sto0)
    (he : EnvSub env env0) (hs : StoSub sto sto0) (hb : ∀ n env sto, I n env sto → Run P T N Q (.c body :: .goal (Again I n) :: k) env sto) : RunSem P N Q (.c (.loop body) :: k) env sto := by
  intro C a w hN hA
  have hA0 := (hA.sub hs).envSub he
  show wpR C.rnd P (Code.loop body) (postK P C Q k) a w
  refine wpR_loop_ghost (fun n a w => ∃ env sto, I n env sto ∧ Abs C env sto a w) n0 ⟨env0, sto0, h0, hA0⟩ ?_
  rintro n a w ⟨env, sto, hI, hA⟩
  have := (hb n env sto hI).sound hT C a w hN hA
  refine wpIn_mono this (fun e a' w' hq => ?_)
  cases e with
  | normal =>
    obtain ⟨env1, sto1, ⟨m, env2, sto2, h1, h2, h3, h4⟩, hA1⟩ := hq
    exact ⟨m, h1, env2, sto2, h2, (hA1.sub h4).envSub h3⟩
  | exit id => exact hq
  | goto l => exact hq
  | ret => exact hq
  | panic ch => exact hq
  | outgrown => exact hq

theorem RunSem.run {P : Program} {T : Tab} (hT : TabOk P T) {N : Fm} {Q : Env → Sto → Prop} {k : List It} {env : Env} {sto : Sto} (h : Run P T N Q k env sto) : RunSem P N Q k env sto := h.sound hT

/-- Forget slots and memory ahead of going on. -/
theorem RunSem.cut {P : Program} {T : Tab} (hT : TabOk P T) {N : Fm} {Q : Env → Sto → Prop} {k : List It} {env env' : Env} {sto sto' : Sto} (he : EnvSub env env') (hs : StoSub sto sto') (h : Run P T N Q k env' sto') : RunSem P N Q k env sto :=
  fun C a w hN hA => h.sound hT C a w hN ((hA.sub hs).envSub he)

end Go.Sx
