/-
  No cell of these rows narrows 'for every input' (looked for: loops, veiled, ifaces, maps, wideKeys, modest, calm, conditions, laid).
  DERIVED. THE GIVEN ROWS OF THIS SEAT. 3 by the template 'for every input the law returns true; each argument reads behind the call as it read before'; 0 by the template 'total and deterministic' (their statements: YtnaickojmfefeaaTotals.lean).
  GIVEN WITH THE SEED: the statements are not yours to turn. If you find one false, say at which input.
  Laid BY PROGRAM, IN A SANDBOX (cutbox-rows.mjs): the forced cells as the released guide's own fill.sh prints them over the translation 97d921c5df2e3720… (all of the seat's roots in one cut). By AI agents, Wed Nov 11 2026. No macro, syntax, notation, axiom, sorry.
-/
import Derived.Test.YtnaickojmfefeaaChecked
import GoSem.Claim
import GoSem.ClaimJoined
import GoSem.ClaimMapViews
import Derived.JoinedTies
import Derived.KernelRfl
namespace Go.Proofs.Ytnaickojmfefeaa
/- THE CELL 'sum', in the pinned program and in every row, IS THE sha256 OF THE DUMP (.gsa) THAT YtnaickojmfefeaaProg.lean LOADS. Nothing in Lean hashes anything: it is a label: what it is worth is what the hold of that sum in a sandbox is worth. -/
noncomputable def Try.pinned : Pinned := { name := "ytnaickojmfefeaa", sum := "97d921c5df2e3720d48a226f1a40db863f2477a457357f9dea42f3a0b9a56acb", checked := Try.checked }
namespace Rows
def none {H : Type} : Left H := { results := [], args := [] }

/-- 'tuggerlaw04.DistTells': WHATEVER THE INPUT: true; the input reads as it did. -/
def distTellsSpec : ChangeSpec := { name := "distTells", fn := fun _ => fun
  | [d1, d2, d3] => { results := [.lit (.bool true)], args := [d1, d2, d3] }
  | _ => none }
def distTellsRow : OpenClaim := { program := "ytnaickojmfefeaa", sum := "97d921c5df2e3720d48a226f1a40db863f2477a457357f9dea42f3a0b9a56acb", func := "tugger/tuggerlaw04.DistTells", spec := "distTells", inPlace := ["internal/bytealg.IndexByteString"], unfollowed := true, recurses := true, apart := false }
def DistTellsSaid : Prop := distTellsRow.holds Try.pinned (OpenSpec.ofChange distTellsSpec)

/-- ITS FALSE NEIGHBOUR: 'it returns false'. Refute it at one input. -/
def distTellsWrong : ChangeSpec := { name := "distTells", fn := fun _ => fun
  | [d1, d2, d3] => { results := [.lit (.bool false)], args := [d1, d2, d3] }
  | _ => none }
def DistTellsWrongFalsely : Prop := distTellsRow.holds Try.pinned (OpenSpec.ofChange distTellsWrong)

/-- 'tuggerlaw04.DistBlocks': WHATEVER THE INPUT: true; the input reads as it did. -/
def distBlocksSpec : ChangeSpec := { name := "distBlocks", fn := fun _ => fun
  | [d1, d2, d3] => { results := [.lit (.bool true)], args := [d1, d2, d3] }
  | _ => none }
def distBlocksRow : OpenClaim := { program := "ytnaickojmfefeaa", sum := "97d921c5df2e3720d48a226f1a40db863f2477a457357f9dea42f3a0b9a56acb", func := "tugger/tuggerlaw04.DistBlocks", spec := "distBlocks", inPlace := ["internal/bytealg.IndexByteString"], unfollowed := true, recurses := true, apart := false }
def DistBlocksSaid : Prop := distBlocksRow.holds Try.pinned (OpenSpec.ofChange distBlocksSpec)

/-- ITS FALSE NEIGHBOUR: 'it returns false'. Refute it at one input. -/
def distBlocksWrong : ChangeSpec := { name := "distBlocks", fn := fun _ => fun
  | [d1, d2, d3] => { results := [.lit (.bool false)], args := [d1, d2, d3] }
  | _ => none }
def DistBlocksWrongFalsely : Prop := distBlocksRow.holds Try.pinned (OpenSpec.ofChange distBlocksWrong)

/-- 'tuggerlaw04.DistSteps': WHATEVER THE INPUT: true; the input reads as it did. -/
def distStepsSpec : ChangeSpec := { name := "distSteps", fn := fun _ => fun
  | [d1, d2, d3] => { results := [.lit (.bool true)], args := [d1, d2, d3] }
  | _ => none }
def distStepsRow : OpenClaim := { program := "ytnaickojmfefeaa", sum := "97d921c5df2e3720d48a226f1a40db863f2477a457357f9dea42f3a0b9a56acb", func := "tugger/tuggerlaw04.DistSteps", spec := "distSteps", inPlace := ["internal/bytealg.IndexByteString"], unfollowed := true, recurses := true, apart := false }
def DistStepsSaid : Prop := distStepsRow.holds Try.pinned (OpenSpec.ofChange distStepsSpec)

/-- ITS FALSE NEIGHBOUR: 'it returns false'. Refute it at one input. -/
def distStepsWrong : ChangeSpec := { name := "distSteps", fn := fun _ => fun
  | [d1, d2, d3] => { results := [.lit (.bool false)], args := [d1, d2, d3] }
  | _ => none }
def DistStepsWrongFalsely : Prop := distStepsRow.holds Try.pinned (OpenSpec.ofChange distStepsWrong)

/- THE SECOND FORM. 'bulk': how many values and letters a reading holds, each counted each time it is reached (what is shared counts as often as it is met; a slice's spare places count too). A statement '..UptoSaid' is the law's where the arguments, and the package variables that the reading takes, are together of bulk at most 1048576: NARROWER than '..Said'. Prove '..Said' where nothing that the law and all that it calls make is longer than what came in: it says more and counts as full. Else prove '..UptoSaid'. A law counts once. -/
mutual
def uptoBulk {H : Type} : DataW H → Nat
  | .lit (.string bytes) => bytes.length + 1
  | .lit _ => 1
  | .nil => 1
  | .ptr d => uptoBulk d + 1
  | .slice elems spare => uptoBulkAll elems + uptoBulkAll spare + 1
  | .agg parts => uptoBulkAll parts + 1
  | .iface _ d => uptoBulk d + 1
  | .map entries => uptoBulkEntries entries + 1
  | .held _ => 1
def uptoBulkAll {H : Type} : List (DataW H) → Nat
  | [] => 0
  | d :: r => uptoBulk d + uptoBulkAll r
def uptoBulkEntries {H : Type} : List (Lit × DataW H) → Nat
  | [] => 0
  | x :: r => uptoBulkEntry x + uptoBulkEntries r
def uptoBulkEntry {H : Type} : Lit × DataW H → Nat
  | (.string bytes, d) => bytes.length + uptoBulk d + 1
  | (_, d) => uptoBulk d + 1
 end
def uptoSmall : (H : Type) → List (DataW H) → Bool := fun _ ds => decide (uptoBulkAll ds ≤ 1048576)
def OpenSpec.upto (s : _root_.Go.ChangeSpec) : _root_.Go.OpenSpec := { _root_.Go.OpenSpec.ofChange s with cond := some uptoSmall }

/-- 'tuggerlaw04.DistTells', WHERE WHAT IT READS IS OF BULK AT MOST 1048576: true; the input reads as it did. -/
def distTellsUptoRow : OpenClaim := { program := "ytnaickojmfefeaa", sum := "97d921c5df2e3720d48a226f1a40db863f2477a457357f9dea42f3a0b9a56acb", func := "tugger/tuggerlaw04.DistTells", spec := "distTells", inPlace := ["internal/bytealg.IndexByteString"], unfollowed := true, recurses := true, apart := false, narrowed := true }
def DistTellsUptoSaid : Prop := distTellsUptoRow.holds Try.pinned (OpenSpec.upto distTellsSpec)

/-- 'tuggerlaw04.DistBlocks', WHERE WHAT IT READS IS OF BULK AT MOST 1048576: true; the input reads as it did. -/
def distBlocksUptoRow : OpenClaim := { program := "ytnaickojmfefeaa", sum := "97d921c5df2e3720d48a226f1a40db863f2477a457357f9dea42f3a0b9a56acb", func := "tugger/tuggerlaw04.DistBlocks", spec := "distBlocks", inPlace := ["internal/bytealg.IndexByteString"], unfollowed := true, recurses := true, apart := false, narrowed := true }
def DistBlocksUptoSaid : Prop := distBlocksUptoRow.holds Try.pinned (OpenSpec.upto distBlocksSpec)

/-- 'tuggerlaw04.DistSteps', WHERE WHAT IT READS IS OF BULK AT MOST 1048576: true; the input reads as it did. -/
def distStepsUptoRow : OpenClaim := { program := "ytnaickojmfefeaa", sum := "97d921c5df2e3720d48a226f1a40db863f2477a457357f9dea42f3a0b9a56acb", func := "tugger/tuggerlaw04.DistSteps", spec := "distSteps", inPlace := ["internal/bytealg.IndexByteString"], unfollowed := true, recurses := true, apart := false, narrowed := true }
def DistStepsUptoSaid : Prop := distStepsUptoRow.holds Try.pinned (OpenSpec.upto distStepsSpec)

end Rows
end Go.Proofs.Ytnaickojmfefeaa
