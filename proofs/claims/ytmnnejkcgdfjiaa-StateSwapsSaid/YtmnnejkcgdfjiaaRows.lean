/-
  No cell of these rows narrows 'for every input' (looked for: loops, veiled, ifaces, maps, wideKeys, modest, calm, conditions, laid).
  DERIVED. THE GIVEN ROWS OF THIS SEAT. 3 by the template 'for every input the law returns true; each argument reads behind the call as it read before'; 0 by the template 'total and deterministic' (their statements: YtmnnejkcgdfjiaaTotals.lean).
  GIVEN WITH THE SEED: the statements are not yours to turn. If you find one false, say at which input.
  Laid BY PROGRAM, IN A SANDBOX (cutbox-rows.mjs): the forced cells as the released guide's own fill.sh prints them over the translation 8128159c91e46ead… (all of the seat's roots in one cut). By AI agents, Wed Nov 11 2026. No macro, syntax, notation, axiom, sorry.
-/
import Derived.Test.YtmnnejkcgdfjiaaChecked
import GoSem.Claim
import GoSem.ClaimJoined
import GoSem.ClaimMapViews
import Derived.JoinedTies
import Derived.KernelRfl
namespace Go.Proofs.Ytmnnejkcgdfjiaa
/- THE CELL 'sum', in the pinned program and in every row, IS THE sha256 OF THE DUMP (.gsa) THAT YtmnnejkcgdfjiaaProg.lean LOADS. Nothing in Lean hashes anything: it is a label: what it is worth is what the hold of that sum in a sandbox is worth. -/
noncomputable def Try.pinned : Pinned := { name := "ytmnnejkcgdfjiaa", sum := "8128159c91e46eadfc39d8068de5184fb1969821e2d583638835b95b086b1654", checked := Try.checked }
namespace Rows
def none {H : Type} : Left H := { results := [], args := [] }

/-- 'tuggerlaw05.StateTells': WHATEVER THE INPUT: true; the input reads as it did. -/
def stateTellsSpec : ChangeSpec := { name := "stateTells", fn := fun _ => fun
  | [d1, d2, d3] => { results := [.lit (.bool true)], args := [d1, d2, d3] }
  | _ => none }
def stateTellsRow : OpenClaim := { program := "ytmnnejkcgdfjiaa", sum := "8128159c91e46eadfc39d8068de5184fb1969821e2d583638835b95b086b1654", func := "tugger/tuggerlaw05.StateTells", spec := "stateTells", inPlace := ["internal/bytealg.IndexByteString"], unfollowed := true, recurses := true, apart := false }
def StateTellsSaid : Prop := stateTellsRow.holds Try.pinned (OpenSpec.ofChange stateTellsSpec)

/-- ITS FALSE NEIGHBOUR: 'it returns false'. Refute it at one input. -/
def stateTellsWrong : ChangeSpec := { name := "stateTells", fn := fun _ => fun
  | [d1, d2, d3] => { results := [.lit (.bool false)], args := [d1, d2, d3] }
  | _ => none }
def StateTellsWrongFalsely : Prop := stateTellsRow.holds Try.pinned (OpenSpec.ofChange stateTellsWrong)

/-- 'tuggerlaw05.StateNews': WHATEVER THE INPUT: true; the input reads as it did. -/
def stateNewsSpec : ChangeSpec := { name := "stateNews", fn := fun _ => fun
  | [d1, d2] => { results := [.lit (.bool true)], args := [d1, d2] }
  | _ => none }
def stateNewsRow : OpenClaim := { program := "ytmnnejkcgdfjiaa", sum := "8128159c91e46eadfc39d8068de5184fb1969821e2d583638835b95b086b1654", func := "tugger/tuggerlaw05.StateNews", spec := "stateNews", inPlace := ["internal/bytealg.IndexByteString"], unfollowed := true, recurses := true, apart := false }
def StateNewsSaid : Prop := stateNewsRow.holds Try.pinned (OpenSpec.ofChange stateNewsSpec)

/-- ITS FALSE NEIGHBOUR: 'it returns false'. Refute it at one input. -/
def stateNewsWrong : ChangeSpec := { name := "stateNews", fn := fun _ => fun
  | [d1, d2] => { results := [.lit (.bool false)], args := [d1, d2] }
  | _ => none }
def StateNewsWrongFalsely : Prop := stateNewsRow.holds Try.pinned (OpenSpec.ofChange stateNewsWrong)

/-- 'tuggerlaw05.StateSwaps': WHATEVER THE INPUT: true; the input reads as it did. -/
def stateSwapsSpec : ChangeSpec := { name := "stateSwaps", fn := fun _ => fun
  | [d1, d2, d3] => { results := [.lit (.bool true)], args := [d1, d2, d3] }
  | _ => none }
def stateSwapsRow : OpenClaim := { program := "ytmnnejkcgdfjiaa", sum := "8128159c91e46eadfc39d8068de5184fb1969821e2d583638835b95b086b1654", func := "tugger/tuggerlaw05.StateSwaps", spec := "stateSwaps", inPlace := ["internal/bytealg.IndexByteString"], unfollowed := true, recurses := true, apart := false }
def StateSwapsSaid : Prop := stateSwapsRow.holds Try.pinned (OpenSpec.ofChange stateSwapsSpec)

/-- ITS FALSE NEIGHBOUR: 'it returns false'. Refute it at one input. -/
def stateSwapsWrong : ChangeSpec := { name := "stateSwaps", fn := fun _ => fun
  | [d1, d2, d3] => { results := [.lit (.bool false)], args := [d1, d2, d3] }
  | _ => none }
def StateSwapsWrongFalsely : Prop := stateSwapsRow.holds Try.pinned (OpenSpec.ofChange stateSwapsWrong)

/- THE SECOND FORM. 'bulk': how many values and letters a reading holds, each counted each time it is reached (what is shared counts as often as it is met; a slice's spare places count too). A statement '..UptoSaid' is the law's where the arguments, and the package variables that the reading takes, are together of bulk at most 1048576: NARROWER than '..Said'. Prove '..Said' where nothing that the law and all that it calls make is longer than what came in: it says more and counts as full. Else prove '..UptoSaid'. A law counts once. -/
mutual
def uptoBulk {H : Type} : DataW H → Nat
  | .lit (.string bytes) => bytes.length + 1
  | .lit _ => 1
  | .nil => 1
  | .ptr d => uptoBulk d + 1
  | .slice elems spare => uptoBulkAll elems + uptoBulkAll spare + 1
  | .agg parts => uptoBulkAll parts + 1
  | .iface _ d => uptoBulk d + 1
  | .map entries => uptoBulkEntries entries + 1
  | .held _ => 1
def uptoBulkAll {H : Type} : List (DataW H) → Nat
  | [] => 0
  | d :: r => uptoBulk d + uptoBulkAll r
def uptoBulkEntries {H : Type} : List (Lit × DataW H) → Nat
  | [] => 0
  | x :: r => uptoBulkEntry x + uptoBulkEntries r
def uptoBulkEntry {H : Type} : Lit × DataW H → Nat
  | (.string bytes, d) => bytes.length + uptoBulk d + 1
  | (_, d) => uptoBulk d + 1
 end
def uptoSmall : (H : Type) → List (DataW H) → Bool := fun _ ds => decide (uptoBulkAll ds ≤ 1048576)
def OpenSpec.upto (s : _root_.Go.ChangeSpec) : _root_.Go.OpenSpec := { _root_.Go.OpenSpec.ofChange s with cond := some uptoSmall }

/-- 'tuggerlaw05.StateTells', WHERE WHAT IT READS IS OF BULK AT MOST 1048576: true; the input reads as it did. -/
def stateTellsUptoRow : OpenClaim := { program := "ytmnnejkcgdfjiaa", sum := "8128159c91e46eadfc39d8068de5184fb1969821e2d583638835b95b086b1654", func := "tugger/tuggerlaw05.StateTells", spec := "stateTells", inPlace := ["internal/bytealg.IndexByteString"], unfollowed := true, recurses := true, apart := false, narrowed := true }
def StateTellsUptoSaid : Prop := stateTellsUptoRow.holds Try.pinned (OpenSpec.upto stateTellsSpec)

/-- 'tuggerlaw05.StateNews', WHERE WHAT IT READS IS OF BULK AT MOST 1048576: true; the input reads as it did. -/
def stateNewsUptoRow : OpenClaim := { program := "ytmnnejkcgdfjiaa", sum := "8128159c91e46eadfc39d8068de5184fb1969821e2d583638835b95b086b1654", func := "tugger/tuggerlaw05.StateNews", spec := "stateNews", inPlace := ["internal/bytealg.IndexByteString"], unfollowed := true, recurses := true, apart := false, narrowed := true }
def StateNewsUptoSaid : Prop := stateNewsUptoRow.holds Try.pinned (OpenSpec.upto stateNewsSpec)

/-- 'tuggerlaw05.StateSwaps', WHERE WHAT IT READS IS OF BULK AT MOST 1048576: true; the input reads as it did. -/
def stateSwapsUptoRow : OpenClaim := { program := "ytmnnejkcgdfjiaa", sum := "8128159c91e46eadfc39d8068de5184fb1969821e2d583638835b95b086b1654", func := "tugger/tuggerlaw05.StateSwaps", spec := "stateSwaps", inPlace := ["internal/bytealg.IndexByteString"], unfollowed := true, recurses := true, apart := false, narrowed := true }
def StateSwapsUptoSaid : Prop := stateSwapsUptoRow.holds Try.pinned (OpenSpec.upto stateSwapsSpec)

end Rows
end Go.Proofs.Ytmnnejkcgdfjiaa
