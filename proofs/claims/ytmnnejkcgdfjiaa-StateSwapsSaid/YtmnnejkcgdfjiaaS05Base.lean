import Derived.Test.YtmnnejkcgdfjiaaS05Tab

set_option linter.all false
set_option maxHeartbeats 4000000
set_option maxRecDepth 100000
set_option linter.all false
namespace Go.Proofs.Ytmnnejkcgdfjiaa
open Go.Sx
attribute [local irreducible] RunSem AListSem AgainK Again Side Sx.Ends IntKind.wrap SatV AgainR DSem MJ
theorem mix : Try.prog.follows .mixedOrders = true := by kernel_rfl
def isV (v : Value) : AV → Sto → Prop := Gives (ι := Unit) (fun _ => .v v) (fun _ => []) (fun _ => True)
theorem isV_fun {f : FuncId} {args : List AV} {v : Value} (h : Sat Try.prog f args [] (isV v)) : Fun1 Try.prog f args (.v v) := Fun1.of h rfl
/-- A list of numbers that is handed back as a row of its own (nil is one). -/
def intsAre (l : List Int) : AV → Sto → Prop := Gives (ι := Value) (fun v => .o v) (fun v => [.row v true 3 1 (encI .i64) 0 l]) (fun _ => True)
def natsS (l : List Nat) (S : Sto) : AV → Sto → Prop := Gives (ι := Value) (fun v => .o v) (fun v => .row v true 3 1 encN 0 l :: S) (fun _ => True)
/-- A list of numbers, and a number. -/
def intsE (l : List Int) (e : Int) : AV → Sto → Prop := Gives (ι := Value) (fun v => .t [.o v, iv e]) (fun v => [.row v true 3 1 (encI .i64) 0 l]) (fun _ => True)
end Go.Proofs.Ytmnnejkcgdfjiaa
