/- Numbers. -/
import Derived.Test.YtnaickojmfefeaaSxLit
import Derived.Laws.BitsAllLaws
set_option linter.all false
namespace Go.Sx
theorem wi64 {x : Int} (h : -9223372036854775808 ≤ x ∧ x ≤ 9223372036854775807) : IntKind.i64.wrap x = x := by rw [IntKind.wrap_i64]; omega
theorem wu64 {x : Int} (h : 0 ≤ x ∧ x ≤ 18446744073709551615) : IntKind.u64.wrap x = x := by rw [IntKind.wrap_u64]; omega
theorem wu8 {x : Int} (h : 0 ≤ x ∧ x ≤ 255) : IntKind.u8.wrap x = x := by rw [IntKind.wrap_u8']; omega
theorem wu32 {x : Int} (h : 0 ≤ x ∧ x ≤ 4294967295) : IntKind.u32.wrap x = x := by rw [IntKind.wrap_u32']; omega
theorem b8 (n : Nat) : IntKind.u8.wrap (n : Int) = ((UInt8.ofNat n).toNat : Int) := by rw [IntKind.wrap_u8']; simp

theorem u8w (n : Nat) : IntKind.u8.wrap (n : Int) = ((n % 256 : Nat) : Int) := by rw [IntKind.wrap_u8']; omega
theorem u64w (n : Nat) : IntKind.u64.wrap (n : Int) = ((n % 18446744073709551616 : Nat) : Int) := by rw [IntKind.wrap_u64]; omega
theorem or8 (a b : Nat) (ha : a < 256) (hb : b < 256) : IntKind.u8.wrap ((BitVec.ofInt IntKind.u8.bits (a : Int) ||| BitVec.ofInt IntKind.u8.bits (b : Int)).toNat : Int) = ((a ||| b : Nat) : Int) := u8_or_nat a b ha hb
theorem and8 (a b : Nat) (ha : a < 256) (hb : b < 256) : IntKind.u8.wrap ((BitVec.ofInt IntKind.u8.bits (a : Int) &&& BitVec.ofInt IntKind.u8.bits (b : Int)).toNat : Int) = ((a &&& b : Nat) : Int) := u8_and_nat a b ha hb
set_option maxRecDepth 8000 in
theorem or128 : ∀ m, m < 256 → m ||| 128 = m % 128 + 128 := by decide
set_option maxRecDepth 8000 in
theorem and127 : ∀ m, m < 256 → m &&& 127 = m % 128 := by decide
theorem ofInt64N (a : Int) (h : 0 ≤ a ∧ a ≤ 18446744073709551615) : (BitVec.ofInt 64 a).toNat = a.toNat := by rw [BitVec.toNat_ofInt]; omega
theorem xor64_zero (a : Int) : (BitVec.ofInt 64 a ^^^ BitVec.ofInt 64 0).toNat = (BitVec.ofInt 64 a).toNat := by simp
theorem xor64_ones (a b : Int) (hb : BitVec.ofInt 64 b = BitVec.allOnes 64) : (BitVec.ofInt 64 a ^^^ BitVec.ofInt 64 b).toNat = 18446744073709551615 - (BitVec.ofInt 64 a).toNat := by
  rw [hb, BitVec.xor_allOnes, BitVec.toNat_not]
theorem and64_one (n : Nat) (h : n < 18446744073709551616) : (BitVec.ofInt 64 (n : Int) &&& BitVec.ofInt 64 1).toNat = n % 2 := by
  rw [BitVec.toNat_and, ofInt64N _ (by omega)]
  simp [Nat.and_one_is_mod]
theorem or64 (a b : Nat) (ha : a < 18446744073709551616) (hb : b < 18446744073709551616) : IntKind.u64.wrap ((BitVec.ofInt IntKind.u64.bits (a : Int) ||| BitVec.ofInt IntKind.u64.bits (b : Int)).toNat : Int) = ((a ||| b : Nat) : Int) := by
  have hx : a ||| b < 2 ^ 64 := Nat.or_lt_two_pow (by omega) (by omega)
  show IntKind.u64.wrap ((BitVec.ofInt 64 (a : Int) ||| BitVec.ofInt 64 (b : Int)).toNat : Int) = _
  rw [BitVec.toNat_or, ofInt64N _ (by omega), ofInt64N _ (by omega), IntKind.wrap_u64]
  simp only [Int.toNat_natCast]
  omega
theorem ones_neg : BitVec.ofInt 64 (-1) = BitVec.allOnes 64 := by apply BitVec.eq_of_toNat_eq; rw [BitVec.toNat_ofInt, BitVec.toNat_allOnes]; omega
theorem ones_max : BitVec.ofInt 64 18446744073709551615 = BitVec.allOnes 64 := by apply BitVec.eq_of_toNat_eq; rw [BitVec.toNat_ofInt, BitVec.toNat_allOnes]; omega
theorem vEq {k : IntKind} {a b : Int} (h : a = b) : AV.v (.int k a) = AV.v (.int k b) := by rw [h]
theorem fdivN (n k : Nat) : (n : Int).fdiv (k : Int) = ((n / k : Nat) : Int) := by rw [Int.fdiv_eq_ediv_of_nonneg _ (by omega)]; rfl
theorem tdivN (n k : Nat) : (n : Int).tdiv (k : Int) = ((n / k : Nat) : Int) := rfl
theorem tmodN (n k : Nat) : (n : Int).tmod (k : Int) = ((n % k : Nat) : Int) := rfl

/-- What is handed back, told by a parameter. -/
def Gives {ι : Type} (zf : ι → AV) (sf : ι → Sto) (p : ι → Prop) (z : AV) (s : Sto) : Prop := ∃ x, z = zf x ∧ s = sf x ∧ p x
theorem Ends.by {ι : Type} {zf : ι → AV} {sf : ι → Sto} {p : ι → Prop} {T : Tab} {rs : List ResultVar} {env : Env} {sto : Sto} {zs zs' : List AV} (x : ι) (h0 : isPanE env = none) (h1 : ResL T env sto rs zs) (h2 : UnwR zs (zf x) zs') (h3 : AgeL zs zs') (h4 : StoSub sto (sf x)) (h5 : p x) : Ends T rs (Gives zf sf p) env sto := by
  unfold Ends
  rw [h0]
  exact ⟨zs, zs', sf x, h1, h3, ⟨x, h2.wrap, rfl, h5⟩, h4⟩
theorem Ends.pan {R : AV → Sto → Prop} {T : Tab} {rs : List ResultVar} {v : Value} {sto s : Sto} (h1 : StoSub sto s) (h2 : R (.pan v) s) : Ends T rs R (panEnv v) sto := ⟨s, h2, h1⟩
section
variable {P : Program} {T : Tab} (hT : TabOk P T) {N : Fm} {Q : Env → Sto → Prop}
include hT
/-- A call that takes its rows, or none. -/
theorem RunSem.call {ι : Type} {zf : ι → AV} {sf : ι → Sto} {p : ι → Prop} {all : Array Oper} {rest : List Oper} {d : Tmp} {fo : Operand} {as : Array Operand} {ts : Array TypeId} {ty : TypeId} {pos : String} {af : Array Edge} {k : List It} {env : Env} {sto stoF sto1 : Sto}
    {f : FuncId} {first captured : Array Value} {zs full args : List AV} (hs : Sat P f args stoF (Gives zf sf p)) (hd : Nat.blt d N.n = true) (hf : Get env [] fo (.v (.func (.func f) first captured))) (ha : GetL env [] as.toList zs)
    (hfull : first.toList.map .v ++ zs ++ captured.toList.map .v = full) (ht : TakeP sto stoF sto1) (hp : PassL false sto1 full args) (hnp : ∀ x, panA (zf x) = false)
    (hk : ∀ x, p x → Run P T N Q (.ops all rest :: k) ((d, [], zf x) :: env) (sf x ++ sto1)) :
    RunSem P N Q (.ops all ({ dst := some d, op := .call { callee := .value fo, args := as, argTypes := ts }, type := ty, pos, after := af, guard := none } :: rest) :: k) env sto :=
  RunSem.callBy hT hd hf ha hfull ht hp hs (fun h => by cases h) (by rintro _ _ ⟨x, rfl, rfl, _⟩; exact hnp x) (by rintro _ _ ⟨x, rfl, rfl, h⟩; exact hk x h)
/-- A call to which rows are lent: what it hands back is new. -/
theorem RunSem.lend {ι : Type} {zf : ι → AV} {sf : ι → Sto} {p : ι → Prop} {all : Array Oper} {rest : List Oper} {d : Tmp} {fo : Operand} {as : Array Operand} {ts : Array TypeId} {ty : TypeId} {pos : String} {af : Array Edge} {k : List It} {env : Env} {sto stoF sto1 : Sto}
    {f : FuncId} {first captured : Array Value} {zs full args : List AV} (hs : Sat P f args stoF (Gives zf sf p)) (hfr : ∀ x, freshA (zf x) = true ∧ freshS (sf x) = true) (hd : Nat.blt d N.n = true) (hf : Get env [] fo (.v (.func (.func f) first captured))) (ha : GetL env [] as.toList zs)
    (hfull : first.toList.map .v ++ zs ++ captured.toList.map .v = full) (ht : TakeP sto stoF sto1) (hp : PassL true sto1 full args) (hnp : ∀ x, panA (zf x) = false)
    (hk : ∀ x, p x → Run P T N Q (.ops all rest :: k) ((d, [], zf x) :: env) (sf x ++ sto1)) :
    RunSem P N Q (.ops all ({ dst := some d, op := .call { callee := .value fo, args := as, argTypes := ts }, type := ty, pos, after := af, guard := none } :: rest) :: k) env sto :=
  RunSem.callBy hT hd hf ha hfull ht hp hs (fun _ => by rintro _ _ ⟨x, rfl, rfl, h⟩; exact hfr x) (by rintro _ _ ⟨x, rfl, rfl, _⟩; exact hnp x) (by rintro _ _ ⟨x, rfl, rfl, h⟩; exact hk x h)
end
end Go.Sx
