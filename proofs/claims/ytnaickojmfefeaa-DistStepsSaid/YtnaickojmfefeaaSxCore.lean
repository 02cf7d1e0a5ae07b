/- Values and memory as proofs speak of them: deep data that is only read, memory that is owned. -/
import Derived.Laws.AppendOwn
import Derived.Laws.OwnMore
import Derived.Tactics
set_option linter.all false
namespace Go.Sx

/-- What a cell that is only read holds: a value, or a slice whose elements are told by a list. -/
inductive DV : Type 1 where
  | v (x : Value)
  | sl {α : Type} (sz : Nat) (enc : α → Nat → DV) (dv : α) (xs : List α)

def oneV : Value → Bool
  | .agg _ | .tuple _ => false
  | _ => true

inductive DAt (F : Nat → Prop) (w : World) : DV → Value → Prop where
  | v (x : Value) : oneV x = true → DAt F w (.v x) x
  | nil {α : Type} (sz : Nat) (enc : α → Nat → DV) (dv : α) (A : Option Addr) (c : Nat) : DAt F w (.sl sz enc dv []) (.slice A 0 c)
  | sl {α : Type} (sz : Nat) (enc : α → Nat → DV) (dv : α) (xs : List α) (a : Addr) (c : Nat) (Y : Nat → Nat → Value) :
      F a.block → a.block < w.heap.size → xs.length ≤ c →
      (∀ i j, i < xs.length → j < sz → w.cell? (a.add (i * sz + j)) = some (Y i j)) →
      (∀ i j, i < xs.length → j < sz → DAt F w (enc (xs.getD i dv) j) (Y i j)) → DAt F w (.sl sz enc dv xs) (.slice (some a) xs.length c)

theorem add_block (a : Addr) (n : Nat) : (a.add n).block = a.block := by unfold Addr.add; split <;> rfl

theorem DAt.mono {F F' : Nat → Prop} {w w' : World} {d : DV} {u : Value} (h : DAt F w d u) (hF : ∀ b, b < w.heap.size → F b → F' b ∧ w'.heap[b]? = w.heap[b]?) (hs : w.heap.size ≤ w'.heap.size) : DAt F' w' d u := by
  induction h with
  | v x h => exact .v x h
  | nil sz enc dv A c => exact .nil sz enc dv A c
  | sl sz enc dv xs a c Y hf hb hc hY _ ih =>
    refine .sl sz enc dv xs a c Y (hF _ hb hf).1 (by omega) hc (fun i j hi hj => ?_) ih
    rw [← hY i j hi hj]
    exact World.cell?_of_block (by rw [add_block]; exact (hF _ hb hf).2)

theorem DAt.inv_v {F : Nat → Prop} {w : World} {x u : Value} (h : DAt F w (.v x) u) : u = x := by
  generalize hd : DV.v x = d at h
  cases h <;> simp_all
theorem DAt.inv_one {F : Nat → Prop} {w : World} {d : DV} {u : Value} (h : DAt F w d u) : oneV u = true := by
  cases h with
  | v _ h => exact h
  | nil => rfl
  | sl => rfl
theorem DAt.inv_sl {F : Nat → Prop} {w : World} {α : Type} {sz : Nat} {enc : α → Nat → DV} {dv : α} {xs : List α} {u : Value} (h : DAt F w (.sl sz enc dv xs) u) :
    (xs = [] ∧ ∃ A c, u = .slice A 0 c) ∨ ∃ a c, u = .slice (some a) xs.length c ∧ F a.block ∧ a.block < w.heap.size ∧ xs.length ≤ c ∧
      ∀ i j, i < xs.length → j < sz → ∃ y, w.cell? (a.add (i * sz + j)) = some y ∧ DAt F w (enc (xs.getD i dv) j) y := by
  cases h with
  | nil _ _ _ A c => exact .inl ⟨rfl, A, c, rfl⟩
  | sl _ _ _ _ a c Y h1 h2 h3 h4 h5 => exact .inr ⟨a, c, rfl, h1, h2, h3, fun i j hi hj => ⟨_, h4 i j hi hj, h5 i j hi hj⟩⟩

inductive AV : Type 1 where
  | v (x : Value)
  | d {α : Type} (new : Bool) (sz : Nat) (enc : α → Nat → DV) (dv : α) (xs : List α)
  | p {α : Type} (new : Bool) (sz : Nat) (enc : α → Nat → DV) (dv : α) (xs : List α) (i j : Nat)
  | o (v : Value)
  | e (v : Value) (sz i j : Nat)
  | s (v : Value) (sz lo hi : Nat)
  | g (xs : List AV)
  | t (xs : List AV)
  | pan (x : Value)

structure Cx where
  own : Nat → Prop
  X : Nat → Prop
  B : Nat

def Cx.ok (cx : Cx) (new : Bool) (b : Nat) : Prop := ¬ cx.own b ∧ (¬ cx.X b ∧ (new = true → cx.B ≤ b))

mutual
def AAt (cx : Cx) (w : World) : AV → Value → Prop
  | .v x, u => u = x
  | .d new sz enc dv xs, u => DAt (cx.ok new) w (.sl sz enc dv xs) u
  | .p new sz enc dv xs i j, u => ∃ a c, u = .pointer (some (a.add (i * sz + j))) ∧ i < xs.length ∧ j < sz ∧ DAt (cx.ok new) w (.sl sz enc dv xs) (.slice (some a) xs.length c)
  | .o v, u => u = v ∧ ∃ A n c, v = .slice A n c
  | .e v sz i j, u => ∃ a n c, v = .slice (some a) n c ∧ i < n ∧ j < sz ∧ u = .pointer (some (a.add (i * sz + j)))
  | .s v sz lo hi, u => ∃ A n c, v = .slice A n c ∧ lo ≤ hi ∧ hi ≤ n ∧ n ≤ c ∧ u = .slice (if c = lo then A else A.map (·.add (lo * sz))) (hi - lo) (c - lo)
  | .g xs, u => ∃ arr : Array Value, u = .agg arr ∧ AAtL cx w xs arr.toList
  | .t xs, u => ∃ arr : Array Value, u = .tuple arr ∧ AAtL cx w xs arr.toList
  | .pan _, _ => False
def AAtL (cx : Cx) (w : World) : List AV → List Value → Prop
  | [], [] => True
  | x :: xs, u :: us => AAt cx w x u ∧ AAtL cx w xs us
  | _, _ => False
end

mutual
theorem AAt.mono {cx cx' : Cx} {w w' : World} (hF : ∀ n b, b < w.heap.size → cx.ok n b → cx'.ok n b ∧ w'.heap[b]? = w.heap[b]?) (hs : w.heap.size ≤ w'.heap.size) :
    ∀ {z : AV} {u : Value}, AAt cx w z u → AAt cx' w' z u
  | .v x, u, h => by simpa [AAt] using h
  | .d new sz enc dv xs, u, h => by
    simp only [AAt] at h ⊢
    exact DAt.mono h (fun b => hF new b) hs
  | .p new sz enc dv xs i j, u, h => by
    simp only [AAt] at h ⊢
    obtain ⟨a, c, h1, h2, h3, h4⟩ := h
    exact ⟨a, c, h1, h2, h3, DAt.mono h4 (fun b => hF new b) hs⟩
  | .o v, u, h => by simpa only [AAt] using h
  | .e v sz i j, u, h => by simpa only [AAt] using h
  | .s v sz lo hi, u, h => by simpa only [AAt] using h
  | .g xs, u, h => by
    simp only [AAt] at h ⊢
    obtain ⟨arr, h1, h2⟩ := h
    exact ⟨arr, h1, AAtL.mono hF hs h2⟩
  | .t xs, u, h => by
    simp only [AAt] at h ⊢
    obtain ⟨arr, h1, h2⟩ := h
    exact ⟨arr, h1, AAtL.mono hF hs h2⟩
  | .pan x, u, h => by simp [AAt] at h
theorem AAtL.mono {cx cx' : Cx} {w w' : World} (hF : ∀ n b, b < w.heap.size → cx.ok n b → cx'.ok n b ∧ w'.heap[b]? = w.heap[b]?) (hs : w.heap.size ≤ w'.heap.size) :
    ∀ {xs : List AV} {us : List Value}, AAtL cx w xs us → AAtL cx' w' xs us
  | [], [], _ => by simp [AAtL]
  | [], _ :: _, h => by simp [AAtL] at h
  | _ :: _, [], h => by simp [AAtL] at h
  | x :: xs, u :: us, h => by
    simp only [AAtL] at h ⊢
    exact ⟨AAt.mono hF hs h.1, AAtL.mono hF hs h.2⟩
end

end Go.Sx
