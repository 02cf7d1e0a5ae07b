/- Layer 5: states. -/
import Derived.Test.YtmnnejkcgdfjiaaSxUGrid
import Derived.Test.YtmnnejkcgdfjiaaSxUMoves
set_option linter.all false
namespace Go.Sx
structure Rb where
  cell : Int
  mode : Int
  task : Int
  bat : Int
  hold : Int
  deriving DecidableEq
structure Tk where
  id : Int
  fr : Int
  to : Int
  st : Int
  rb : Int
  deriving DecidableEq
structure St where
  tick : Int
  R : List Rb
  K : List Tk
  B : List Int
  deriving DecidableEq
def dR : Rb := ⟨0, 0, 0, 0, 0⟩
def dT : Tk := ⟨0, 0, 0, 0, 0⟩
def encR (r : Rb) (j : Nat) : DV := match j with
  | 0 => .v (.int .i64 r.cell)
  | 1 => .v (.int .i64 r.mode)
  | 2 => .v (.int .i64 r.task)
  | 3 => .v (.int .i64 r.bat)
  | _ => .v (.int .i64 r.hold)
def encT (t : Tk) (j : Nat) : DV := match j with
  | 0 => .v (.int .i64 t.id)
  | 1 => .v (.int .i64 t.fr)
  | 2 => .v (.int .i64 t.to)
  | 3 => .v (.int .i64 t.st)
  | _ => .v (.int .i64 t.rb)
theorem flatR : FlatE encR := .of (fun x j => by unfold encR; split <;> exact ⟨_, rfl⟩)
theorem flatT : FlatE encT := .of (fun x j => by unfold encT; split <;> exact ⟨_, rfl⟩)
abbrev DR (l : List Rb) : AV := .d false 5 encR dR l
abbrev DT (l : List Tk) : AV := .d false 5 encT dT l
/-- A state that is only read. -/
abbrev sA (s : St) : AV := .g [iv s.tick, DR s.R, DT s.K, DI s.B]
/-- The place of a task. -/
def findN (l : List Tk) (id : Int) : Option Nat := l.findIdx? fun t => decide (t.id = id)
def findI (l : List Tk) (id : Int) : Int := match findN l id with
  | some n => n
  | none => -1
abbrev St.r (s : St) (i : Nat) : Rb := s.R.getD i dR
abbrev St.t (s : St) (i : Nat) : Tk := s.K.getD i dT
def modeB (s : St) (i : Nat) : Bool :=
  if (s.r i).mode = 0 ∨ (s.r i).mode = 3 ∨ ((s.r i).mode = 4 ∧ (s.r i).task = 0) then decide ((s.r i).task = 0)
  else decide (((s.r i).mode = 1 ∨ (s.r i).mode = 2 ∨ (s.r i).mode = 4) ∧ 0 ≤ findI s.K (s.r i).task ∧ (s.t (findI s.K (s.r i).task).toNat).st = (if (s.r i).mode = 1 then 2 else 3) ∧ (s.t (findI s.K (s.r i).task).toNat).rb = i)
def robotB (g : Gr) (s : St) (i : Nat) : Bool :=
  floorB g (s.r i).cell && (decide (0 ≤ (s.r i).bat ∧ (s.r i).bat ≤ 1000 ∧ 0 ≤ (s.r i).hold ∧ (s.r i).hold ≤ 1000) && ((List.range i).all (fun k => decide ((s.r k).cell ≠ (s.r i).cell)) && modeB s i))
def taskB (g : Gr) (s : St) (i : Nat) : Bool :=
  decide (1 ≤ (s.t i).id ∧ (s.t i).id ≤ 2147483647 ∧ findI s.K (s.t i).id = i) && (floorB g (s.t i).fr && (floorB g (s.t i).to && (decide ((s.t i).fr ≠ (s.t i).to) &&
    if (s.t i).st = 1 then decide ((s.t i).rb = -1)
    else decide (0 ≤ (s.t i).rb ∧ (s.t i).rb < s.R.length) && if (s.t i).st = 2 ∨ (s.t i).st = 3 then decide ((s.r (s.t i).rb.toNat).task = (s.t i).id) else decide ((s.t i).st = 4))))
def blockB (g : Gr) (s : St) (i : Nat) : Bool := floorB g (s.B.getD i 0) && decide (i = 0 ∨ s.B.getD (i - 1) 0 < s.B.getD i 0)
/-- May a state be? -/
def rightS (g : Gr) (s : St) : Bool :=
  decide (0 ≤ s.tick ∧ s.tick ≤ 2147483647 ∧ s.R.length ≤ 1024 ∧ s.K.length ≤ 1000) && ((List.range s.R.length).all (robotB g s) && ((List.range s.K.length).all (taskB g s) && (List.range s.B.length).all (blockB g s)))
def lightS (g : Gr) (s : St) : Bool := decide (g.C.size ≤ 150 ∧ s.R.length ≤ 12 ∧ s.K.length ≤ 20 ∧ s.B.length ≤ 20)
theorem findN_some {l : List Tk} {id : Int} {n : Nat} : findN l id = some n ↔ n < l.length ∧ (l.getD n dT).id = id ∧ ∀ k, k < n → (l.getD k dT).id ≠ id := by
  unfold findN
  rw [List.findIdx?_eq_some_iff_getElem]
  constructor
  · rintro ⟨h1, h2, h3⟩
    refine ⟨h1, by simpa [List.getD, h1] using h2, fun k hk => ?_⟩
    have := h3 k hk
    have hkl : k < l.length := by omega
    simpa [List.getD, hkl] using this
  · rintro ⟨h1, h2, h3⟩
    refine ⟨h1, by simpa [List.getD, h1] using h2, fun k hk => ?_⟩
    have := h3 k hk
    have hkl : k < l.length := by omega
    simpa [List.getD, hkl] using this
theorem findN_none {l : List Tk} {id : Int} : findN l id = none ↔ ∀ k, k < l.length → (l.getD k dT).id ≠ id := by
  unfold findN
  rw [List.findIdx?_eq_none_iff]
  constructor
  · intro h k hk
    have := h l[k] (List.getElem_mem hk)
    simpa [List.getD, hk] using this
  · intro h x hx
    obtain ⟨k, hk, rfl⟩ := List.getElem_of_mem hx
    have := h k hk
    simpa [List.getD, hk] using this
theorem findI_ge (l : List Tk) (id : Int) : -1 ≤ findI l id ∧ findI l id < l.length := by
  unfold findI
  cases h : findN l id with
  | none => simp; omega
  | some n => have := (findN_some.1 h).1; simp; omega
theorem findI_is {l : List Tk} {id : Int} {n : Nat} (h : n < l.length) (he : (l.getD n dT).id = id) (hk : ∀ k, k < n → (l.getD k dT).id ≠ id) : findI l id = n := by
  unfold findI
  rw [findN_some.2 ⟨h, he, hk⟩]
theorem findI_no {l : List Tk} {id : Int} (hk : ∀ k, k < l.length → (l.getD k dT).id ≠ id) : findI l id = -1 := by
  unfold findI
  rw [findN_none.2 hk]
theorem modeB_idle {s : St} {i : Nat} (h : ((s.R.getD i dR).mode = 0 ∨ (s.R.getD i dR).mode = 3) ∨ (s.R.getD i dR).mode = 4 ∧ (s.R.getD i dR).task = 0) : ((s.R.getD i dR).task == 0) = modeB s i := by
  unfold modeB
  rw [if_pos (by simp only [St.r]; omega)]
  rfl
theorem modeB_on {s : St} {i : Nat} {w : Int} (h : ¬ (((s.R.getD i dR).mode = 0 ∨ (s.R.getD i dR).mode = 3) ∨ (s.R.getD i dR).mode = 4 ∧ (s.R.getD i dR).task = 0)) (hw : w = if (s.R.getD i dR).mode = 1 then 2 else 3) :
    (((((s.R.getD i dR).mode == 1 || (s.R.getD i dR).mode == 2) || (s.R.getD i dR).mode == 4) && decide (findI s.K (s.R.getD i dR).task ≥ 0)) && (s.K.getD (findI s.K (s.R.getD i dR).task).toNat dT).st == w && (s.K.getD (findI s.K (s.R.getD i dR).task).toNat dT).rb == (i : Int)) = modeB s i := by
  unfold modeB
  rw [if_neg (show ¬ ((s.r i).mode = 0 ∨ (s.r i).mode = 3 ∨ ((s.r i).mode = 4 ∧ (s.r i).task = 0)) from fun h' => h (h'.elim (fun h1 => .inl (.inl h1)) (fun h1 => h1.elim (fun h1 => .inl (.inr h1)) .inr)))]
  show _ = decide (((s.R.getD i dR).mode = 1 ∨ (s.R.getD i dR).mode = 2 ∨ (s.R.getD i dR).mode = 4) ∧ 0 ≤ findI s.K (s.R.getD i dR).task ∧ (s.K.getD (findI s.K (s.R.getD i dR).task).toNat dT).st = (if (s.R.getD i dR).mode = 1 then 2 else 3) ∧ (s.K.getD (findI s.K (s.R.getD i dR).task).toNat dT).rb = i)
  rw [← hw]
  generalize s.K.getD (findI s.K (s.R.getD i dR).task).toNat dT = t
  generalize findI s.K (s.R.getD i dR).task = f
  generalize s.R.getD i dR = r
  rw [Bool.eq_iff_iff]
  simp only [Bool.and_eq_true, Bool.or_eq_true, beq_iff_eq, decide_eq_true_eq, ge_iff_le]
  constructor
  · rintro ⟨⟨⟨(h1 | h1) | h1, h2⟩, h3⟩, h4⟩
    · exact ⟨.inl h1, h2, h3, h4⟩
    · exact ⟨.inr (.inl h1), h2, h3, h4⟩
    · exact ⟨.inr (.inr h1), h2, h3, h4⟩
  · rintro ⟨h1 | h1 | h1, h2, h3, h4⟩
    · exact ⟨⟨⟨.inl (.inl h1), h2⟩, h3⟩, h4⟩
    · exact ⟨⟨⟨.inl (.inr h1), h2⟩, h3⟩, h4⟩
    · exact ⟨⟨⟨.inr h1, h2⟩, h3⟩, h4⟩
end Go.Sx
