/- Layer 5: what tasks, robots and states must be, case by case. -/
import Derived.Test.YtmnnejkcgdfjiaaSxUState
set_option linter.all false
namespace Go.Sx
abbrev TBad (g : Gr) (s : St) (i : Nat) : Prop :=
  (((((s.K.getD i dT).id < 1 ∨ (s.K.getD i dT).id > 2147483647) ∨ ¬findI s.K (s.K.getD i dT).id = (i : Int)) ∨ ¬floorB g (s.K.getD i dT).fr = true) ∨ ¬floorB g (s.K.getD i dT).to = true) ∨ (s.K.getD i dT).fr = (s.K.getD i dT).to
theorem taskB_head {g : Gr} {s : St} {i : Nat} (h : ¬ TBad g s i) : taskB g s i = if (s.K.getD i dT).st = 1 then decide ((s.K.getD i dT).rb = -1)
    else decide (0 ≤ (s.K.getD i dT).rb ∧ (s.K.getD i dT).rb < s.R.length) && if (s.K.getD i dT).st = 2 ∨ (s.K.getD i dT).st = 3 then decide ((s.R.getD (s.K.getD i dT).rb.toNat dR).task = (s.K.getD i dT).id) else decide ((s.K.getD i dT).st = 4) := by
  unfold taskB
  show (decide (1 ≤ (s.K.getD i dT).id ∧ (s.K.getD i dT).id ≤ 2147483647 ∧ findI s.K (s.K.getD i dT).id = i) && (floorB g (s.K.getD i dT).fr && (floorB g (s.K.getD i dT).to && (decide ((s.K.getD i dT).fr ≠ (s.K.getD i dT).to) && _)))) = _
  unfold TBad at h
  have h1 : floorB g (s.K.getD i dT).fr = true := Classical.byContradiction fun e => h (.inl (.inl (.inr e)))
  have h2 : floorB g (s.K.getD i dT).to = true := Classical.byContradiction fun e => h (.inl (.inr e))
  have h3 : ¬ (s.K.getD i dT).fr = (s.K.getD i dT).to := fun e => h (.inr e)
  have h4 : findI s.K (s.K.getD i dT).id = (i : Int) := Classical.byContradiction fun e => h (.inl (.inl (.inl (.inr e))))
  have h5 : 1 ≤ (s.K.getD i dT).id ∧ (s.K.getD i dT).id ≤ 2147483647 := by
    constructor
    · exact Classical.byContradiction fun e => h (.inl (.inl (.inl (.inl (.inl (by omega))))))
    · exact Classical.byContradiction fun e => h (.inl (.inl (.inl (.inl (.inr (by omega))))))
  rw [h1, h2, decide_eq_true (show 1 ≤ (s.K.getD i dT).id ∧ (s.K.getD i dT).id ≤ 2147483647 ∧ findI s.K (s.K.getD i dT).id = i from ⟨h5.1, h5.2, h4⟩), decide_eq_true h3]
  rfl
theorem taskB_bad {g : Gr} {s : St} {i : Nat} (h : TBad g s i) : taskB g s i = false := by
  unfold taskB
  show (decide (1 ≤ (s.K.getD i dT).id ∧ (s.K.getD i dT).id ≤ 2147483647 ∧ findI s.K (s.K.getD i dT).id = i) && (floorB g (s.K.getD i dT).fr && (floorB g (s.K.getD i dT).to && (decide ((s.K.getD i dT).fr ≠ (s.K.getD i dT).to) && _)))) = _
  unfold TBad at h
  generalize s.K.getD i dT = t at *
  generalize findI s.K t.id = f at *
  by_cases e : 1 ≤ t.id ∧ t.id ≤ 2147483647 ∧ f = (i : Int)
  · by_cases e1 : floorB g t.fr = true
    · by_cases e2 : floorB g t.to = true
      · have : t.fr = t.to := by
          rcases h with ((((h | h) | h) | h) | h) | h
          · omega
          · omega
          · exact absurd e.2.2 h
          · exact absurd e1 h
          · exact absurd e2 h
          · exact h
        rw [decide_eq_false (show ¬ t.fr ≠ t.to from fun e3 => e3 this)]
        simp
      · simp [e2]
    · simp [e1]
  · rw [decide_eq_false e]
    rfl
theorem taskB_1 {g : Gr} {s : St} {i : Nat} (h : ¬ TBad g s i) (h1 : (s.K.getD i dT).st = 1) : ((s.K.getD i dT).rb == -1) = taskB g s i := by
  rw [taskB_head h, if_pos h1]
  rfl
theorem taskB_out {g : Gr} {s : St} {i : Nat} (h : ¬ TBad g s i) (h1 : ¬ (s.K.getD i dT).st = 1) (h2 : (s.K.getD i dT).rb < 0 ∨ (s.K.getD i dT).rb ≥ s.R.length) : taskB g s i = false := by
  rw [taskB_head h, if_neg h1, decide_eq_false (by omega)]
  rfl
theorem taskB_2 {g : Gr} {s : St} {i : Nat} (h : ¬ TBad g s i) (h1 : ¬ (s.K.getD i dT).st = 1) (h2 : ¬ ((s.K.getD i dT).rb < 0 ∨ (s.K.getD i dT).rb ≥ s.R.length)) (h3 : (s.K.getD i dT).st = 2 ∨ (s.K.getD i dT).st = 3) : ((s.R.getD (s.K.getD i dT).rb.toNat dR).task == (s.K.getD i dT).id) = taskB g s i := by
  rw [taskB_head h, if_neg h1, decide_eq_true (by omega), if_pos h3]
  rfl
theorem taskB_4 {g : Gr} {s : St} {i : Nat} (h : ¬ TBad g s i) (h1 : ¬ (s.K.getD i dT).st = 1) (h2 : ¬ ((s.K.getD i dT).rb < 0 ∨ (s.K.getD i dT).rb ≥ s.R.length)) (h3 : ¬ ((s.K.getD i dT).st = 2 ∨ (s.K.getD i dT).st = 3)) : ((s.K.getD i dT).st == 4) = taskB g s i := by
  rw [taskB_head h, if_neg h1, decide_eq_true (by omega), if_neg h3]
  rfl
theorem all_range_no {f : Nat → Bool} {n k : Nat} (hk : k < n) (h : f k = false) : (List.range n).all f = false := by
  rw [List.all_eq_false]
  exact ⟨k, List.mem_range.2 hk, by simp [h]⟩
theorem all_range_yes {f : Nat → Bool} {n : Nat} (h : ∀ k, k < n → f k = true) : (List.range n).all f = true := by
  rw [List.all_eq_true]
  exact fun k hk => h k (List.mem_range.1 hk)
theorem Rb_ext {r r' : Rb} (h : r.cell = r'.cell ∧ r.mode = r'.mode ∧ r.task = r'.task ∧ r.bat = r'.bat ∧ r.hold = r'.hold ∧ True) : r = r' := by
  obtain ⟨h1, h2, h3, h4, h5, _⟩ := h
  cases r; cases r'; simp_all
theorem Tk_ext {r r' : Tk} (h : r.id = r'.id ∧ r.fr = r'.fr ∧ r.to = r'.to ∧ r.st = r'.st ∧ r.rb = r'.rb ∧ True) : r = r' := by
  obtain ⟨h1, h2, h3, h4, h5, _⟩ := h
  cases r; cases r'; simp_all
theorem Rb_conj {r r' : Rb} (h : r = r') : r.cell = r'.cell ∧ r.mode = r'.mode ∧ r.task = r'.task ∧ r.bat = r'.bat ∧ r.hold = r'.hold ∧ True := by subst h; simp
theorem Tk_conj {r r' : Tk} (h : r = r') : r.id = r'.id ∧ r.fr = r'.fr ∧ r.to = r'.to ∧ r.st = r'.st ∧ r.rb = r'.rb ∧ True := by subst h; simp
theorem St_ne {a b : St} (h : ((¬a.tick = b.tick ∨ ¬(a.R.length : Int) = b.R.length) ∨ ¬(a.K.length : Int) = b.K.length) ∨ ¬a.B = b.B) : decide (a = b) = false := by
  apply decide_eq_false
  intro e
  subst e
  rcases h with ((h | h) | h) | h <;> exact h rfl
theorem St_ext {a b : St} (h1 : a.tick = b.tick) (h2 : a.R = b.R) (h3 : a.K = b.K) (h4 : a.B = b.B) : a = b := by
  cases a; cases b; simp_all
end Go.Sx
