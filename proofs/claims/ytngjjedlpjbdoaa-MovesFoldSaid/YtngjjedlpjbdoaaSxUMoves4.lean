/- Layer 12: ways back; walks in two parts. -/
import Derived.Test.YtngjjedlpjbdoaaSxUMoves3
set_option linter.all false
namespace Go.Sx
theorem goes_way {g : Gr} {c w x : Int} (h : goesB g c w = some x) : 0 ≤ w ∧ w ≤ 4 := by
  unfold goesB at h
  split at h
  · cases h
  · omega
theorem goM_ways {g : Gr} {a b w : List Int} (h : waysM g a b = some w) : goM g a w = some b := by
  unfold waysM at h
  have hl := allM_len h
  exact allM_of (by omega) (by omega) (fun i hi => (wayTo_some (allM_get h i (by omega))).1)
theorem allM_some {q : Int → Int → Option Int} : ∀ {xs ys : List Int}, xs.length = ys.length → (∀ i, i < xs.length → ∃ z, q (xs.getD i 0) (ys.getD i 0) = some z) → ∃ l, allM q xs ys = some l
  | [], [], _, _ => ⟨[], rfl⟩
  | [], _ :: _, h, _ => by simp at h
  | _ :: _, [], h, _ => by simp at h
  | x :: xs, y :: ys, h, hq => by
    obtain ⟨z, hz⟩ : ∃ z, q x y = some z := by simpa using hq 0 (by simp)
    obtain ⟨l, hl⟩ := allM_some (xs := xs) (ys := ys) (by simpa using h) (fun i hi => by simpa using hq (i + 1) (by simpa using hi))
    exact ⟨z :: l, by rw [allM, hz]; simp only [hl]; rfl⟩
theorem ways_goM {g : Gr} {a b n : List Int} (h : goM g a b = some n) : ∃ w, waysM g a n = some w ∧ w.length = b.length ∧ w.length = a.length ∧ w.length = n.length ∧ (∀ i, i < w.length → w.getD i 0 ≤ b.getD i 0) ∧ ∀ i, i < w.length → goesB g (a.getD i 0) (w.getD i 0) = some (n.getD i 0) := by
  unfold goM at h
  have hl := allM_len h
  have hg : ∀ i, i < n.length → goesB g (a.getD i 0) (b.getD i 0) = some (n.getD i 0) := allM_get h
  have hw : ∀ i, i < n.length → ∃ z, wayTo g (a.getD i 0) (n.getD i 0) = some z ∧ z ≤ b.getD i 0 := fun i hi =>
    wayTo_goes (hg i hi) (goes_way (hg i hi)).1 (goes_way (hg i hi)).2
  obtain ⟨w, hw'⟩ := allM_some (q := wayTo g) (xs := a) (ys := n) (by omega) (fun i hi => by obtain ⟨z, hz, _⟩ := hw i (by omega); exact ⟨z, hz⟩)
  have hwl := allM_len hw'
  refine ⟨w, hw', by omega, by omega, by omega, fun i hi => ?_, fun i hi => (wayTo_some (allM_get hw' i hi)).1⟩
  have h1 := allM_get hw' i hi
  obtain ⟨z, h2, h3⟩ := hw i (by omega)
  rw [h1] at h2
  simp only [Option.some.injEq] at h2
  omega
theorem walk_app {g : Gr} : ∀ (p : List (List Int)) (q : List (List Int)) (c : List Int), walkM g c (p ++ q) = match walkM g c p with | none => none | some o => (walkM g (o.getD p.length []) q).map fun r => o ++ r.drop 1
  | [], q, c => by
    simp only [List.nil_append, walkM, List.length_nil]
    rw [show [c].getD 0 [] = c from rfl]
    cases h : walkM g c q with
    | none => rfl
    | some r =>
      have h1 := walkM_ne h
      simp only [Option.map_some]
      congr 1
      cases r with
      | nil => simp at h1
      | cons x r => have := h1.2; simp at this; simp [this]
  | w :: p, q, c => by
    rw [List.cons_append, walkM, walkM]
    cases hg : goM g c w with
    | none => rfl
    | some n =>
      simp only [walk_app p q n]
      cases h : walkM g n p with
      | none => rfl
      | some o =>
        simp only [Option.map_some, List.length_cons, List.getD_cons_succ, Option.map_map]
        congr 1
theorem walk_none {g : Gr} {c : List Int} {l : List (List Int)} {k : Nat} (h : walkM g c ((l.take k).drop 1) = none) (h1 : 1 ≤ k) : walkM g c (l.drop 1) = none := by
  have e : l.drop 1 = (l.take k).drop 1 ++ l.drop k := by
    conv => lhs; rw [← List.take_append_drop k l]
    rw [List.drop_append]
    cases l with
    | nil => simp
    | cons x l =>
      rw [show 1 - (List.take k (x :: l)).length = 0 by rw [List.length_take, List.length_cons]; omega]
      rfl
  rw [e, walk_app, h]
theorem walk_some {g : Gr} {c : List Int} {l : List (List Int)} {k : Nat} {o : List (List Int)} (h : walkM g c ((l.take k).drop 1) = some o) (h1 : 1 ≤ k) (h2 : k ≤ l.length) : o.length = k ∧ walkM g c (l.drop 1) = (walkM g (o.getD (k - 1) []) (l.drop k)).map fun r => o ++ r.drop 1 := by
  have e : l.drop 1 = (l.take k).drop 1 ++ l.drop k := by
    conv => lhs; rw [← List.take_append_drop k l]
    rw [List.drop_append]
    rw [show 1 - (List.take k l).length = 0 by rw [List.length_take]; omega]
    rfl
  have hl : ((l.take k).drop 1).length = k - 1 := by rw [List.length_drop, List.length_take]; omega
  refine ⟨by rw [(walkM_ne h).1, hl]; omega, ?_⟩
  rw [e, walk_app, h, hl]
end Go.Sx
