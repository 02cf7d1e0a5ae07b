/- Layer 2: what stands in bytes; frames one behind the other. -/
import Derived.Test.YtojfchnfhmccaaaSxUFrame
set_option linter.all false
namespace Go.Sx
/-- What stands at a place: 0, a frame's bytes and the place behind it; 1: it is torn; 2: it is bad. -/
def frameAt (b : List UInt8) (at_ : Nat) : Nat × List UInt8 × Nat :=
  if (takeB b at_).2.2 = 2 then (1, [], 0) else
  if (takeB b at_).2.2 ≠ 0 ∨ 1000000 < (takeB b at_).1 then (2, [], 0) else
  if b.length < (takeB b at_).2.1.toNat + (takeB b at_).1 + 4 then (1, [], 0) else
  if fourB (checkN ((b.take ((takeB b at_).2.1.toNat + (takeB b at_).1)).drop (takeB b at_).2.1.toNat)) =
    (b.take ((takeB b at_).2.1.toNat + (takeB b at_).1 + 4)).drop ((takeB b at_).2.1.toNat + (takeB b at_).1) then
    (0, (b.take ((takeB b at_).2.1.toNat + (takeB b at_).1)).drop (takeB b at_).2.1.toNat, (takeB b at_).2.1.toNat + (takeB b at_).1 + 4)
  else if (takeB b at_).2.1.toNat + (takeB b at_).1 + 4 = b.length then (1, [], 0) else (2, [], 0)
def scanGo (b : List UInt8) : Nat → Nat → List (List UInt8) → List (List UInt8) × Nat × Nat
  | 0, at_, out => (out, at_, 0)
  | f + 1, at_, out => if b.length ≤ at_ then (out, at_, 0) else if (frameAt b at_).1 = 0 then scanGo b f (frameAt b at_).2.2 (out ++ [(frameAt b at_).2.1]) else (out, at_, (frameAt b at_).1)
def scanB (b : List UInt8) : List (List UInt8) × Nat × Nat := scanGo b b.length 0 []
theorem scanGo_end {b : List UInt8} {at_ : Nat} (f : Nat) (out : List (List UInt8)) (h : b.length ≤ at_) : scanGo b f at_ out = (out, at_, 0) := by
  cases f with
  | zero => rfl
  | succ f => rw [scanGo, if_pos h]
theorem scanGo_is {b : List UInt8} {at_ f : Nat} {out : List (List UInt8)} (h : at_ < b.length) (h0 : (frameAt b at_).1 = 0) : scanGo b (f + 1) at_ out = scanGo b f (frameAt b at_).2.2 (out ++ [(frameAt b at_).2.1]) := by
  rw [scanGo, if_neg (by omega), if_pos h0]
theorem scanGo_no {b : List UInt8} {at_ f : Nat} {out : List (List UInt8)} (h : at_ < b.length) (h0 : (frameAt b at_).1 ≠ 0) : scanGo b (f + 1) at_ out = (out, at_, (frameAt b at_).1) := by
  rw [scanGo, if_neg (by omega), if_neg h0]
theorem frameAt_facts {b : List UInt8} {at_ : Nat} (h : (frameAt b at_).1 = 0) : at_ < (frameAt b at_).2.2 ∧ (frameAt b at_).2.2 ≤ b.length ∧ (frameAt b at_).2.1.length + 5 ≤ (frameAt b at_).2.2 - at_ := by
  obtain ⟨-, h2, -⟩ := takeB_facts b at_
  unfold frameAt at h ⊢
  split
  · rename_i c; rw [if_pos c] at h; cases h
  · rename_i c1
    rw [if_neg c1] at h
    split
    · rename_i c; rw [if_pos c] at h; cases h
    · rename_i c2
      rw [if_neg c2] at h
      split
      · rename_i c; rw [if_pos c] at h; cases h
      · rename_i c3
        rw [if_neg c3] at h
        have h2' := h2 (Classical.not_not.1 fun hn => c2 (.inl hn))
        split
        · simp only [List.length_drop, List.length_take]
          omega
        · rename_i c4
          rw [if_neg c4] at h
          split at h <;> cases h
theorem putN_head (n : Nat) : ∃ x r, putN n = x :: r := by
  rw [putN]; split
  · exact ⟨_, _, rfl⟩
  · exact ⟨_, _, rfl⟩
theorem frameB_len (x : List UInt8) : (frameB x).length = (putN x.length).length + x.length + 4 := by
  simp only [frameB, List.length_append, fourB, List.length_cons, List.length_nil]; omega
theorem frameB_bounds (x : List UInt8) (h : x.length < 18446744073709551616) : x.length + 5 ≤ (frameB x).length ∧ (frameB x).length ≤ x.length + 14 := by
  have h1 := putN_pos x.length
  have h2 := putN_len x.length h
  rw [frameB_len]
  omega
theorem fourB_len (c : Nat) : (fourB c).length = 4 := rfl
theorem take_mid {α : Type} (a b c : List α) : ((a ++ (b ++ c)).take (a.length + b.length)).drop a.length = b := by
  rw [List.take_append, List.take_of_length_le (by omega), List.drop_append, List.drop_of_length_le (by omega), List.nil_append, Nat.sub_self, List.drop_zero, show a.length + b.length - a.length = b.length by omega, List.take_left']
  rfl
/-- A number, so many bytes, and four bytes behind them. -/
theorem frameAt_put (pre body tail post : List UInt8) (hb : body.length ≤ 1000000) (ht : tail.length = 4) :
    frameAt (pre ++ (putN body.length ++ (body ++ (tail ++ post)))) pre.length = if fourB (checkN body) = tail then (0, body, pre.length + (putN body.length).length + body.length + 4) else if post = [] then (1, [], 0) else (2, [], 0) := by
  have ht1 := takeB_put pre (body ++ (tail ++ post)) body.length (by omega)
  have e1 : ((pre ++ (putN body.length ++ (body ++ (tail ++ post)))).take (pre.length + (putN body.length).length + body.length)).drop (pre.length + (putN body.length).length) = body := by
    have := take_mid (pre ++ putN body.length) body (tail ++ post)
    rw [List.length_append, List.append_assoc] at this
    exact this
  have e2 : ((pre ++ (putN body.length ++ (body ++ (tail ++ post)))).take (pre.length + (putN body.length).length + body.length + 4)).drop (pre.length + (putN body.length).length + body.length) = tail := by
    have := take_mid (pre ++ (putN body.length ++ body)) tail post
    rw [List.length_append, List.length_append, ht, List.append_assoc, List.append_assoc, ← Nat.add_assoc] at this
    exact this
  unfold frameAt
  rw [ht1]
  simp only [Int.toNat_natCast]
  rw [if_neg (by decide), if_neg (by omega), e1, e2]
  rw [if_neg (by simp only [List.length_append]; omega)]
  by_cases h : fourB (checkN body) = tail
  · rw [if_pos h, if_pos h]
  · rw [if_neg h, if_neg h]
    by_cases hp : post = []
    · subst hp
      rw [if_pos (by simp only [List.length_append, List.length_nil]; omega), if_pos rfl]
    · have : 0 < post.length := List.length_pos_iff.2 hp
      rw [if_neg (by simp only [List.length_append]; omega), if_neg hp]
theorem frameAt_own (pre x post : List UInt8) (hx : x.length ≤ 1000000) : frameAt (pre ++ (frameB x ++ post)) pre.length = (0, x, (pre ++ frameB x).length) := by
  have := frameAt_put pre x (fourB (checkN x)) post hx rfl
  rw [if_pos rfl] at this
  rw [show pre ++ (frameB x ++ post) = pre ++ (putN x.length ++ (x ++ (fourB (checkN x) ++ post))) by simp [frameB], this, List.length_append, frameB_len]
  congr 2; omega
theorem takeGo_torn : ∀ (x i n k : Nat), k < (putN x).length → i + (putN x).length ≤ 10 → (takeGo ((putN x).take k) i n).2.2 = 2 := by
  intro x
  induction x using Nat.strongRecOn with
  | _ x ih =>
  intro i n k hk hi
  cases k with
  | zero => simp [takeGo]
  | succ k =>
    rcases Nat.lt_or_ge x 128 with h | h
    · rw [putN_lt h] at hk; simp at hk
    · have hl := putN_pos (x / 128)
      rw [putN_ge h] at hk hi ⊢
      simp only [List.length_cons] at hk hi
      have e : (UInt8.ofNat (x % 128 + 128)).toNat = x % 128 + 128 := by simp; omega
      rw [List.take_succ_cons, takeGo, e, if_neg (by omega), if_neg (by omega)]
      exact ih (x / 128) (by omega) _ _ k (by omega) (by omega)
/-- A beginning of a frame is torn. -/
theorem frameAt_torn (pre x : List UInt8) (hx : x.length ≤ 1000000) (k : Nat) (h0 : k < (frameB x).length) : (frameAt (pre ++ (frameB x).take k) pre.length).1 = 1 := by
  rcases Nat.lt_or_ge k (putN x.length).length with h | h
  · have e : (frameB x).take k = (putN x.length).take k := by rw [frameB, List.take_append_of_le_length (by omega)]
    have ht : (takeB (pre ++ (putN x.length).take k) (pre.length : Int)).2.2 = 2 := by
      have h10 := putN_len x.length (by omega)
      have := takeGo_torn x.length 0 0 k h (by omega)
      rw [takeB, if_neg (by simp only [List.length_append]; omega), Int.toNat_natCast, List.drop_left]
      simp [this]
    unfold frameAt
    rw [e, if_pos ht]
  · have e : (frameB x).take k = putN x.length ++ (x ++ fourB (checkN x)).take (k - (putN x.length).length) := by rw [frameB, List.take_append, List.take_of_length_le h]
    rw [frameB_len] at h0
    have ht := takeB_put pre ((x ++ fourB (checkN x)).take (k - (putN x.length).length)) x.length (by omega)
    unfold frameAt
    rw [e, ht]
    simp only [Int.toNat_natCast]
    rw [if_neg (by decide), if_neg (by omega), if_pos]
    simp only [List.length_append, List.length_take, fourB_len]
    omega
def framesB (l : List (List UInt8)) : List UInt8 := l.flatMap frameB
theorem framesB_cons (x : List UInt8) (l : List (List UInt8)) : framesB (x :: l) = frameB x ++ framesB l := by simp [framesB]
theorem framesB_append (a b : List (List UInt8)) : framesB (a ++ b) = framesB a ++ framesB b := by simp [framesB]
theorem scan_frames : ∀ (l : List (List UInt8)) (pre post : List UInt8) (out : List (List UInt8)) (f : Nat), (∀ x ∈ l, x.length ≤ 1000000) → (framesB l ++ post).length ≤ f →
    ∃ f', post.length ≤ f' ∧ scanGo (pre ++ (framesB l ++ post)) f pre.length out = scanGo (pre ++ (framesB l ++ post)) f' (pre ++ framesB l).length (out ++ l)
  | [], pre, post, out, f, _, hf => ⟨f, by simpa [framesB] using hf, by simp [framesB]⟩
  | x :: l, pre, post, out, f, hl, hf => by
    have hx := hl x (by simp)
    have hb := frameB_bounds x (by omega)
    rw [framesB_cons] at hf ⊢
    simp only [List.length_append] at hf
    obtain ⟨f, rfl⟩ : ∃ g, f = g + 1 := ⟨f - 1, by omega⟩
    have h1 := frameAt_own pre x (framesB l ++ post) hx
    obtain ⟨f', h2, h3⟩ := scan_frames l (pre ++ frameB x) post (out ++ [x]) f (fun y hy => hl y (by simp [hy])) (by rw [List.length_append]; omega)
    refine ⟨f', h2, ?_⟩
    have e : pre ++ (frameB x ++ framesB l ++ post) = pre ++ (frameB x ++ (framesB l ++ post)) := by simp
    rw [e, scanGo_is (by simp only [List.length_append]; omega) (by rw [h1]), h1]
    simp only
    rw [show pre ++ (frameB x ++ (framesB l ++ post)) = (pre ++ frameB x) ++ (framesB l ++ post) by simp, h3]
    simp
theorem scanB_frames {l : List (List UInt8)} (hl : ∀ x ∈ l, x.length ≤ 1000000) : scanB (framesB l) = (l, (framesB l).length, 0) := by
  obtain ⟨f', _, h⟩ := scan_frames l [] [] [] (framesB l).length hl (by simp)
  simp only [List.nil_append, List.append_nil, List.length_nil] at h
  rw [scanB, h, scanGo_end _ _ (Nat.le_refl _)]
/-- Frames, and a beginning of one. -/
theorem scanB_torn {l : List (List UInt8)} {x : List UInt8} {k : Nat} (hl : ∀ y ∈ l, y.length ≤ 1000000) (hx : x.length ≤ 1000000) (hk : k < (frameB x).length) :
    scanB (framesB l ++ (frameB x).take k) = (l, (framesB l).length, if k = 0 then 0 else 1) := by
  obtain ⟨f', h1, h⟩ := scan_frames l [] ((frameB x).take k) [] _ hl (Nat.le_refl _)
  simp only [List.nil_append, List.length_nil] at h
  rw [scanB, h]
  by_cases h0 : k = 0
  · subst h0
    rw [scanGo_end _ _ (by simp), if_pos rfl]
  · have hp : 0 < ((frameB x).take k).length := by rw [List.length_take]; omega
    obtain ⟨f', rfl⟩ : ∃ g, f' = g + 1 := ⟨f' - 1, by omega⟩
    have ht := frameAt_torn (framesB l) x hx k hk
    rw [scanGo_no (by rw [List.length_append]; omega) (by rw [ht]; decide), ht, if_neg h0]
def endsB (l : List (List UInt8)) (k : Nat) : Nat := (framesB (l.take k)).length
theorem endsB_succ {l : List (List UInt8)} {k : Nat} (h : k < l.length) : endsB l (k + 1) = endsB l k + (frameB (l.getD k [])).length := by
  have : l.take (k + 1) = l.take k ++ [l.getD k []] := by
    rw [List.take_add_one, List.getD, List.getElem?_eq_getElem h]; simp
  rw [endsB, this, framesB_append]
  simp [endsB, framesB]
/-- A beginning of frames: those that are whole. -/
theorem scanB_cut {l : List (List UInt8)} {k cut : Nat} (hl : ∀ y ∈ l, y.length ≤ 1000000) (hk : k ≤ l.length) (h1 : endsB l k ≤ cut) (h2 : k < l.length → cut < endsB l (k + 1)) (hc : cut ≤ (framesB l).length) :
    scanB ((framesB l).take cut) = (l.take k, endsB l k, if cut = endsB l k then 0 else 1) := by
  rcases Nat.lt_or_ge k l.length with h | h
  · have hs : framesB l = framesB (l.take k) ++ (frameB (l.getD k []) ++ framesB (l.drop (k + 1))) := by
      have e : l = l.take k ++ (l.getD k [] :: l.drop (k + 1)) := by
        conv => lhs; rw [← List.take_append_drop k l, List.drop_eq_getElem_cons h]
        rw [List.getD, List.getElem?_eq_getElem h]; rfl
      conv => lhs; rw [e, framesB_append, framesB_cons]
    have h2' := h2 h
    rw [endsB_succ h] at h2'
    have e2 : (framesB l).take cut = framesB (l.take k) ++ (frameB (l.getD k [])).take (cut - endsB l k) := by
      rw [hs, List.take_append, List.take_of_length_le h1, List.take_append_of_le_length (by simp only [endsB] at h2' ⊢; omega)]
      rfl
    rw [e2, scanB_torn (fun y hy => hl y (List.mem_of_mem_take hy)) (by rw [List.getD, List.getElem?_eq_getElem h]; exact hl _ (List.getElem_mem h)) (by omega)]
    show (_, endsB l k, _) = _
    congr 2
    by_cases hh : cut = endsB l k
    · rw [if_pos hh, if_pos (by omega)]
    · rw [if_neg hh, if_neg (by omega)]
  · have e : k = l.length := by omega
    subst e
    have e3 : endsB l l.length = (framesB l).length := by rw [endsB, List.take_length]
    have e4 : cut = (framesB l).length := by omega
    rw [List.take_of_length_le (by omega), scanB_frames hl, List.take_length, if_pos (by omega), e3]
theorem endsB_mono {l : List (List UInt8)} {i j : Nat} (h : i ≤ j) : endsB l i ≤ endsB l j := by
  have : l.take j = l.take i ++ (l.take j).drop i := by
    conv => lhs; rw [← List.take_append_drop i (l.take j)]
    rw [List.take_take, Nat.min_eq_left h]
  rw [endsB, endsB, this, framesB_append, List.length_append]
  omega
theorem fa1 {b : List UInt8} {at_ n : Nat} {t e : Int} (hT : takeB b at_ = (n, t, e)) (h : e = 2) : frameAt b at_ = (1, [], 0) := by
  unfold frameAt; rw [hT]; simp only [h, if_true]
theorem fa2 {b : List UInt8} {at_ n : Nat} {t e : Int} (hT : takeB b at_ = (n, t, e)) (h : e ≠ 2) (h2 : e ≠ 0 ∨ 1000000 < n) : frameAt b at_ = (2, [], 0) := by
  unfold frameAt; rw [hT]; simp only [h, if_false, h2, if_true]
theorem fa3 {b : List UInt8} {at_ n t : Nat} (hT : takeB b at_ = (n, (t : Int), 0)) (h : n ≤ 1000000) (h2 : b.length < t + n + 4) : frameAt b at_ = (1, [], 0) := by
  unfold frameAt; rw [hT]; simp only [Int.toNat_natCast]
  rw [if_neg (by omega), if_neg (by omega), if_pos (by omega)]
theorem fa4 {b : List UInt8} {at_ n t : Nat} (hT : takeB b at_ = (n, (t : Int), 0)) (h : n ≤ 1000000) (h2 : ¬ b.length < t + n + 4) (h3 : fourB (checkN ((b.take (t + n)).drop t)) = (b.take (t + n + 4)).drop (t + n)) :
    frameAt b at_ = (0, (b.take (t + n)).drop t, t + n + 4) := by
  unfold frameAt; rw [hT]; simp only [Int.toNat_natCast]
  rw [if_neg (by omega), if_neg (by omega), if_neg (by omega), if_pos h3]
theorem fa5 {b : List UInt8} {at_ n t : Nat} (hT : takeB b at_ = (n, (t : Int), 0)) (h : n ≤ 1000000) (h2 : ¬ b.length < t + n + 4) (h3 : ¬ fourB (checkN ((b.take (t + n)).drop t)) = (b.take (t + n + 4)).drop (t + n)) :
    frameAt b at_ = (if t + n + 4 = b.length then 1 else 2, [], 0) := by
  unfold frameAt; rw [hT]; simp only [Int.toNat_natCast]
  rw [if_neg (by omega), if_neg (by omega), if_neg (by omega), if_neg h3]
  split <;> rfl
/-- Where a scan stands. -/
def ScanI (b : List UInt8) (at_ : Nat) (out : List (List UInt8)) : Prop := at_ ≤ b.length ∧ out.length ≤ at_ ∧ ∃ f, b.length ≤ at_ + f ∧ scanGo b f at_ out = scanB b
theorem ScanI.start (b : List UInt8) : ScanI b 0 [] := ⟨by omega, by simp, b.length, by omega, rfl⟩
theorem ScanI.fin {b : List UInt8} {at_ : Nat} {out : List (List UInt8)} (h : ScanI b at_ out) (h0 : ¬ at_ < b.length) : scanB b = (out, at_, 0) := by
  obtain ⟨h1, _, f, h2, h3⟩ := h
  rw [← h3, scanGo_end _ _ (by omega)]
theorem ScanI.no {b : List UInt8} {at_ : Nat} {out : List (List UInt8)} (h : ScanI b at_ out) (h0 : at_ < b.length) (hk : (frameAt b at_).1 ≠ 0) : scanB b = (out, at_, (frameAt b at_).1) := by
  obtain ⟨h1, _, f, h2, h3⟩ := h
  obtain ⟨f, rfl⟩ : ∃ g, f = g + 1 := ⟨f - 1, by omega⟩
  rw [← h3, scanGo_no h0 hk]
theorem ScanI.step {b : List UInt8} {at_ : Nat} {out : List (List UInt8)} (h : ScanI b at_ out) (h0 : at_ < b.length) (hk : (frameAt b at_).1 = 0) : ScanI b (frameAt b at_).2.2 (out ++ [(frameAt b at_).2.1]) := by
  obtain ⟨h1, h4, f, h2, h3⟩ := h
  obtain ⟨f, rfl⟩ : ∃ g, f = g + 1 := ⟨f - 1, by omega⟩
  have hf := frameAt_facts hk
  exact ⟨hf.2.1, by simp; omega, f, by omega, by rw [← h3, scanGo_is h0 hk]⟩
end Go.Sx
