/- Layer 4: rows that tell how far it is. -/
import Derived.Test.YtmnnejkcgdfjiaaSxUDist
set_option linter.all false
namespace Go.Sx
def D (l : List Int) (c : Int) : Int := l.getD c.toNat 0
def InG (g : Gr) (c : Int) : Prop := 0 ≤ c ∧ c < g.C.size
theorem D_set {l : List Int} {n : Nat} (hl : l.length = n) {c y : Int} (hc : 0 ≤ c ∧ c < n) (hy : 0 ≤ y) (v : Int) : D (l.set c.toNat v) y = if y = c then v else D l y := by
  unfold D
  by_cases h : y = c
  · subst h
    have : y.toNat < l.length := by omega
    simp [List.getD, this]
  · have : c.toNat ≠ y.toNat := by omega
    rw [if_neg h]
    simp [List.getD, List.getElem?_set, this]
theorem countD_set {l : List Int} : ∀ {i : Nat} {v : Int}, l.getD i 0 = -1 → v ≠ -1 → (l.set i v).count (-1) + 1 = l.count (-1) := by
  induction l with
  | nil => intro i v h; simp at h
  | cons x l ih =>
    intro i v h hv
    cases i with
    | zero =>
      simp at h
      subst h
      simp [List.count_cons, hv]
    | succ i =>
      have := ih (i := i) (v := v) (by simpa using h) hv
      simp only [List.set_cons_succ, List.count_cons]
      omega
/-- A row that tells from each cell how far it is. -/
structure FieldOk (g : Gr) (to : Int) (bl : List Int) (l : List Int) : Prop where
  len : l.length = g.C.size
  ge : ∀ c, InG g c → -1 ≤ D l c
  zero : D l to = 0
  only : ∀ c, InG g c → D l c = 0 → c = to
  near : ∀ c way x, 1 ≤ way → way ≤ 4 → goesB g c way = some x → x ∉ bl → 0 ≤ D l x → 0 ≤ D l c ∧ D l c ≤ D l x + 1
  back : ∀ c, InG g c → 0 < D l c → ∃ way x, 1 ≤ way ∧ way ≤ 4 ∧ goesB g c way = some x ∧ x ∉ bl ∧ D l x = D l c - 1
theorem goesB_in {g : Gr} {c way x : Int} (h : goesB g c way = some x) : InG g c ∧ InG g x := by
  refine ⟨?_, floorB_lt (goesB_floor h)⟩
  unfold goesB at h
  split at h
  · cases h
  · rename_i hn
    cases hf : floorB g c with
    | true => exact floorB_lt hf
    | false => exact absurd (.inl hf) hn
theorem FieldOk.le {g : Gr} {to : Int} {bl l l' : List Int} (h : FieldOk g to bl l) (h' : FieldOk g to bl l') : ∀ (n : Nat) (c : Int), InG g c → D l c = n → 0 ≤ D l' c ∧ D l' c ≤ n := by
  intro n
  induction n with
  | zero =>
    intro c hc hd
    have := h.only c hc (by simpa using hd)
    subst this
    rw [h'.zero]
    simp
  | succ n ih =>
    intro c hc hd
    obtain ⟨way, x, w1, w2, hg, hb, hx⟩ := h.back c hc (by omega)
    have := ih x (goesB_in hg).2 (by omega)
    have := h'.near c way x w1 w2 hg hb this.1
    omega
theorem FieldOk.uniq {g : Gr} {to : Int} {bl l l' : List Int} (h : FieldOk g to bl l) (h' : FieldOk g to bl l') : l = l' := by
  refine List.ext_getElem (by rw [h.len, h'.len]) (fun i h1 h2 => ?_)
  have e1 : l[i] = D l (i : Int) := by simp [D, List.getD, h1]
  have e2 : l'[i] = D l' (i : Int) := by simp [D, List.getD, h2]
  have hc : InG g (i : Int) := ⟨by omega, by have := h.len; omega⟩
  rw [e1, e2]
  have g1 := h.ge _ hc
  have g2 := h'.ge _ hc
  by_cases n1 : 0 ≤ D l (i : Int)
  · have a := h.le h' (D l (i : Int)).toNat _ hc (by omega)
    have b := h'.le h (D l' (i : Int)).toNat _ hc (by omega)
    omega
  · by_cases n2 : 0 ≤ D l' (i : Int)
    · have b := h'.le h (D l' (i : Int)).toNat _ hc (by omega)
      omega
    · omega
theorem intoL_mem {g : Gr} (hg : GrOk g) {c x : Int} : c ∈ intoL g x ↔ ∃ way, 1 ≤ way ∧ way ≤ 4 ∧ goesB g c way = some x := by
  have hl : (candL g x).take 16 = candL g x := List.take_of_length_le (by simp [candL])
  unfold intoL intoK
  rw [hl]
  simp only [List.mem_map, List.mem_filter, goesTo, decide_eq_true_eq]
  constructor
  · rintro ⟨⟨way, c'⟩, ⟨hm, hgo⟩, rfl⟩
    refine ⟨way, ?_, ?_, hgo⟩ <;> (simp [candL] at hm; omega)
  · rintro ⟨way, h1, h2, hgo⟩
    refine ⟨(way, c), ⟨?_, hgo⟩, rfl⟩
    have hc := (goesB_in hgo).1
    have hd := divmod_facts hc.1 hg.w
    have he : goY g c way * g.W + goX g c way = x := by
      unfold goesB at hgo
      split at hgo
      · cases hgo
      split at hgo
      · cases hgo
      split at hgo
      · cases hgo
      · simpa using hgo
    have hw : way = 1 ∨ way = 2 ∨ way = 3 ∨ way = 4 := by omega
    rcases hw with rfl | rfl | rfl | rfl <;> simp [goX, goY] at he <;> simp [candL] <;> omega
/-! ### By a queue -/
def cnt (l : List Int) : Nat := l.count (-1)
structure Bfs (g : Gr) (to : Int) (bl : List Int) (out q : List Int) : Prop where
  len : out.length = g.C.size
  ge : ∀ c, InG g c → -1 ≤ D out c
  zero : D out to = 0
  only : ∀ c, InG g c → D out c = 0 → c = to
  back : ∀ c, InG g c → 0 < D out c → ∃ way x, 1 ≤ way ∧ way ≤ 4 ∧ goesB g c way = some x ∧ x ∉ bl ∧ D out x = D out c - 1
  bound : ∀ c, InG g c → D out c + cnt out ≤ g.C.size
  qok : ∀ x ∈ q, InG g x ∧ 0 ≤ D out x
  sorted : q.Pairwise (fun a b => D out a ≤ D out b)
  top : ∀ x r, q = x :: r → ∀ c, InG g c → D out c ≤ D out x + 1
  done : ∀ x, InG g x → 0 ≤ D out x → x ∉ q → x ∉ bl → ∀ c way, 1 ≤ way → way ≤ 4 → goesB g c way = some x → 0 ≤ D out c ∧ D out c ≤ D out x + 1
/-- While a cell's neighbours are gone through. -/
structure Mid (g : Gr) (to : Int) (bl : List Int) (x : Int) (d : Int) (pre : List Int) (out q : List Int) : Prop where
  len : out.length = g.C.size
  ge : ∀ c, InG g c → -1 ≤ D out c
  zero : D out to = 0
  only : ∀ c, InG g c → D out c = 0 → c = to
  back : ∀ c, InG g c → 0 < D out c → ∃ way x, 1 ≤ way ∧ way ≤ 4 ∧ goesB g c way = some x ∧ x ∉ bl ∧ D out x = D out c - 1
  bound : ∀ c, InG g c → D out c + cnt out ≤ g.C.size
  qok : ∀ x ∈ q, InG g x ∧ 0 ≤ D out x ∧ d ≤ D out x
  sorted : q.Pairwise (fun a b => D out a ≤ D out b)
  top : ∀ c, InG g c → D out c ≤ d + 1
  hx : D out x = d ∧ 0 ≤ d ∧ InG g x ∧ x ∉ bl
  done : ∀ y, y ≠ x → InG g y → 0 ≤ D out y → y ∉ q → y ∉ bl → ∀ c way, 1 ≤ way → way ≤ 4 → goesB g c way = some y → 0 ≤ D out c ∧ D out c ≤ D out y + 1
  pre : ∀ c ∈ pre, 0 ≤ D out c
theorem Bfs.skip {g : Gr} {to : Int} {bl out q : List Int} {x : Int} (h : Bfs g to bl out (x :: q)) (hx : x ∈ bl) : Bfs g to bl out q := by
  have hs := List.pairwise_cons.1 h.sorted
  refine ⟨h.len, h.ge, h.zero, h.only, h.back, h.bound, fun y hy => h.qok y (by simp [hy]), hs.2, ?_, ?_⟩
  · rintro y r rfl c hc
    have := h.top x _ rfl c hc
    have := hs.1 y (by simp)
    omega
  · intro y hy hd hn hb c way w1 w2 hg
    refine h.done y hy hd (fun hm => ?_) hb c way w1 w2 hg
    rcases List.mem_cons.1 hm with rfl | hm
    · exact hb hx
    · exact hn hm
theorem Bfs.mid {g : Gr} {to : Int} {bl out q : List Int} {x : Int} (h : Bfs g to bl out (x :: q)) (hx : x ∉ bl) : Mid g to bl x (D out x) [] out q := by
  have hs := List.pairwise_cons.1 h.sorted
  have hq := h.qok x (by simp)
  refine ⟨h.len, h.ge, h.zero, h.only, h.back, h.bound, fun y hy => ?_, hs.2, h.top x _ rfl, ⟨rfl, hq.2, hq.1, hx⟩, ?_, by simp⟩
  · have := h.qok y (by simp [hy])
    exact ⟨this.1, this.2, hs.1 y hy⟩
  · intro y hne hy hd hn hb c way w1 w2 hg
    exact h.done y hy hd (by simp [hne, hn]) hb c way w1 w2 hg
theorem Mid.old {g : Gr} {to : Int} {bl out q pre : List Int} {x d c : Int} (h : Mid g to bl x d pre out q) (hc : InG g c) (hd : ¬ D out c = -1) : Mid g to bl x d (pre ++ [c]) out q := by
  refine ⟨h.len, h.ge, h.zero, h.only, h.back, h.bound, h.qok, h.sorted, h.top, h.hx, h.done, fun y hy => ?_⟩
  rcases List.mem_append.1 hy with hy | hy
  · exact h.pre y hy
  · simp only [List.mem_singleton] at hy
    subst hy
    have := h.ge y hc
    omega
theorem Mid.new {g : Gr} {to : Int} {bl out q pre : List Int} {x d c way : Int} (h : Mid g to bl x d pre out q) (hto : InG g to) (hw : 1 ≤ way ∧ way ≤ 4) (hg : goesB g c way = some x) (hd : D out c = -1) :
    Mid g to bl x d (pre ++ [c]) (out.set c.toNat (d + 1)) (q ++ [c]) ∧ cnt (out.set c.toNat (d + 1)) + 1 = cnt out := by
  have hc := (goesB_in hg).1
  obtain ⟨hx1, hx2, hx3, hx4⟩ := h.hx
  have hS : ∀ y, InG g y → D (out.set c.toNat (d + 1)) y = if y = c then d + 1 else D out y := fun y hy => D_set h.len hc hy.1 (d + 1)
  have hcnt : cnt (out.set c.toNat (d + 1)) + 1 = cnt out := countD_set hd (by omega)
  have hne : ∀ y, 0 ≤ D out y → y ≠ c := fun y hy e => by subst e; omega
  refine ⟨⟨by simpa using h.len, ?_, ?_, ?_, ?_, ?_, ?_, ?_, ?_, ?_, ?_, ?_⟩, hcnt⟩
  · intro y hy
    rw [hS y hy]
    split
    · omega
    · exact h.ge y hy
  · rw [hS to hto, if_neg (hne to (by rw [h.zero]; decide)), h.zero]
  · intro y hy h0
    rw [hS y hy] at h0
    split at h0
    · omega
    · exact h.only y hy h0
  · intro y hy hp
    rw [hS y hy] at hp
    split at hp
    · rename_i e
      subst e
      refine ⟨way, x, hw.1, hw.2, hg, hx4, ?_⟩
      rw [hS x hx3, hS y hy, if_neg (hne x (by omega)), if_pos rfl]
      omega
    · rename_i e
      obtain ⟨w', x', a1, a2, a3, a4, a5⟩ := h.back y hy hp
      refine ⟨w', x', a1, a2, a3, a4, ?_⟩
      rw [hS x' (goesB_in a3).2, hS y hy, if_neg (hne x' (by omega)), if_neg e]
      exact a5
  · intro y hy
    rw [hS y hy]
    split
    · have := h.bound x hx3
      omega
    · have := h.bound y hy
      omega
  · intro y hy
    rcases List.mem_append.1 hy with hy | hy
    · obtain ⟨a1, a2, a3⟩ := h.qok y hy
      rw [hS y a1, if_neg (hne y a2)]
      exact ⟨a1, a2, a3⟩
    · simp only [List.mem_singleton] at hy
      subst hy
      rw [hS y hc, if_pos rfl]
      exact ⟨hc, by omega, by omega⟩
  · rw [List.pairwise_append]
    refine ⟨h.sorted.imp_of_mem fun {a b} ha hb hab => ?_, by simp, fun a ha b hb => ?_⟩
    · have ha' := h.qok a ha
      have hb' := h.qok b hb
      rw [hS a ha'.1, hS b hb'.1, if_neg (hne a ha'.2.1), if_neg (hne b hb'.2.1)]
      exact hab
    · simp only [List.mem_singleton] at hb
      subst hb
      have ha' := h.qok a ha
      rw [hS a ha'.1, hS b hc, if_neg (hne a ha'.2.1), if_pos rfl]
      exact h.top a ha'.1
  · intro y hy
    rw [hS y hy]
    split
    · omega
    · exact h.top y hy
  · rw [hS x hx3, if_neg (hne x (by omega))]
    exact ⟨hx1, hx2, hx3, hx4⟩
  · intro y hyx hy h0 hn hb p w' w1 w2 hgo
    have hyc : y ≠ c := fun e => hn (by simp [e])
    rw [hS y hy, if_neg hyc] at h0 ⊢
    have := h.done y hyx hy h0 (fun hm => hn (by simp [hm])) hb p w' w1 w2 hgo
    rw [hS p (goesB_in hgo).1, if_neg (hne p this.1)]
    exact this
  · intro y hy
    have key : 0 ≤ D (out.set c.toNat (d + 1)) y := by
      rcases List.mem_append.1 hy with hy | hy
      · have h1 := h.pre y hy
        unfold D at h1 ⊢
        by_cases hi : c.toNat = y.toNat
        · rw [← hi] at h1
          have : D out c = out.getD c.toNat 0 := rfl
          omega
        · simpa [List.getD, List.getElem?_set, hi] using h1
      · simp only [List.mem_singleton] at hy
        subst hy
        rw [hS y hc, if_pos rfl]
        omega
    exact key
theorem Mid.fin {g : Gr} (hgr : GrOk g) {to : Int} {bl out q : List Int} {x d : Int} (h : Mid g to bl x d (intoL g x) out q) : Bfs g to bl out q := by
  obtain ⟨hx1, hx2, hx3, hx4⟩ := h.hx
  refine ⟨h.len, h.ge, h.zero, h.only, h.back, h.bound, fun y hy => ⟨(h.qok y hy).1, (h.qok y hy).2.1⟩, h.sorted, ?_, ?_⟩
  · rintro y r rfl c hc
    have := h.top c hc
    have := (h.qok y (by simp)).2.2
    omega
  · intro y hy hd hn hb c way w1 w2 hg
    by_cases e : y = x
    · subst e
      have := h.pre c ((intoL_mem hgr).2 ⟨way, w1, w2, hg⟩)
      have := h.top c (goesB_in hg).1
      omega
    · exact h.done y e hy hd hn hb c way w1 w2 hg
theorem Bfs.fin {g : Gr} {to : Int} {bl out : List Int} (h : Bfs g to bl out []) : FieldOk g to bl out :=
  ⟨h.len, h.ge, h.zero, h.only, fun c way x w1 w2 hg hb hd => h.done x (goesB_in hg).2 hd (by simp) hb c way w1 w2 hg, h.back⟩
def startL (g : Gr) (to : Int) : List Int := (List.replicate g.C.size (-1 : Int)).set to.toNat 0
theorem start_D {g : Gr} {to c : Int} (ht : InG g to) (hc : InG g c) : D (startL g to) c = if c = to then 0 else -1 := by
  unfold startL
  rw [D_set (by simp) ht hc.1]
  split
  · rfl
  · have : c.toNat < g.C.size := by have := hc.1; have := hc.2; omega
    simp [D, List.getD, this]
theorem start_cnt {g : Gr} {to : Int} (ht : InG g to) : cnt (startL g to) + 1 = g.C.size := by
  have : to.toNat < g.C.size := by have := ht.1; have := ht.2; omega
  unfold cnt startL
  rw [countD_set (by simp [List.getD, this]) (by decide)]
  simp
theorem Bfs.start {g : Gr} {to : Int} {bl : List Int} (ht : InG g to) : Bfs g to bl (startL g to) [to] := by
  have hS := fun c (hc : InG g c) => start_D ht hc
  have hz : D (startL g to) to = 0 := by rw [hS to ht, if_pos rfl]
  refine ⟨by simp [startL], fun c hc => by rw [hS c hc]; split <;> omega, hz, fun c hc h => ?_, fun c hc h => ?_, fun c hc => ?_, fun x hx => ?_, by simp, ?_, ?_⟩
  · rw [hS c hc] at h
    split at h
    · assumption
    · omega
  · rw [hS c hc] at h
    split at h <;> omega
  · have := start_cnt ht
    rw [hS c hc]
    split <;> omega
  · simp only [List.mem_singleton] at hx
    subst hx
    exact ⟨ht, by omega⟩
  · rintro x r h c hc
    simp only [List.cons.injEq] at h
    obtain ⟨rfl, _⟩ := h
    rw [hz, hS c hc]
    split <;> omega
  · intro x hx hd hn
    rw [hS x hx] at hd
    split at hd
    · rename_i e; exact absurd (by simp [e]) hn
    · omega
open Classical in
/-- How far it is from each cell. -/
noncomputable def fieldL (g : Gr) (to : Int) (bl : List Int) : List Int := if h : floorB g to = true ∧ ∃ l, FieldOk g to bl l then Classical.choose h.2 else []
def fieldE (g : Gr) (to : Int) : Int := if floorB g to = true then 0 else 1
theorem fieldL_eq {g : Gr} {to : Int} {bl l : List Int} (hf : floorB g to = true) (h : FieldOk g to bl l) : fieldL g to bl = l := by
  have hx : floorB g to = true ∧ ∃ l, FieldOk g to bl l := ⟨hf, l, h⟩
  unfold fieldL
  rw [dif_pos hx]
  exact (Classical.choose_spec hx.2).uniq h
theorem fieldL_no {g : Gr} {to : Int} {bl : List Int} (hf : floorB g to = false) : fieldL g to bl = [] := by
  unfold fieldL
  rw [dif_neg (fun h => by rw [hf] at h; cases h.1)]
end Go.Sx
