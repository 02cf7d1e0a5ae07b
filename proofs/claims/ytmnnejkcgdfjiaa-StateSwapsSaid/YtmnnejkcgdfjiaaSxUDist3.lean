/- Layer 4: by rounds. -/
import Derived.Test.YtmnnejkcgdfjiaaSxUDist2
set_option linter.all false
namespace Go.Sx
def Hit (g : Gr) (bl : List Int) (n : Int) (out : List Int) (c way : Int) : Prop := ∃ x, goesB g c way = some x ∧ D out x = n ∧ x ∉ bl
structure Rnd (g : Gr) (to : Int) (bl : List Int) (n : Int) (out : List Int) : Prop where
  n0 : 0 ≤ n
  len : out.length = g.C.size
  ge : ∀ c, InG g c → -1 ≤ D out c
  zero : D out to = 0
  only : ∀ c, InG g c → D out c = 0 → c = to
  back : ∀ c, InG g c → 0 < D out c → ∃ way x, 1 ≤ way ∧ way ≤ 4 ∧ goesB g c way = some x ∧ x ∉ bl ∧ D out x = D out c - 1
  top : ∀ c, InG g c → D out c ≤ n
  near : ∀ c way x, 1 ≤ way → way ≤ 4 → goesB g c way = some x → x ∉ bl → 0 ≤ D out x → D out x < n → 0 ≤ D out c ∧ D out c ≤ D out x + 1
  bound : n + cnt out < g.C.size
structure RMid (g : Gr) (to : Int) (bl : List Int) (n : Int) (m : Nat) (k : Nat) (news : Bool) (out : List Int) : Prop where
  n0 : 0 ≤ n
  len : out.length = g.C.size
  ge : ∀ c, InG g c → -1 ≤ D out c
  zero : D out to = 0
  only : ∀ c, InG g c → D out c = 0 → c = to
  back : ∀ c, InG g c → 0 < D out c → ∃ way x, 1 ≤ way ∧ way ≤ 4 ∧ goesB g c way = some x ∧ x ∉ bl ∧ D out x = D out c - 1
  top : ∀ c, InG g c → D out c ≤ n + 1
  near : ∀ c way x, 1 ≤ way → way ≤ 4 → goesB g c way = some x → x ∉ bl → 0 ≤ D out x → D out x < n → 0 ≤ D out c ∧ D out c ≤ D out x + 1
  bound : n + m < g.C.size
  proc : ∀ c way x, InG g c → c < k → 1 ≤ way → way ≤ 4 → goesB g c way = some x → x ∉ bl → D out x = n → 0 ≤ D out c
  le : cnt out ≤ m
  new : news = true → cnt out < m
  old : news = false → ∀ c, InG g c → D out c ≤ n
theorem Rnd.start {g : Gr} {to : Int} {bl : List Int} (ht : InG g to) : Rnd g to bl 0 (startL g to) := by
  have hb := Bfs.start (bl := bl) ht
  refine ⟨by decide, hb.len, hb.ge, hb.zero, hb.only, hb.back, fun c hc => ?_, fun c way x _ _ _ _ h1 h2 => by omega, ?_⟩
  · rw [start_D ht hc]
    split <;> omega
  · have := start_cnt ht
    omega
theorem Rnd.mid {g : Gr} {to : Int} {bl out : List Int} {n : Int} (h : Rnd g to bl n out) : RMid g to bl n (cnt out) 0 false out :=
  ⟨h.n0, h.len, h.ge, h.zero, h.only, h.back, fun c hc => by have := h.top c hc; omega, h.near, h.bound, fun c way x hc hk => absurd hk (by have := hc.1; omega), Nat.le_refl _, (fun h => by cases h), fun _ => h.top⟩
theorem RMid.fin {g : Gr} {to : Int} {bl out : List Int} {n : Int} {m : Nat} (h : RMid g to bl n m g.C.size false out) : FieldOk g to bl out := by
  refine ⟨h.len, h.ge, h.zero, h.only, fun c way x w1 w2 hg hb hd => ?_, h.back⟩
  have hx := h.old rfl x (goesB_in hg).2
  by_cases hn : D out x < n
  · exact h.near c way x w1 w2 hg hb hd hn
  · have hc := (goesB_in hg).1
    have := h.proc c way x hc hc.2 w1 w2 hg hb (by omega)
    have := h.old rfl c hc
    omega
theorem RMid.next {g : Gr} {to : Int} {bl out : List Int} {n : Int} {m : Nat} (h : RMid g to bl n m g.C.size true out) : Rnd g to bl (n + 1) out := by
  refine ⟨by have := h.n0; omega, h.len, h.ge, h.zero, h.only, h.back, h.top, fun c way x w1 w2 hg hb hd hlt => ?_, ?_⟩
  · by_cases hn : D out x < n
    · exact h.near c way x w1 w2 hg hb hd hn
    · have hc := (goesB_in hg).1
      have := h.proc c way x hc hc.2 w1 w2 hg hb (by omega)
      have := h.top c hc
      omega
  · have := h.new rfl
    have := h.bound
    omega
theorem RMid.skip {g : Gr} {to : Int} {bl out : List Int} {n : Int} {m k : Nat} {news : Bool} (h : RMid g to bl n m k news out) (hk : k < g.C.size) (hs : 0 ≤ D out k ∨ ∀ way, 1 ≤ way → way ≤ 4 → ¬ Hit g bl n out k way) : RMid g to bl n m (k + 1) news out := by
  refine ⟨h.n0, h.len, h.ge, h.zero, h.only, h.back, h.top, h.near, h.bound, fun c way x hc hlt w1 w2 hg hb hd => ?_, h.le, h.new, h.old⟩
  by_cases e : c = k
  · subst e
    rcases hs with hs | hs
    · exact hs
    · exact absurd ⟨x, hg, hd, hb⟩ (hs way w1 w2)
  · exact h.proc c way x hc (by omega) w1 w2 hg hb hd
theorem RMid.set {g : Gr} {to : Int} {bl out : List Int} {n : Int} {m k : Nat} {news : Bool} (ht : InG g to) (h : RMid g to bl n m k news out) (hk : k < g.C.size) (hd : D out k = -1) {way : Int} (w1 : 1 ≤ way) (w2 : way ≤ 4) (hs : Hit g bl n out k way) : RMid g to bl n m (k + 1) true (out.set k (n + 1)) := by
  have hkI : InG g (k : Int) := ⟨by omega, by omega⟩
  have hn := h.n0
  have hS : ∀ y, InG g y → D (out.set k (n + 1)) y = if y = k then n + 1 else D out y := fun y hy => by
    have := D_set h.len hkI hy.1 (n + 1)
    simpa using this
  have hne : ∀ y, 0 ≤ D out y → y ≠ (k : Int) := fun y hy e => by subst e; omega
  have hcnt : cnt (out.set k (n + 1)) + 1 = cnt out := countD_set (by simpa [D] using hd) (by omega)
  obtain ⟨x, hg, hxn, hxb⟩ := hs
  have hxI := (goesB_in hg).2
  refine ⟨hn, by simpa using h.len, fun c hc => ?_, ?_, fun c hc h0 => ?_, fun c hc hp => ?_, fun c hc => ?_, fun c w' x' a1 a2 a3 a4 a5 a6 => ?_, h.bound, fun c w' x' hc hlt a1 a2 a3 a4 a5 => ?_, by have := h.le; omega, fun _ => by have := h.le; omega, fun h => by cases h⟩
  · rw [hS c hc]
    split
    · omega
    · exact h.ge c hc
  · rw [hS to ht, if_neg (hne to (by rw [h.zero]; decide)), h.zero]
  · rw [hS c hc] at h0
    split at h0
    · omega
    · exact h.only c hc h0
  · rw [hS c hc] at hp
    split at hp
    · rename_i e
      subst e
      refine ⟨way, x, w1, w2, hg, hxb, ?_⟩
      rw [hS x hxI, hS _ hc, if_neg (hne x (by omega)), if_pos rfl]
      omega
    · rename_i e
      obtain ⟨w', x', a1, a2, a3, a4, a5⟩ := h.back c hc hp
      refine ⟨w', x', a1, a2, a3, a4, ?_⟩
      rw [hS x' (goesB_in a3).2, hS c hc, if_neg (hne x' (by omega)), if_neg e]
      exact a5
  · rw [hS c hc]
    split
    · omega
    · exact h.top c hc
  · have hx' := (goesB_in a3).2
    have hc' := (goesB_in a3).1
    rw [hS x' hx'] at a5 a6 ⊢
    split at a5
    · rename_i e; rw [if_pos e] at a6; omega
    · rename_i e
      rw [if_neg e] at a6 ⊢
      have := h.near c w' x' a1 a2 a3 a4 a5 a6
      rw [hS c hc', if_neg (hne c this.1)]
      exact this
  · have hx' := (goesB_in a3).2
    rw [hS c hc]
    split
    · omega
    · rename_i e
      rw [hS x' hx'] at a5
      split at a5
      · omega
      · exact h.proc c w' x' hc (by omega) a1 a2 a3 a4 a5
/-- The ways of one cell. -/
def WayI (g : Gr) (bl : List Int) (n : Int) (k : Nat) (out : List Int) (news : Bool) (w : Int) (out' : List Int) (news' : Bool) : Prop :=
  (out' = out ∧ news' = news ∧ ∀ way, 1 ≤ way → way < w → ¬ Hit g bl n out k way) ∨ (out' = out.set k (n + 1) ∧ news' = true ∧ ∃ way, 1 ≤ way ∧ way ≤ 4 ∧ Hit g bl n out k way)
theorem WayI.hit {g : Gr} {bl out out' : List Int} {n w way : Int} {k : Nat} {news news' : Bool} (hl : out.length = g.C.size) (hk : k < g.C.size) (hd : D out k = -1) (hn : 0 ≤ n) (h : WayI g bl n k out news w out' news') : Hit g bl n out' k way ↔ Hit g bl n out k way := by
  rcases h with ⟨rfl, _, _⟩ | ⟨rfl, _, _⟩
  · exact Iff.rfl
  · have hkI : InG g (k : Int) := ⟨by omega, by omega⟩
    have hS : ∀ y, InG g y → D (out.set k (n + 1)) y = if y = k then n + 1 else D out y := fun y hy => by
      have := D_set hl hkI hy.1 (n + 1)
      simpa using this
    unfold Hit
    constructor
    · rintro ⟨x, h1, h2, h3⟩
      rw [hS x (goesB_in h1).2] at h2
      split at h2
      · omega
      · exact ⟨x, h1, h2, h3⟩
    · rintro ⟨x, h1, h2, h3⟩
      refine ⟨x, h1, ?_, h3⟩
      rw [hS x (goesB_in h1).2, if_neg (fun e => by subst e; omega)]
      exact h2
theorem WayI.no {g : Gr} {bl out out' : List Int} {n w : Int} {k : Nat} {news news' : Bool} (h : WayI g bl n k out news w out' news') (hh : ¬ Hit g bl n out k w) : WayI g bl n k out news (w + 1) out' news' := by
  rcases h with ⟨h1, h2, h3⟩ | h
  · refine .inl ⟨h1, h2, fun way a1 a2 => ?_⟩
    by_cases e : way = w
    · subst e; exact hh
    · exact h3 way a1 (by omega)
  · exact .inr h
theorem WayI.yes {g : Gr} {bl out out' : List Int} {n w : Int} {k : Nat} {news news' : Bool} (h : WayI g bl n k out news w out' news') (w1 : 1 ≤ w) (w2 : w ≤ 4) (hh : Hit g bl n out k w) : WayI g bl n k out news (w + 1) (out'.set k (n + 1)) true := by
  refine .inr ⟨?_, rfl, w, w1, w2, hh⟩
  rcases h with ⟨h1, _, _⟩ | ⟨h1, _, _⟩
  · rw [h1]
  · rw [h1, List.set_set]
theorem WayI.fin {g : Gr} {to : Int} {bl out out' : List Int} {n : Int} {m k : Nat} {news news' : Bool} (ht : InG g to) (hk : k < g.C.size) (hm : RMid g to bl n m k news out) (hd : D out k = -1) (h : WayI g bl n k out news 5 out' news') : RMid g to bl n m (k + 1) news' out' := by
  rcases h with ⟨h1, h2, h3⟩ | ⟨h1, h2, way, w1, w2, hh⟩
  · rw [h1, h2]; exact hm.skip hk (.inr fun way a1 a2 => h3 way a1 (by omega))
  · rw [h1, h2]; exact hm.set ht hk hd w1 w2 hh
theorem field_shut {g : Gr} {to : Int} {bl : List Int} (ht : InG g to) (hb : to ∈ bl) : FieldOk g to bl (startL g to) := by
  have h := Bfs.start (bl := bl) ht
  refine ⟨h.len, h.ge, h.zero, h.only, fun c way x w1 w2 hg hxb hd => ?_, h.back⟩
  rw [start_D ht (goesB_in hg).2] at hd
  split at hd
  · rename_i e; subst e; exact absurd hb hxb
  · omega
theorem goes_bnd {g : Gr} (hg : GrOk g) (c way : Int) : 0 ≤ (goesB g c way).getD 0 ∧ (goesB g c way).getD 0 < g.C.size := by
  cases h : goesB g c way with
  | none =>
    have h2 := sides_mul hg.w.1 hg.h.1 hg.w.2 hg.h.2
    have := hg.s
    simp
    omega
  | some x => exact (goesB_in h).2
theorem WayI.start {g : Gr} {bl out : List Int} {n : Int} {k : Nat} {news : Bool} : WayI g bl n k out news (((0 : Nat) : Int) + 1) out news := .inl ⟨rfl, rfl, fun way h1 h2 => by omega⟩
theorem hit_iff {g : Gr} {bl out : List Int} {n c way to : Int} (hb : to ∉ bl) :
    (((goesB g c way).isSome = true ∧ out.getD ((goesB g c way).getD 0).toNat 0 = n) ∧ (¬ (goesB g c way).getD 0 ∈ bl ∨ (goesB g c way).getD 0 = to)) ↔ Hit g bl n out c way := by
  unfold Hit
  cases h : goesB g c way with
  | none => simp
  | some x =>
    simp only [Option.isSome_some, Option.getD_some, true_and, Option.some.injEq]
    constructor
    · rintro ⟨h1, h2⟩
      refine ⟨x, rfl, h1, ?_⟩
      rcases h2 with h2 | h2
      · exact h2
      · rw [h2]; exact hb
    · rintro ⟨y, rfl, h1, h2⟩
      exact ⟨h1, .inl h2⟩
def FieldP (g : Gr) (to : Int) (bl : List Int) : Prop := floorB g to = true → FieldOk g to bl (fieldL g to bl)
theorem FieldP.no {g : Gr} {to : Int} {bl : List Int} (hf : floorB g to = false) : FieldP g to bl := fun h => by rw [hf] at h; cases h
theorem FieldP.yes {g : Gr} {to : Int} {bl l : List Int} (hf : floorB g to = true) (h : FieldOk g to bl l) : FieldP g to bl := fun _ => by rw [fieldL_eq hf h]; exact h
end Go.Sx
