/- Layer 3: grids. -/
import Derived.Test.YtmnnejkcgdfjiaaSxB
import Derived.Lib.Bytealg
import Derived.Laws.RangeAny
set_option linter.all false
namespace Go.Sx
structure Gr where
  W : Int
  H : Int
  C : ByteArray
abbrev gA (g : Gr) : AV := .g [iv g.W, iv g.H, .v (.string g.C)]
def Gr.at (g : Gr) (i : Nat) : UInt8 := g.C.data.toList.getD i 0
def isLetter (c : UInt8) : Bool := decide (c ∈ ([46, 35, 83, 67, 62, 60, 94, 118] : List UInt8))
def rightG (g : Gr) : Bool := decide (1 ≤ g.W ∧ 1 ≤ g.H ∧ g.W ≤ 256 ∧ g.H ≤ 256 ∧ (g.C.size : Int) = g.W * g.H) && g.C.data.toList.all isLetter
structure GrOk (g : Gr) : Prop where
  w : 1 ≤ g.W ∧ g.W ≤ 256
  h : 1 ≤ g.H ∧ g.H ≤ 256
  s : (g.C.size : Int) = g.W * g.H
  l : ∀ i, i < g.C.size → isLetter (g.at i) = true
def floorB (g : Gr) (c : Int) : Bool := decide (0 ≤ c ∧ c < g.C.size ∧ g.at c.toNat ≠ 35)
def arrow (c : UInt8) : Int := Lib.indexByte [94, 62, 118, 60] c
def goX (g : Gr) (cell way : Int) : Int := if way = 2 then cell % g.W + 1 else if way = 4 then cell % g.W - 1 else cell % g.W
def goY (g : Gr) (cell way : Int) : Int := if way = 1 then cell / g.W - 1 else if way = 3 then cell / g.W + 1 else cell / g.W
/-- Where a way goes. -/
def goesB (g : Gr) (cell way : Int) : Option Int :=
  if floorB g cell = false ∨ way < 0 ∨ 4 < way then none
  else if way ≠ 0 ∧ 0 ≤ arrow (g.at cell.toNat) ∧ arrow (g.at cell.toNat) ≠ way - 1 then none
  else if goX g cell way < 0 ∨ goX g cell way = g.W ∨ goY g cell way < 0 ∨ goY g cell way = g.H ∨ floorB g (goY g cell way * g.W + goX g cell way) = false then none else some (goY g cell way * g.W + goX g cell way)
theorem rightG_ok {g : Gr} (h : rightG g = true) : GrOk g := by
  simp only [rightG, Bool.and_eq_true, decide_eq_true_eq, List.all_eq_true] at h
  refine ⟨⟨h.1.1, h.1.2.2.1⟩, ⟨h.1.2.1, h.1.2.2.2.1⟩, h.1.2.2.2.2, fun i hi => ?_⟩
  refine h.2 _ ?_
  have hi' : i < g.C.data.toList.length := hi
  rw [Gr.at, List.getD, List.getElem?_eq_getElem hi']
  exact List.getElem_mem _
theorem GrOk.size {g : Gr} (h : GrOk g) : g.C.size ≤ 65536 := by
  have h1 := Int.mul_le_mul h.w.2 h.h.2 (by have := h.h.1; omega) (by decide)
  have := h.s
  omega
theorem floorB_lt {g : Gr} {c : Int} (h : floorB g c = true) : 0 ≤ c ∧ c < g.C.size := by
  simp only [floorB, decide_eq_true_eq] at h
  exact ⟨h.1, h.2.1⟩
theorem goesB_floor {g : Gr} {cell way x : Int} (h : goesB g cell way = some x) : floorB g x = true := by
  unfold goesB at h
  split at h
  · cases h
  split at h
  · cases h
  split at h
  · cases h
  · rename_i hn
    simp only [Option.some.injEq] at h
    subst h
    cases hf : floorB g (goY g cell way * g.W + goX g cell way) with
    | true => rfl
    | false => exact absurd (.inr (.inr (.inr (.inr hf)))) hn
theorem u8eq (u : UInt8) (k : UInt8) : ((u.toNat : Int) = (k.toNat : Int)) ↔ u = k := ⟨fun h => UInt8.toNat_inj.1 (by omega), fun h => by rw [h]⟩
theorem floorB_eq (g : Gr) (c : Int) : (decide (c ≥ 0) && decide (c < (g.C.size : Int)) && ((g.C.data.toList.getD c.toNat 0).toNat : Int) != 35) = floorB g c := by
  have e : (((g.C.data.toList.getD c.toNat 0).toNat : Int) != 35) = decide (g.at c.toNat ≠ 35) := by
    rw [Bool.eq_iff_iff]
    simp only [bne_iff_ne, decide_eq_true_eq, ne_eq]
    exact not_congr (u8eq (g.at c.toNat) 35)
  rw [e, floorB, Bool.eq_iff_iff]
  simp [and_assoc]
def goIn (g : Gr) (c way : Int) : Bool := !(decide (goX g c way < 0) || decide (goX g c way = g.W) || decide (goY g c way < 0) || decide (goY g c way = g.H) || !floorB g (goY g c way * g.W + goX g c way))
theorem goesB_step {g : Gr} {c way : Int} (h1 : floorB g c = true) (h2 : 0 ≤ way ∧ way ≤ 4) (h3 : ¬ ((way ≠ 0 ∧ 0 ≤ arrow (g.at c.toNat)) ∧ arrow (g.at c.toNat) ≠ way - 1)) :
    goesB g c way = if goIn g c way = true then some (goY g c way * g.W + goX g c way) else none := by
  unfold goesB
  rw [if_neg (by rw [h1]; simp; omega), if_neg (by rintro ⟨a, b, d⟩; exact h3 ⟨⟨a, b⟩, d⟩)]
  by_cases hi : goIn g c way = true
  · rw [if_pos hi, if_neg]
    intro h
    simp only [goIn, Bool.not_eq_true', Bool.or_eq_false_iff, decide_eq_false_iff_not, Bool.not_eq_false'] at hi
    rcases h with h | h | h | h | h
    · exact hi.1.1.1.1 h
    · exact hi.1.1.1.2 h
    · exact hi.1.1.2 h
    · exact hi.1.2 h
    · rw [h] at hi; cases hi.2
  · rw [if_neg hi, if_pos]
    refine Classical.byContradiction fun h => hi ?_
    simp only [not_or] at h
    simp only [goIn, Bool.not_eq_true', Bool.or_eq_false_iff, decide_eq_false_iff_not, Bool.not_eq_false']
    refine ⟨⟨⟨⟨h.1, h.2.1⟩, h.2.2.1⟩, h.2.2.2.1⟩, ?_⟩
    simpa using h.2.2.2.2
theorem goesB_arrow {g : Gr} {c way : Int} (h3 : (way ≠ 0 ∧ 0 ≤ arrow (g.at c.toNat)) ∧ arrow (g.at c.toNat) ≠ way - 1) : goesB g c way = none := by
  unfold goesB
  split
  · rfl
  · rw [if_pos ⟨h3.1.1, h3.1.2, h3.2⟩]
theorem divmod_facts {c W : Int} (hc : 0 ≤ c) (hW : 1 ≤ W ∧ W ≤ 256) : 0 ≤ c / W ∧ c / W ≤ c ∧ 0 ≤ c % W ∧ c % W < W ∧ c / W * W + c % W = c ∧ (c / W - 1) * W = c / W * W - W ∧ (c / W + 1) * W = c / W * W + W ∧ 0 ≤ c / W * W := by
  have h1 : 0 ≤ c / W := Int.ediv_nonneg hc (by omega)
  refine ⟨h1, Int.ediv_le_self _ hc, Int.emod_nonneg _ (by omega), Int.emod_lt_of_pos _ (by omega), ?_, ?_, ?_, Int.mul_nonneg h1 (by omega)⟩
  · rw [Int.mul_comm]; exact Int.mul_ediv_add_emod c W
  · rw [Int.sub_mul, Int.one_mul]
  · rw [Int.add_mul, Int.one_mul]
theorem goIn_iff {g : Gr} {c way : Int} : goIn g c way = true ↔ ¬ ((((goX g c way < 0 ∨ goX g c way = g.W) ∨ goY g c way < 0) ∨ goY g c way = g.H) ∨ ¬ floorB g (goY g c way * g.W + goX g c way) = true) := by
  simp only [goIn, Bool.not_eq_true', Bool.or_eq_false_iff, decide_eq_false_iff_not, Bool.not_eq_false', not_or, Classical.not_not]
theorem goes_out {g : Gr} {c way : Int} (h1 : floorB g c = true) (h2 : 0 ≤ way ∧ way ≤ 4) (h3 : ¬ ((way ≠ 0 ∧ 0 ≤ arrow (g.at c.toNat)) ∧ arrow (g.at c.toNat) ≠ way - 1))
    (h4 : (((goX g c way < 0 ∨ goX g c way = g.W) ∨ goY g c way < 0) ∨ goY g c way = g.H) ∨ ¬ floorB g (goY g c way * g.W + goX g c way) = true) : goesB g c way = none := by
  rw [goesB_step h1 h2 h3, if_neg (fun h => goIn_iff.1 h h4)]
theorem goes_in {g : Gr} {c way : Int} (h1 : floorB g c = true) (h2 : 0 ≤ way ∧ way ≤ 4) (h3 : ¬ ((way ≠ 0 ∧ 0 ≤ arrow (g.at c.toNat)) ∧ arrow (g.at c.toNat) ≠ way - 1))
    (h4 : ¬ ((((goX g c way < 0 ∨ goX g c way = g.W) ∨ goY g c way < 0) ∨ goY g c way = g.H) ∨ ¬ floorB g (goY g c way * g.W + goX g c way) = true)) : goesB g c way = some (goY g c way * g.W + goX g c way) := by
  rw [goesB_step h1 h2 h3, if_pos (goIn_iff.2 h4)]
theorem arrow_bad {u : UInt8} {way : Int} (hw : way ≠ 0) :
    ((((u.toNat : Int) = 94 ∧ ¬ way = 1 ∨ (u.toNat : Int) = 62 ∧ ¬ way = 2) ∨ (u.toNat : Int) = 118 ∧ ¬ way = 3) ∨ (u.toNat : Int) = 60 ∧ ¬ way = 4) ↔ ((way ≠ 0 ∧ 0 ≤ arrow u) ∧ arrow u ≠ way - 1) := by
  have e1 := u8eq u 94
  have e2 := u8eq u 62
  have e3 := u8eq u 118
  have e4 := u8eq u 60
  change ((u.toNat : Int) = 94 ↔ _) at e1
  change ((u.toNat : Int) = 62 ↔ _) at e2
  change ((u.toNat : Int) = 118 ↔ _) at e3
  change ((u.toNat : Int) = 60 ↔ _) at e4
  rw [e1, e2, e3, e4]
  by_cases h1 : u = 94
  · subst h1; rw [show arrow 94 = 0 by rfl]; simp; omega
  by_cases h2 : u = 62
  · subst h2; rw [show arrow 62 = 1 by rfl]; simp; omega
  by_cases h3 : u = 118
  · subst h3; rw [show arrow 118 = 2 by rfl]; simp; omega
  by_cases h4 : u = 60
  · subst h4; rw [show arrow 60 = 3 by rfl]; simp; omega
  have : arrow u = -1 := by simp [arrow, Lib.indexByte, List.findIdx?_cons, Ne.symm h1, Ne.symm h2, Ne.symm h3, Ne.symm h4, h1, h2, h3, h4]
  rw [this]
  simp [h1, h2, h3, h4]
def dX (way : Int) : Int := ([0, 0, 1, 0, -1] : List Int).getD way.toNat 0
def dY (way : Int) : Int := ([0, -1, 0, 1, 0] : List Int).getD way.toNat 0
theorem step_facts {g : Gr} {c way : Int} (hg : GrOk g) (hf : floorB g c = true) (hw : 0 ≤ way ∧ way ≤ 4) :
    c % g.W + dX way = goX g c way ∧ c / g.W + dY way = goY g c way ∧ -1 ≤ goX g c way ∧ goX g c way ≤ g.W ∧ -1 ≤ goY g c way ∧ goY g c way ≤ g.H ∧ -256 ≤ goY g c way * g.W ∧ goY g c way * g.W ≤ 66000 := by
  have hlt := floorB_lt hf
  have hw2 := hg.w
  have hd := divmod_facts hlt.1 hw2
  have hq : c / g.W < g.H := Int.ediv_lt_of_lt_mul (by omega) (by have := hg.s; rw [Int.mul_comm] at this; omega)
  have hs := hg.size
  have : way = 0 ∨ way = 1 ∨ way = 2 ∨ way = 3 ∨ way = 4 := by omega
  rcases this with rfl | rfl | rfl | rfl | rfl <;> simp only [goX, goY, dX, dY] <;> simp <;> omega
theorem goes_stay {g : Gr} {c : Int} (hg : GrOk g) (hf : floorB g c = true) : goesB g c 0 = some c := by
  have h := step_facts hg hf (way := 0) (by decide)
  have hlt := floorB_lt hf
  have hd := divmod_facts hlt.1 hg.w
  have hq : c / g.W < g.H := Int.ediv_lt_of_lt_mul (by have := hg.w; omega) (by have := hg.s; rw [Int.mul_comm] at this; omega)
  have ex : goX g c 0 = c % g.W := by simp [goX]
  have ey : goY g c 0 = c / g.W := by simp [goY]
  have e0 : goY g c 0 * g.W + goX g c 0 = c := by rw [ex, ey]; omega
  rw [goes_in hf (by decide) (by simp) (by rw [e0, hf, ex, ey]; simp; omega), e0]
theorem ref_out {g : Gr} {c way : Int} (hg : GrOk g) (hf : floorB g c = true) (hw : 0 ≤ way ∧ way ≤ 4) (h0 : way ≠ 0)
    (h3 : ¬ (((((g.at c.toNat).toNat : Int) = 94 ∧ ¬ way = 1 ∨ ((g.at c.toNat).toNat : Int) = 62 ∧ ¬ way = 2) ∨ ((g.at c.toNat).toNat : Int) = 118 ∧ ¬ way = 3) ∨ ((g.at c.toNat).toNat : Int) = 60 ∧ ¬ way = 4))
    (h4 : (((goX g c way < 0 ∨ goY g c way < 0) ∨ goX g c way ≥ g.W) ∨ goY g c way ≥ g.H) ∨ ¬ floorB g (goY g c way * g.W + goX g c way) = true) : goesB g c way = none := by
  have h := step_facts hg hf hw
  refine goes_out hf hw (fun h => h3 ((arrow_bad h0).2 h)) ?_
  rcases h4 with (((h4 | h4) | h4) | h4) | h4
  · exact .inl (.inl (.inl (.inl h4)))
  · exact .inl (.inl (.inr h4))
  · exact .inl (.inl (.inl (.inr (by omega))))
  · exact .inl (.inr (by omega))
  · exact .inr h4
theorem ref_in {g : Gr} {c way : Int} (hf : floorB g c = true) (hw : 0 ≤ way ∧ way ≤ 4) (h0 : way ≠ 0)
    (h3 : ¬ (((((g.at c.toNat).toNat : Int) = 94 ∧ ¬ way = 1 ∨ ((g.at c.toNat).toNat : Int) = 62 ∧ ¬ way = 2) ∨ ((g.at c.toNat).toNat : Int) = 118 ∧ ¬ way = 3) ∨ ((g.at c.toNat).toNat : Int) = 60 ∧ ¬ way = 4))
    (h4 : ¬ ((((goX g c way < 0 ∨ goY g c way < 0) ∨ goX g c way ≥ g.W) ∨ goY g c way ≥ g.H) ∨ ¬ floorB g (goY g c way * g.W + goX g c way) = true)) : goesB g c way = some (goY g c way * g.W + goX g c way) := by
  refine goes_in hf hw (fun h => h3 ((arrow_bad h0).2 h)) (fun h => h4 ?_)
  rcases h with (((h | h) | h) | h) | h
  · exact .inl (.inl (.inl (.inl h)))
  · exact .inl (.inl (.inr (by omega)))
  · exact .inl (.inl (.inl (.inr h)))
  · exact .inl (.inr (by omega))
  · exact .inr h
theorem sides_mul {a b : Int} (h1 : 1 ≤ a) (h2 : 1 ≤ b) (h3 : a ≤ 256) (h4 : b ≤ 256) : 1 ≤ a * b ∧ a * b ≤ 65536 := by
  have h5 := Int.mul_le_mul h1 h2 (by decide) (by omega)
  have h6 := Int.mul_le_mul h3 h4 (by omega) (by decide)
  omega
theorem rightG_no {g : Gr} (h : ¬ (1 ≤ g.W ∧ 1 ≤ g.H ∧ g.W ≤ 256 ∧ g.H ≤ 256 ∧ (g.C.size : Int) = g.W * g.H)) : rightG g = false := by
  unfold rightG
  rw [decide_eq_false h]
  rfl
theorem rightG_yes {g : Gr} (h : 1 ≤ g.W ∧ 1 ≤ g.H ∧ g.W ≤ 256 ∧ g.H ≤ 256 ∧ (g.C.size : Int) = g.W * g.H) : rightG g = g.C.data.toList.all isLetter := by
  unfold rightG
  rw [decide_eq_true h]
  rfl
theorem all_no {g : Gr} {k : Nat} (hk : k < g.C.size) (h : isLetter (g.at k) = false) : g.C.data.toList.all isLetter = false := by
  have hk' : k < g.C.data.toList.length := hk
  rw [List.all_eq_false]
  refine ⟨g.at k, ?_, by rw [h]; decide⟩
  rw [Gr.at, List.getD, List.getElem?_eq_getElem hk']
  exact List.getElem_mem _
theorem all_yes {g : Gr} (h : ∀ i, i < g.C.size → isLetter (g.at i) = true) : g.C.data.toList.all isLetter = true := by
  rw [List.all_eq_true]
  intro x hx
  obtain ⟨i, hi, rfl⟩ := List.getElem_of_mem hx
  have := h i hi
  rwa [Gr.at, List.getD, List.getElem?_eq_getElem hi] at this
abbrev lettersB : ByteArray := ⟨#[46, 35, 83, 67, 62, 60, 94, 118]⟩
def oddB (n : Nat) : Bool := decide (126 < n) || decide (Lib.indexByte lettersB.data.toList (UInt8.ofNat n) < 0)
def lettersOf (s : ByteArray) : Bool := s.data.toList.all isLetter
theorem index_letter (u : UInt8) : decide (Lib.indexByte lettersB.data.toList u < 0) = !isLetter u := by
  have h : ∀ n : Fin 256, decide (Lib.indexByte lettersB.data.toList (UInt8.ofNat n.val) < 0) = !isLetter (UInt8.ofNat n.val) := by decide +kernel
  have := h ⟨u.toNat, u.toNat_lt⟩
  simpa using this
theorem letter_low {u : UInt8} (h : isLetter u = true) : u.toNat ≤ 126 := by
  unfold isLetter at h
  simp only [decide_eq_true_eq, List.mem_cons, List.not_mem_nil, or_false] at h
  rcases h with h | h | h | h | h | h | h | h <;> subst h <;> decide
theorem decode_odd {s : ByteArray} {i : Nat} (hi : i < s.size) : (oddB (Utf8.decode s i).1 = false → isLetter (s.data.toList.getD i 0) = true ∧ (Utf8.decode s i).2 = 1) ∧ (oddB (Utf8.decode s i).1 = true → isLetter (s.data.toList.getD i 0) = false) := by
  have hi' : i < s.data.toList.length := hi
  have e : s.data.toList.getD i 0 = s[i]'hi := by
    rw [List.getD, List.getElem?_eq_getElem hi']
    rfl
  rw [e]
  by_cases ha : (s[i]'hi).toNat < 128
  · rw [decode_ascii s i hi ha]
    simp only [oddB, UInt8.ofNat_toNat, and_true]
    rw [index_letter]
    constructor
    · intro h; simp only [Bool.or_eq_false_iff, Bool.not_eq_false'] at h; exact h.2
    · intro h
      cases hl : isLetter s[i] with
      | false => rfl
      | true => have := letter_low hl; rw [hl] at h; simp at h; omega
  · have := decode_high s i hi (by omega)
    refine ⟨fun h => ?_, fun _ => ?_⟩
    · simp [oddB] at h; omega
    · cases hl : isLetter s[i] with
      | false => rfl
      | true => have := letter_low hl; omega
theorem lettersOf_no {s : ByteArray} {k : Nat} (hk : k < s.size) (h : isLetter (s.data.toList.getD k 0) = false) : lettersOf s = false := by
  have hk' : k < s.data.toList.length := hk
  rw [lettersOf, List.all_eq_false]
  refine ⟨s.data.toList.getD k 0, ?_, by rw [h]; decide⟩
  rw [List.getD, List.getElem?_eq_getElem hk']
  exact List.getElem_mem _
theorem lettersOf_yes {s : ByteArray} (h : ∀ i, i < s.size → isLetter (s.data.toList.getD i 0) = true) : lettersOf s = true := by
  rw [lettersOf, List.all_eq_true]
  intro x hx
  obtain ⟨i, hi, rfl⟩ := List.getElem_of_mem hx
  have := h i hi
  rwa [List.getD, List.getElem?_eq_getElem hi] at this
end Go.Sx
