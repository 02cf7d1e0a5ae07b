/- Maps with plain keys. -/
import Derived.Test.YtnaickojmfefeaaSxOps
import Derived.MapKept
set_option linter.unusedSectionVars false
set_option linter.all false
namespace Go.Sx

/-- Keys that are compared without asking. -/
structure PlainKey {κ : Type} [DecidableEq κ] (d : TypeDesc) (kk : κ → Value) : Prop where
  same : ∀ a b, Instr.sameNow d (kk a) (kk b) = some (decide (a = b))
  bits : ∀ a, Instr.sameBits 10000 (kk a) (kk a) = true
  check : ∀ (P : Program) (w : World) (kt : TypeId) (em : Bool) (n : Nat) (a : κ), P.underlying kt = some d → (Instr.checkKey em (n + 1) kt (kk a)).run P w = .ok () w

def kInt (k : IntKind) (x : Int) : Value := .int k x
def kStr (s : ByteArray) : Value := .string s
theorem plain_int (k : IntKind) : PlainKey (.int k) (kInt k) := by
  refine ⟨fun a b => ?_, fun a => ?_, fun P w kt em n a hu => ?_⟩
  · simp [Instr.sameNow, kInt]
    by_cases h : a = b <;> simp [h]
  · simp [kInt, Instr.sameBits]
  · simp [Instr.checkKey, run_underlying hu, kInt]

def mget {κ α : Type} [DecidableEq κ] (es : List (κ × α)) (k : κ) : Option α :=
  match es.findIdx? (fun p => decide (k = p.1)) with
  | some j => (es[j]?).map (·.2)
  | none => none
def mset {κ α : Type} [DecidableEq κ] (es : List (κ × α)) (k : κ) (v : α) : List (κ × α) :=
  match es.findIdx? (fun p => decide (k = p.1)) with
  | some j => es.set j (k, v)
  | none => es ++ [(k, v)]

theorem findNow_at {κ α : Type} [DecidableEq κ] {d : TypeDesc} {kk : κ → Value} (hK : PlainKey d kk) (k : κ) : ∀ (es : List (κ × α)) (l : List MapEntry) (i0 : Nat), l.length = es.length → (∀ (i : Nat) (m : MapEntry) (p : κ × α), l[i]? = some m → es[i]? = some p → m.key = kk p.1) →
    Instr.findNow d (kk k) l i0 = some (match es.findIdx? (fun p => decide (k = p.1)) with | some j => (l[j]?).map (fun m => (i0 + j, m.val)) | none => none)
  | [], [], i0, _, _ => by simp [Instr.findNow]
  | [], _ :: _, _, h, _ => by simp at h
  | _ :: _, [], _, h, _ => by simp at h
  | p :: es, m :: l, i0, h, hk => by
    have hm : m.key = kk p.1 := hk 0 m p (by simp) (by simp)
    rw [Instr.findNow, hm, hK.same, List.findIdx?_cons]
    by_cases hkp : k = p.1
    · simp [hkp]
    · have ih := findNow_at hK k es l (i0 + 1) (by simpa using h) (fun i m p hm hp => hk (i + 1) m p (by simpa using hm) (by simpa using hp))
      simp only [hkp, decide_false, Bool.false_eq_true, if_false]
      rw [ih]
      cases he : es.findIdx? (fun p => decide (k = p.1)) with
      | none => simp
      | some j => simp [Nat.add_assoc, Nat.add_comm 1 j]

theorem mget_nil {κ α : Type} [DecidableEq κ] (k : κ) : mget ([] : List (κ × α)) k = none := by simp [mget]
theorem mget_cons {κ α : Type} [DecidableEq κ] (p : κ × α) (es : List (κ × α)) (k : κ) : mget (p :: es) k = if k = p.1 then some p.2 else mget es k := by
  unfold mget
  rw [List.findIdx?_cons]
  by_cases h : k = p.1
  · simp [h]
  · simp only [h, decide_false, Bool.false_eq_true, if_false]
    cases List.findIdx? (fun p => decide (k = p.1)) es with
    | none => simp
    | some j => simp
theorem mset_nil {κ α : Type} [DecidableEq κ] (k : κ) (v : α) : mset ([] : List (κ × α)) k v = [(k, v)] := by simp [mset]
theorem mset_cons {κ α : Type} [DecidableEq κ] (p : κ × α) (es : List (κ × α)) (k : κ) (v : α) : mset (p :: es) k v = if k = p.1 then (k, v) :: es else p :: mset es k v := by
  unfold mset
  rw [List.findIdx?_cons]
  by_cases h : k = p.1
  · simp [h]
  · simp only [h, decide_false, Bool.false_eq_true, if_false]
    cases List.findIdx? (fun p => decide (k = p.1)) es with
    | none => simp
    | some j => simp
theorem mget_mset {κ α : Type} [DecidableEq κ] (k : κ) (v : α) (k' : κ) : ∀ es : List (κ × α), mget (mset es k v) k' = if k' = k then some v else mget es k'
  | [] => by rw [mset_nil, mget_cons]
  | p :: es => by
    rw [mset_cons]
    by_cases h : k = p.1
    · rw [if_pos h, mget_cons, mget_cons]
      by_cases h' : k' = k
      · simp [h']
      · rw [if_neg h', if_neg h', if_neg (fun e => h' (e.trans h.symm))]
    · rw [if_neg h, mget_cons, mget_cons, mget_mset k v k' es]
      by_cases h' : k' = k
      · subst h'
        simp [h]
      · rw [if_neg h', if_neg h']

/-- Keys that are found. -/
structure KeyOk (P : Program) (kt : TypeId) {κ : Type} [DecidableEq κ] (kk : κ → Value) : Prop where
  find : ∀ {α : Type} (w : World) (k : κ) (es : List (κ × α)) (l : List MapEntry), l.length = es.length → (∀ (i : Nat) (m : MapEntry) (p : κ × α), l[i]? = some m → es[i]? = some p → m.key = kk p.1) →
    (Instr.findKey kt (kk k) l).run P w = .ok (match es.findIdx? (fun p => decide (k = p.1)) with | some j => (l[j]?).map (fun m => (j, m.val)) | none => none) w
  bits : ∀ a, Instr.sameBits 10000 (kk a) (kk a) = true
  check : ∀ (w : World) (em : Bool) (a : κ), (Instr.checkKey em 10000 kt (kk a)).run P w = .ok () w

theorem PlainKey.ok {P : Program} {kt : TypeId} {κ : Type} [DecidableEq κ] {d : TypeDesc} {kk : κ → Value} (hK : PlainKey d kk) (hk : P.underlying kt = some d) : KeyOk P kt kk := by
  refine ⟨fun w k es l h1 h2 => ?_, hK.bits, fun w em a => hK.check P w kt em 9999 a hk⟩
  have hf := findNow_at hK k es l 0 h1 h2
  rw [MapKept.run_findKey (w := w) hk hf]
  simp
theorem ba_beq (a b : ByteArray) : (a == b) = decide (a = b) := by
  obtain ⟨a⟩ := a
  obtain ⟨b⟩ := b
  show (a == b) = _
  by_cases h : a = b
  · subst h; simp
  · have : (⟨a⟩ : ByteArray) ≠ ⟨b⟩ := fun e => h (by injection e)
    simp [h]
theorem plain_str : PlainKey .string kStr := by
  refine ⟨fun a b => ?_, fun a => ?_, fun P w kt em n a hu => ?_⟩
  · simp [Instr.sameNow, kStr, ba_beq]
  · simp [kStr, Instr.sameBits, ba_beq]
  · simp [Instr.checkKey, run_underlying hu, kStr]

theorem lookup_at {P : Program} {cx : Cx} {w : World} {κ α : Type} [DecidableEq κ] {r : Nat} {new : Bool} {kk : κ → Value} {agg : Bool} {sz : Nat} {enc : α → Nat → DV} {es : List (κ × α)} {kt : TypeId} (hK : KeyOk P kt kk) (h : RAt cx w (.mp r new kk agg sz enc es)) {t et : TypeId} {i : TypeInfo} {zv : Value}
    (ht : P.underlying t = some (.map kt et)) (hi : P.info? et = some i) (hz : i.zero = some zv) (k : κ) (ok : Bool) :
    ∃ v, (Instr.lookup t (.map (some r)) (kk k) ok).run P w = .ok (if ok then .tuple #[v, .bool (mget es k).isSome] else v) w ∧ (match mget es k with | some a => AAt cx w (valA new agg sz (enc a)) v | none => v = zv) := by
  obtain ⟨ents, clock, h1, h2, _⟩ := h
  have hfk := hK.find w k es ents.toList h2.1 (fun i m p hm hp => (h2.2 i m p hm hp).1)
  have hc := hK.check w ents.isEmpty k
  cases he : es.findIdx? (fun p => decide (k = p.1)) with
  | none =>
    rw [he] at hfk
    refine ⟨zv, ?_, ?_⟩
    · simp [Instr.lookup, run_underlying ht, MapKept.run_getObj_map h1, hc, hfk, zeroValue, typeInfo, hi, hz, mget, he]
    · simp [mget, he]
  | some j =>
    rw [he] at hfk
    have hj : j < es.length := (List.findIdx?_eq_some_iff_getElem.1 he).1
    have hj' : j < ents.toList.length := by rw [h2.1]; exact hj
    have hm := h2.2 j _ _ (List.getElem?_eq_getElem hj') (List.getElem?_eq_getElem hj)
    simp only [List.getElem?_eq_getElem hj', Option.map_some] at hfk
    refine ⟨(ents.toList[j]).val, ?_, ?_⟩
    · simp [Instr.lookup, run_underlying ht, MapKept.run_getObj_map h1, hc, hfk, mget, he, List.getElem?_eq_getElem hj]
    · simp only [mget, he, List.getElem?_eq_getElem hj, Option.map_some]
      exact hm.2

theorem update_at {P : Program} {cx : Cx} {w : World} {κ α : Type} [DecidableEq κ] {r : Nat} {new : Bool} {kk : κ → Value} {agg : Bool} {sz : Nat} {enc : α → Nat → DV} {es : List (κ × α)} {kt : TypeId} (hK : KeyOk P kt kk) (h : RAt cx w (.mp r new kk agg sz enc es)) {t et : TypeId}
    (ht : P.underlying t = some (.map kt et)) (k : κ) {v : α} {u : Value} (hu : AAt cx w (valA new agg sz (enc v)) u) :
    ∃ ents' clock', (Instr.mapUpdate t (.map (some r)) (kk k) u).run P w = .ok () { w with heap := w.heap.setIfInBounds r (.map ents' clock') } ∧ MapAt cx w new kk agg sz enc (mset es k v) ents'.toList ∧ (∀ m ∈ ents'.toList, m.born < clock') ∧ (ents'.toList.map (·.born)).Nodup := by
  obtain ⟨ents, clock, h1, h2, h3, h4⟩ := h
  have hfk := hK.find w k es ents.toList h2.1 (fun i m p hm hp => (h2.2 i m p hm hp).1)
  have hc := hK.check w false k
  cases he : es.findIdx? (fun p => decide (k = p.1)) with
  | none =>
    rw [he] at hfk
    refine ⟨ents.push { key := kk k, val := u, born := clock }, clock + 1, ?_, ⟨?_, fun i m p hm hp => ?_⟩, ?_, ?_⟩
    · simp [Instr.mapUpdate, run_underlying ht, MapKept.run_getObj_map h1, hc, hfk, MapKept.run_setObj_map _ h1]
    · simp [mset, he, ← h2.1]
    · simp only [mset, he] at hp
      rw [Array.toList_push, List.getElem?_append] at hm
      rw [List.getElem?_append] at hp
      rw [h2.1] at hm
      split at hm
      · rename_i hlt
        rw [if_pos hlt] at hp
        exact h2.2 i m p hm hp
      · rename_i hlt
        rw [if_neg hlt] at hp
        have hi : i - es.length = 0 := by
          rcases Nat.eq_zero_or_pos (i - es.length) with h | h
          · exact h
          · rw [List.getElem?_eq_none (by simp; omega)] at hm
            cases hm
        rw [hi] at hm hp
        simp at hm hp
        subst hm hp
        exact ⟨rfl, hu⟩
    · intro m hm
      rw [Array.toList_push] at hm
      rcases List.mem_append.1 hm with h | h
      · have := h3 m h; omega
      · simp at h; subst h; simp
    · rw [Array.toList_push, List.map_append]
      refine List.nodup_append.2 ⟨h4, by simp, fun x hx y hy e => ?_⟩
      obtain ⟨m, hm, rfl⟩ := List.mem_map.1 hx
      simp at hy
      have := h3 m hm
      omega
  | some j =>
    rw [he] at hfk
    obtain ⟨hj, hkj, _⟩ := List.findIdx?_eq_some_iff_getElem.1 he
    have hkj' : k = (es[j]).1 := by simpa using hkj
    have hj' : j < ents.toList.length := by rw [h2.1]; exact hj
    have hjs : j < ents.size := by simpa using hj'
    have hm := h2.2 j _ _ (List.getElem?_eq_getElem hj') (List.getElem?_eq_getElem hj)
    simp only [List.getElem?_eq_getElem hj', Option.map_some] at hfk
    have hkey : (ents[j]).key = kk k := by rw [hkj']; simpa using hm.1
    have hstay : (Instr.keyThatStays (kk k) (kk k)).run P w = .ok (kk k) w := by simp [Instr.keyThatStays, hK.bits]
    refine ⟨ents.modify j fun e => { e with key := kk k, val := u }, clock, ?_, ⟨?_, fun i m p hm' hp => ?_⟩, ?_, ?_⟩
    · simp [Instr.mapUpdate, run_underlying ht, MapKept.run_getObj_map h1, hc, hfk, MapKept.run_setObj_map _ h1, hjs, hkey, hstay]
    · simp [mset, he, ← h2.1]
    · simp only [mset, he] at hp
      rw [Array.toList_modify, List.getElem?_modify] at hm'
      rw [List.getElem?_set] at hp
      by_cases hij : j = i
      · subst hij
        rw [if_pos rfl, if_pos hj] at hp
        simp at hp
        subst hp
        rw [List.getElem?_eq_getElem hj'] at hm'
        simp at hm'
        subst hm'
        exact ⟨rfl, hu⟩
      · rw [if_neg hij] at hp
        simp [hij] at hm'
        exact h2.2 i m p (by simpa using hm') hp
    · intro m hm'
      rw [Array.toList_modify] at hm'
      obtain ⟨i, hi, rfl⟩ := List.mem_iff_getElem.1 hm'
      have hi' : i < ents.toList.length := by simpa using hi
      have := h3 _ (List.getElem_mem hi')
      rw [List.getElem_modify]
      split
      · exact this
      · exact this
    · have : (ents.modify j fun e => { e with key := kk k, val := u }).toList.map (·.born) = ents.toList.map (·.born) := by
        apply List.ext_getElem?
        intro i
        rw [List.getElem?_map, List.getElem?_map, Array.toList_modify, List.getElem?_modify]
        cases ents.toList[i]? with
        | none => simp
        | some m => by_cases h : j = i <;> simp [h]
      rw [this]
      exact h4
end Go.Sx
