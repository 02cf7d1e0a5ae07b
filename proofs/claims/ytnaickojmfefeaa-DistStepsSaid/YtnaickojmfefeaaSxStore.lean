/- Stores into rows that are owned. -/
import Derived.Test.YtnaickojmfefeaaSxFun
set_option linter.unusedSectionVars false
set_option linter.all false
namespace Go.Sx

theorem Abs.setRow {P : Program} {T : Tab} (hT : TabOk P T) {C : Ctx} {env : Env} {sto rest : Sto} {a : Act} {w : World} (hA : Abs C env sto a w) {α : Type} {v : Value} {n n' : Bool} {e : TypeId} {sz i j : Nat} {enc : α → Nat → DV} {dv : α} {xs : List α}
    (hp : Pull v n e sz enc dv xs sto rest) {t : TypeId} {y : Ty} (ht : tget t T = some y) {u : Value} (hu : AAt (C.cx sto) w (.e v sz i j) u) {z : Value} {zs : List AV} {ds : List DV} (hz : AAtL (C.cx sto) w zs z.cells.toList)
    (hl : zs.length = y.size) (hd : DownL zs n' ds) (x' : α) (hj : j + ds.length ≤ sz) (hnew : ∀ k, k < sz → enc x' k = if j ≤ k ∧ k < j + ds.length then ds.getD (k - j) (.v undef) else enc (xs.getD i dv) k) :
    ∃ w', (Instr.storeAt t u z).run P w = .ok () w' ∧ Abs C env (.row v (n && n') e sz enc dv (xs.set i x') :: rest) a w' := by
  obtain ⟨hm, hrest, hperm⟩ := hp.mem
  simp only [AAt] at hu
  obtain ⟨ad, len, cap, hv, hi, hjs, rfl⟩ := hu
  have hR := hA.res _ hm
  have hR' := hR
  obtain ⟨vals, h1, h2, h3, h4⟩ := hR'
  have hlen := h3 _ _ _ hv
  rcases h1 with ⟨rfl, rfl⟩ | ⟨g, o, n0, cap0, cur, hv', hg, hn0, hm0, hc0, hl0, hvals⟩
  · simp at hv
  · rw [hv'] at hv
    simp only [Value.slice.injEq, Option.some.injEq] at hv
    obtain ⟨rfl, rfl, rfl⟩ := hv
    have hdl : ds.length = z.cells.toList.length := by
      rw [← hz.length]
      clear hnew hj hz hl
      induction hd with
      | nil => rfl
      | cons _ _ ih => simp [ih]
    have hone : ∀ q ∈ z.cells.toList, q.oneCell' = true := by
      intro q hq
      obtain ⟨k, hk, rfl⟩ := List.mem_iff_getElem.1 hq
      obtain ⟨q', h5, h6⟩ := hd.sound hz (m := n') (fun h => h) k _ (List.getElem?_eq_getElem (by omega))
      rw [List.getElem?_eq_getElem hk] at h5
      simp only [Option.some.injEq] at h5
      rw [h5]
      exact oneV_one h6.inv_one
    have hmul : i * sz + sz ≤ n0 * sz := by
      have : (i + 1) * sz ≤ n0 * sz := Nat.mul_le_mul_right _ hi
      rw [Nat.add_mul, Nat.one_mul] at this
      exact this
    have hmul2 : n0 * sz ≤ cap0 * sz := Nat.mul_le_mul_right _ hn0
    have hrun := run_storeCells_at P g (o + (i * sz + j)) e z.cells.toList 0 cur w hg (by omega) hone
    simp only [Nat.add_zero] at hrun
    have hlt : g < w.heap.size := (Array.getElem?_eq_some_iff.1 hg).1
    have hown : g ∈ blocksOf sto := hperm.mem_iff.2 (List.mem_append_left _ (by rw [hv']; simp [Value.ownBlock]))
    have hbs : (blocksOf sto).Perm (blocksOf (.row v (n && n') e sz enc dv (xs.set i x') :: rest)) := hperm
    have hnd := hbs.nodup_iff.1 hA.nodup
    have hnd' := hperm.nodup_iff.1 hA.nodup
    have hmem : ∀ b, b ∈ blocksOf (.row v (n && n') e sz enc dv (xs.set i x') :: rest) ↔ b ∈ blocksOf sto := fun b => (hbs.mem_iff).symm
    generalize hcur : (cur.toList.take (o + (i * sz + j)) ++ z.cells.toList ++ cur.toList.drop (o + (i * sz + j) + z.cells.toList.length)).toArray = cur'
    have hcur'l : cur'.size = cur.size := by
      rw [← hcur]
      simp only [List.size_toArray, List.length_append, List.length_take, List.length_drop, Array.length_toList] at *
      omega
    have hget : ∀ q, q < cur.size → cur'[q]? = if o + (i * sz + j) ≤ q ∧ q < o + (i * sz + j) + ds.length then z.cells.toList[q - (o + (i * sz + j))]? else cur[q]? := by
      intro q hq
      rw [← hcur, List.getElem?_toArray, List.getElem?_append, List.getElem?_append, List.getElem?_take, List.getElem?_drop]
      have hl1 : (cur.toList.take (o + (i * sz + j))).length = o + (i * sz + j) := by rw [List.length_take, Array.length_toList]; omega
      rw [List.length_append, hl1, ← hdl]
      rcases Nat.lt_or_ge q (o + (i * sz + j)) with h5 | h5
      · rw [if_pos (by omega : q < o + (i * sz + j) + ds.length), if_pos h5, if_pos h5, if_neg (fun h => by omega)]; simp
      · rcases Nat.lt_or_ge q (o + (i * sz + j) + ds.length) with h6 | h6
        · rw [if_pos h6, if_neg (by omega : ¬ q < o + (i * sz + j)), if_pos ⟨h5, h6⟩]
        · rw [if_neg (by omega : ¬ q < o + (i * sz + j) + ds.length), if_neg (fun h => by omega), show o + (i * sz + j) + ds.length + (q - (o + (i * sz + j) + ds.length)) = q by omega]; simp
    rw [hcur] at hrun
    have hF : ∀ m k, k < w.heap.size → (C.cx sto).ok m k → (C.cx (.row v (n && n') e sz enc dv (xs.set i x') :: rest)).ok m k ∧ (w.setRow g cur').heap[k]? = w.heap[k]? := by
      intro m k _ hok
      exact ⟨⟨fun h => hok.1 ((hmem k).1 h), hok.2⟩, setRow_other w g k _ (fun e => hok.1 (e ▸ hown))⟩
    have hsize : (w.setRow g cur').heap.size = w.heap.size := by simp [World.setRow]
    refine ⟨w.setRow g cur', ?_, ?_⟩
    · have hszt : (sizeOf t).run P w = .ok z.cells.size w := by rw [run_size (hT _ _ ht), ← hl, hz.length]; simp
      rw [add_none]
      simp only [Instr.storeAt, Instr.sureAddr, Sem.run_bind, Sem.run_pure, Result.andThen_ok, storeVar, hszt]
      simpa using hrun
    · refine hA.step ⟨rfl, rfl, rfl, by rw [hsize]; exact Nat.le_refl _, fun k _ hk => setRow_other w g k _ (fun e => hk (e ▸ hown))⟩ hnd (fun b hb => .inl ((hmem b).1 hb)) ?_ (fun b _ hb => (hmem b).1 hb)
      intro r hr
      rcases List.mem_cons.1 hr with rfl | hr
      · refine ⟨(cur'.toList.drop o).take (n0 * sz), .inr ⟨g, o, n0, cap0, cur', hv', setRow_heap w g cur _ e _ hg, hn0, hm0, by omega, ?_, rfl⟩, ?_, fun A m c h => by rw [List.length_set]; exact h3 A m c h, fun p q hp' hq => ?_⟩
        · simp; omega
        · rw [List.length_set, ← hlen]; simp; omega
        · rw [List.length_set] at hp'
          have hpq : p * sz + q < n0 * sz := by
            have : (p + 1) * sz ≤ xs.length * sz := Nat.mul_le_mul_right _ hp'
            rw [Nat.add_mul, Nat.one_mul, ← hlen] at this
            omega
          have hg1 : ((cur'.toList.drop o).take (n0 * sz))[p * sz + q]? = cur'[o + (p * sz + q)]? := by
            rw [List.getElem?_take, if_pos hpq, List.getElem?_drop]; simp
          rw [hg1, hget _ (by omega)]
          obtain ⟨y0, hy1, hy2⟩ := h4 p q hp' hq
          have hy1' : cur[o + (p * sz + q)]? = some y0 := by
            rw [hvals, List.getElem?_take, if_pos hpq, List.getElem?_drop] at hy1
            simpa using hy1
          by_cases hpi : p = i
          · subst hpi
            have hset : (xs.set p x').getD p dv = x' := by simp [List.getD, hp']
            rw [hset, hnew q hq]
            by_cases hin : j ≤ q ∧ q < j + ds.length
            · rw [if_pos (by omega), if_pos hin]
              have hk : q - j < ds.length := by omega
              obtain ⟨y1, h5, h6⟩ := hd.sound hz (m := n && n') (fun h => by simp only [Bool.and_eq_true] at h; exact h.2) (q - j) _ (List.getElem?_eq_getElem hk)
              refine ⟨y1, by rw [show o + (p * sz + q) - (o + (p * sz + j)) = q - j by omega]; exact h5, ?_⟩
              rw [List.getD, List.getElem?_eq_getElem hk]
              exact h6.mono (fun b hb hok => hF _ b hb hok) (by rw [hsize]; exact Nat.le_refl _)
            · rw [if_neg (by omega), if_neg hin]
              exact ⟨y0, hy1', hy2.mono (fun b hb hok => ⟨⟨(hF n b hb hok).1.1, (hF n b hb hok).1.2.1, fun h => (hF n b hb hok).1.2.2 (by simp only [Bool.and_eq_true] at h; exact h.1)⟩, (hF n b hb hok).2⟩) (by rw [hsize]; exact Nat.le_refl _)⟩
          · have hset : (xs.set i x').getD p dv = xs.getD p dv := by simp [List.getD, List.getElem?_set, Ne.symm hpi]
            rw [hset]
            have hout : ¬ (o + (i * sz + j) ≤ o + (p * sz + q) ∧ o + (p * sz + q) < o + (i * sz + j) + ds.length) := by
              intro hin
              rcases Nat.lt_or_gt_of_ne hpi with h5 | h5
              · have : (p + 1) * sz ≤ i * sz := Nat.mul_le_mul_right _ h5
                rw [Nat.add_mul, Nat.one_mul] at this
                omega
              · have : (i + 1) * sz ≤ p * sz := Nat.mul_le_mul_right _ h5
                rw [Nat.add_mul, Nat.one_mul] at this
                omega
            rw [if_neg hout]
            exact ⟨y0, hy1', hy2.mono (fun b hb hok => ⟨⟨(hF n b hb hok).1.1, (hF n b hb hok).1.2.1, fun h => (hF n b hb hok).1.2.2 (by simp only [Bool.and_eq_true] at h; exact h.1)⟩, (hF n b hb hok).2⟩) (by rw [hsize]; exact Nat.le_refl _)⟩
      · refine RAt.mono hF (by rw [hsize]; exact Nat.le_refl _) (fun b hb => setRow_other w g b _ (fun e => ?_)) (hA.res r (hrest r hr))
        subst e
        exact (List.nodup_append.1 hnd').2.2 b (by rw [hv']; simp [Value.ownBlock]) b (List.mem_flatMap.2 ⟨r, hr, hb⟩) rfl

/-- An element's cells behind a store, one by one. -/
inductive StoreC (f old : Nat → DV) (j : Nat) (ds : List DV) : Nat → Prop where
  | zero : StoreC f old j ds 0
  | succ {k : Nat} : f k = (if j ≤ k ∧ k < j + ds.length then ds.getD (k - j) (.v undef) else old k) → StoreC f old j ds k → StoreC f old j ds (k + 1)
theorem StoreC.all {f old : Nat → DV} {j : Nat} {ds : List DV} {n : Nat} (h : StoreC f old j ds n) : ∀ k, k < n → f k = if j ≤ k ∧ k < j + ds.length then ds.getD (k - j) (.v undef) else old k := by
  induction h with
  | zero => intro k hk; omega
  | succ h1 _ ih =>
    intro k hk
    rcases Nat.lt_succ_iff_lt_or_eq.1 hk with h | h
    · exact ih k h
    · subst h; exact h1
section
variable {P : Program} {T : Tab} (hT : TabOk P T) {N : Fm} {Q : Env → Sto → Prop}
include hT
/-- A store into an element of a row; the element comes to x'. -/
theorem RunSem.storeE {α : Type} (x' : α) {all : Array Oper} {rest : List Oper} {t : TypeId} {x z : Operand} {ty : TypeId} {pos : String} {af : Array Edge} {k : List It} {env : Env} {sto sto' : Sto} {v : Value} {n n' : Bool} {e : TypeId} {sz i j : Nat} {enc : α → Nat → DV} {dv : α} {xs : List α}
    {zz : AV} {zs : List AV} {ds : List DV} {y : Ty} (hx : Get env [] x (.e v sz i j)) (hz : Get env [] z zz) (hzs : cellsA zz = some zs) (ht : tget t T = some y) (hl : Nat.beq zs.length y.size = true) (hd : DownL zs n' ds) (hp : Pull v n e sz enc dv xs sto sto')
    (hj : Nat.ble (j + ds.length) sz = true) (hnew : StoreC (enc x') (enc (xs.getD i dv)) j ds sz)
    (hk : Run P T N Q (.ops all rest :: k) env (.row v (n && n') e sz enc dv (xs.set i x') :: sto')) :
    RunSem P N Q (.ops all ({ dst := none, op := .store t x z, type := ty, pos, after := af, guard := none } :: rest) :: k) env sto := by
  intro C a w hN hA
  have hzz := cellsA_at hzs (hz.sound hA (q := []) trivial)
  obtain ⟨w', hrun, hA'⟩ := hA.setRow hT hp ht (hx.sound hA (q := []) trivial) hzz.1 (Nat.eq_of_beq_eq_true hl) hd x' (Nat.le_of_ble_eq_true hj) hnew.all
  refine wpListR_yes (by simp [Region.wanted]) ?_
  have hr : (execOp a.eval { dst := none, op := .store t x z, type := ty, pos, after := af, guard := none }).run P w = .ok .skip w' := by
    simp only [execOp, Sem.run_bind, hrun]
    rfl
  refine opR_of rfl hr ?_
  exact hk.sound hT C _ _ hN hA'
end
end Go.Sx
