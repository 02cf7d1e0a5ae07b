/- Values out of parts. -/
import Derived.Test.YtnaickojmfefeaaSxMap
set_option linter.unusedSectionVars false
set_option linter.all false
namespace Go.Sx

/-! ### Cells of a value -/
theorem oneV_cells {v : Value} (h : oneV v = true) : v.cells = #[v] := by cases v <;> simp_all [oneV, Value.cells]
theorem oneV_one {v : Value} (h : oneV v = true) : v.oneCell' = true := by cases v <;> simp_all [oneV, Value.oneCell']
def oneA : AV → Bool
  | .v x => oneV x
  | .g _ | .t _ | .pan _ => false
  | _ => true
def cellsA : AV → Option (List AV)
  | .g xs => match xs.all oneA with | true => some xs | false => none
  | .t _ | .pan _ => none
  | .v x => match oneV x with | true => some [.v x] | false => none
  | z => some [z]

theorem oneA_at {cx : Cx} {w : World} {z : AV} {u : Value} (h : oneA z = true) (hz : AAt cx w z u) : oneV u = true := by
  cases z with
  | v x => simp only [AAt] at hz; subst hz; exact h
  | d new sz enc dv xs =>
    simp only [AAt] at hz
    rcases hz.inv_sl with ⟨_, A, c, rfl⟩ | ⟨a, c, rfl, _⟩ <;> rfl
  | p new sz enc dv xs i j => simp only [AAt] at hz; obtain ⟨a, c, rfl, _⟩ := hz; rfl
  | o v => simp only [AAt] at hz; obtain ⟨rfl, A, n, c, rfl⟩ := hz; rfl
  | e v sz i j => simp only [AAt] at hz; obtain ⟨a, n, c, _, _, _, rfl⟩ := hz; rfl
  | s v sz lo hi => simp only [AAt] at hz; obtain ⟨A, n, c, _, _, _, _, rfl⟩ := hz; rfl
  | g xs => cases h
  | t xs => cases h
  | pan x => cases h

theorem cellsA_at {cx : Cx} {w : World} {z : AV} {zs : List AV} {u : Value} (h : cellsA z = some zs) (hz : AAt cx w z u) : AAtL cx w zs u.cells.toList ∧ ∀ v ∈ u.cells.toList, oneV v = true := by
  have one : oneA z = true → zs = [z] → AAtL cx w zs u.cells.toList ∧ ∀ v ∈ u.cells.toList, oneV v = true := by
    intro h1 h2
    have h3 := oneA_at h1 hz
    rw [h2, oneV_cells h3]
    simp [AAtL, hz, h3]
  cases z with
  | g xs =>
    simp only [cellsA] at h
    split at h
    · rename_i hall
      simp only [Option.some.injEq] at h
      subst h
      simp only [AAt] at hz
      obtain ⟨arr, rfl, h2⟩ := hz
      refine ⟨by simpa [Value.cells] using h2, fun v hv => ?_⟩
      obtain ⟨j, hj, hv'⟩ := List.mem_iff_getElem.1 (show v ∈ arr.toList by simpa [Value.cells] using hv)
      have hlen := h2.length
      obtain ⟨u', h3, h4⟩ := h2.get j _ (List.getElem?_eq_getElem (by omega))
      have : u' = v := by
        rw [List.getElem?_eq_getElem hj, hv'] at h3
        simpa using h3.symm
      subst this
      exact oneA_at (List.all_eq_true.1 hall _ (List.getElem_mem _)) h4
    · cases h
  | t xs => cases h
  | pan x => cases h
  | v x =>
    simp only [cellsA] at h
    split at h
    · rename_i h1
      simp only [Option.some.injEq] at h
      exact one h1 h.symm
    · cases h
  | d new sz enc dv xs => simp only [cellsA, Option.some.injEq] at h; exact one rfl h.symm
  | p new sz enc dv xs i j => simp only [cellsA, Option.some.injEq] at h; exact one rfl h.symm
  | o v => simp only [cellsA, Option.some.injEq] at h; exact one rfl h.symm
  | e v sz i j => simp only [cellsA, Option.some.injEq] at h; exact one rfl h.symm
  | s v sz lo hi => simp only [cellsA, Option.some.injEq] at h; exact one rfl h.symm

inductive Upd : List AV → Nat → List AV → List AV → Prop where
  | done (cs : List AV) : Upd cs 0 [] cs
  | put {c z : AV} {cs zs cs' : List AV} : Upd cs 0 zs cs' → Upd (c :: cs) 0 (z :: zs) (z :: cs')
  | skip {c : AV} {cs zs cs' : List AV} {j : Nat} : Upd cs j zs cs' → Upd (c :: cs) (j + 1) zs (c :: cs')

theorem Upd.at {cx : Cx} {w : World} {cs : List AV} {j : Nat} {zs cs' : List AV} (h : Upd cs j zs cs') : ∀ {us vs : List Value}, AAtL cx w cs us → AAtL cx w zs vs →
    j + vs.length ≤ us.length ∧ AAtL cx w cs' (us.take j ++ vs ++ us.drop (j + vs.length)) := by
  induction h with
  | done cs =>
    intro us vs h1 h2
    cases vs with
    | nil => simpa using h1
    | cons => simp [AAtL] at h2
  | put _ ih =>
    intro us vs h1 h2
    cases us with
    | nil => simp [AAtL] at h1
    | cons u us =>
      cases vs with
      | nil => simp [AAtL] at h2
      | cons v vs =>
        simp only [AAtL] at h1 h2
        obtain ⟨h3, h4⟩ := ih h1.2 h2.2
        simp only [Nat.zero_add, List.take_zero, List.nil_append] at h3 h4
        refine ⟨by simp; omega, ?_⟩
        simpa [AAtL] using ⟨h2.1, h4⟩
  | skip _ ih =>
    intro us vs h1 h2
    cases us with
    | nil => simp [AAtL] at h1
    | cons u us =>
      simp only [AAtL] at h1
      obtain ⟨h3, h4⟩ := ih h1.2 h2
      rename_i j _
      refine ⟨by simp; omega, ?_⟩
      have e : j + 1 + vs.length = (j + vs.length) + 1 := by omega
      rw [e]
      simpa [AAtL] using And.intro h1.1 (by simpa using h4)

theorem foldl_set : ∀ (l : List Value) (off j : Nat) (cells : Array Value), off + j + l.length ≤ cells.size →
    ((l.zipIdx j).foldl (fun cs x => cs.setIfInBounds (off + x.2) x.1) cells).toList = cells.toList.take (off + j) ++ l ++ cells.toList.drop (off + j + l.length)
  | [], off, j, cells, h => by simp
  | v :: l, off, j, cells, h => by
    simp only [List.length_cons] at h
    simp only [List.zipIdx_cons, List.foldl_cons]
    rw [foldl_set l off (j + 1) _ (by simp; omega)]
    simp only [Array.toList_setIfInBounds, List.length_cons]
    have hlt : off + j < cells.toList.length := by simp; omega
    rw [show off + (j + 1) = off + j + 1 by omega, List.take_set, List.drop_set, if_pos (by omega)]
    rw [show off + j + 1 + l.length = off + j + (l.length + 1) by omega]
    congr 1
    rw [show v :: l = [v] ++ l by rfl, ← List.append_assoc]
    congr 1
    apply List.ext_getElem?
    intro k
    have hl1 : (List.take (off + j) cells.toList).length = off + j := by rw [List.length_take]; omega
    have hl2 : (List.take (off + j + 1) cells.toList).length = off + j + 1 := by rw [List.length_take]; omega
    rw [List.getElem?_set, List.getElem?_append, List.getElem?_take, hl1, hl2]
    rcases Nat.lt_trichotomy k (off + j) with h1 | h1 | h1
    · rw [if_neg (by omega), if_pos (by omega), if_pos h1, List.getElem?_take, if_pos h1]
    · rw [if_pos h1.symm, if_pos (by omega : off + j < off + j + 1), if_neg (by omega : ¬ k < off + j), h1, Nat.sub_self]
      rfl
    · rw [if_neg (by omega), if_neg (by omega), if_neg (by omega)]
      symm
      apply List.getElem?_eq_none
      simp; omega

/-- Parts are put into their places. -/
inductive Fills (sz : Nat) : List AV → List (Nat × AV) → List AV → Prop where
  | nil {cs : List AV} : Fills sz cs [] cs
  | cons {cs cs1 cs2 zs : List AV} {i : Nat} {z : AV} {ps : List (Nat × AV)} : cellsA z = some zs → Nat.beq zs.length sz = true → Upd cs (i * sz) zs cs1 → Fills sz cs1 ps cs2 → Fills sz cs ((i, z) :: ps) cs2
inductive GetPs (env : Env) (q : Path) : List (Nat × Operand) → List (Nat × AV) → Prop where
  | nil : GetPs env q [] []
  | cons {i : Nat} {x : Operand} {z : AV} {ps : List (Nat × Operand)} {zs : List (Nat × AV)} : Get env q x z → GetPs env q ps zs → GetPs env q ((i, x) :: ps) ((i, z) :: zs)
inductive PsAt (cx : Cx) (w : World) : List (Nat × AV) → List (Nat × Value) → Prop where
  | nil : PsAt cx w [] []
  | cons {i : Nat} {z : AV} {u : Value} {zs : List (Nat × AV)} {us : List (Nat × Value)} : AAt cx w z u → PsAt cx w zs us → PsAt cx w ((i, z) :: zs) ((i, u) :: us)
theorem GetPs.sound {C : Ctx} {env : Env} {sto : Sto} {a : Act} {w : World} (h : Abs C env sto a w) {q : Path} (hq : PathHolds q) {ps : List (Nat × Operand)} {zs : List (Nat × AV)} (hg : GetPs env q ps zs) :
    PsAt (C.cx sto) w zs (ps.map fun x => (x.1, a.eval x.2)) := by
  induction hg with
  | nil => exact .nil
  | cons hx _ ih => exact .cons (hx.sound h hq) ih

theorem Fills.sound {cx : Cx} {w : World} {sz : Nat} {cs cs' : List AV} {zs : List (Nat × AV)} (h : Fills sz cs zs cs') : ∀ {us : List (Nat × Value)} {cells : Array Value}, PsAt cx w zs us → AAtL cx w cs cells.toList →
    ∃ cells', Instr.fill (fun i => some (i * sz, sz)) cells us = some cells' ∧ AAtL cx w cs' cells'.toList := by
  induction h with
  | nil => intro us cells hp hc; cases hp; exact ⟨cells, rfl, hc⟩
  | cons hz hl hu _ ih =>
    rename_i cs cs1 cs2 zs i z ps _
    intro us cells hp hc
    cases hp with
    | cons hu' hp' =>
      rename_i u us'
      have hzz := (cellsA_at hz hu').1
      have hlen := hzz.length
      have hsz : u.cells.size = sz := by rw [← Array.length_toList, ← hlen]; exact Nat.eq_of_beq_eq_true hl
      obtain ⟨hle, hnew⟩ := hu.at hc hzz
      rw [Array.length_toList, Array.length_toList] at hle
      have hfold := foldl_set u.cells.toList (i * sz) 0 cells (by simpa using hle)
      simp only [Nat.add_zero] at hfold
      have hcells : (u.cells.zipIdx.foldl (fun cs x => cs.setIfInBounds (i * sz + x.2) x.1) cells).toList = cells.toList.take (i * sz) ++ u.cells.toList ++ cells.toList.drop (i * sz + u.cells.toList.length) := by
        rw [← hfold, ← Array.foldl_toList]
        congr 2
        simp
      obtain ⟨cells', h1, h2⟩ := ih (us := us') (cells := u.cells.zipIdx.foldl (fun cs x => cs.setIfInBounds (i * sz + x.2) x.1) cells) hp' (by rw [hcells]; exact hnew)
      refine ⟨cells', ?_, h2⟩
      rw [Instr.fill]
      simp only
      rw [if_neg (by simp [hsz]; omega)]
      exact h1


/-! ### Structs and arrays out of parts -/
theorem AAtL_vals {cx : Cx} {w : World} : ∀ (vs : List Value), AAtL cx w (vs.map .v) vs
  | [] => by simp [AAtL]
  | v :: vs => by simp only [List.map_cons, AAtL]; exact ⟨rfl, AAtL_vals vs⟩
inductive PlacesT (T : Tab) : List (TypeId × Nat) → List (Nat × Nat) → Prop where
  | nil : PlacesT T [] []
  | cons {t off : Nat} {y : Ty} {fs : List (TypeId × Nat)} {pl : List (Nat × Nat)} : tget t T = some y → PlacesT T fs pl → PlacesT T ((t, off) :: fs) ((off, y.size) :: pl)
inductive FillsP (pl : List (Nat × Nat)) : List AV → List (Nat × AV) → List AV → Prop where
  | nil {cs : List AV} : FillsP pl cs [] cs
  | cons {cs cs1 cs2 zs : List AV} {i off sz : Nat} {z : AV} {ps : List (Nat × AV)} : pl[i]? = some (off, sz) → cellsA z = some zs → Nat.beq zs.length sz = true → Upd cs off zs cs1 → FillsP pl cs1 ps cs2 → FillsP pl cs ((i, z) :: ps) cs2
theorem FillsP.sound {cx : Cx} {w : World} {pl : List (Nat × Nat)} {cs cs' : List AV} {zs : List (Nat × AV)} (h : FillsP pl cs zs cs') : ∀ {us : List (Nat × Value)} {cells : Array Value}, PsAt cx w zs us → AAtL cx w cs cells.toList →
    ∃ cells', Instr.fill (fun i => pl[i]?) cells us = some cells' ∧ AAtL cx w cs' cells'.toList := by
  induction h with
  | nil => intro us cells hp hc; cases hp; exact ⟨cells, rfl, hc⟩
  | cons hpl hz hl hu _ ih =>
    rename_i cs cs1 cs2 zs i off sz z ps _
    intro us cells hp hc
    cases hp with
    | cons hu' hp' =>
      rename_i u us'
      have hzz := (cellsA_at hz hu').1
      have hlen := hzz.length
      have hsz : u.cells.size = sz := by rw [← Array.length_toList, ← hlen]; exact Nat.eq_of_beq_eq_true hl
      obtain ⟨hle, hnew⟩ := hu.at hc hzz
      rw [Array.length_toList, Array.length_toList] at hle
      have hfold := foldl_set u.cells.toList off 0 cells (by simpa using hle)
      simp only [Nat.add_zero] at hfold
      have hcells : (u.cells.zipIdx.foldl (fun cs x => cs.setIfInBounds (off + x.2) x.1) cells).toList = cells.toList.take off ++ u.cells.toList ++ cells.toList.drop (off + u.cells.toList.length) := by
        rw [← hfold, ← Array.foldl_toList]
        congr 2
        simp
      obtain ⟨cells', h1, h2⟩ := ih (us := us') (cells := u.cells.zipIdx.foldl (fun cs x => cs.setIfInBounds (off + x.2) x.1) cells) hp' (by rw [hcells]; exact hnew)
      refine ⟨cells', ?_, h2⟩
      rw [Instr.fill, hpl]
      simp only
      rw [if_neg (by simp [hsz]; omega)]
      exact h1
theorem PlacesT.sound {P : Program} {T : Tab} (hT : TabOk P T) {w : World} : ∀ {fs : List (TypeId × Nat)} {pl : List (Nat × Nat)} {fs' : List Field}, PlacesT T fs pl → fs'.map (fun f => (f.type, f.offset)) = fs →
    (fs'.mapM fun f => (do pure (f.offset, ← sizeOf f.type) : Sem (Nat × Nat))).run P w = .ok pl w
  | _, _, [], .nil, _ => by simp
  | _, _, f :: fs', .cons h1 h2, h => by
    simp only [List.map_cons, List.cons.injEq, Prod.mk.injEq] at h
    obtain ⟨⟨rfl, rfl⟩, h4⟩ := h
    rw [List.mapM_cons]
    simp only [Sem.run_bind, run_size (w := w) (hT _ _ h1), Result.andThen_ok, Sem.run_pure]
    rw [PlacesT.sound hT h2 h4]
    simp
  | _, _, _ :: _, .nil, h => by simp at h
  | _, _, [], .cons _ _, h => by simp at h

inductive Bld (T : Tab) : Ty → List (Nat × AV) → List AV → Prop where
  | struct {fs : List (TypeId × Nat)} {m b : Nat} {z : List Value} {pl : List (Nat × Nat)} {zs : List (Nat × AV)} {cs : List AV} : PlacesT T fs pl → FillsP pl (z.map .v) zs cs → Bld T ⟨.struct fs, m, b, z⟩ zs cs
  | array {n e m b : Nat} {z : List Value} {ye : Ty} {zs : List (Nat × AV)} {cs : List AV} : tget e T = some ye → Fills ye.size (z.map .v) zs cs → Bld T ⟨.array n e, m, b, z⟩ zs cs
theorem Bld.sound {P : Program} {T : Tab} (hT : TabOk P T) {cx : Cx} {w : World} {t : TypeId} {y : Ty} {zs : List (Nat × AV)} {cs : List AV} {us : Array (Nat × Value)} (ht : tget t T = some y) (h : Bld T y zs cs) (hp : PsAt cx w zs us.toList) :
    ∃ u, (Instr.build t us).run P w = .ok u w ∧ AAt cx w (.g cs) u := by
  obtain ⟨d, i, h1, h2, h3, h4, h5, h6, h7, h8⟩ := hT _ _ ht
  cases h with
  | struct hpl hf =>
    obtain ⟨arr, ha⟩ := h8
    simp only [ha, Option.map_some, Value.cells, Option.some.injEq] at h6
    cases d <;> simp only [TK.fits] at h3
    rename_i fs pl fs'
    obtain ⟨cells, k1, k2⟩ := hf.sound (cells := arr) hp (by rw [← h6]; exact AAtL_vals _)
    refine ⟨.agg cells, ?_, ?_⟩
    · have hm : (fs'.mapM fun f => (do pure (f.offset, ← sizeOf f.type) : Sem (Nat × Nat))).run P w = .ok pl.toArray w := by
        rw [← Array.toArray_toList (xs := fs'), List.mapM_toArray]
        simp only [Sem.run_map, hpl.sound hT h3]
        simp
      simp only [Instr.build, zeroValue, typeInfo, Sem.run_bind, run_program, Result.andThen_ok, h2, ha, run_underlying h1, Sem.run_pure, Value.cells] at hm ⊢
      rw [hm]
      have e : (fun x : Nat => pl.toArray[x]?) = (fun x : Nat => pl[x]?) := by funext x; simp
      simp only [Result.andThen_ok, e, k1, Sem.run_pure]
    · simp only [AAt]; exact ⟨_, rfl, k2⟩
  | array he hf =>
    obtain ⟨arr, ha⟩ := h8
    simp only [ha, Option.map_some, Value.cells, Option.some.injEq] at h6
    cases d <;> simp only [TK.fits] at h3
    obtain ⟨rfl, rfl⟩ := h3
    obtain ⟨cells, k1, k2⟩ := hf.sound (cells := arr) hp (by rw [← h6]; exact AAtL_vals _)
    refine ⟨.agg cells, ?_, ?_⟩
    · simp only [Instr.build, zeroValue, typeInfo, Sem.run_bind, run_program, Result.andThen_ok, h2, ha, run_underlying h1, run_size (w := w) (hT _ _ he), Sem.run_pure, Value.cells, k1]
    · simp only [AAt]; exact ⟨_, rfl, k2⟩

end Go.Sx
