/- Walking through code: the rules hold. -/
import Derived.Test.YtnaickojmfefeaaSxRun
set_option linter.unusedSectionVars false
set_option linter.all false
namespace Go.Sx

theorem cx_cons {C : Ctx} {sto : Sto} {r : Res} {w w' : World} (hb : ∀ b ∈ r.blocks, w.heap.size ≤ b) (hw : ∀ b, b < w.heap.size → w'.heap[b]? = w.heap[b]?) :
    ∀ n b, b < w.heap.size → (C.cx sto).ok n b → (C.cx (r :: sto)).ok n b ∧ w'.heap[b]? = w.heap[b]? := by
  intro n b hlt hok
  refine ⟨⟨fun hm => ?_, hok.2⟩, hw b hlt⟩
  rcases List.mem_append.1 (show b ∈ r.blocks ++ blocksOf sto from hm) with h | h
  · have := hb b h; omega
  · exact hok.1 h

/-- New memory comes; all else stays. -/
theorem Abs.fresh {C : Ctx} {env : Env} {sto : Sto} {a : Act} {w w' : World} (h : Abs C env sto a w) {r : Res} (hk : Kept [] w w') (hn : r.blocks.Nodup) (hb : ∀ b ∈ r.blocks, w.heap.size ≤ b)
    (hr : RAt (C.cx (r :: sto)) w' r) : Abs C env (r :: sto) a w' := by
  have hw : ∀ b, b < w.heap.size → w'.heap[b]? = w.heap[b]? := fun b hb => hk.block b hb (by simp)
  refine h.step ⟨hk.os, hk.tape, hk.output, hk.size, fun k hk' _ => hw k hk'⟩ ?_ ?_ ?_ ?_
  · show (r.blocks ++ blocksOf sto).Nodup
    refine List.nodup_append.2 ⟨hn, h.nodup, fun x hx y hy e => ?_⟩
    have h1 := hb x hx
    have h2 := h.lt y hy
    omega
  · intro b hm
    rcases List.mem_append.1 (show b ∈ r.blocks ++ blocksOf sto from hm) with h' | h'
    · exact .inr (hb b h')
    · exact .inl h'
  · intro r' hr'
    rcases List.mem_cons.1 hr' with rfl | hr'
    · exact hr
    · exact RAt.mono (cx_cons hb hw) hk.size (fun b hb' => hw b ((h.res r' hr').lt b hb')) (h.res r' hr')
  · intro b hlt hm
    rcases List.mem_append.1 (show b ∈ r.blocks ++ blocksOf sto from hm) with h' | h'
    · have := hb b h'; omega
    · exact h'

theorem kept_alloc (w : World) (o : Obj) : Kept [] w (w.alloc o) := ⟨rfl, rfl, rfl, by simp, fun k hk _ => heapOld w o k hk⟩

theorem Abs.newBox {C : Ctx} {env : Env} {sto : Sto} {a : Act} {w : World} (h : Abs C env sto a w) {zs : List AV} {arr : Array Value} {e : TypeId} (hz : AAtL (C.cx sto) w zs arr.toList) :
    Abs C env (.box w.heap.size zs :: sto) a (w.alloc (.cells arr e)) := by
  have hb : ∀ b ∈ (Res.box w.heap.size zs).blocks, w.heap.size ≤ b := by simp [Res.blocks]
  refine h.fresh (kept_alloc w _) (by simp [Res.blocks]) hb ⟨arr, e, heap_alloc_new w _, ?_⟩
  exact AAtL.mono (cx_cons hb (fun b hb => heapOld w _ b hb)) (by simp) hz

theorem SetBox.find {b j : Nat} {zs : List AV} {s s' : Sto} (h : SetBox b j zs s s') : ∃ cs cs', Res.box b cs ∈ s ∧ Res.box b cs' ∈ s' ∧ Upd cs j zs cs' ∧ (∀ r ∈ s', r = .box b cs' ∨ r ∈ s) := by
  induction h with
  | head hu => exact ⟨_, _, by simp, by simp, hu, fun r hr => by rcases List.mem_cons.1 hr with rfl | hr <;> simp_all⟩
  | tail _ ih =>
    obtain ⟨cs, cs', h1, h2, h3, h4⟩ := ih
    refine ⟨cs, cs', by simp [h1], by simp [h2], h3, fun r hr => ?_⟩
    rcases List.mem_cons.1 hr with rfl | hr
    · simp
    · rcases h4 r hr with h5 | h5
      · exact .inl h5
      · exact .inr (by simp [h5])

/-- In a store in which no block stands twice, a block's resource is the only one that holds it. -/
theorem only {sto : Sto} (hn : (blocksOf sto).Nodup) {r r' : Res} (hr : r ∈ sto) (hr' : r' ∈ sto) {b : Nat} (hb : b ∈ r.blocks) (hb' : b ∈ r'.blocks) : r = r' := by
  induction sto with
  | nil => cases hr
  | cons x xs ih =>
    have hn' : (x.blocks ++ blocksOf xs).Nodup := hn
    obtain ⟨h1, h2, h3⟩ := List.nodup_append.1 hn'
    rcases List.mem_cons.1 hr with e1 | h4 <;> rcases List.mem_cons.1 hr' with e2 | h5
    · rw [e1, e2]
    · exact absurd rfl (h3 b (e1 ▸ hb) b (List.mem_flatMap.2 ⟨_, h5, hb'⟩))
    · exact absurd rfl (h3 b (e2 ▸ hb') b (List.mem_flatMap.2 ⟨_, h4, hb⟩))
    · exact ih h2 h4 h5

theorem SetBox.nodupOther {b j : Nat} {zs : List AV} {s s' : Sto} (h : SetBox b j zs s s') (hn : (blocksOf s).Nodup) : ∀ cs', Res.box b cs' ∈ s' → ∀ r ∈ s', r ≠ .box b cs' → b ∉ r.blocks ∧ r ∈ s := by
  intro cs' hc r hr hne
  have hn' : (blocksOf s').Nodup := by rw [h.blocks]; exact hn
  have hb : b ∉ r.blocks := fun hb => hne (only hn' hr hc hb (by simp [Res.blocks]))
  obtain ⟨cs, cs'', _, h2, _, h4⟩ := h.find
  rcases h4 r hr with rfl | h5
  · simp [Res.blocks] at hb
  · exact ⟨hb, h5⟩

theorem Abs.setBox {P : Program} {T : Tab} (hT : TabOk P T) {C : Ctx} {env : Env} {sto sto' : Sto} {a : Act} {w : World} (h : Abs C env sto a w) {b j : Nat} {zs : List AV} (hs : SetBox b j zs sto sto') {t : TypeId} {y : Ty} (ht : tget t T = some y)
    {v : Value} (hz : AAtL (C.cx sto) w zs v.cells.toList) (h1 : ∀ u ∈ v.cells.toList, oneV u = true) (hl : zs.length = y.size) :
    ∃ w', (Instr.storeAt t (.pointer (some ⟨b, j, none⟩)) v).run P w = .ok () w' ∧ Abs C env sto' a w' := by
  obtain ⟨cs, cs', hc, hc', hu, hall⟩ := hs.find
  obtain ⟨arr, e, hh, hcs⟩ := h.res _ hc
  obtain ⟨hle, hnew⟩ := hu.at hcs hz
  have hlen := hz.length
  have hrun := run_storeCells_at P b j e v.cells.toList 0 arr w hh (by simpa using hle) (fun u hu => oneV_one (h1 u hu))
  simp only [Nat.add_zero] at hrun
  refine ⟨w.setRow b (arr.toList.take j ++ v.cells.toList ++ arr.toList.drop (j + v.cells.toList.length)).toArray, ?_, ?_⟩
  · have hsz : (sizeOf t).run P w = .ok v.cells.size w := by rw [run_size (hT _ _ ht)]; rw [← hl, hlen]; simp
    simp only [Instr.storeAt, Instr.sureAddr, Sem.run_bind, Sem.run_pure, Result.andThen_ok, storeVar, hsz]
    simpa using hrun
  · have hbs := hs.blocks
    have hlt : b < w.heap.size := (Array.getElem?_eq_some_iff.1 hh).1
    have hown : b ∈ blocksOf sto := List.mem_flatMap.2 ⟨_, hc, by simp [Res.blocks]⟩
    have hcx : C.cx sto' = C.cx sto := by unfold Ctx.cx cxOf; rw [hbs]
    have hF : ∀ n k, k < w.heap.size → (C.cx sto).ok n k → (C.cx sto).ok n k ∧ (w.setRow b (arr.toList.take j ++ v.cells.toList ++ arr.toList.drop (j + v.cells.toList.length)).toArray).heap[k]? = w.heap[k]? := by
      intro n k _ hok
      exact ⟨hok, setRow_other w b k _ (fun e => hok.1 (e ▸ hown))⟩
    have hsize : (w.setRow b (arr.toList.take j ++ v.cells.toList ++ arr.toList.drop (j + v.cells.toList.length)).toArray).heap.size = w.heap.size := by simp [World.setRow]
    refine h.step ⟨rfl, rfl, rfl, by rw [hsize]; exact Nat.le_refl _, fun k _ hk => setRow_other w b k _ (fun e => hk (e ▸ hown))⟩ (by rw [hbs]; exact h.nodup) (fun x hx => .inl (by rw [← hbs]; exact hx)) ?_ (fun x _ hx => by rw [← hbs]; exact hx)
    intro r hr
    rw [hcx]
    by_cases hrb : r = .box b cs'
    · subst hrb
      refine ⟨_, e, setRow_heap w b arr _ e _ hh, AAtL.mono hF (by rw [hsize]; exact Nat.le_refl _) ?_⟩
      simpa using hnew
    · obtain ⟨hnb, hmem⟩ := hs.nodupOther h.nodup cs' hc' r hr hrb
      exact RAt.mono hF (by rw [hsize]; exact Nat.le_refl _) (fun k hk => setRow_other w b k _ (fun e => hnb (e ▸ hk))) (h.res r hmem)

theorem BegR.find {l : Nat} {s s' : Sto} (h : BegR l s s') : ∃ N fn ps as bd D env, Res.rnd l N .ready fn ps as bd D env ∈ s ∧ (∀ r ∈ s', r = .rnd l N .busy fn ps as bd D env ∨ r ∈ s) ∧ blocksOf s' = blocksOf s := by
  induction h with
  | head => exact ⟨_, _, _, _, _, _, _, List.mem_cons_self .., fun r hr => by rcases List.mem_cons.1 hr with rfl | hr; exact .inl rfl; exact .inr (by simp [hr]), by simp [blocksOf, Res.blocks]⟩
  | tail _ ih =>
    obtain ⟨N, fn, ps, as, bd, D, env, h1, h2, h3⟩ := ih
    refine ⟨N, fn, ps, as, bd, D, env, by simp [h1], fun r hr => ?_, by simp only [blocksOf, List.flatMap_cons] at h3 ⊢; rw [h3]⟩
    rcases List.mem_cons.1 hr with rfl | hr
    · exact .inr (by simp)
    · rcases h2 r hr with h | h
      · exact .inl h
      · exact .inr (by simp [h])
theorem BegR.other {l : Nat} {s s' : Sto} (h : BegR l s s') : (blocksOf s).Nodup → ∃ N fn ps as bd D env, Res.rnd l N .ready fn ps as bd D env ∈ s ∧ ∀ r ∈ s', r = .rnd l N .busy fn ps as bd D env ∨ (r ∈ s ∧ l ∉ r.blocks) := by
  induction h with
  | head =>
    intro hn
    refine ⟨_, _, _, _, _, _, _, List.mem_cons_self .., fun r hr => ?_⟩
    rcases List.mem_cons.1 hr with rfl | hr
    · exact .inl rfl
    · refine .inr ⟨by simp [hr], fun hl => ?_⟩
      have := List.nodup_append.1 (show ([l] ++ blocksOf _).Nodup from hn)
      exact this.2.2 l (by simp) l (List.mem_flatMap.2 ⟨r, hr, hl⟩) rfl
  | tail hb ih =>
    rename_i x r r' 
    intro hn
    have hn' := List.nodup_append.1 (show (x.blocks ++ blocksOf r).Nodup from hn)
    obtain ⟨N, fn, ps, as, bd, D, env, h1, h2⟩ := ih hn'.2.1
    refine ⟨N, fn, ps, as, bd, D, env, by simp [h1], fun y hy => ?_⟩
    rcases List.mem_cons.1 hy with rfl | hy
    · refine .inr ⟨by simp, fun hl => hn'.2.2 l hl l (List.mem_flatMap.2 ⟨_, h1, by simp [Res.blocks]⟩) rfl⟩
    · rcases h2 y hy with h | ⟨h, h'⟩
      · exact .inl h
      · exact .inr ⟨by simp [h], h'⟩
/-- A record's state turns. -/
theorem Abs.turnRnd {C : Ctx} {env : Env} {sto sto' : Sto} {a : Act} {w : World} (h : Abs C env sto a w) {l N : Nat} {st st' : LoopState} {fn : FuncId} {ps : Array Tmp} {as bd : Code} {D : Nat} {e : Env} (hm : Res.rnd l N st fn ps as bd D e ∈ sto)
    (h2 : ∀ r ∈ sto', r = .rnd l N st' fn ps as bd D e ∨ (r ∈ sto ∧ l ∉ r.blocks)) (h3 : (blocksOf sto').Nodup) (h4 : ∀ b ∈ blocksOf sto', b ∈ blocksOf sto) {rec : Loop} (hrec : w.heap[l]? = some (.loop rec)) :
    Abs C env sto' a (w.putObj l (.loop { rec with state := st' })) := by
  obtain ⟨tmps, k1, k2, k3⟩ := h.res _ hm
  rw [k1] at hrec
  cases hrec
  have hlt : l < w.heap.size := (Array.getElem?_eq_some_iff.1 k1).1
  have hown : l ∈ blocksOf sto := List.mem_flatMap.2 ⟨_, hm, by simp [Res.blocks]⟩
  have hoth : ∀ b, b ≠ l → (w.putObj l (.loop { state := st', pending := none, fn, tmps, params := ps, assign := as, body := bd, defers := D })).heap[b]? = w.heap[b]? := fun b hb => World.putObj_heap_other hb
  have hF : ∀ m b, b < w.heap.size → (C.cx sto).ok m b → (C.cx sto').ok m b ∧ (w.putObj l (.loop { state := st', pending := none, fn, tmps, params := ps, assign := as, body := bd, defers := D })).heap[b]? = w.heap[b]? := fun m b _ hok =>
    ⟨⟨fun hm => hok.1 (h4 b hm), hok.2⟩, hoth b (fun e => hok.1 (e ▸ hown))⟩
  refine h.step ⟨rfl, rfl, rfl, by simp, fun b _ hb => hoth b (fun e => hb (e ▸ hown))⟩ h3 (fun b hb => .inl (h4 b hb)) (fun r hr => ?_) (fun b _ hb => h4 b hb)
  rcases h2 r hr with rfl | ⟨hr', hl⟩
  · exact ⟨tmps, World.putObj_heap_same hlt, k2, fun s z hz => AAt.mono hF (by simp) (k3 s z hz)⟩
  · exact RAt.mono hF (by simp) (fun b hb => hoth b (fun e => hl (e ▸ hb))) (h.res r hr')
section
variable {P : Program} {T : Tab} (hT : TabOk P T) {N : Fm} {Q : Env → Sto → Prop}
include hT

theorem wpList_quiet {all : Array Oper} {a : Act} {w : World} {K : Exit → Act → World → Prop} {rest : List Oper} {o : Oper} {v : Value} {w' : World}
    {rn : Option Nat} (hnd : isDefer o.op = false) (hg : o.guard = none) (hr : (execOp a.eval o).run P w = .ok (.value v) w') (h : wpListR rn P all K rest (a.put o.dst v) w') : wpListR rn P all K (o :: rest) a w :=
  wpListR_yes (by simp [Region.wanted, hg]) (opR_of hnd hr h)

theorem Run.sound {k : List It} {env : Env} {sto : Sto} (h : Run P T N Q k env sto) : RunSem P N Q k env sto := by
  induction h with
  | seq _ ih =>
    intro C a w hN hA
    have := ih C a w hN hA
    simp only [postK] at this ⊢
    refine wpIn_seq (wpIn_mono this (fun e a w hq => ?_))
    cases e <;> simpa only [Exit.then, postK] using hq
  | semStop h => exact h
  | beg hb _ ih =>
    intro C a w hN hA
    obtain ⟨_, _, _, _, _, _, _, _, _, h3⟩ := hb.find
    obtain ⟨N', fn, ps, as, bd, D, e, h1, h2⟩ := hb.other hA.nodup
    obtain ⟨tmps, k1, k2, k3⟩ := hA.res _ h1
    have hr := run_beginRound (P := P) k1 rfl
    refine ⟨_, hr, ih C a _ hN ?_⟩
    exact hA.turnRnd h1 (st' := .busy) h2 (by rw [h3]; exact hA.nodup) (fun b hb => by rw [← h3]; exact hb) k1
  | panic hx hq =>
    rename_i all rest d x ty pos af k env sto t v
    intro C a w hN hA
    refine wpListR_yes (by simp [Region.wanted]) ?_
    have he : a.eval x = .iface t v := hx.v hA (q := []) trivial
    refine opR_of rfl (show (execOp a.eval _).run P w = .halt (.panic (.iface t v)) w from ?_) ?_
    · simp [execOp, Instr.panic, he, goPanic]
    · exact postK_panic hq (hA.le (fun s q z h => by simp [lookup] at h))
  | skip _ ih => exact fun C a w hN hA => wpIn_skip (ih C a w hN hA)
  | block _ ih =>
    intro C a w hN hA
    have := ih C a w hN hA
    simp only [postK] at this ⊢
    refine wpIn_block (wpIn_mono this (fun e a w hq => ?_))
    cases e <;> simpa only [Exit.inBlock, postK] using hq
  | endBlk _ ih => exact fun C a w hN hA => by simpa only [postK] using ih C a w hN hA
  | exit hp _ ih => exact fun C a w hN hA => wpIn_exit (postK_exit hp (ih C a w hN hA))
  | ret hq => exact fun C a w hN hA => wpIn_ret (postK_ret hq hA)
  | done hq => exact fun C a w hN hA => ⟨_, _, hq, hA⟩
  | goal hj => exact fun C a w hN hA => ⟨_, _, hj, hA⟩
  | reg _ ih => exact fun C a w hN hA => wpIn_region_list (ih C a w hN hA)
  | cond hc _ _ ih1 ih2 =>
    intro C a w hN hA
    exact wpIn_cond_split (hc.v hA (q := []) trivial) (fun h => ih1 h C a w hN hA) (fun h => ih2 h C a w hN hA)
  | loopStop h => exact h
  | drawStop h => exact h
  | rangeStop h => exact h
  | nilOps _ ih => exact fun C a w hN hA => ih C a w hN hA
  | callStop h => exact h
  | append hd hx hy ht hte htx he hdst hsrc hsz hb1 hb _ ih =>
    rename_i all rest d x y t tx e ty pos af k env sto sto' zx zy yt yx ye α v n n' sz enc dv xs ys _
    intro C a w hN hA
    obtain ⟨v', w', hrun, hA', A, m, c, hv'⟩ := hA.append hT (ty := ty) (hx.sound hA (q := []) trivial) (hy.sound hA (q := []) trivial) ht hte htx he hdst hsrc (Nat.eq_of_beq_eq_true hsz) (Nat.le_of_ble_eq_true hb1) (hb trivial)
    refine wpList_quiet hT rfl rfl (v := v') (w' := w') ?_ (ih v' C _ _ hN (hA'.put0 (by rw [hN.1]; exact Nat.le_of_ble_eq_true hd) ⟨rfl, A, m, c, hv'⟩))
    simp [execOp, resolve, invoke, builtin, hrun]
  | sliceStop h => exact h
  | makeStop h => exact h
  | nilStop _ h => exact h
  | storeStop _ h => exact h
  | mapStop h => exact h
  | newMapStop h => exact h
  | box hd hg hz _ ih =>
    rename_i all rest d e x ty pos af k env sto z zs _
    intro C a w hN hA
    have hzz := cellsA_at hz (hg.sound hA (q := []) trivial)
    have hA' := (hA.newBox (e := e) hzz.1)
    refine wpList_quiet hT rfl rfl (v := .pointer (some ⟨w.heap.size, 0, none⟩)) (w' := w.alloc (.cells (a.eval x).cells e)) ?_ (ih w.heap.size C _ _ hN (hA'.put0 (by rw [hN.1]; exact Nat.le_of_ble_eq_true hd) rfl))
    simp only [execOp, Instr.box, newVar, newRow, Sem.run_bind, run_newObj, Result.andThen_ok, Sem.run_pure]
    rfl
  | alloc hd ht _ ih =>
    rename_i all rest d e ty pos af k env sto y _
    intro C a w hN hA
    obtain ⟨i, h1, h2, h3, h4, h5⟩ := (hT _ _ ht).info
    cases hz : i.zero with
    | none => simp [hz] at h4
    | some zv =>
      simp only [hz, Option.map_some, Option.some.injEq] at h4
      have hzz : AAtL (C.cx sto) w (y.zero.map .v) zv.cells.toList := by
        rw [h4]
        exact AAtL.of_get (by simp) (fun j z u hz hu => by
          simp only [List.getElem?_map, hu, Option.map_some, Option.some.injEq] at hz
          subst hz
          rfl)
      have hA' := (hA.newBox (e := e) hzz)
      refine wpList_quiet hT rfl rfl (v := .pointer (some ⟨w.heap.size, 0, none⟩)) (w' := w.alloc (.cells zv.cells e)) ?_ (ih w.heap.size C _ _ hN (hA'.put0 (by rw [hN.1]; exact Nat.le_of_ble_eq_true hd) rfl))
      simp only [execOp, Instr.alloc, zeroValue, typeInfo, Sem.run_bind, run_program, Result.andThen_ok, h1, hz, newVar, newRow, run_newObj, Sem.run_pure]
      rfl
  | store hx hv hz ht hl hs _ ih =>
    rename_i all rest t x v ty pos af k env sto sto' b j z zs y _
    intro C a w hN hA
    have hzz := cellsA_at hz (hv.sound hA (q := []) trivial)
    obtain ⟨w', hrun, hA'⟩ := hA.setBox hT hs ht hzz.1 hzz.2 (Nat.eq_of_beq_eq_true hl)
    refine wpListR_yes (by simp [Region.wanted]) ?_
    have he : a.eval x = .pointer (some ⟨b, j, none⟩) := hx.v hA (q := []) trivial
    have hr : (execOp a.eval { dst := none, op := .store t x v, type := ty, pos, after := af, guard := none }).run P w = .ok .skip w' := by
      simp only [execOp, he, Sem.run_bind, hrun]
      rfl
    exact opR_of rfl hr (ih C _ _ hN hA')
  | quiet hd hq _ ih =>
    rename_i all rest d op ty pos af k env sto z _
    intro C a w hN hA
    obtain ⟨u, hr, hz⟩ := hq.sound (o := { dst := some d, op, type := ty, pos, after := af, guard := none }) hT hA (q := []) trivial
    exact wpList_quiet hT hq.nd rfl hr (ih C _ _ hN (hA.put0 (by rw [hN.1]; exact Nat.le_of_ble_eq_true hd) hz))
  | guarded hd hgs hl hq _ ih =>
    rename_i all rest d gs g b c q op ty pos af k env sto z _
    intro C a w hN hA
    have hdlt : d < C.N := by rw [hN.1]; exact Nat.le_of_ble_eq_true hd
    have hiff : Region.wanted { dst := some d, op, type := ty, pos, after := af, guard := some (g, b) } (yielded all a.tmps) = true ↔ PathHolds ((c, b) :: q) := by
      have hgt : yielded all a.tmps g = match a.tmps[gs]? with | some (.bool b) => some b | _ => none := by
        unfold gslot at hgs
        simp only [yielded, hgs, Option.bind_some]
        rfl
      have hget : a.tmps[gs]? = none ∨ a.tmps[gs]? = some (a.tmps.getD gs undef) := by
        cases h : a.tmps[gs]? with
        | none => exact .inl rfl
        | some v => right; simp [h]
      by_cases hqq : PathHolds q
      · have h1 : a.tmps.getD gs undef = .bool c := hA.slots gs q _ hl hqq
        rw [h1] at hget
        have hget' : a.tmps[gs]? = some (.bool c) := by
          rcases hget with h | h
          · have h2 : a.tmps.getD gs undef = undef := by simp [h]
            rw [h2] at h1
            cases h1
          · exact h
        simp only [Region.wanted, hgt, hget', PathHolds, hqq, and_true, beq_iff_eq, Option.some.injEq]
      · have h1 := hA.envU gs q _ hl hqq
        rw [h1] at hget
        have : yielded all a.tmps g = none := by
          rw [hgt]
          rcases hget with h | h <;> rw [h] <;> rfl
        simp [Region.wanted, this, PathHolds, hqq]
    by_cases hh : PathHolds ((c, b) :: q)
    · refine wpListR_yes (hiff.2 hh) ?_
      obtain ⟨u, hr, hz⟩ := hq.sound (o := { dst := some d, op, type := ty, pos, after := af, guard := some (g, b) }) hT hA hh
      exact opR_of hq.nd hr (ih C _ _ hN (hA.put hdlt (fun _ => hz) (fun hn => absurd hh hn)))
    · refine wpListR_no (fun h => hh (hiff.1 h)) ?_
      exact ih C _ _ hN (hA.put hdlt (fun h => absurd h hh) (fun _ => rfl))

end
end Go.Sx
