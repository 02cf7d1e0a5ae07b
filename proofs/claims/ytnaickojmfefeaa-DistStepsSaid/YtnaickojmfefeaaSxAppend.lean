/- Appending to a row that is owned. -/
import Derived.Test.YtnaickojmfefeaaSxSound
import Derived.Deep.AppendSrc
import Derived.Deep.Upon
set_option linter.unusedSectionVars false
set_option linter.all false
namespace Go.Sx

theorem growsrc_fits {need old bytes : Nat} (h : old < need) (hb : need * bytes ≤ 140737488355328) : Builtin.nextslicecap need old * bytes ≤ 281474976710656 := growslice_fits h hb

/-- A row grows by cells. -/
theorem RowAt.append {P : Program} {w : World} {t tx ty e : TypeId} {i : TypeInfo} {zv : Value} (ht : P.underlying t = some (.slice e)) (hi : P.info? e = some i) (hz : i.zero = some zv) (hzs : zv.cells.size = i.size)
    {v : Value} {vals : List Value} {n : Nat} (hr : RowAt w e i.size v vals) (hn : ∀ A m c, v = .slice A m c → m = n) (hvl : vals.length = n * i.size) (h1 : ∀ u ∈ vals, oneV u = true)
    {x : Value} {m : Nat} {news : List Value} (hs : Src P i.size tx x m news w) (hbytes : (n + m) * i.bytes ≤ 140737488355328) (h63 : n + m ≤ maxLen) :
    ∃ v' w', (Builtin.append_ #[t, tx] ty #[v, x]).run P w = .ok v' w' ∧ RowAt w' e i.size v' (vals ++ news) ∧ (∀ A k c, v' = .slice A k c → k = n + m) ∧ Kept v.ownBlock.toList w w' ∧
      (v' = v ∨ (∃ A c c', v = .slice A n c ∧ v' = .slice A (n + m) c') ∨ ∃ k c, v' = .slice (some ⟨w.heap.size, 0, none⟩) k c) := by
  have hnl := hs.newsLen
  have hlen : (vals ++ news).length = (n + m) * i.size := by rw [List.length_append, hvl, hnl, Nat.add_mul]
  have grow : ∀ (bs : Option Addr) (sc : Nat), v = .slice bs n sc → sc < n + m → (Builtin.firstCells i.size n (.slice bs n sc)).run P w.drew = .ok vals.toArray w.drew →
      ∃ v' w', (Builtin.append_ #[t, tx] ty #[v, x]).run P w = .ok v' w' ∧ RowAt w' e i.size v' (vals ++ news) ∧ (∀ A k c, v' = .slice A k c → k = n + m) ∧ Kept v.ownBlock.toList w w' ∧
      (v' = v ∨ (∃ A c c', v = .slice A n c ∧ v' = .slice A (n + m) c') ∨ ∃ k c, v' = .slice (some ⟨w.heap.size, 0, none⟩) k c) := by
    rintro bs sc rfl hg hold
    have hrun := run_append_grow_src (P := P) w t tx ty e i zv ht hi hz bs n sc vals hold x m news hs hg (by simp only [maxLen] at h63; omega) (growslice_fits hg hbytes)
    have hge := grownCap_ge w (n + m) sc e
    have hcm := grownCap_le_maxLen w (n + m) sc e h63
    refine ⟨_, _, hrun, .inr ⟨w.heap.size, 0, _, _, _, rfl, heap_alloc_new w.drew _, hge, hcm, ?_, hlen, ?_⟩, fun A k c h => by simp only [Value.slice.injEq] at h; exact h.2.1.symm, ⟨rfl, rfl, rfl, by simp, fun k hk _ => heapOld w.drew _ k hk⟩, .inr (.inr ⟨_, _, rfl⟩)⟩
    · rw [Array.size_append, List.size_toArray, hlen, size_zeroCells, hzs, ← Nat.add_mul, Nat.zero_add]
      refine Nat.le_of_eq ?_
      congr 1
      omega
    · rw [List.drop_zero, Array.toList_append, ← hlen]
      exact (List.take_left).symm
  have nothing : m = 0 → ∀ (bs : Option Addr) (sc : Nat), v = .slice bs n sc → n ≤ sc →
      ∃ v' w', (Builtin.append_ #[t, tx] ty #[v, x]).run P w = .ok v' w' ∧ RowAt w' e i.size v' (vals ++ news) ∧ (∀ A k c, v' = .slice A k c → k = n + m) ∧ Kept v.ownBlock.toList w w' ∧
      (v' = v ∨ (∃ A c c', v = .slice A n c ∧ v' = .slice A (n + m) c') ∨ ∃ k c, v' = .slice (some ⟨w.heap.size, 0, none⟩) k c) := by
    rintro rfl bs sc rfl hle
    have hx : news = [] := List.eq_nil_of_length_eq_zero (by simpa using hnl)
    subst hx
    have hrun := run_append_nothing (P := P) w t tx ty e i ht hi bs n sc hle x hs
    exact ⟨_, _, hrun, by simpa using hr, fun A k c h => by simp only [Value.slice.injEq] at h; exact h.2.1.symm, Kept.refl _ _, .inl rfl⟩
  rcases hr with ⟨rfl, rfl⟩ | ⟨g, o, n', cap, cur, rfl, hg, hnc, hcm, hsz, hl, hvals⟩
  · have hn0 : n = 0 := (hn _ _ _ rfl).symm
    subst hn0
    rcases Nat.eq_zero_or_pos m with hm | hm
    · exact nothing hm none 0 rfl (Nat.le_refl _)
    · exact grow none 0 rfl (by omega) (run_firstCells_none w.drew i.size 0 0 0)
  · have hn0 : n' = n := hn _ _ _ rfl
    subst hn0
    by_cases hroom : n' + m ≤ cap
    · have hmul : (n' + m) * i.size ≤ cap * i.size := Nat.mul_le_mul_right _ hroom
      rw [Nat.add_mul] at hmul
      have hst := run_storeCells_at P g (o + n' * i.size) e news 0 cur w hg (by omega) hs.one
      have hrun : (Builtin.append_ #[t, tx] ty #[.slice (some ⟨g, o, none⟩) n' cap, x]).run P w = .ok (.slice (some ⟨g, o, none⟩) (n' + m) cap)
          (w.setRow g (cur.toList.take (o + n' * i.size) ++ news ++ cur.toList.drop (o + n' * i.size + news.length)).toArray) := by
        simp only [Nat.add_zero] at hst
        rcases hs.kind with ⟨e', hk⟩ | hk <;> simp [Builtin.append_, run_underlying ht, run_underlying hk, sizeOf, typeInfo, hi, hs.len, hroom, hs.cells, Addr.add_lit, hst]
      refine ⟨_, _, hrun, .inr ⟨g, o, _, _, _, rfl, setRow_heap w g cur _ e _ hg, hroom, hcm, ?_, hlen, ?_⟩, fun A k c h => by simp only [Value.slice.injEq] at h; exact h.2.1.symm,
        ⟨rfl, rfl, rfl, by simp [World.setRow], fun k _ hk => setRow_other w g k _ (fun e => hk (by simp [Value.ownBlock, e]))⟩, .inr (.inl ⟨_, _, _, rfl, rfl⟩)⟩
      · simp only [List.size_toArray, List.length_append, List.length_take, List.length_drop, Array.length_toList]
        omega
      · have e1 : (cur.toList.take (o + n' * i.size)).drop o = vals := by rw [hvals, List.drop_take]; congr 1; omega
        have e2 : (cur.toList.take (o + n' * i.size)).length = o + n' * i.size := by simp; omega
        rw [List.append_assoc, List.drop_append_of_le_length (by omega), e1, ← List.append_assoc, ← hlen]
        exact List.take_left.symm
    · refine grow (some ⟨g, o, none⟩) cap rfl (by omega) ?_
      refine run_firstCells_some w.drew i.size n' ⟨g, o, none⟩ n' cap vals hl (fun j u hu => ?_)
      rw [add_none]
      have : w.drew.cell? ⟨g, o + j, none⟩ = w.cell? ⟨g, o + j, none⟩ := rfl
      rw [this, cell_of_heap hg]
      rw [hvals, List.getElem?_take, List.getElem?_drop] at hu
      split at hu
      · simpa using hu
      · cases hu

/-- A row is taken out of the store. -/
inductive Pull {α : Type} (v : Value) (n : Bool) (e : TypeId) (sz : Nat) (enc : α → Nat → DV) (dv : α) (xs : List α) : Sto → Sto → Prop where
  | head {s : Sto} : Pull v n e sz enc dv xs (.row v n e sz enc dv xs :: s) s
  | tail {x : Res} {s s' : Sto} : Pull v n e sz enc dv xs s s' → Pull v n e sz enc dv xs (x :: s) (x :: s')
inductive DstOf {α : Type} (sto : Sto) : AV → Value → Bool → TypeId → Nat → (α → Nat → DV) → α → List α → Sto → Prop where
  | own {v : Value} {n : Bool} {e : TypeId} {sz : Nat} {enc : α → Nat → DV} {dv : α} {xs : List α} {rest : Sto} : Pull v n e sz enc dv xs sto rest → DstOf sto (.o v) v n e sz enc dv xs rest
  | nil {e : TypeId} {sz : Nat} {enc : α → Nat → DV} {dv : α} : DstOf sto (.v (.slice none 0 0)) (.slice none 0 0) true e sz enc dv [] sto
inductive SrcOf (sto : Sto) : {α : Type} → AV → TK → Bool → Nat → (α → Nat → DV) → α → List α → Prop where
  | row {α : Type} {v : Value} {n : Bool} {e e' : TypeId} {sz : Nat} {enc : α → Nat → DV} {dv : α} {ys : List α} : RRow v n e sz enc dv ys sto → SrcOf sto (.o v) (.slice e') n sz enc dv ys
  | sub {α : Type} {v : Value} {n : Bool} {e e' : TypeId} {sz lo hi : Nat} {enc : α → Nat → DV} {dv : α} {ys : List α} : RRow v n e sz enc dv ys sto → SrcOf sto (.s v sz lo hi) (.slice e') n sz enc dv ((ys.take hi).drop lo)
  | dataB {n : Bool} {e' : TypeId} {ys : List UInt8} : SrcOf sto (.d n 1 encB 0 ys) (.slice e') true 1 encB 0 ys
  | dataI {k : IntKind} {n : Bool} {e' : TypeId} {ys : List Int} : SrcOf sto (.d n 1 (encI k) 0 ys) (.slice e') true 1 (encI k) 0 ys
  | data {α : Type} {n : Bool} {e' : TypeId} {sz : Nat} {enc : α → Nat → DV} {dv : α} {ys : List α} : SrcOf sto (.d n sz enc dv ys) (.slice e') n sz enc dv ys
  | nil {α : Type} {e' : TypeId} {sz : Nat} {enc : α → Nat → DV} {dv : α} : SrcOf sto (.v (.slice none 0 0)) (.slice e') true sz enc dv []
  | str {s : ByteArray} : SrcOf sto (.v (.string s)) .str true 1 encB 0 s.data.toList

theorem Pull.mem {α : Type} {v : Value} {n : Bool} {e : TypeId} {sz : Nat} {enc : α → Nat → DV} {dv : α} {xs : List α} {s s' : Sto} (h : Pull v n e sz enc dv xs s s') :
    Res.row v n e sz enc dv xs ∈ s ∧ (∀ r ∈ s', r ∈ s) ∧ (blocksOf s).Perm (v.ownBlock.toList ++ blocksOf s') := by
  induction h with
  | head => exact ⟨by simp, fun r hr => by simp [hr], List.Perm.refl _⟩
  | tail _ ih =>
    rename_i x s s' _
    obtain ⟨h1, h2, h3⟩ := ih
    refine ⟨by simp [h1], fun r hr => by rcases List.mem_cons.1 hr with rfl | hr; simp; simp [h2 r hr], ?_⟩
    show (x.blocks ++ blocksOf s).Perm (v.ownBlock.toList ++ (x.blocks ++ blocksOf s'))
    refine ((List.Perm.append_left x.blocks h3).trans ?_)
    rw [← List.append_assoc, ← List.append_assoc]
    exact List.Perm.append_right _ List.perm_append_comm

theorem DstOf.sound {α : Type} {v : Value} {n : Bool} {e : TypeId} {sz : Nat} {enc : α → Nat → DV} {dv : α} {xs : List α} {s s' : Sto} {z : AV} (h : DstOf s z v n e sz enc dv xs s') :
    (∀ cx w u, AAt cx w z u → u = v) ∧ (∀ cx w, (∀ r ∈ s, RAt cx w r) → RAt cx w (.row v n e sz enc dv xs)) ∧ (∀ r ∈ s', r ∈ s) ∧ (blocksOf s).Perm (v.ownBlock.toList ++ blocksOf s') := by
  cases h with
  | own h =>
    obtain ⟨h1, h2, h3⟩ := h.mem
    exact ⟨fun cx w u hu => by simp only [AAt] at hu; exact hu.1, fun cx w hr => hr _ h1, h2, h3⟩
  | nil =>
    refine ⟨fun cx w u hu => by simpa [AAt] using hu, fun cx w _ => ⟨[], .inl ⟨rfl, rfl⟩, by simp, fun A n c h => by simp at h; simp [← h.2.1], fun i j hi => by simp at hi⟩, fun r hr => hr, by simp [Value.ownBlock]⟩

/-- What is appended: cells. -/
structure NewCells (P : Program) (cx : Cx) (w : World) (tx : TypeId) {α : Type} (u : Value) (n : Bool) (sz : Nat) (enc : α → Nat → DV) (dv : α) (ys : List α) (news : List Value) : Prop where
  src : Src P sz tx u ys.length news w
  cells : ∀ i j, i < ys.length → j < sz → ∃ y, news[i * sz + j]? = some y ∧ DAt (cx.ok n) w (enc (ys.getD i dv) j) y

theorem add_add (a : Addr) (lo sz i j : Nat) : (a.add (lo * sz)).add (i * sz + j) = a.add ((lo + i) * sz + j) := by
  have e : (lo + i) * sz + j = lo * sz + (i * sz + j) := by rw [Nat.add_mul, Nat.add_assoc]
  rw [e]
  unfold Addr.add
  split
  · rename_i h0
    rw [h0]
    simp
  · rename_i h0
    split
    · rename_i h1
      rw [h1]
      simp only [Nat.zero_add, if_neg h0]
    · rw [if_neg (by omega)]
      simp [Nat.add_assoc]

theorem NewCells.ofCells {P : Program} {cx : Cx} {w : World} {tx e' : TypeId} {α : Type} {u : Value} {n : Bool} {sz : Nat} {enc : α → Nat → DV} {dv : α} {ys : List α} (hk : P.underlying tx = some (.slice e'))
    (h : (ys = [] ∧ ∃ A c, u = .slice A 0 c) ∨ ∃ a c, u = .slice (some a) ys.length c ∧ ∀ i j, i < ys.length → j < sz → ∃ y, w.cell? (a.add (i * sz + j)) = some y ∧ DAt (cx.ok n) w (enc (ys.getD i dv) j) y) : ∃ news, NewCells P cx w tx u n sz enc dv ys news := by
  rcases h with ⟨rfl, A, c, rfl⟩ | ⟨a, c, rfl, hY⟩
  · refine ⟨[], ⟨?_, fun i j hi => by simp at hi⟩⟩
    cases A with
    | none => exact Src.ofNil w hk c
    | some a => exact Src.ofSlice w hk a 0 c [] (by simp) (fun j u h => by simp at h) (fun u h => by cases h)
  · have hch : ∃ Y : Nat → Value, ∀ k, k < ys.length * sz → w.cell? (a.add k) = some (Y k) ∧ DAt (cx.ok n) w (enc (ys.getD (k / sz) dv) (k % sz)) (Y k) := by
      have hk' : ∀ k, k < ys.length * sz → ∃ y, w.cell? (a.add k) = some y ∧ DAt (cx.ok n) w (enc (ys.getD (k / sz) dv) (k % sz)) y := by
        intro k hk
        have hsz : 0 < sz := by
          rcases Nat.eq_zero_or_pos sz with h | h
          · subst h; simp at hk
          · exact h
        obtain ⟨y, h1, h2⟩ := hY (k / sz) (k % sz) (Nat.div_lt_of_lt_mul (by rw [Nat.mul_comm]; exact hk)) (Nat.mod_lt _ hsz)
        exact ⟨y, by rw [← h1]; congr 2; rw [Nat.mul_comm]; exact (Nat.div_add_mod k sz).symm, h2⟩
      exact ⟨fun k => if h : k < ys.length * sz then (hk' k h).choose else undef, fun k hk => by simp only [hk, dif_pos]; exact (hk' k hk).choose_spec⟩
    obtain ⟨Y, hYY⟩ := hch
    refine ⟨(List.range (ys.length * sz)).map Y, ⟨Src.ofSlice w hk a ys.length c _ (by simp) (fun j u hu => ?_) (fun u hu => ?_), fun i j hi hj => ?_⟩⟩
    · rw [List.getElem?_map] at hu
      rcases Nat.lt_or_ge j (ys.length * sz) with hj | hj
      · rw [List.getElem?_range hj] at hu
        simp only [Option.map_some, Option.some.injEq] at hu
        subst hu
        exact (hYY j hj).1
      · rw [List.getElem?_eq_none (by simpa using hj)] at hu
        simp at hu
    · obtain ⟨k, hk, rfl⟩ := List.mem_map.1 hu
      have := (hYY k (List.mem_range.1 hk)).2.inv_one
      cases hy : Y k <;> simp_all [oneV, Value.oneCell']
    · have hlt : i * sz + j < ys.length * sz := by
        have : (i + 1) * sz ≤ ys.length * sz := Nat.mul_le_mul_right _ hi
        rw [Nat.add_mul, Nat.one_mul] at this
        omega
      refine ⟨Y (i * sz + j), by rw [List.getElem?_map, List.getElem?_range hlt]; rfl, ?_⟩
      have h2 := (hYY _ hlt).2
      have e1 : (i * sz + j) / sz = i := by rw [Nat.mul_comm, Nat.mul_add_div (by omega), Nat.div_eq_of_lt hj]; rfl
      have e2 : (i * sz + j) % sz = j := by rw [Nat.mul_comm, Nat.mul_add_mod, Nat.mod_eq_of_lt hj]
      rw [e1, e2] at h2
      exact h2

theorem NewCells.ofData {P : Program} {cx : Cx} {w : World} {tx e' : TypeId} {α : Type} {u : Value} {n : Bool} {sz : Nat} {enc : α → Nat → DV} {dv : α} {ys : List α} (hk : P.underlying tx = some (.slice e')) {F : Nat → Prop}
    (h : DAt F w (.sl sz enc dv ys) u) (hF : ∀ i j y, i < ys.length → j < sz → DAt F w (enc (ys.getD i dv) j) y → DAt (cx.ok n) w (enc (ys.getD i dv) j) y) : ∃ news, NewCells P cx w tx u n sz enc dv ys news := by
  refine NewCells.ofCells hk ?_
  rcases h.inv_sl with h | ⟨a, c, h1, hf, hb, hc, hY⟩
  · exact .inl h
  · refine .inr ⟨a, c, h1, fun i j hi hj => ?_⟩
    obtain ⟨y, h2, h3⟩ := hY i j hi hj
    exact ⟨y, h2, hF i j y hi hj h3⟩

theorem NewCells.ofRow {P : Program} {cx : Cx} {w : World} {tx e' : TypeId} {α : Type} {v : Value} {n : Bool} {e : TypeId} {sz : Nat} {enc : α → Nat → DV} {dv : α} {ys : List α} (hk : P.underlying tx = some (.slice e'))
    (h : RAt cx w (.row v n e sz enc dv ys)) {A : Option Addr} {m c lo hi : Nat} (hv : v = .slice A m c) (h1 : lo ≤ hi) (h2 : hi ≤ m) (h3 : m ≤ c) :
    ∃ news, NewCells P cx w tx (.slice (if c = lo then A else A.map (·.add (lo * sz))) (hi - lo) (c - lo)) n sz enc dv ((ys.take hi).drop lo) news := by
  have hm : m = ys.length := by obtain ⟨_, _, _, h5, _⟩ := h; exact h5 _ _ _ hv
  refine NewCells.ofCells hk ?_
  have hlen : ((ys.take hi).drop lo).length = hi - lo := by simp; omega
  by_cases he : hi - lo = 0
  · exact .inl ⟨List.eq_nil_of_length_eq_zero (by omega), _, _, by rw [he]⟩
  · have hA : ∃ a, A = some a := by
      have h' := h
      obtain ⟨vals, h5, _⟩ := h'
      rcases h5 with ⟨h6, _⟩ | ⟨g, o, n', cap, cur, h6, _⟩
      · rw [h6] at hv; simp at hv; omega
      · rw [h6] at hv; simp at hv; exact ⟨_, hv.1.symm⟩
    obtain ⟨a, rfl⟩ := hA
    refine .inr ⟨a.add (lo * sz), c - lo, by rw [hlen, if_neg (by omega)]; rfl, fun i j hi' hj => ?_⟩
    obtain ⟨y, h5, h6⟩ := row_cell h hv (i := lo + i) (j := j) (by omega) hj
    refine ⟨y, by rw [add_add]; exact h5, ?_⟩
    have : ((ys.take hi).drop lo).getD i dv = ys.getD (lo + i) dv := by
      simp only [List.getD, List.getElem?_drop, List.getElem?_take]
      rw [if_pos (by omega)]
    rw [this]
    exact h6

theorem SrcOf.sound {P : Program} {cx : Cx} {w : World} {tx : TypeId} {α : Type} {z : AV} {u : Value} {k : TK} {d : TypeDesc} {n : Bool} {sz : Nat} {enc : α → Nat → DV} {dv : α} {ys : List α} {sto : Sto}
    (h : SrcOf sto z k n sz enc dv ys) (hd : P.underlying tx = some d) (hk : k.fits d) (hz : AAt cx w z u) (hr : ∀ r ∈ sto, RAt cx w r) : ∃ news, NewCells P cx w tx u n sz enc dv ys news := by
  cases h with
  | row h =>
    simp only [AAt] at hz
    obtain ⟨rfl, _⟩ := hz
    cases d <;> simp only [TK.fits] at hk
    subst_vars
    have hR := hr _ h.mem
    obtain ⟨vals, h5, h6, h7, h8⟩ := hR
    refine NewCells.ofCells hd ?_
    rcases h5 with ⟨rfl, rfl⟩ | ⟨g, o, n', cap, cur, rfl, _⟩
    · have hx := h7 _ _ _ rfl
      exact .inl ⟨List.eq_nil_of_length_eq_zero hx.symm, _, _, rfl⟩
    · have hx := h7 _ _ _ rfl
      subst hx
      exact .inr ⟨_, _, rfl, fun i j hi hj => row_cell (hr _ h.mem) rfl hi hj⟩
  | sub h =>
    simp only [AAt] at hz
    obtain ⟨A, m, c, rfl, h1, h2, h3, rfl⟩ := hz
    cases d <;> simp only [TK.fits] at hk
    exact NewCells.ofRow hd (hr _ h.mem) rfl h1 h2 h3
  | dataB =>
    simp only [AAt] at hz
    cases d <;> simp only [TK.fits] at hk
    refine NewCells.ofData hd hz (fun i j y hi hj hd' => ?_)
    have := hd'.inv_v
    have h1 := hd'.inv_one
    subst this
    exact .v _ h1
  | dataI =>
    simp only [AAt] at hz
    cases d <;> simp only [TK.fits] at hk
    refine NewCells.ofData hd hz (fun i j y hi hj hd' => ?_)
    have := hd'.inv_v
    have h1 := hd'.inv_one
    subst this
    exact .v _ h1
  | data =>
    simp only [AAt] at hz
    cases d <;> simp only [TK.fits] at hk
    exact NewCells.ofData hd hz (fun i j y hi hj hd' => hd')
  | nil =>
    simp only [AAt] at hz
    subst hz
    cases d <;> simp only [TK.fits] at hk
    exact ⟨[], ⟨Src.ofNil w hd 0, fun i j hi => by simp at hi⟩⟩
  | str =>
    simp only [AAt] at hz
    subst hz
    cases d <;> simp only [TK.fits] at hk
    rename_i s
    have hsz : s.data.toList.length = s.size := rfl
    refine ⟨byteCells s, ⟨by rw [hsz]; exact Src.ofString w hd s, fun i j hi hj => ?_⟩⟩
    have hj0 : j = 0 := by omega
    subst hj0
    refine ⟨.int .u8 ((s.data.toList.getD i 0).toNat : Int), ?_, .v _ rfl⟩
    unfold byteCells
    rw [show s.data.toList.getD i 0 = s.data.toList[i] from by rw [List.getD, List.getElem?_eq_getElem hi]; rfl]
    rw [Nat.mul_one, Nat.add_zero, List.getElem?_map, List.getElem?_eq_getElem hi]
    rfl

/-- Memory in which a row has grown. -/
theorem Abs.append {P : Program} {T : Tab} (hT : TabOk P T) {C : Ctx} {env : Env} {sto rest : Sto} {a : Act} {w : World} (hA : Abs C env sto a w) {t tx ty e : TypeId} {yt yx ye : Ty} {zx zy : AV} {ux uy : Value} {α : Type} {v : Value} {n n' : Bool} {sz : Nat}
    {enc : α → Nat → DV} {dv : α} {xs ys : List α} (hx : AAt (C.cx sto) w zx ux) (hy : AAt (C.cx sto) w zy uy) (ht : tget t T = some yt) (hte : yt.k = .slice e) (htx : tget tx T = some yx) (he : tget e T = some ye)
    (hd : DstOf sto zx v n e sz enc dv xs rest) (hs : SrcOf sto zy yx.k n' sz enc dv ys) (hsz : ye.size = sz) (hb1 : 1 ≤ ye.bytes) (hb : (xs.length + ys.length) * ye.bytes ≤ 140737488355328) :
    ∃ v' w', (Builtin.append_ #[t, tx] ty #[ux, uy]).run P w = .ok v' w' ∧ Abs C env (.row v' (n && n') e sz enc dv (xs ++ ys) :: rest) a w' ∧ ∃ A m c, v' = .slice A m c := by
  obtain ⟨h1, h2, h3, h4⟩ := hd.sound
  have hux := h1 _ _ _ hx
  subst hux
  obtain ⟨d, i, hi1, hi2, hi3, hi4, hi5, hi6, hi7, _⟩ := hT _ _ he
  obtain ⟨dt, it, ht1, _, ht3, _⟩ := hT _ _ ht
  obtain ⟨dx, ix, hx1, _, hx3, _⟩ := hT _ _ htx
  have ht1' : P.underlying t = some (.slice e) := by
    rw [hte] at ht3
    cases dt <;> simp only [TK.fits] at ht3
    subst ht3
    exact ht1
  cases hz : i.zero with
  | none => simp [hz] at hi6
  | some zv =>
    have hzs : zv.cells.size = i.size := by
      simp only [hz, Option.map_some, Option.some.injEq] at hi6
      rw [← Array.length_toList, hi6, hi7, hi4]
    subst hsz
    obtain ⟨news, hN⟩ := hs.sound (P := P) (tx := tx) hx1 hx3 hy hA.res
    obtain ⟨vals, k1, k2, k3, k4⟩ := h2 _ _ hA.res
    rw [← hi4] at k1 k2
    have hone : ∀ u ∈ vals, oneV u = true := by
      intro u hu
      obtain ⟨k, hk, rfl⟩ := List.mem_iff_getElem.1 hu
      have hpos : 0 < ye.size := by
        rcases Nat.eq_zero_or_pos ye.size with h | h
        · rw [hi4, h] at k2; simp at k2; subst k2; simp at hk
        · exact h
      rw [k2, hi4] at hk
      obtain ⟨y, hy1, hy2⟩ := k4 (k / ye.size) (k % ye.size) (Nat.div_lt_of_lt_mul (by rw [Nat.mul_comm]; exact hk)) (Nat.mod_lt _ hpos)
      have e : k / ye.size * ye.size + k % ye.size = k := by rw [Nat.mul_comm]; exact Nat.div_add_mod k _
      rw [e, List.getElem?_eq_getElem (by rw [k2, hi4]; exact hk)] at hy1
      simp only [Option.some.injEq] at hy1
      rw [hy1]
      exact hy2.inv_one
    have hN1 := hN.src
    rw [← hi4] at hN1
    have h63 : xs.length + ys.length ≤ maxLen := by
      have := Nat.le_mul_of_pos_right (xs.length + ys.length) hb1
      simp only [maxLen]
      omega
    obtain ⟨v', w', r1, r2, r3, r4, r5⟩ := RowAt.append (ty := ty) ht1' hi2 hz hzs k1 (fun A m c h => k3 A m c h) k2 hone hN1 (by rw [hi5]; exact hb) h63
    rw [hi4] at r2 k1 k2
    have hnl : news.length = ys.length * ye.size := hN.src.newsLen
    have hown : ∀ b ∈ ux.ownBlock.toList, b ∈ blocksOf sto := fun b hb => h4.mem_iff.2 (List.mem_append_left _ hb)
    have hrest : ∀ b ∈ blocksOf rest, b ∈ blocksOf sto := fun b hb => h4.mem_iff.2 (List.mem_append_right _ hb)
    have hnd := h4.nodup_iff.1 hA.nodup
    obtain ⟨n1, n2, n3⟩ := List.nodup_append.1 hnd
    have hv' : ∃ A m c, v' = .slice A m c := by
      rcases r2 with ⟨h, _⟩ | ⟨_, _, _, _, _, h, _⟩ <;> exact ⟨_, _, _, h⟩
    have hsrc : ∀ b ∈ v'.ownBlock.toList, b ∈ ux.ownBlock.toList ∨ w.heap.size = b := by
      intro b hb
      rcases r5 with h | ⟨A, c, c', h5, h6⟩ | ⟨k, c, h5⟩
      · exact .inl (h ▸ hb)
      · left
        subst h5 h6
        cases A <;> simpa [Value.ownBlock] using hb
      · right
        subst h5
        simp [Value.ownBlock] at hb
        exact hb.symm
    have hF : ∀ m b, b < w.heap.size → (C.cx sto).ok m b → (C.cx (.row v' (n && n') e ye.size enc dv (xs ++ ys) :: rest)).ok m b ∧ w'.heap[b]? = w.heap[b]? := by
      intro m b hlt hok
      refine ⟨⟨fun hm => hok.1 ?_, hok.2⟩, r4.block b hlt (fun h => hok.1 (hown b h))⟩
      rcases List.mem_append.1 (show b ∈ v'.ownBlock.toList ++ blocksOf rest from hm) with h | h
      · rcases hsrc b h with h' | h'
        · exact hown b h'
        · omega
      · exact hrest b h
    refine ⟨v', w', r1, ?_, hv'⟩
    refine hA.step ⟨r4.os, r4.tape, r4.output, r4.size, fun k hk hm => r4.block k hk (fun h => hm (hown k h))⟩ ?_ ?_ ?_ ?_
    · show (v'.ownBlock.toList ++ blocksOf rest).Nodup
      refine List.nodup_append.2 ⟨by cases v'.ownBlock <;> simp, n2, fun x hx y hy e => ?_⟩
      rcases hsrc x hx with h' | h'
      · exact n3 x h' y hy e
      · have := hA.lt y (hrest y hy)
        omega
    · intro b hm
      rcases List.mem_append.1 (show b ∈ v'.ownBlock.toList ++ blocksOf rest from hm) with h | h
      · rcases hsrc b h with h' | h'
        · exact .inl (hown b h')
        · exact .inr (by omega)
      · exact .inl (hrest b h)
    · intro r hr
      rcases List.mem_cons.1 hr with rfl | hr
      · refine ⟨vals ++ news, r2, by rw [List.length_append, k2, hnl, List.length_append, Nat.add_mul], fun A m c h => by rw [List.length_append]; exact r3 A m c h, fun p j hp hj => ?_⟩
        rcases Nat.lt_or_ge p xs.length with hlt | hge
        · obtain ⟨y, hy1, hy2⟩ := k4 p j hlt hj
          have hl : p * ye.size + j < vals.length := (List.getElem?_eq_some_iff.1 hy1).1
          refine ⟨y, by rw [List.getElem?_append_left hl]; exact hy1, ?_⟩
          rw [show (xs ++ ys).getD p dv = xs.getD p dv by simp [List.getD, List.getElem?_append_left hlt]]
          exact hy2.mono (fun b hb hok => ⟨⟨(hF n b hb hok).1.1, (hF n b hb hok).1.2.1, fun h => (hF n b hb hok).1.2.2 (by simp only [Bool.and_eq_true] at h; exact h.1)⟩, (hF n b hb hok).2⟩) r4.size
        · have hp' : p - xs.length < ys.length := by rw [List.length_append] at hp; omega
          obtain ⟨y, hy1, hy2⟩ := hN.cells (p - xs.length) j hp' hj
          have e1 : p * ye.size + j = vals.length + ((p - xs.length) * ye.size + j) := by
            rw [k2, Nat.sub_mul]
            have : xs.length * ye.size ≤ p * ye.size := Nat.mul_le_mul_right _ hge
            omega
          refine ⟨y, by rw [e1, List.getElem?_append_right (by omega), Nat.add_sub_cancel_left]; exact hy1, ?_⟩
          rw [show (xs ++ ys).getD p dv = ys.getD (p - xs.length) dv by simp [List.getD, List.getElem?_append_right hge]]
          exact hy2.mono (fun b hb hok => ⟨⟨(hF n' b hb hok).1.1, (hF n' b hb hok).1.2.1, fun h => (hF n' b hb hok).1.2.2 (by simp only [Bool.and_eq_true] at h; exact h.2)⟩, (hF n' b hb hok).2⟩) r4.size
      · refine RAt.mono hF r4.size (fun b hb => r4.block b ((hA.res r (h3 r hr)).lt b hb) (fun hm => ?_)) (hA.res r (h3 r hr))
        exact n3 b hm b (List.mem_flatMap.2 ⟨r, hr, hb⟩) rfl
    · intro b hlt hm
      rcases List.mem_append.1 (show b ∈ v'.ownBlock.toList ++ blocksOf rest from hm) with h | h
      · rcases hsrc b h with h' | h'
        · exact hown b h'
        · omega
      · exact hrest b h

end Go.Sx
