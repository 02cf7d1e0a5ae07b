/- Slices that are made; slices that lose their first elements. -/
import Derived.Test.YtnaickojmfefeaaSxRange
import Derived.Laws.MakeOwn
set_option linter.unusedSectionVars false
set_option linter.all false
namespace Go.Sx
/-- What stands for a type's zero, by the type. -/
inductive MakeT : Ty → {α : Type} → (α → Nat → DV) → α → Prop where
  | int {k : IntKind} {m b : Nat} {z : List Value} : MakeT ⟨.int k, m, b, z⟩ (encI k) 0
  | bool {m b : Nat} {z : List Value} : MakeT ⟨.bool, m, b, z⟩ encBo false
  | str {m b : Nat} {z : List Value} : MakeT ⟨.str, m, b, z⟩ encS .empty
theorem ZeroL.at {f : Nat → DV} {vs : List Value} (h : ZeroL f 0 vs) (ho : vs.all oneV = true) {F : Nat → Prop} {w : World} {j : Nat} {v : Value} (hv : vs[j]? = some v) : DAt F w (f j) v := by
  have := h.get j v hv
  rw [Nat.zero_add] at this
  exact this.at (List.all_eq_true.1 ho v (List.mem_of_getElem? hv))
section
variable {P : Program} {T : Tab} (hT : TabOk P T) {N : Fm} {Q : Env → Sto → Prop}
include hT
theorem RunSem.makeS {α : Type} {enc : α → Nat → DV} {dv : α} {all : Array Oper} {rest : List Oper} {d : Tmp} {t e m b : Nat} {z : List Value} {ye : Ty} {x y : Operand} {n : Int} {ty : TypeId} {pos : String} {af : Array Edge} {k : List It} {env : Env} {sto : Sto}
    (hd : Nat.blt d N.n = true) (hx : Get env [] x (iv n)) (hy : Get env [] y (iv n)) (ht : tget t T = some ⟨.slice e, m, b, z⟩) (he : tget e T = some ye) (hm : MakeT ye enc dv) (hz : ZeroL (enc dv) 0 ye.zero) (hzo : ye.zero.all oneV = true) (hs : Side [] (0 ≤ n ∧ (ye.bytes : Int) * n ≤ 281474976710656 ∧ n ≤ 281474976710656))
    (hk : ∀ v, Run P T N Q (.ops all rest :: k) ((d, [], .o v) :: env) (.row v true e ye.size enc dv (List.replicate n.toNat dv) :: sto)) :
    RunSem P N Q (.ops all ({ dst := some d, op := .makeSlice t x y, type := ty, pos, after := af, guard := none } :: rest) :: k) env sto := by
  intro C a w hN hA
  have hex : a.eval x = .int .i64 n := hx.v hA (q := []) trivial
  have hey : a.eval y = .int .i64 n := hy.v hA (q := []) trivial
  obtain ⟨h0, h1, h2⟩ := hs trivial
  obtain ⟨de, ie, hi1, hi2, hi3, hi4, hi5, hi6, hi7, _⟩ := hT _ _ he
  obtain ⟨dt, it, ht1, _, ht3, _⟩ := hT _ _ ht
  have ht1' : P.underlying t = some (.slice e) := by
    cases dt <;> simp only [TK.fits] at ht3
    subst ht3
    exact ht1
  cases hzv : ie.zero with
  | none => simp [hzv] at hi6
  | some zv =>
    simp only [hzv, Option.map_some, Option.some.injEq] at hi6
    have hzsz : zv.cells.size = ye.size := by rw [← Array.length_toList, hi6, hi7]
    have hr := run_make (P := P) w t e ie zv ht1' hi2 hzv .i64 .i64 n n h0 (Int.le_refl _) (by rw [hi5]; exact h1) (by omega)
    rw [hi4] at hr
    have hA' := hA.newRow (n := true) (e := e) (sz := ye.size) (len := n.toNat) (cap := n.toNat) (enc := enc) (dv := dv) (xs := List.replicate n.toNat dv) (cells := madeCells zv.cells (n.toNat * ye.size)) (by simp) (Nat.le_refl _) (by simp only [maxLen]; omega) (by rw [size_madeCells]; exact Nat.le_refl _) (fun i j hi hj => by
      simp only [List.length_replicate] at hi
      have hlt : i * ye.size + j < n.toNat * ye.size := by
        have : (i + 1) * ye.size ≤ n.toNat * ye.size := Nat.mul_le_mul_right _ hi
        rw [Nat.add_mul, Nat.one_mul] at this
        omega
      have hmod : (i * ye.size + j) % zv.cells.size = j := by rw [hzsz, Nat.add_comm, Nat.add_mul_mod_self_right, Nat.mod_eq_of_lt hj]
      have hj' : j < zv.cells.size := by omega
      refine ⟨zv.cells[j]'hj', ?_, ?_⟩
      · simp only [madeCells, Array.getElem?_map, Array.getElem?_range, hlt, if_true, Option.map_some]
        rw [hmod, getElem!_pos zv.cells j hj']
      · have : (List.replicate n.toNat dv).getD i dv = dv := by simp [List.getD, hi]
        rw [this]
        refine hz.at hzo ?_
        rw [← hi6]
        simp [hj'])
    refine wpList_quiet hT rfl rfl (v := .slice (some ⟨w.heap.size, 0, none⟩) n.toNat n.toNat) (w' := w.alloc (.cells (madeCells zv.cells (n.toNat * ye.size)) e)) ?_ ((hk _).sound hT C _ _ hN (hA'.put0 (by rw [hN.1]; exact Nat.le_of_ble_eq_true hd) ⟨rfl, _, _, _, rfl⟩))
    simp only [execOp, hex, hey, Sem.run_bind]
    rw [hr]
    rfl

theorem Out1.mem {s s' : Sto} {r : Res} (h : Out1 s r s') : r ∈ s := by
  induction h with
  | head => simp
  | tail _ ih => simp [ih]
/-- A row loses its first elements: it is another slice then. -/
theorem RunSem.dropO {α : Type} {enc : α → Nat → DV} {dv : α} {xs : List α} {new : Bool} {sz : Nat} {all : Array Oper} {rest : List Oper} {d : Tmp} {t e e' m b b' : Nat} {z z' : List Value} {ke : TK} {x : Operand} {lo : Option Operand} {vl : Option Value} {l : Int} {ty : TypeId} {pos : String} {af : Array Edge} {k : List It} {env : Env} {sto sto' : Sto} {v : Value}
    (hd : Nat.blt d N.n = true) (hx : Get env [] x (.o v)) (hlo : GetO env [] lo vl) (ho : Out1 sto (.row v new e' sz enc dv xs) sto') (ht : tget t T = some ⟨.slice e, m, b, z⟩) (he : tget e T = some ⟨ke, sz, b', z'⟩) (hl : boundI vl 0 = some l) (hs : Side [] (0 ≤ l ∧ l ≤ xs.length))
    (hk : ∀ v', Run P T N Q (.ops all rest :: k) ((d, [], .o v') :: env) (.row v' new e' sz enc dv (xs.drop l.toNat) :: sto')) :
    RunSem P N Q (.ops all ({ dst := some d, op := .slice t x lo none none, type := ty, pos, after := af, guard := none } :: rest) :: k) env sto := by
  intro C a w hN hA
  have hu := hx.sound hA (q := []) trivial
  obtain ⟨h0, h1⟩ := hs trivial
  simp only [AAt] at hu
  obtain ⟨hev, _⟩ := hu
  have hA1 := hA.perm ho.perm
  obtain ⟨vals, hr1, hr2, hr3, hr4⟩ := hA1.res _ (List.mem_cons_self ..)
  have hlo' := hlo.sound hA (q := []) trivial
  have hex : ∃ A n c, v = .slice A n c ∧ n ≤ c := by
    rcases hr1 with ⟨rfl, rfl⟩ | ⟨g, o, n', cap, cur, rfl, hg, hn, _⟩
    · exact ⟨_, _, _, rfl, Nat.le_refl _⟩
    · exact ⟨_, _, _, rfl, hn⟩
  obtain ⟨A, n, c, rfl, hnc⟩ := hex
  have hn := hr3 _ _ _ rfl
  subst hn
  have hrun := run_sliceAt_slice (w := w) (lo := vl) (hi := none) (mx := none) (hT _ _ ht) (hT _ _ he) (A := A) (len := xs.length) (cap := c) hl rfl rfl (by simp) h0 h1 (by omega) (Int.le_refl _)
  simp only [Int.toNat_natCast] at hrun
  generalize hv' : Value.slice (if c = l.toNat then A else A.map (·.add (l.toNat * sz))) (xs.length - l.toNat) (c - l.toNat) = v' at hrun
  have hkey : v'.ownBlock = (Value.slice A xs.length c).ownBlock ∧ RowAt w e' sz v' (vals.drop (l.toNat * sz)) := by
    subst hv'
    rcases hr1 with ⟨h, hv⟩ | ⟨g, o, n', cap, cur, h, hg, hn', hcap, hsz, hlen, hvals⟩
    · simp only [Value.slice.injEq] at h
      obtain ⟨rfl, h2, rfl⟩ := h
      refine ⟨by simp [Value.ownBlock], .inl ⟨by simp [h2], by rw [hv]; simp⟩⟩
    · simp only [Value.slice.injEq] at h
      obtain ⟨rfl, rfl, rfl⟩ := h
      have hadd : (if c = l.toNat then some (⟨g, o, none⟩ : Addr) else (some (⟨g, o, none⟩ : Addr)).map (·.add (l.toNat * sz))) = some ⟨g, if c = l.toNat then o else o + l.toNat * sz, none⟩ := by
        split
        · rfl
        · simp [Addr.add]
      rw [hadd]
      refine ⟨by simp [Value.ownBlock], .inr ⟨g, _, _, _, cur, rfl, hg, by omega, by omega, ?_, ?_, ?_⟩⟩
      · split
        · rename_i hc
          have : (c - l.toNat) * sz = 0 := by rw [hc]; simp
          omega
        · have : l.toNat * sz + (c - l.toNat) * sz = c * sz := by rw [← Nat.add_mul]; congr 1; omega
          omega
      · rw [List.length_drop, hlen, Nat.sub_mul]
      · rw [hvals]
        split
        · rename_i hc
          have h0 : xs.length - l.toNat = 0 := by omega
          have hx : xs.length = l.toNat := by omega
          rw [h0, hx]
          simp
        · rw [List.drop_take, List.drop_drop, Nat.sub_mul]
  have hA2 : Abs C env (.row v' new e' sz enc dv (xs.drop l.toNat) :: sto') a w := by
    have hb : blocksOf (.row v' new e' sz enc dv (xs.drop l.toNat) :: sto') = blocksOf (.row (.slice A xs.length c) new e' sz enc dv xs :: sto') := by
      simp [blocksOf, Res.blocks, hkey.1]
    have hF : ∀ n b, b < w.heap.size → (C.cx (.row (.slice A xs.length c) new e' sz enc dv xs :: sto')).ok n b → (C.cx (.row v' new e' sz enc dv (xs.drop l.toNat) :: sto')).ok n b ∧ w.heap[b]? = w.heap[b]? := fun n b _ hok => ⟨⟨fun h => hok.1 (show b ∈ blocksOf _ from hb ▸ (show b ∈ blocksOf _ from h)), hok.2⟩, rfl⟩
    refine hA1.step (Kept.refl _ _) (by rw [hb]; exact hA1.nodup) (fun b hm => .inl (by rw [← hb]; exact hm)) (fun r hr => ?_) (fun b _ hm => by rw [← hb]; exact hm)
    rcases List.mem_cons.1 hr with rfl | hr
    · refine ⟨vals.drop (l.toNat * sz), hkey.2, by rw [List.length_drop, hr2, List.length_drop, Nat.sub_mul], ?_, fun i j hi hj => ?_⟩
      · intro A' n' c' h
        rw [← hv'] at h
        simp only [Value.slice.injEq] at h
        rw [← h.2.1, List.length_drop]
      · rw [List.length_drop] at hi
        obtain ⟨y, h1, h2⟩ := hr4 (l.toNat + i) j (by omega) hj
        refine ⟨y, ?_, ?_⟩
        · rw [List.getElem?_drop, ← h1]
          congr 1
          rw [Nat.add_mul, Nat.add_assoc]
        · have : (xs.drop l.toNat).getD i dv = xs.getD (l.toNat + i) dv := by simp [List.getD, List.getElem?_drop]
          rw [this]
          exact h2.mono (fun b hlt hok => hF _ b hlt hok) (Nat.le_refl _)
    · exact RAt.mono hF (Nat.le_refl _) (fun _ _ => rfl) (hA1.res r (by simp [hr]))
  refine wpList_quiet hT rfl rfl (v := v') (w' := w) ?_ ((hk _).sound hT C _ _ hN (hA2.put0 (by rw [hN.1]; exact Nat.le_of_ble_eq_true hd) ?_))
  · simp only [execOp, hev, Option.map_none]
    rw [hlo']
    simp only [Sem.run_bind, hrun]
    rfl
  · rw [← hv']
    exact ⟨rfl, _, _, _, rfl⟩
/-- A guarded call of a value that says true. -/
theorem RunSem.yieldG {J : Sto → Prop} {all : Array Oper} {rest : List Oper} {d gs : Tmp} {g : Nat} {b c : Bool} {q : Path} {fo : Operand} {as : Array Operand} {ts : Array TypeId} {ty : TypeId} {pos : String} {af : Array Edge} {k : List It} {env : Env} {sto stoF sto1 : Sto}
    {fv : Value} {zs args : List AV} (hs : PathHolds ((c, b) :: q) → SatV P fv args stoF (fun z s => z = .v (.bool true) ∧ J s)) (hgs : gslot all g = some gs) (hl : lookup gs env = some (q, .v (.bool c))) (hd : Nat.blt d N.n = true) (hf : Get env ((c, b) :: q) fo (.v fv)) (ha : GetL env ((c, b) :: q) as.toList zs)
    (ht : TakeP sto stoF sto1) (hp : PassL false sto1 zs args)
    (hk : ∀ s, PathHolds ((c, b) :: q) → J s → Run P T N Q (.ops all rest :: k) ((d, (c, b) :: q, .v (.bool true)) :: env) (sto1 ++ s))
    (hn : ¬ PathHolds ((c, b) :: q) → Run P T N Q (.ops all rest :: k) ((d, (c, b) :: q, .v (.bool true)) :: env) sto) :
    RunSem P N Q (.ops all ({ dst := some d, op := .call { callee := .value fo, args := as, argTypes := ts }, type := ty, pos, after := af, guard := some (g, b) } :: rest) :: k) env sto :=
  RunSem.callVG hT hgs hl hs hd hf ha ht hp (by rintro _ _ ⟨rfl, _⟩; rfl) (by rintro _ s h ⟨rfl, hJ⟩; exact hk s h hJ) hn
end
/-- A function's end, by what is asked of it. -/
theorem Ends.any {R : AV → Sto → Prop} {T : Tab} {rs : List ResultVar} {env : Env} {sto s : Sto} {zs zs' : List AV} (h0 : isPanE env = none) (h1 : ResL T env sto rs zs) (h3 : AgeL zs zs') (h4 : StoSub sto s) (h5 : R (wrapRes zs') s) : Ends T rs R env sto := by
  unfold Ends
  rw [h0]
  exact ⟨zs, zs', s, h1, h3, h5, h4⟩
def AgainR {α ι : Type} (Sb : ι → Sto) (p : List α → ι → Prop) (R : Res) (pre : List α) (s : Sto) : Prop := ∃ y', p pre y' ∧ StoSub s (R :: Sb y')
theorem AgainR.mk {α ι : Type} {Sb : ι → Sto} {p : List α → ι → Prop} {R : Res} {pre : List α} {s : Sto} (y : ι) (h1 : p pre y) (h2 : StoSub s (R :: Sb y)) : AgainR Sb p R pre s := ⟨y, h1, h2⟩
section
variable {P : Program} {T : Tab} (hT : TabOk P T) {N : Nat} {Q : Env → Sto → Prop}
include hT
theorem RunSem.rangeK {α ι : Type} {f : Operand} {ps : Array Tmp} {assign body : Code} {k : List It} {env kept : Env} {sto rest : Sto} {gf : FuncId} {lb : Array Value} {SI : Sto} {ea : α → List AV} {xs : List α}
    (hit : Iter P gf lb SI ea xs) (ks : List Nat) (Sb : ι → Sto) (p : List α → ι → Prop) (y0 : ι) (h0 : p [] y0) (hg : Get env [] f (.v (.func (.func gf) #[] lb))) (hkept : KeepE env ks kept) (hko : (kept.all fun e => oldA e.2.2) = true)
    (hs : TakeR sto (SI ++ Sb y0) rest) (hold : ∀ y, oldS (Sb y) = true) (holdI : oldS SI = true) (hps : ps.toList.Nodup) (hpl : ∀ t ∈ ps.toList, t < N) (hea : ∀ x, (ea x).length = ps.size) (hdis : ∀ t ∈ ps.toList, t ∉ ks)
    (hbody : ∀ pre x y l fn D, (∃ r, xs = pre ++ x :: r) → p pre y →
      Run P T ⟨N, false⟩ (fun _ _ => False) [.c assign, .beg l, .c body, .goal (fun _ s => AgainR Sb p (.rnd l N .busy fn ps assign body D kept) (pre ++ [x]) s)] (parEnv ps.toList (ea x) ++ kept) (.rnd l N .ready fn ps assign body D kept :: Sb y))
    (hk : ∀ y, p xs y → Run P T ⟨N, true⟩ Q k env (SI ++ Sb y ++ rest)) : RunSem P ⟨N, true⟩ Q (.c (.rangeFunc f ps assign body) :: k) env sto :=
  RunSem.range hT hit ks Sb p y0 h0 hg hkept hko hs hold holdI hps hpl hea hdis hbody hk
end
end Go.Sx
