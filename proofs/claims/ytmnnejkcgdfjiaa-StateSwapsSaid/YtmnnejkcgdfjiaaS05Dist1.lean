import Derived.Test.YtmnnejkcgdfjiaaS05Dist0
import Derived.Test.YtmnnejkcgdfjiaaSxUDist3
set_option linter.all false
set_option maxHeartbeats 4000000
set_option maxRecDepth 100000
set_option linter.all false
namespace Go.Proofs.Ytmnnejkcgdfjiaa
open Go.Sx
attribute [local irreducible] RunSem AListSem AgainK Again Side Sx.Ends IntKind.wrap SatV AgainR DSem MJ
attribute [local irreducible] floorB goesB rightG arrow isLetter fieldL fieldE FieldP
theorem Field_ok (g : Gr) (hg : GrOk g) (to : Int) (bl : List Int) (hbl : bl.length < 4611686018427387904) : Sat Try.prog 47 [gA g, iv to, DI bl] [] (Gives (ι := Value) (fun v => .t [.o v, iv (fieldE g to)]) (fun v => [.row v true 3 1 (encI .i64) 0 (fieldL g to bl)]) (fun _ => FieldP g to bl)) := by
  have hF := Floor_ok g to
  have hsz := hg.size
  cases hf : floorB g to with
  | false =>
    have hP : FieldP g to bl := .no hf
    rw [fieldL_no hf, show fieldE g to = 1 by unfold fieldE; rw [hf]; rfl]
    rw [hf] at hF
    refine Sat.of T_ok Try.func47 Try.call47 rfl rfl rfl ?_
    repeat' (first | assumption | exact fun h : ¬ True => absurd trivial h | exact fun h : False => h.elim | exact sd (by first | omega | (simp only []; omega) | (simp only [List.length_append, List.length_cons, List.length_nil, List.length_take, List.length_drop, List.length_map, List.length_range, List.length_set]; omega)) | exact sp (fun h => by simp [PathHolds] at h; omega) | exact sp (fun h => by simp [PathHolds, -List.getD_eq_getElem?_getD] at h; omega) | exact sd rfl | exact sd ⟨rfl, by decide⟩ | exact sd trivial | (show Nat.beq _ _ = true; rfl) | exact Bin.x rfl | (apply Run.nilStop rfl; apply RunSem.eqNil T_ok) | refine Run.storeStop rfl ?_ | (apply Run.mapStop; apply RunSem.mapSet T_ok) | (apply Run.newMapStop; apply RunSem.newMap T_ok) | (apply Run.sliceStop; apply RunSem.litI T_ok; rotate_left; rfl; rfl; rfl) | (apply AList.sliceStop; apply AListSem.litI T_ok; rotate_left; rfl; rfl; rfl) | (apply Run.semStop; apply RunSem.rangeStr T_ok) | (apply Run.semStop; apply RunSem.nextStr T_ok) | apply Run.condP | apply Sx.Ends.by () | (apply Run.drawStop; refine RunSem.drawBy (id := 19) T_ok mix 8 (by kernel_rfl) ?_) | constructor | intro _)
    apply RunSem.lend T_ok hF (fun _ => ⟨rfl, rfl⟩)
    all_goals repeat' (first | assumption | exact fun h : ¬ True => absurd trivial h | exact fun h : False => h.elim | exact sd (by first | omega | (simp only []; omega) | (simp only [List.length_append, List.length_cons, List.length_nil, List.length_take, List.length_drop, List.length_map, List.length_range, List.length_set]; omega)) | exact sp (fun h => by simp [PathHolds] at h; omega) | exact sp (fun h => by simp [PathHolds, -List.getD_eq_getElem?_getD] at h; omega) | exact sd rfl | exact sd ⟨rfl, by decide⟩ | exact sd trivial | (show Nat.beq _ _ = true; rfl) | exact Bin.x rfl | (apply Run.nilStop rfl; apply RunSem.eqNil T_ok) | refine Run.storeStop rfl ?_ | (apply Run.mapStop; apply RunSem.mapSet T_ok) | (apply Run.newMapStop; apply RunSem.newMap T_ok) | (apply Run.sliceStop; apply RunSem.litI T_ok; rotate_left; rfl; rfl; rfl) | (apply AList.sliceStop; apply AListSem.litI T_ok; rotate_left; rfl; rfl; rfl) | (apply Run.semStop; apply RunSem.rangeStr T_ok) | (apply Run.semStop; apply RunSem.nextStr T_ok) | apply Run.condP | apply Sx.Ends.by () | (apply Run.drawStop; refine RunSem.drawBy (id := 19) T_ok mix 8 (by kernel_rfl) ?_) | constructor | intro _)
    apply Sx.Ends.by ((.slice none 0 0))
    all_goals repeat' (first | assumption | exact fun h : ¬ True => absurd trivial h | exact fun h : False => h.elim | exact sd (by first | omega | (simp only []; omega) | (simp only [List.length_append, List.length_cons, List.length_nil, List.length_take, List.length_drop, List.length_map, List.length_range, List.length_set]; omega)) | exact sp (fun h => by simp [PathHolds] at h; omega) | exact sp (fun h => by simp [PathHolds, -List.getD_eq_getElem?_getD] at h; omega) | exact sd rfl | exact sd ⟨rfl, by decide⟩ | exact sd trivial | (show Nat.beq _ _ = true; rfl) | exact Bin.x rfl | (apply Run.nilStop rfl; apply RunSem.eqNil T_ok) | refine Run.storeStop rfl ?_ | (apply Run.mapStop; apply RunSem.mapSet T_ok) | (apply Run.newMapStop; apply RunSem.newMap T_ok) | (apply Run.sliceStop; apply RunSem.litI T_ok; rotate_left; rfl; rfl; rfl) | (apply AList.sliceStop; apply AListSem.litI T_ok; rotate_left; rfl; rfl; rfl) | (apply Run.semStop; apply RunSem.rangeStr T_ok) | (apply Run.semStop; apply RunSem.nextStr T_ok) | apply Run.condP | apply Sx.Ends.by () | (apply Run.drawStop; refine RunSem.drawBy (id := 19) T_ok mix 8 (by kernel_rfl) ?_) | constructor | intro _)
  | true =>
    have ht : InG g to := floorB_lt hf
    have ht1 := ht.1
    have ht2 := ht.2
    rw [show fieldE g to = 0 by unfold fieldE; rw [hf]; rfl]
    rw [hf] at hF
    refine Sat.of T_ok Try.func47 Try.call47 rfl rfl rfl ?_
    repeat' (first | assumption | exact fun h : ¬ True => absurd trivial h | exact fun h : False => h.elim | exact sd (by first | omega | (simp only []; omega) | (simp only [List.length_append, List.length_cons, List.length_nil, List.length_take, List.length_drop, List.length_map, List.length_range, List.length_set]; omega)) | exact sp (fun h => by simp [PathHolds] at h; omega) | exact sp (fun h => by simp [PathHolds, -List.getD_eq_getElem?_getD] at h; omega) | exact sd rfl | exact sd ⟨rfl, by decide⟩ | exact sd trivial | (show Nat.beq _ _ = true; rfl) | exact Bin.x rfl | (apply Run.nilStop rfl; apply RunSem.eqNil T_ok) | refine Run.storeStop rfl ?_ | (apply Run.mapStop; apply RunSem.mapSet T_ok) | (apply Run.newMapStop; apply RunSem.newMap T_ok) | (apply Run.sliceStop; apply RunSem.litI T_ok; rotate_left; rfl; rfl; rfl) | (apply AList.sliceStop; apply AListSem.litI T_ok; rotate_left; rfl; rfl; rfl) | (apply Run.semStop; apply RunSem.rangeStr T_ok) | (apply Run.semStop; apply RunSem.nextStr T_ok) | apply Run.condP | apply Sx.Ends.by () | (apply Run.drawStop; refine RunSem.drawBy (id := 19) T_ok mix 8 (by kernel_rfl) ?_) | constructor | intro _)
    apply RunSem.lend T_ok hF (fun _ => ⟨rfl, rfl⟩)
    all_goals repeat' (first | assumption | exact fun h : ¬ True => absurd trivial h | exact fun h : False => h.elim | exact sd (by first | omega | (simp only []; omega) | (simp only [List.length_append, List.length_cons, List.length_nil, List.length_take, List.length_drop, List.length_map, List.length_range, List.length_set]; omega)) | exact sp (fun h => by simp [PathHolds] at h; omega) | exact sp (fun h => by simp [PathHolds, -List.getD_eq_getElem?_getD] at h; omega) | exact sd rfl | exact sd ⟨rfl, by decide⟩ | exact sd trivial | (show Nat.beq _ _ = true; rfl) | exact Bin.x rfl | (apply Run.nilStop rfl; apply RunSem.eqNil T_ok) | refine Run.storeStop rfl ?_ | (apply Run.mapStop; apply RunSem.mapSet T_ok) | (apply Run.newMapStop; apply RunSem.newMap T_ok) | (apply Run.sliceStop; apply RunSem.litI T_ok; rotate_left; rfl; rfl; rfl) | (apply AList.sliceStop; apply AListSem.litI T_ok; rotate_left; rfl; rfl; rfl) | (apply Run.semStop; apply RunSem.rangeStr T_ok) | (apply Run.semStop; apply RunSem.nextStr T_ok) | apply Run.condP | apply Sx.Ends.by () | (apply Run.drawStop; refine RunSem.drawBy (id := 19) T_ok mix 8 (by kernel_rfl) ?_) | constructor | intro _)
    apply RunSem.makeS T_ok
    all_goals repeat' (first | assumption | exact fun h : ¬ True => absurd trivial h | exact fun h : False => h.elim | exact sd (by first | omega | (simp only []; omega) | (simp only [List.length_append, List.length_cons, List.length_nil, List.length_take, List.length_drop, List.length_map, List.length_range, List.length_set]; omega)) | exact sp (fun h => by simp [PathHolds] at h; omega) | exact sp (fun h => by simp [PathHolds, -List.getD_eq_getElem?_getD] at h; omega) | exact sd rfl | exact sd ⟨rfl, by decide⟩ | exact sd trivial | (show Nat.beq _ _ = true; rfl) | exact Bin.x rfl | (apply Run.nilStop rfl; apply RunSem.eqNil T_ok) | refine Run.storeStop rfl ?_ | (apply Run.mapStop; apply RunSem.mapSet T_ok) | (apply Run.newMapStop; apply RunSem.newMap T_ok) | (apply Run.sliceStop; apply RunSem.litI T_ok; rotate_left; rfl; rfl; rfl) | (apply AList.sliceStop; apply AListSem.litI T_ok; rotate_left; rfl; rfl; rfl) | (apply Run.semStop; apply RunSem.rangeStr T_ok) | (apply Run.semStop; apply RunSem.nextStr T_ok) | apply Run.condP | apply Sx.Ends.by () | (apply Run.drawStop; refine RunSem.drawBy (id := 19) T_ok mix 8 (by kernel_rfl) ?_) | constructor | intro _)
    rename_i v b8
    simp only [List.length_replicate, Int.toNat_natCast]
    refine RunSem.loopK T_ok [1, 2, 3, 6, 7, 8, 23] (fun x : Nat × List Int => [(24, [], iv x.1)]) (fun x => [.row v true 3 1 (encI .i64) 0 x.2]) (fun x => x.1 ≤ g.C.size ∧ x.2.length = g.C.size ∧ ∀ i, i < x.1 → x.2.getD i 0 = -1) (fun x => g.C.size - x.1) (0, List.replicate g.C.size 0) ⟨by simp, by simp, by simp⟩ (by repeat' constructor) (by repeat' first | assumption | exact tab_age _ _ _ | constructor) (by repeat' first | assumption | exact tab_age _ _ _ | constructor) ?_
    dsimp only [List.cons_append, List.nil_append]
    rintro ⟨k, xs⟩ ⟨hk, hxl, hx⟩
    simp only at hk hxl hx ⊢
    repeat' (first | assumption | exact fun h : ¬ True => absurd trivial h | exact fun h : False => h.elim | exact sd (by first | omega | (simp only []; omega) | (simp only [List.length_append, List.length_cons, List.length_nil, List.length_take, List.length_drop, List.length_map, List.length_range, List.length_set]; omega)) | exact sp (fun h => by simp [PathHolds] at h; omega) | exact sp (fun h => by simp [PathHolds, -List.getD_eq_getElem?_getD] at h; omega) | exact sd rfl | exact sd ⟨rfl, by decide⟩ | exact sd trivial | (show Nat.beq _ _ = true; rfl) | exact Bin.x rfl | (apply Run.nilStop rfl; apply RunSem.eqNil T_ok) | refine Run.storeStop rfl ?_ | (apply Run.mapStop; apply RunSem.mapSet T_ok) | (apply Run.newMapStop; apply RunSem.newMap T_ok) | (apply Run.sliceStop; apply RunSem.litI T_ok; rotate_left; rfl; rfl; rfl) | (apply AList.sliceStop; apply AListSem.litI T_ok; rotate_left; rfl; rfl; rfl) | (apply Run.semStop; apply RunSem.rangeStr T_ok) | (apply Run.semStop; apply RunSem.nextStr T_ok) | apply Run.condP | apply Sx.Ends.by () | (apply Run.drawStop; refine RunSem.drawBy (id := 19) T_ok mix 8 (by kernel_rfl) ?_) | constructor | intro _)
    · rename_i hlt
      have hlt' : k < xs.length := by omega
      apply RunSem.storeE T_ok ((-1 : Int))
      all_goals repeat' (first | assumption | exact fun h : ¬ True => absurd trivial h | exact fun h : False => h.elim | exact sd (by first | omega | (simp only []; omega) | (simp only [List.length_append, List.length_cons, List.length_nil, List.length_take, List.length_drop, List.length_map, List.length_range, List.length_set]; omega)) | exact sp (fun h => by simp [PathHolds] at h; omega) | exact sp (fun h => by simp [PathHolds, -List.getD_eq_getElem?_getD] at h; omega) | exact sd rfl | exact sd ⟨rfl, by decide⟩ | exact sd trivial | (show Nat.beq _ _ = true; rfl) | exact Bin.x rfl | (apply Run.nilStop rfl; apply RunSem.eqNil T_ok) | refine Run.storeStop rfl ?_ | (apply Run.mapStop; apply RunSem.mapSet T_ok) | (apply Run.newMapStop; apply RunSem.newMap T_ok) | (apply Run.sliceStop; apply RunSem.litI T_ok; rotate_left; rfl; rfl; rfl) | (apply AList.sliceStop; apply AListSem.litI T_ok; rotate_left; rfl; rfl; rfl) | (apply Run.semStop; apply RunSem.rangeStr T_ok) | (apply Run.semStop; apply RunSem.nextStr T_ok) | apply Run.condP | apply Sx.Ends.by () | (apply Run.drawStop; refine RunSem.drawBy (id := 19) T_ok mix 8 (by kernel_rfl) ?_) | constructor | intro _)
      apply AgainK.mk ((k + 1, xs.set k (-1)))
      case' h4 => (try simp only [List.append_nil]); repeat' (first | exact tab_age _ _ _ | constructor)
      case' h3 => repeat' constructor
      case' h1 => first | omega | (dsimp only; omega)
      refine ⟨by simp only; omega, by simpa using hxl, fun i hi => ?_⟩
      simp only [List.getD, List.getElem?_set]
      split
      · simp [hlt']
      · exact hx i (by simp only at hi; omega)
    · rename_i hge
      obtain rfl : k = g.C.size := by omega
      have hxs : xs = List.replicate g.C.size (-1) := by
        refine List.ext_getElem (by simpa using hxl) (fun i h1 h2 => ?_)
        have := hx i (by omega)
        simpa [List.getD, h1] using this
      subst hxs
      apply RunSem.storeE T_ok ((0 : Int))
      all_goals repeat' (first | assumption | exact fun h : ¬ True => absurd trivial h | exact fun h : False => h.elim | exact sd (by first | omega | (simp only []; omega) | (simp only [List.length_append, List.length_cons, List.length_nil, List.length_take, List.length_drop, List.length_map, List.length_range, List.length_set]; omega)) | exact sp (fun h => by simp [PathHolds] at h; omega) | exact sp (fun h => by simp [PathHolds, -List.getD_eq_getElem?_getD] at h; omega) | exact sd rfl | exact sd ⟨rfl, by decide⟩ | exact sd trivial | (show Nat.beq _ _ = true; rfl) | exact Bin.x rfl | (apply Run.nilStop rfl; apply RunSem.eqNil T_ok) | refine Run.storeStop rfl ?_ | (apply Run.mapStop; apply RunSem.mapSet T_ok) | (apply Run.newMapStop; apply RunSem.newMap T_ok) | (apply Run.sliceStop; apply RunSem.litI T_ok; rotate_left; rfl; rfl; rfl) | (apply AList.sliceStop; apply AListSem.litI T_ok; rotate_left; rfl; rfl; rfl) | (apply Run.semStop; apply RunSem.rangeStr T_ok) | (apply Run.semStop; apply RunSem.nextStr T_ok) | apply Run.condP | apply Sx.Ends.by () | (apply Run.drawStop; refine RunSem.drawBy (id := 19) T_ok mix 8 (by kernel_rfl) ?_) | constructor | intro _)
      apply RunSem.lend T_ok (set_ok bl hbl) (fun _ => ⟨rfl, rfl⟩)
      all_goals repeat' (first | assumption | exact fun h : ¬ True => absurd trivial h | exact fun h : False => h.elim | exact sd (by first | omega | (simp only []; omega) | (simp only [List.length_append, List.length_cons, List.length_nil, List.length_take, List.length_drop, List.length_map, List.length_range, List.length_set]; omega)) | exact sp (fun h => by simp [PathHolds] at h; omega) | exact sp (fun h => by simp [PathHolds, -List.getD_eq_getElem?_getD] at h; omega) | exact sd rfl | exact sd ⟨rfl, by decide⟩ | exact sd trivial | (show Nat.beq _ _ = true; rfl) | exact Bin.x rfl | (apply Run.nilStop rfl; apply RunSem.eqNil T_ok) | refine Run.storeStop rfl ?_ | (apply Run.mapStop; apply RunSem.mapSet T_ok) | (apply Run.newMapStop; apply RunSem.newMap T_ok) | (apply Run.sliceStop; apply RunSem.litI T_ok; rotate_left; rfl; rfl; rfl) | (apply AList.sliceStop; apply AListSem.litI T_ok; rotate_left; rfl; rfl; rfl) | (apply Run.semStop; apply RunSem.rangeStr T_ok) | (apply Run.semStop; apply RunSem.nextStr T_ok) | apply Run.condP | apply Sx.Ends.by () | (apply Run.drawStop; refine RunSem.drawBy (id := 19) T_ok mix 8 (by kernel_rfl) ?_) | constructor | intro _)
      rename_i r _ vq bq
      refine RunSem.loopK T_ok [1, 3, 6, 7, 8, 10, 11] (fun x : List Int × List Int × Value => []) (fun x => [.row v true 3 1 (encI .i64) 0 x.1, .box bq [.o x.2.2], .row x.2.2 true 3 1 (encI .i64) 0 x.2.1]) (fun x => Bfs g to bl x.1 x.2.1 ∧ 2 * cnt x.1 + x.2.1.length ≤ 200000) (fun x => 2 * cnt x.1 + x.2.1.length) (startL g to, [to], vq) ⟨Bfs.start ht, by have := start_cnt ht; simp only [List.length_cons, List.length_nil]; omega⟩ (by repeat' constructor) (by repeat' first | assumption | exact tab_age _ _ _ | constructor) (by repeat' first | assumption | exact tab_age _ _ _ | constructor) ?_
      dsimp only [List.cons_append, List.nil_append]
      rintro ⟨out, q, vq⟩ ⟨hB, hb2⟩
      simp only at hb2
      have hol := hB.len
      simp only at hB hol ⊢
      repeat' (first | assumption | exact fun h : ¬ True => absurd trivial h | exact fun h : False => h.elim | exact sd (by first | omega | (simp only []; omega) | (simp only [List.length_append, List.length_cons, List.length_nil, List.length_take, List.length_drop, List.length_map, List.length_range, List.length_set]; omega)) | exact sp (fun h => by simp [PathHolds] at h; omega) | exact sp (fun h => by simp [PathHolds, -List.getD_eq_getElem?_getD] at h; omega) | exact sd rfl | exact sd ⟨rfl, by decide⟩ | exact sd trivial | (show Nat.beq _ _ = true; rfl) | exact Bin.x rfl | (apply Run.nilStop rfl; apply RunSem.eqNil T_ok) | refine Run.storeStop rfl ?_ | (apply Run.mapStop; apply RunSem.mapSet T_ok) | (apply Run.newMapStop; apply RunSem.newMap T_ok) | (apply Run.sliceStop; apply RunSem.litI T_ok; rotate_left; rfl; rfl; rfl) | (apply AList.sliceStop; apply AListSem.litI T_ok; rotate_left; rfl; rfl; rfl) | (apply Run.semStop; apply RunSem.rangeStr T_ok) | (apply Run.semStop; apply RunSem.nextStr T_ok) | (apply Run.semStop; apply RunSem.dropO T_ok) | apply Run.condP | apply Sx.Ends.by () | (apply Run.drawStop; refine RunSem.drawBy (id := 19) T_ok mix 8 (by kernel_rfl) ?_) | constructor | intro _)
      · rename_i hx
        obtain ⟨x, q1, rfl⟩ : ∃ x q1, q = x :: q1 := by
          cases q with
          | nil => simp at *
          | cons x q1 => exact ⟨x, q1, rfl⟩
        have hxb : x ∈ bl := by
          rw [setG_get] at hx
          by_cases h : x ∈ bl
          · exact h
          · simp [h] at hx
        have hm : (x :: q1).length = q1.length + 1 := rfl
        apply AgainK.mk ((out, q1, _))
        case' h4 => (try simp only [List.append_nil]); repeat' (first | exact tab_age _ _ _ | constructor)
        case' h3 => repeat' constructor
        case' h1 => first | omega | (dsimp only; omega)
        exact ⟨hB.skip hxb, by simp only; omega⟩
      · rename_i b12 vq1 hx
        obtain ⟨x, q1, rfl⟩ : ∃ x q1, q = x :: q1 := by
          cases q with
          | nil => simp at *
          | cons x q1 => exact ⟨x, q1, rfl⟩
        have hxb : x ∉ bl := by
          rw [setG_get] at hx
          by_cases h : x ∈ bl
          · simp [h] at hx
          · exact h
        have hM := hB.mid hxb
        have hqx := (hB.qok x (by simp)).1
        apply RunSem.call T_ok (into_ok g x)
        all_goals repeat' (first | assumption | exact fun h : ¬ True => absurd trivial h | exact fun h : False => h.elim | exact sd (by first | omega | (simp only []; omega) | (simp only [List.length_append, List.length_cons, List.length_nil, List.length_take, List.length_drop, List.length_map, List.length_range, List.length_set]; omega)) | exact sp (fun h => by simp [PathHolds] at h; omega) | exact sp (fun h => by simp [PathHolds, -List.getD_eq_getElem?_getD] at h; omega) | exact sd rfl | exact sd ⟨rfl, by decide⟩ | exact sd trivial | (show Nat.beq _ _ = true; rfl) | exact Bin.x rfl | (apply Run.nilStop rfl; apply RunSem.eqNil T_ok) | refine Run.storeStop rfl ?_ | (apply Run.mapStop; apply RunSem.mapSet T_ok) | (apply Run.newMapStop; apply RunSem.newMap T_ok) | (apply Run.sliceStop; apply RunSem.litI T_ok; rotate_left; rfl; rfl; rfl) | (apply AList.sliceStop; apply AListSem.litI T_ok; rotate_left; rfl; rfl; rfl) | (apply Run.semStop; apply RunSem.rangeStr T_ok) | (apply Run.semStop; apply RunSem.nextStr T_ok) | (apply Run.semStop; apply RunSem.dropO T_ok) | apply Run.condP | apply Sx.Ends.by () | (apply Run.drawStop; refine RunSem.drawBy (id := 19) T_ok mix 8 (by kernel_rfl) ?_) | constructor | intro _)
        rename_i b _
        refine RunSem.rangeK T_ok (into_iter g hg x hqx b.1 b.2) [8, 11, 12] (fun y : List Int × List Int × Value => [.row v false 3 1 (encI .i64) 0 y.1, .box bq [.o y.2.2], .row y.2.2 false 3 1 (encI .i64) 0 y.2.1, .box b12 [iv x], .box b8 [.o v]])
          (fun pre y => Mid g to bl x (D out x) pre y.1 y.2.1 ∧ 2 * cnt y.1 + y.2.1.length ≤ 2 * cnt out + q1.length) (out, q1, vq1) ⟨hM, Nat.le_refl _⟩ ?_ (by repeat' constructor) rfl (by repeat' constructor) (fun _ => rfl) rfl (by decide) (by decide) (fun _ => rfl) (by decide) ?_ ?_
        · repeat' constructor
        · rintro pre c ⟨out', q', vq'⟩ l fn dd ⟨rr, hrr⟩ ⟨hM', hm'⟩
          simp only at hM' hm' ⊢
          have hol' := hM'.len
          have hcw := (intoL_mem hg (c := c) (x := x)).1 (by rw [hrr]; simp)
          obtain ⟨way, w1, w2, hgo⟩ := hcw
          have hcin := (goesB_in hgo).1
          have hc1 := hcin.1
          have hc2 := hcin.2
          have hx1 := hqx.1
          have hx2 := hqx.2
          have hbd := hM'.bound x hqx
          have hge := hM'.ge x hqx
          change out'.getD x.toNat 0 + _ ≤ _ at hbd
          change _ ≤ out'.getD x.toNat 0 at hge
          repeat' (first | assumption | exact fun h : ¬ True => absurd trivial h | exact fun h : False => h.elim | exact sd (by first | omega | (simp only []; omega) | (simp only [List.length_append, List.length_cons, List.length_nil, List.length_take, List.length_drop, List.length_map, List.length_range, List.length_set]; omega)) | exact sp (fun h => by simp [PathHolds] at h; omega) | exact sp (fun h => by simp [PathHolds, -List.getD_eq_getElem?_getD] at h; omega) | exact sd rfl | exact sd ⟨rfl, by decide⟩ | exact sd trivial | (show Nat.beq _ _ = true; rfl) | exact Bin.x rfl | (apply Run.nilStop rfl; apply RunSem.eqNil T_ok) | refine Run.storeStop rfl ?_ | (apply Run.mapStop; apply RunSem.mapSet T_ok) | (apply Run.newMapStop; apply RunSem.newMap T_ok) | (apply Run.sliceStop; apply RunSem.litI T_ok; rotate_left; rfl; rfl; rfl) | (apply AList.sliceStop; apply AListSem.litI T_ok; rotate_left; rfl; rfl; rfl) | (apply Run.semStop; apply RunSem.rangeStr T_ok) | (apply Run.semStop; apply RunSem.nextStr T_ok) | (apply Run.semStop; apply RunSem.dropO T_ok) | apply Run.condP | apply Sx.Ends.by () | (apply Run.drawStop; refine RunSem.drawBy (id := 19) T_ok mix 8 (by kernel_rfl) ?_) | constructor | intro _)
          · rename_i hd
            have hm : (x :: q1).length = q1.length + 1 := rfl
            apply RunSem.storeE T_ok ((out'.getD x.toNat 0 + 1))
            all_goals repeat' (first | assumption | exact fun h : ¬ True => absurd trivial h | exact fun h : False => h.elim | exact sd (by first | omega | (simp only []; omega) | (simp only [List.length_append, List.length_cons, List.length_nil, List.length_take, List.length_drop, List.length_map, List.length_range, List.length_set]; omega)) | exact sp (fun h => by simp [PathHolds] at h; omega) | exact sp (fun h => by simp [PathHolds, -List.getD_eq_getElem?_getD] at h; omega) | exact sd rfl | exact sd ⟨rfl, by decide⟩ | exact sd trivial | (show Nat.beq _ _ = true; rfl) | exact Bin.x rfl | (apply Run.nilStop rfl; apply RunSem.eqNil T_ok) | refine Run.storeStop rfl ?_ | (apply Run.mapStop; apply RunSem.mapSet T_ok) | (apply Run.newMapStop; apply RunSem.newMap T_ok) | (apply Run.sliceStop; apply RunSem.litI T_ok; rotate_left; rfl; rfl; rfl) | (apply AList.sliceStop; apply AListSem.litI T_ok; rotate_left; rfl; rfl; rfl) | (apply Run.semStop; apply RunSem.rangeStr T_ok) | (apply Run.semStop; apply RunSem.nextStr T_ok) | (apply Run.semStop; apply RunSem.dropO T_ok) | apply Run.condP | apply Sx.Ends.by () | (apply Run.drawStop; refine RunSem.drawBy (id := 19) T_ok mix 8 (by kernel_rfl) ?_) | constructor | intro _)
            rename_i vn
            · have hN := hM'.new ht ⟨w1, w2⟩ hgo hd
              apply AgainR.mk ((out'.set c.toNat (out'.getD x.toNat 0 + 1), q' ++ [c], vn))
              case' h2 => repeat' constructor
              rw [show out'.getD x.toNat 0 = D out x from hM'.hx.1]
              refine ⟨hN.1, ?_⟩
              have := hN.2
              simp only [List.length_append, List.length_cons, List.length_nil]
              omega
          · rename_i hd
            apply AgainR.mk ((out', q', vq'))
            case' h2 => repeat' constructor
            exact ⟨hM'.old hcin hd, hm'⟩
        · rintro ⟨out', q', vq'⟩ ⟨hM', hm'⟩
          have hm : (x :: q1).length = q1.length + 1 := rfl
          simp only at hM' hm' ⊢
          repeat' (first | assumption | exact fun h : ¬ True => absurd trivial h | exact fun h : False => h.elim | exact sd (by first | omega | (simp only []; omega) | (simp only [List.length_append, List.length_cons, List.length_nil, List.length_take, List.length_drop, List.length_map, List.length_range, List.length_set]; omega)) | exact sp (fun h => by simp [PathHolds] at h; omega) | exact sp (fun h => by simp [PathHolds, -List.getD_eq_getElem?_getD] at h; omega) | exact sd rfl | exact sd ⟨rfl, by decide⟩ | exact sd trivial | (show Nat.beq _ _ = true; rfl) | exact Bin.x rfl | (apply Run.nilStop rfl; apply RunSem.eqNil T_ok) | refine Run.storeStop rfl ?_ | (apply Run.mapStop; apply RunSem.mapSet T_ok) | (apply Run.newMapStop; apply RunSem.newMap T_ok) | (apply Run.sliceStop; apply RunSem.litI T_ok; rotate_left; rfl; rfl; rfl) | (apply AList.sliceStop; apply AListSem.litI T_ok; rotate_left; rfl; rfl; rfl) | (apply Run.semStop; apply RunSem.rangeStr T_ok) | (apply Run.semStop; apply RunSem.nextStr T_ok) | (apply Run.semStop; apply RunSem.dropO T_ok) | apply Run.condP | apply Sx.Ends.by () | (apply Run.drawStop; refine RunSem.drawBy (id := 19) T_ok mix 8 (by kernel_rfl) ?_) | constructor | intro _)
          apply AgainK.mk ((out', q', vq'))
          case' h4 => (try simp only [List.append_nil]); repeat' (first | exact tab_age _ _ _ | constructor)
          case' h3 => repeat' constructor
          case' h1 => first | omega | (dsimp only; omega)
          exact ⟨hM'.fin hg, by simp only; omega⟩
      · rename_i hq
        obtain rfl : q = [] := List.eq_nil_of_length_eq_zero (by omega)
        have hP := FieldP.yes hf (hB.fin)
        rw [fieldL_eq hf (hB.fin)]
        apply Sx.Ends.by (v)
        all_goals repeat' (first | assumption | exact fun h : ¬ True => absurd trivial h | exact fun h : False => h.elim | exact sd (by first | omega | (simp only []; omega) | (simp only [List.length_append, List.length_cons, List.length_nil, List.length_take, List.length_drop, List.length_map, List.length_range, List.length_set]; omega)) | exact sp (fun h => by simp [PathHolds] at h; omega) | exact sp (fun h => by simp [PathHolds, -List.getD_eq_getElem?_getD] at h; omega) | exact sd rfl | exact sd ⟨rfl, by decide⟩ | exact sd trivial | (show Nat.beq _ _ = true; rfl) | exact Bin.x rfl | (apply Run.nilStop rfl; apply RunSem.eqNil T_ok) | refine Run.storeStop rfl ?_ | (apply Run.mapStop; apply RunSem.mapSet T_ok) | (apply Run.newMapStop; apply RunSem.newMap T_ok) | (apply Run.sliceStop; apply RunSem.litI T_ok; rotate_left; rfl; rfl; rfl) | (apply AList.sliceStop; apply AListSem.litI T_ok; rotate_left; rfl; rfl; rfl) | (apply Run.semStop; apply RunSem.rangeStr T_ok) | (apply Run.semStop; apply RunSem.nextStr T_ok) | (apply Run.semStop; apply RunSem.dropO T_ok) | apply Run.condP | apply Sx.Ends.by () | (apply Run.drawStop; refine RunSem.drawBy (id := 19) T_ok mix 8 (by kernel_rfl) ?_) | constructor | intro _)
end Go.Proofs.Ytmnnejkcgdfjiaa
