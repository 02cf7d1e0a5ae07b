import Derived.Test.YtmnnejkcgdfjiaaS05State3
set_option linter.all false
set_option maxHeartbeats 4000000
set_option maxRecDepth 100000
set_option linter.all false
namespace Go.Proofs.Ytmnnejkcgdfjiaa
open Go.Sx
attribute [local irreducible] RunSem AListSem AgainK Again Side Sx.Ends IntKind.wrap SatV AgainR DSem MJ
attribute [local irreducible] floorB goesB rightG arrow isLetter findI findN
theorem Find1_ok (t : Tk) (id : Int) (b : Nat) : Sat Try.prog 37 [.g [iv t.id, iv t.fr, iv t.to, iv t.st, iv t.rb], .v (.pointer (some ⟨b, 0, none⟩))] [.box b [iv id]] (isVS (.bool (t.id == id)) [.box b [iv id]]) := by
  refine Sat.of T_ok Try.func37 Try.call37 rfl rfl rfl ?_
  repeat' (first | assumption | exact fun h : ¬ True => absurd trivial h | exact fun h : False => h.elim | exact sd (by first | omega | (simp only []; omega) | (simp only [List.length_append, List.length_cons, List.length_nil, List.length_take, List.length_drop, List.length_map, List.length_range, List.length_set]; omega)) | exact sp (fun h => by simp [PathHolds] at h; omega) | exact sp (fun h => by simp [PathHolds, -List.getD_eq_getElem?_getD] at h; omega) | exact sd rfl | exact sd ⟨rfl, by decide⟩ | exact sd trivial | (show Nat.beq _ _ = true; rfl) | (apply Run.nilStop rfl; apply RunSem.eqNil T_ok) | refine Run.storeStop rfl ?_ | (apply Run.mapStop; apply RunSem.mapSet T_ok) | (apply Run.newMapStop; apply RunSem.newMap T_ok) | (apply Run.sliceStop; apply RunSem.litI T_ok; rotate_left; rfl; rfl; rfl) | (apply AList.sliceStop; apply AListSem.litI T_ok; rotate_left; rfl; rfl; rfl) | (apply Run.semStop; apply RunSem.rangeStr T_ok) | (apply Run.semStop; apply RunSem.nextStr T_ok) | apply Run.condP | apply Sx.Ends.by () | constructor | intro _)
theorem IndexFunc_ok (l : List Tk) (id : Int) (hl : l.length < 4611686018427387904) (b : Nat) : Sat Try.prog 36 [DT l, .v (.func (.func 37) #[] #[.pointer (some ⟨b, 0, none⟩)])] [.box b [iv id]] (isVS (.int .i64 (findI l id)) [.box b [iv id]]) := by
  refine Sat.of T_ok Try.func36 Try.call36 rfl rfl rfl ?_
  repeat' (first | assumption | exact fun h : ¬ True => absurd trivial h | exact fun h : False => h.elim | exact sd (by first | omega | (simp only []; omega) | (simp only [List.length_append, List.length_cons, List.length_nil, List.length_take, List.length_drop, List.length_map, List.length_range, List.length_set]; omega)) | exact sp (fun h => by simp [PathHolds] at h; omega) | exact sp (fun h => by simp [PathHolds, -List.getD_eq_getElem?_getD] at h; omega) | exact sd rfl | exact sd ⟨rfl, by decide⟩ | exact sd trivial | (show Nat.beq _ _ = true; rfl) | (apply Run.nilStop rfl; apply RunSem.eqNil T_ok) | refine Run.storeStop rfl ?_ | (apply Run.mapStop; apply RunSem.mapSet T_ok) | (apply Run.newMapStop; apply RunSem.newMap T_ok) | (apply Run.sliceStop; apply RunSem.litI T_ok; rotate_left; rfl; rfl; rfl) | (apply AList.sliceStop; apply AListSem.litI T_ok; rotate_left; rfl; rfl; rfl) | (apply Run.semStop; apply RunSem.rangeStr T_ok) | (apply Run.semStop; apply RunSem.nextStr T_ok) | apply Run.condP | apply Sx.Ends.by () | constructor | intro _)
  refine RunSem.loopK T_ok [0, 1, 7] (fun k : Nat => [(8, [], iv k)]) (fun _ => [.box b [iv id]]) (fun k => k ≤ l.length ∧ ∀ i, i < k → (l.getD i dT).id ≠ id) (fun k => l.length - k) 0 ⟨by omega, by simp⟩ (by repeat' constructor) (by repeat' first | assumption | exact tab_age _ _ _ | constructor) (by repeat' first | assumption | exact tab_age _ _ _ | constructor) ?_
  dsimp only [List.cons_append, List.nil_append]
  rintro k ⟨hk, hs⟩
  repeat' (first | assumption | exact fun h : ¬ True => absurd trivial h | exact fun h : False => h.elim | exact sd (by first | omega | (simp only []; omega) | (simp only [List.length_append, List.length_cons, List.length_nil, List.length_take, List.length_drop, List.length_map, List.length_range, List.length_set]; omega)) | exact sp (fun h => by simp [PathHolds] at h; omega) | exact sp (fun h => by simp [PathHolds, -List.getD_eq_getElem?_getD] at h; omega) | exact sd rfl | exact sd ⟨rfl, by decide⟩ | exact sd trivial | (show Nat.beq _ _ = true; rfl) | exact Bin.x rfl | (apply Run.nilStop rfl; apply RunSem.eqNil T_ok) | refine Run.storeStop rfl ?_ | (apply Run.mapStop; apply RunSem.mapSet T_ok) | (apply Run.newMapStop; apply RunSem.newMap T_ok) | (apply Run.sliceStop; apply RunSem.litI T_ok; rotate_left; rfl; rfl; rfl) | (apply AList.sliceStop; apply AListSem.litI T_ok; rotate_left; rfl; rfl; rfl) | (apply Run.semStop; apply RunSem.rangeStr T_ok) | (apply Run.semStop; apply RunSem.nextStr T_ok) | apply Run.condP | apply Sx.Ends.by () | constructor | intro _)
  · rename_i hlt
    first | apply RunSem.callR T_ok (Find1_ok (l.getD k dT) id b) | apply RunSem.callGR T_ok (Find1_ok (l.getD k dT) id b) | apply AListSem.callR T_ok (Find1_ok (l.getD k dT) id b) | apply AListSem.callGR T_ok (Find1_ok (l.getD k dT) id b)
    all_goals repeat' (first | assumption | exact fun h : ¬ True => absurd trivial h | exact fun h : False => h.elim | exact sd (by first | omega | (simp only []; omega) | (simp only [List.length_append, List.length_cons, List.length_nil, List.length_take, List.length_drop, List.length_map, List.length_range, List.length_set]; omega)) | exact sp (fun h => by simp [PathHolds] at h; omega) | exact sp (fun h => by simp [PathHolds, -List.getD_eq_getElem?_getD] at h; omega) | exact sd rfl | exact sd ⟨rfl, by decide⟩ | exact sd trivial | (show Nat.beq _ _ = true; rfl) | exact Bin.x rfl | (apply Run.nilStop rfl; apply RunSem.eqNil T_ok) | refine Run.storeStop rfl ?_ | (apply Run.mapStop; apply RunSem.mapSet T_ok) | (apply Run.newMapStop; apply RunSem.newMap T_ok) | (apply Run.sliceStop; apply RunSem.litI T_ok; rotate_left; rfl; rfl; rfl) | (apply AList.sliceStop; apply AListSem.litI T_ok; rotate_left; rfl; rfl; rfl) | (apply Run.semStop; apply RunSem.rangeStr T_ok) | (apply Run.semStop; apply RunSem.nextStr T_ok) | apply Run.condP | apply Sx.Ends.by () | constructor | intro _)
    · rename_i he
      rw [findI_is (by omega) he hs]
    · rename_i he
      apply AgainK.mk (k + 1)
      case' h4 => (try simp only [List.append_nil]); repeat' (first | exact tab_age _ _ _ | constructor)
      case' h3 => repeat' constructor
      case' h1 => first | omega | (dsimp only; omega)
      refine ⟨by omega, fun i hi => ?_⟩
      rcases Nat.lt_succ_iff_lt_or_eq.1 hi with h' | h'
      · exact hs i h'
      · subst h'; exact he
  · rename_i hge
    rw [findI_no (fun i hi => hs i (by omega))]
theorem Find_ok (s : St) (id : Int) (hK : s.K.length < 4611686018427387904) : Sat Try.prog 14 [sA s, iv id] [] (isV (.int .i64 (findI s.K id))) := by
  refine Sat.of T_ok Try.func14 Try.call14 rfl rfl rfl ?_
  repeat' (first | assumption | exact fun h : ¬ True => absurd trivial h | exact fun h : False => h.elim | exact sd (by first | omega | (simp only []; omega) | (simp only [List.length_append, List.length_cons, List.length_nil, List.length_take, List.length_drop, List.length_map, List.length_range, List.length_set]; omega)) | exact sp (fun h => by simp [PathHolds] at h; omega) | exact sp (fun h => by simp [PathHolds, -List.getD_eq_getElem?_getD] at h; omega) | exact sd rfl | exact sd ⟨rfl, by decide⟩ | exact sd trivial | (show Nat.beq _ _ = true; rfl) | (apply Run.nilStop rfl; apply RunSem.eqNil T_ok) | refine Run.storeStop rfl ?_ | (apply Run.mapStop; apply RunSem.mapSet T_ok) | (apply Run.newMapStop; apply RunSem.newMap T_ok) | (apply Run.sliceStop; apply RunSem.litI T_ok; rotate_left; rfl; rfl; rfl) | (apply AList.sliceStop; apply AListSem.litI T_ok; rotate_left; rfl; rfl; rfl) | (apply Run.semStop; apply RunSem.rangeStr T_ok) | (apply Run.semStop; apply RunSem.nextStr T_ok) | apply Run.condP | apply Sx.Ends.by () | constructor | intro _)
  rename_i b1 b2
  first | apply RunSem.callR T_ok (IndexFunc_ok s.K id hK b2) | apply RunSem.callGR T_ok (IndexFunc_ok s.K id hK b2) | apply AListSem.callR T_ok (IndexFunc_ok s.K id hK b2) | apply AListSem.callGR T_ok (IndexFunc_ok s.K id hK b2)
  all_goals repeat' (first | assumption | exact fun h : ¬ True => absurd trivial h | exact fun h : False => h.elim | exact sd (by first | omega | (simp only []; omega) | (simp only [List.length_append, List.length_cons, List.length_nil, List.length_take, List.length_drop, List.length_map, List.length_range, List.length_set]; omega)) | exact sp (fun h => by simp [PathHolds] at h; omega) | exact sp (fun h => by simp [PathHolds, -List.getD_eq_getElem?_getD] at h; omega) | exact sd rfl | exact sd ⟨rfl, by decide⟩ | exact sd trivial | (show Nat.beq _ _ = true; rfl) | exact Bin.x rfl | (apply Run.nilStop rfl; apply RunSem.eqNil T_ok) | refine Run.storeStop rfl ?_ | (apply Run.mapStop; apply RunSem.mapSet T_ok) | (apply Run.newMapStop; apply RunSem.newMap T_ok) | (apply Run.sliceStop; apply RunSem.litI T_ok; rotate_left; rfl; rfl; rfl) | (apply AList.sliceStop; apply AListSem.litI T_ok; rotate_left; rfl; rfl; rfl) | (apply Run.semStop; apply RunSem.rangeStr T_ok) | (apply Run.semStop; apply RunSem.nextStr T_ok) | apply Run.condP | apply Sx.Ends.by () | constructor | intro _)
theorem fits_ok (s : St) (hR : s.R.length < 4611686018427387904) (hK : s.K.length < 4611686018427387904) : Sat Try.prog 29 [sA s] [] (isV (.bool (fitsP s))) := by
  have hgR : ∀ k, k < s.R.length → fitR s k = false → fitsP s = false := fun k h1 h2 => by rw [fitsP, all_range_no h1 h2]; rfl
  refine Sat.of T_ok Try.func29 Try.call29 rfl rfl rfl ?_
  repeat' (first | assumption | exact fun h : ¬ True => absurd trivial h | exact fun h : False => h.elim | exact sd (by first | omega | (simp only []; omega) | (simp only [List.length_append, List.length_cons, List.length_nil, List.length_take, List.length_drop, List.length_map, List.length_range, List.length_set]; omega)) | exact sp (fun h => by simp [PathHolds] at h; omega) | exact sp (fun h => by simp [PathHolds, -List.getD_eq_getElem?_getD] at h; omega) | exact sd rfl | exact sd ⟨rfl, by decide⟩ | exact sd trivial | (show Nat.beq _ _ = true; rfl) | (apply Run.nilStop rfl; apply RunSem.eqNil T_ok) | refine Run.storeStop rfl ?_ | (apply Run.mapStop; apply RunSem.mapSet T_ok) | (apply Run.newMapStop; apply RunSem.newMap T_ok) | (apply Run.sliceStop; apply RunSem.litI T_ok; rotate_left; rfl; rfl; rfl) | (apply AList.sliceStop; apply AListSem.litI T_ok; rotate_left; rfl; rfl; rfl) | (apply Run.semStop; apply RunSem.rangeStr T_ok) | (apply Run.semStop; apply RunSem.nextStr T_ok) | apply Run.condP | apply Sx.Ends.by () | (apply Run.drawStop; apply RunSem.drawW (id := 22) T_ok mix [(.fl, 0), (.fl, 1), (.fl, 2), (.fl, 3), (.fl, 4), (.fl, 5), (.mn, 6), (.fl, 7), (.fl, 8), (.fl, 9), (.fl, 10), (.fl, 11), (.fl, 12), (.fl, 13), (.fl, 14), (.fl, 15), (.fl, 16), (.fl, 17), (.fl, 18), (.fl, 19), (.fl, 20), (.fl, 21), (.fl, 22), (.fl, 23), (.fl, 24)] [] (by kernel_rfl) (by rfl)) | (apply MJ.none T_ok) | (apply MJ.some T_ok) | (apply DSem.nilW T_ok) | (apply DSem.flI T_ok; rfl; rotate_left; rfl; rfl; rfl) | (apply DSem.flW T_ok; rfl; rfl) | (apply DSem.flG T_ok; rfl; rfl) | (apply DSem.mnW T_ok; rfl) | (apply DSem.alW T_ok) | (apply FlW.q; rfl; rfl) | (apply FlW.g; rfl; rfl) | (apply FlW.l; rfl; rotate_left; rfl; rfl; rfl; rfl) | constructor | intro _)
  rename_i b
  refine RunSem.loopK T_ok [1, 10, 11] (fun k : Nat => [(12, [], iv k)]) (fun _ => []) (fun k => k ≤ s.R.length ∧ ∀ i, i < k → fitR s i = true) (fun k => s.R.length - k) 0 ⟨by omega, by omega⟩ (by repeat' constructor) (by repeat' first | assumption | exact tab_age _ _ _ | constructor) (by repeat' first | assumption | exact tab_age _ _ _ | constructor) ?_
  dsimp only [List.cons_append, List.nil_append]
  rintro k ⟨hk, hs⟩
  have hM := within_ok (s.R.getD k dR).mode 4
  have hW := wants_ok (s.R.getD k dR)
  have hF := Find_ok s (s.R.getD k dR).task hK
  have hfr := findI_ge s.K (s.R.getD k dR).task
  repeat' (first | assumption | exact fun h : ¬ True => absurd trivial h | exact fun h : False => h.elim | exact sd (by first | omega | (simp only []; omega) | (simp only [List.length_append, List.length_cons, List.length_nil, List.length_take, List.length_drop, List.length_map, List.length_range, List.length_set]; omega)) | exact sp (fun h => by simp [PathHolds] at h; omega) | exact sp (fun h => by simp [PathHolds, -List.getD_eq_getElem?_getD] at h; omega) | exact sd rfl | exact sd ⟨rfl, by decide⟩ | exact sd trivial | (show Nat.beq _ _ = true; rfl) | exact Bin.x rfl | (apply Run.nilStop rfl; apply RunSem.eqNil T_ok) | refine Run.storeStop rfl ?_ | (apply Run.mapStop; apply RunSem.mapSet T_ok) | (apply Run.newMapStop; apply RunSem.newMap T_ok) | (apply Run.sliceStop; apply RunSem.litI T_ok; rotate_left; rfl; rfl; rfl) | (apply AList.sliceStop; apply AListSem.litI T_ok; rotate_left; rfl; rfl; rfl) | (apply Run.semStop; apply RunSem.rangeStr T_ok) | (apply Run.semStop; apply RunSem.nextStr T_ok) | apply Run.condP | apply Sx.Ends.by () | (apply Run.drawStop; apply RunSem.drawW (id := 22) T_ok mix [(.fl, 0), (.fl, 1), (.fl, 2), (.fl, 3), (.fl, 4), (.fl, 5), (.mn, 6), (.fl, 7), (.fl, 8), (.fl, 9), (.fl, 10), (.fl, 11), (.fl, 12), (.fl, 13), (.fl, 14), (.fl, 15), (.fl, 16), (.fl, 17), (.fl, 18), (.fl, 19), (.fl, 20), (.fl, 21), (.fl, 22), (.fl, 23), (.fl, 24)] [] (by kernel_rfl) (by rfl)) | (apply MJ.none T_ok) | (apply MJ.some T_ok) | (apply DSem.nilW T_ok) | (apply DSem.flI T_ok; rfl; rotate_left; rfl; rfl; rfl) | (apply DSem.flW T_ok; rfl; rfl) | (apply DSem.flG T_ok; rfl; rfl) | (apply DSem.mnW T_ok; rfl) | (apply DSem.alW T_ok) | (apply FlW.q; rfl; rfl) | (apply FlW.g; rfl; rfl) | (apply FlW.l; rfl; rotate_left; rfl; rfl; rfl; rfl) | constructor | intro _)
  · rename_i hlt
    apply RunSem.lend T_ok hW (fun _ => ⟨rfl, rfl⟩)
    all_goals repeat' (first | assumption | exact fun h : ¬ True => absurd trivial h | exact fun h : False => h.elim | exact sd (by first | omega | (simp only []; omega) | (simp only [List.length_append, List.length_cons, List.length_nil, List.length_take, List.length_drop, List.length_map, List.length_range, List.length_set]; omega)) | exact sp (fun h => by simp [PathHolds] at h; omega) | exact sp (fun h => by simp [PathHolds, -List.getD_eq_getElem?_getD] at h; omega) | exact sd rfl | exact sd ⟨rfl, by decide⟩ | exact sd trivial | (show Nat.beq _ _ = true; rfl) | exact Bin.x rfl | (apply Run.nilStop rfl; apply RunSem.eqNil T_ok) | refine Run.storeStop rfl ?_ | (apply Run.mapStop; apply RunSem.mapSet T_ok) | (apply Run.newMapStop; apply RunSem.newMap T_ok) | (apply Run.sliceStop; apply RunSem.litI T_ok; rotate_left; rfl; rfl; rfl) | (apply AList.sliceStop; apply AListSem.litI T_ok; rotate_left; rfl; rfl; rfl) | (apply Run.semStop; apply RunSem.rangeStr T_ok) | (apply Run.semStop; apply RunSem.nextStr T_ok) | apply Run.condP | apply Sx.Ends.by () | (apply Run.drawStop; apply RunSem.drawW (id := 22) T_ok mix [(.fl, 0), (.fl, 1), (.fl, 2), (.fl, 3), (.fl, 4), (.fl, 5), (.mn, 6), (.fl, 7), (.fl, 8), (.fl, 9), (.fl, 10), (.fl, 11), (.fl, 12), (.fl, 13), (.fl, 14), (.fl, 15), (.fl, 16), (.fl, 17), (.fl, 18), (.fl, 19), (.fl, 20), (.fl, 21), (.fl, 22), (.fl, 23), (.fl, 24)] [] (by kernel_rfl) (by rfl)) | (apply MJ.none T_ok) | (apply MJ.some T_ok) | (apply DSem.nilW T_ok) | (apply DSem.flI T_ok; rfl; rotate_left; rfl; rfl; rfl) | (apply DSem.flW T_ok; rfl; rfl) | (apply DSem.flG T_ok; rfl; rfl) | (apply DSem.mnW T_ok; rfl) | (apply DSem.alW T_ok) | (apply FlW.q; rfl; rfl) | (apply FlW.g; rfl; rfl) | (apply FlW.l; rfl; rotate_left; rfl; rfl; rfl; rfl) | constructor | intro _)
    first | apply RunSem.lend T_ok hM (fun _ => ⟨rfl, rfl⟩) | apply RunSem.callG T_ok (lend := true) (isV_fun hM) (fun _ => rfl) rfl | apply AListSem.call T_ok (lend := true) (isV_fun hM) (fun _ => rfl) rfl | apply AListSem.callG T_ok (lend := true) (isV_fun hM) (fun _ => rfl) rfl
    all_goals repeat' (first | assumption | exact fun h : ¬ True => absurd trivial h | exact fun h : False => h.elim | exact sd (by first | omega | (simp only []; omega) | (simp only [List.length_append, List.length_cons, List.length_nil, List.length_take, List.length_drop, List.length_map, List.length_range, List.length_set]; omega)) | exact sp (fun h => by simp [PathHolds] at h; omega) | exact sp (fun h => by simp [PathHolds, -List.getD_eq_getElem?_getD] at h; omega) | exact sd rfl | exact sd ⟨rfl, by decide⟩ | exact sd trivial | (show Nat.beq _ _ = true; rfl) | exact Bin.x rfl | (apply Run.nilStop rfl; apply RunSem.eqNil T_ok) | refine Run.storeStop rfl ?_ | (apply Run.mapStop; apply RunSem.mapSet T_ok) | (apply Run.newMapStop; apply RunSem.newMap T_ok) | (apply Run.sliceStop; apply RunSem.litI T_ok; rotate_left; rfl; rfl; rfl) | (apply AList.sliceStop; apply AListSem.litI T_ok; rotate_left; rfl; rfl; rfl) | (apply Run.semStop; apply RunSem.rangeStr T_ok) | (apply Run.semStop; apply RunSem.nextStr T_ok) | apply Run.condP | apply Sx.Ends.by () | (apply Run.drawStop; apply RunSem.drawW (id := 22) T_ok mix [(.fl, 0), (.fl, 1), (.fl, 2), (.fl, 3), (.fl, 4), (.fl, 5), (.mn, 6), (.fl, 7), (.fl, 8), (.fl, 9), (.fl, 10), (.fl, 11), (.fl, 12), (.fl, 13), (.fl, 14), (.fl, 15), (.fl, 16), (.fl, 17), (.fl, 18), (.fl, 19), (.fl, 20), (.fl, 21), (.fl, 22), (.fl, 23), (.fl, 24)] [] (by kernel_rfl) (by rfl)) | (apply MJ.none T_ok) | (apply MJ.some T_ok) | (apply DSem.nilW T_ok) | (apply DSem.flI T_ok; rfl; rotate_left; rfl; rfl; rfl) | (apply DSem.flW T_ok; rfl; rfl) | (apply DSem.flG T_ok; rfl; rfl) | (apply DSem.mnW T_ok; rfl) | (apply DSem.alW T_ok) | (apply FlW.q; rfl; rfl) | (apply FlW.g; rfl; rfl) | (apply FlW.l; rfl; rotate_left; rfl; rfl; rfl; rfl) | constructor | intro _)
    · rename_i hlt2 _ _ _ _ hbad
      rw [hgR k (by omega) (by
        unfold fitR
        rw [decide_eq_false]
        rintro ⟨h1, h2, _⟩
        rcases hbad with h | h
        · exact h h1
        · exact h.2 (h2 h.1))]
    · rename_i hgood
      apply RunSem.lend T_ok hF (fun _ => ⟨rfl, rfl⟩)
      all_goals repeat' (first | assumption | exact fun h : ¬ True => absurd trivial h | exact fun h : False => h.elim | exact sd (by first | omega | (simp only []; omega) | (simp only [List.length_append, List.length_cons, List.length_nil, List.length_take, List.length_drop, List.length_map, List.length_range, List.length_set]; omega)) | exact sp (fun h => by simp [PathHolds] at h; omega) | exact sp (fun h => by simp [PathHolds, -List.getD_eq_getElem?_getD] at h; omega) | exact sd rfl | exact sd ⟨rfl, by decide⟩ | exact sd trivial | (show Nat.beq _ _ = true; rfl) | exact Bin.x rfl | (apply Run.nilStop rfl; apply RunSem.eqNil T_ok) | refine Run.storeStop rfl ?_ | (apply Run.mapStop; apply RunSem.mapSet T_ok) | (apply Run.newMapStop; apply RunSem.newMap T_ok) | (apply Run.sliceStop; apply RunSem.litI T_ok; rotate_left; rfl; rfl; rfl) | (apply AList.sliceStop; apply AListSem.litI T_ok; rotate_left; rfl; rfl; rfl) | (apply Run.semStop; apply RunSem.rangeStr T_ok) | (apply Run.semStop; apply RunSem.nextStr T_ok) | apply Run.condP | apply Sx.Ends.by () | (apply Run.drawStop; apply RunSem.drawW (id := 22) T_ok mix [(.fl, 0), (.fl, 1), (.fl, 2), (.fl, 3), (.fl, 4), (.fl, 5), (.mn, 6), (.fl, 7), (.fl, 8), (.fl, 9), (.fl, 10), (.fl, 11), (.fl, 12), (.fl, 13), (.fl, 14), (.fl, 15), (.fl, 16), (.fl, 17), (.fl, 18), (.fl, 19), (.fl, 20), (.fl, 21), (.fl, 22), (.fl, 23), (.fl, 24)] [] (by kernel_rfl) (by rfl)) | (apply MJ.none T_ok) | (apply MJ.some T_ok) | (apply DSem.nilW T_ok) | (apply DSem.flI T_ok; rfl; rotate_left; rfl; rfl; rfl) | (apply DSem.flW T_ok; rfl; rfl) | (apply DSem.flG T_ok; rfl; rfl) | (apply DSem.mnW T_ok; rfl) | (apply DSem.alW T_ok) | (apply FlW.q; rfl; rfl) | (apply FlW.g; rfl; rfl) | (apply FlW.l; rfl; rotate_left; rfl; rfl; rfl; rfl) | constructor | intro _)
      · rename_i hbad
        rw [hgR k (by omega) (by
          unfold fitR
          rw [decide_eq_false]
          rintro ⟨_, _, h3⟩
          obtain ⟨h4, h5, h6⟩ := h3 hbad.1
          rcases hbad.2 with (h | h) | h
          · exact absurd (Int.lt_of_le_of_lt h4 h) (by decide)
          · exact h h5
          · exact h h6)]
      · rename_i hok
        apply AgainK.mk (k + 1)
        case' h4 => (try simp only [List.append_nil]); repeat' (first | exact tab_age _ _ _ | constructor)
        case' h3 => repeat' constructor
        case' h1 => first | omega | (dsimp only; omega)
        refine ⟨by omega, fun i hi => ?_⟩
        rcases Nat.lt_succ_iff_lt_or_eq.1 hi with h' | h'
        · exact hs i h'
        · subst h'
          unfold fitR
          rw [decide_eq_true_eq]
          refine ⟨Classical.byContradiction fun e => hgood (.inl e), fun h => Classical.byContradiction fun e => hgood (.inr ⟨h, e⟩), fun h => ⟨?_, ?_, ?_⟩⟩
          · exact Classical.byContradiction fun e => hok ⟨h, .inl (.inl (Int.not_le.1 e))⟩
          · exact Classical.byContradiction fun e => hok ⟨h, .inl (.inr e)⟩
          · exact Classical.byContradiction fun e => hok ⟨h, .inr e⟩
  · rename_i hge
    have hall : (List.range s.R.length).all (fitR s) = true := all_range_yes (fun i hi => hs i (by omega))
    have hgT : ∀ k, k < s.K.length → fitT s k = false → fitsP s = false := fun k h1 h2 => by rw [fitsP, all_range_no h1 h2, Bool.and_false]
    refine RunSem.loopK T_ok [1, 64, 65] (fun k : Nat => [(66, [], iv k)]) (fun _ => []) (fun k => k ≤ s.K.length ∧ ∀ i, i < k → fitT s i = true) (fun k => s.K.length - k) 0 ⟨by omega, by omega⟩ (by repeat' constructor) (by repeat' first | assumption | exact tab_age _ _ _ | constructor) (by repeat' first | assumption | exact tab_age _ _ _ | constructor) ?_
    dsimp only [List.cons_append, List.nil_append]
    rintro m ⟨hm, hst⟩
    have hM2 := within_ok (s.K.getD m dT).rb ((s.R.length : Int) - 1)
    have hF2 : ¬ (s.K.getD m dT).st = 1 → ((s.K.getD m dT).st = 2 ∨ (s.K.getD m dT).st = 3 ∨ (s.K.getD m dT).st = 4) → (¬ (0 ≤ (s.K.getD m dT).rb ∧ (s.K.getD m dT).rb ≤ (s.R.length : Int) - 1) ∨ ¬ (s.K.getD m dT).st = 4 ∧ ¬ (s.R.getD (s.K.getD m dT).rb.toNat dR).task = (s.K.getD m dT).id) → fitT s m = false := by
      intro h1 h2 h3
      unfold fitT
      rw [if_neg h1, if_pos h2, decide_eq_false]
      rintro ⟨h4, h5⟩
      rcases h3 with h3 | h3
      · exact h3 ⟨h4.1, by have h6 : (s.K.getD m dT).rb < s.R.length := h4.2; omega⟩
      · exact h5.elim h3.1 h3.2
    have hF3 : ¬ (s.K.getD m dT).st = 1 → ((s.K.getD m dT).st = 2 ∨ (s.K.getD m dT).st = 3 ∨ (s.K.getD m dT).st = 4) → ¬ (¬ (0 ≤ (s.K.getD m dT).rb ∧ (s.K.getD m dT).rb ≤ (s.R.length : Int) - 1) ∨ ¬ (s.K.getD m dT).st = 4 ∧ ¬ (s.R.getD (s.K.getD m dT).rb.toNat dR).task = (s.K.getD m dT).id) → fitT s m = true := by
      intro h1 h2 h3
      unfold fitT
      rw [if_neg h1, if_pos h2, decide_eq_true_eq]
      refine ⟨?_, ?_⟩
      · have : 0 ≤ (s.K.getD m dT).rb ∧ (s.K.getD m dT).rb ≤ (s.R.length : Int) - 1 := Classical.byContradiction fun e => h3 (.inl e)
        exact ⟨this.1, by show (s.K.getD m dT).rb < _; omega⟩
      · exact Classical.byContradiction fun e => h3 (.inr ⟨fun h => e (.inl h), fun h => e (.inr h)⟩)
    repeat' (first | assumption | exact fun h : ¬ True => absurd trivial h | exact fun h : False => h.elim | exact sd (by first | omega | (simp only []; omega) | (simp only [List.length_append, List.length_cons, List.length_nil, List.length_take, List.length_drop, List.length_map, List.length_range, List.length_set]; omega)) | exact sp (fun h => by simp [PathHolds] at h; omega) | exact sp (fun h => by simp [PathHolds, -List.getD_eq_getElem?_getD] at h; omega) | exact sd rfl | exact sd ⟨rfl, by decide⟩ | exact sd trivial | (show Nat.beq _ _ = true; rfl) | exact Bin.x rfl | (apply Run.nilStop rfl; apply RunSem.eqNil T_ok) | refine Run.storeStop rfl ?_ | (apply Run.mapStop; apply RunSem.mapSet T_ok) | (apply Run.newMapStop; apply RunSem.newMap T_ok) | (apply Run.sliceStop; apply RunSem.litI T_ok; rotate_left; rfl; rfl; rfl) | (apply AList.sliceStop; apply AListSem.litI T_ok; rotate_left; rfl; rfl; rfl) | (apply Run.semStop; apply RunSem.rangeStr T_ok) | (apply Run.semStop; apply RunSem.nextStr T_ok) | apply Run.condP | apply Sx.Ends.by () | (apply Run.drawStop; apply RunSem.drawW (id := 22) T_ok mix [(.fl, 0), (.fl, 1), (.fl, 2), (.fl, 3), (.fl, 4), (.fl, 5), (.mn, 6), (.fl, 7), (.fl, 8), (.fl, 9), (.fl, 10), (.fl, 11), (.fl, 12), (.fl, 13), (.fl, 14), (.fl, 15), (.fl, 16), (.fl, 17), (.fl, 18), (.fl, 19), (.fl, 20), (.fl, 21), (.fl, 22), (.fl, 23), (.fl, 24)] [] (by kernel_rfl) (by rfl)) | (apply MJ.none T_ok) | (apply MJ.some T_ok) | (apply DSem.nilW T_ok) | (apply DSem.flI T_ok; rfl; rotate_left; rfl; rfl; rfl) | (apply DSem.flW T_ok; rfl; rfl) | (apply DSem.flG T_ok; rfl; rfl) | (apply DSem.mnW T_ok; rfl) | (apply DSem.alW T_ok) | (apply FlW.q; rfl; rfl) | (apply FlW.g; rfl; rfl) | (apply FlW.l; rfl; rotate_left; rfl; rfl; rfl; rfl) | constructor | intro _)
    · rename_i h1 h2
      rw [hgT m (by omega) (by unfold fitT; rw [if_pos h1, decide_eq_false h2])]
    · rename_i h1 h2
      apply AgainK.mk (m + 1)
      case' h4 => (try simp only [List.append_nil]); repeat' (first | exact tab_age _ _ _ | constructor)
      case' h3 => repeat' constructor
      case' h1 => first | omega | (dsimp only; omega)
      refine ⟨by omega, fun i hi => ?_⟩
      rcases Nat.lt_succ_iff_lt_or_eq.1 hi with h' | h'
      · exact hst i h'
      · subst h'; unfold fitT; rw [if_pos h1]; exact decide_eq_true (Classical.not_not.1 h2)
    · first | apply RunSem.lend T_ok hM2 (fun _ => ⟨rfl, rfl⟩) | apply RunSem.callG T_ok (lend := true) (isV_fun hM2) (fun _ => rfl) rfl | apply AListSem.call T_ok (lend := true) (isV_fun hM2) (fun _ => rfl) rfl | apply AListSem.callG T_ok (lend := true) (isV_fun hM2) (fun _ => rfl) rfl
      all_goals repeat' (first | assumption | exact fun h : ¬ True => absurd trivial h | exact fun h : False => h.elim | exact sd (by first | omega | (simp only []; omega) | (simp only [List.length_append, List.length_cons, List.length_nil, List.length_take, List.length_drop, List.length_map, List.length_range, List.length_set]; omega)) | exact sp (fun h => by simp [PathHolds] at h; omega) | exact sp (fun h => by simp [PathHolds, -List.getD_eq_getElem?_getD] at h; omega) | exact sd rfl | exact sd ⟨rfl, by decide⟩ | exact sd trivial | (show Nat.beq _ _ = true; rfl) | exact Bin.x rfl | (apply Run.nilStop rfl; apply RunSem.eqNil T_ok) | refine Run.storeStop rfl ?_ | (apply Run.mapStop; apply RunSem.mapSet T_ok) | (apply Run.newMapStop; apply RunSem.newMap T_ok) | (apply Run.sliceStop; apply RunSem.litI T_ok; rotate_left; rfl; rfl; rfl) | (apply AList.sliceStop; apply AListSem.litI T_ok; rotate_left; rfl; rfl; rfl) | (apply Run.semStop; apply RunSem.rangeStr T_ok) | (apply Run.semStop; apply RunSem.nextStr T_ok) | apply Run.condP | apply Sx.Ends.by () | (apply Run.drawStop; apply RunSem.drawW (id := 22) T_ok mix [(.fl, 0), (.fl, 1), (.fl, 2), (.fl, 3), (.fl, 4), (.fl, 5), (.mn, 6), (.fl, 7), (.fl, 8), (.fl, 9), (.fl, 10), (.fl, 11), (.fl, 12), (.fl, 13), (.fl, 14), (.fl, 15), (.fl, 16), (.fl, 17), (.fl, 18), (.fl, 19), (.fl, 20), (.fl, 21), (.fl, 22), (.fl, 23), (.fl, 24)] [] (by kernel_rfl) (by rfl)) | (apply MJ.none T_ok) | (apply MJ.some T_ok) | (apply DSem.nilW T_ok) | (apply DSem.flI T_ok; rfl; rotate_left; rfl; rfl; rfl) | (apply DSem.flW T_ok; rfl; rfl) | (apply DSem.flG T_ok; rfl; rfl) | (apply DSem.mnW T_ok; rfl) | (apply DSem.alW T_ok) | (apply FlW.q; rfl; rfl) | (apply FlW.g; rfl; rfl) | (apply FlW.l; rfl; rotate_left; rfl; rfl; rfl; rfl) | constructor | intro _)
      · rename_i hbad
        rw [hgT m (by omega) (hF2 (by omega) (by omega) hbad)]
      · rename_i hok
        apply AgainK.mk (m + 1)
        case' h4 => (try simp only [List.append_nil]); repeat' (first | exact tab_age _ _ _ | constructor)
        case' h3 => repeat' constructor
        case' h1 => first | omega | (dsimp only; omega)
        refine ⟨by omega, fun i hi => ?_⟩
        rcases Nat.lt_succ_iff_lt_or_eq.1 hi with h' | h'
        · exact hst i h'
        · subst h'; exact hF3 (by omega) (by omega) hok
    · exfalso; omega
    · first | apply RunSem.lend T_ok hM2 (fun _ => ⟨rfl, rfl⟩) | apply RunSem.callG T_ok (lend := true) (isV_fun hM2) (fun _ => rfl) rfl | apply AListSem.call T_ok (lend := true) (isV_fun hM2) (fun _ => rfl) rfl | apply AListSem.callG T_ok (lend := true) (isV_fun hM2) (fun _ => rfl) rfl
      all_goals repeat' (first | assumption | exact fun h : ¬ True => absurd trivial h | exact fun h : False => h.elim | exact sd (by first | omega | (simp only []; omega) | (simp only [List.length_append, List.length_cons, List.length_nil, List.length_take, List.length_drop, List.length_map, List.length_range, List.length_set]; omega)) | exact sp (fun h => by simp [PathHolds] at h; omega) | exact sp (fun h => by simp [PathHolds, -List.getD_eq_getElem?_getD] at h; omega) | exact sd rfl | exact sd ⟨rfl, by decide⟩ | exact sd trivial | (show Nat.beq _ _ = true; rfl) | exact Bin.x rfl | (apply Run.nilStop rfl; apply RunSem.eqNil T_ok) | refine Run.storeStop rfl ?_ | (apply Run.mapStop; apply RunSem.mapSet T_ok) | (apply Run.newMapStop; apply RunSem.newMap T_ok) | (apply Run.sliceStop; apply RunSem.litI T_ok; rotate_left; rfl; rfl; rfl) | (apply AList.sliceStop; apply AListSem.litI T_ok; rotate_left; rfl; rfl; rfl) | (apply Run.semStop; apply RunSem.rangeStr T_ok) | (apply Run.semStop; apply RunSem.nextStr T_ok) | apply Run.condP | apply Sx.Ends.by () | (apply Run.drawStop; apply RunSem.drawW (id := 22) T_ok mix [(.fl, 0), (.fl, 1), (.fl, 2), (.fl, 3), (.fl, 4), (.fl, 5), (.mn, 6), (.fl, 7), (.fl, 8), (.fl, 9), (.fl, 10), (.fl, 11), (.fl, 12), (.fl, 13), (.fl, 14), (.fl, 15), (.fl, 16), (.fl, 17), (.fl, 18), (.fl, 19), (.fl, 20), (.fl, 21), (.fl, 22), (.fl, 23), (.fl, 24)] [] (by kernel_rfl) (by rfl)) | (apply MJ.none T_ok) | (apply MJ.some T_ok) | (apply DSem.nilW T_ok) | (apply DSem.flI T_ok; rfl; rotate_left; rfl; rfl; rfl) | (apply DSem.flW T_ok; rfl; rfl) | (apply DSem.flG T_ok; rfl; rfl) | (apply DSem.mnW T_ok; rfl) | (apply DSem.alW T_ok) | (apply FlW.q; rfl; rfl) | (apply FlW.g; rfl; rfl) | (apply FlW.l; rfl; rotate_left; rfl; rfl; rfl; rfl) | constructor | intro _)
      · rename_i hbad
        rw [hgT m (by omega) (hF2 (by omega) (by omega) hbad)]
      · rename_i hok
        apply AgainK.mk (m + 1)
        case' h4 => (try simp only [List.append_nil]); repeat' (first | exact tab_age _ _ _ | constructor)
        case' h3 => repeat' constructor
        case' h1 => first | omega | (dsimp only; omega)
        refine ⟨by omega, fun i hi => ?_⟩
        rcases Nat.lt_succ_iff_lt_or_eq.1 hi with h' | h'
        · exact hst i h'
        · subst h'; exact hF3 (by omega) (by omega) hok
    · exfalso; omega
    · first | apply RunSem.lend T_ok hM2 (fun _ => ⟨rfl, rfl⟩) | apply RunSem.callG T_ok (lend := true) (isV_fun hM2) (fun _ => rfl) rfl | apply AListSem.call T_ok (lend := true) (isV_fun hM2) (fun _ => rfl) rfl | apply AListSem.callG T_ok (lend := true) (isV_fun hM2) (fun _ => rfl) rfl
      all_goals repeat' (first | assumption | exact fun h : ¬ True => absurd trivial h | exact fun h : False => h.elim | exact sd (by first | omega | (simp only []; omega) | (simp only [List.length_append, List.length_cons, List.length_nil, List.length_take, List.length_drop, List.length_map, List.length_range, List.length_set]; omega)) | exact sp (fun h => by simp [PathHolds] at h; omega) | exact sp (fun h => by simp [PathHolds, -List.getD_eq_getElem?_getD] at h; omega) | exact sd rfl | exact sd ⟨rfl, by decide⟩ | exact sd trivial | (show Nat.beq _ _ = true; rfl) | exact Bin.x rfl | (apply Run.nilStop rfl; apply RunSem.eqNil T_ok) | refine Run.storeStop rfl ?_ | (apply Run.mapStop; apply RunSem.mapSet T_ok) | (apply Run.newMapStop; apply RunSem.newMap T_ok) | (apply Run.sliceStop; apply RunSem.litI T_ok; rotate_left; rfl; rfl; rfl) | (apply AList.sliceStop; apply AListSem.litI T_ok; rotate_left; rfl; rfl; rfl) | (apply Run.semStop; apply RunSem.rangeStr T_ok) | (apply Run.semStop; apply RunSem.nextStr T_ok) | apply Run.condP | apply Sx.Ends.by () | (apply Run.drawStop; apply RunSem.drawW (id := 22) T_ok mix [(.fl, 0), (.fl, 1), (.fl, 2), (.fl, 3), (.fl, 4), (.fl, 5), (.mn, 6), (.fl, 7), (.fl, 8), (.fl, 9), (.fl, 10), (.fl, 11), (.fl, 12), (.fl, 13), (.fl, 14), (.fl, 15), (.fl, 16), (.fl, 17), (.fl, 18), (.fl, 19), (.fl, 20), (.fl, 21), (.fl, 22), (.fl, 23), (.fl, 24)] [] (by kernel_rfl) (by rfl)) | (apply MJ.none T_ok) | (apply MJ.some T_ok) | (apply DSem.nilW T_ok) | (apply DSem.flI T_ok; rfl; rotate_left; rfl; rfl; rfl) | (apply DSem.flW T_ok; rfl; rfl) | (apply DSem.flG T_ok; rfl; rfl) | (apply DSem.mnW T_ok; rfl) | (apply DSem.alW T_ok) | (apply FlW.q; rfl; rfl) | (apply FlW.g; rfl; rfl) | (apply FlW.l; rfl; rotate_left; rfl; rfl; rfl; rfl) | constructor | intro _)
      · rename_i hbad
        rw [hgT m (by omega) (hF2 (by omega) (by omega) hbad)]
      · rename_i hok
        apply AgainK.mk (m + 1)
        case' h4 => (try simp only [List.append_nil]); repeat' (first | exact tab_age _ _ _ | constructor)
        case' h3 => repeat' constructor
        case' h1 => first | omega | (dsimp only; omega)
        refine ⟨by omega, fun i hi => ?_⟩
        rcases Nat.lt_succ_iff_lt_or_eq.1 hi with h' | h'
        · exact hst i h'
        · subst h'; exact hF3 (by omega) (by omega) hok
    · rename_i h1 h2 h3 h4
      rw [hgT m (by omega) (by unfold fitT; rw [if_neg h1, if_neg (show ¬ ((s.K.getD m dT).st = 2 ∨ (s.K.getD m dT).st = 3 ∨ (s.K.getD m dT).st = 4) by omega)])]
    · rename_i hge2
      rw [fitsP, hall, all_range_yes (n := s.K.length) (fun i hi => hst i (by omega))]
      rfl
end Go.Proofs.Ytmnnejkcgdfjiaa
