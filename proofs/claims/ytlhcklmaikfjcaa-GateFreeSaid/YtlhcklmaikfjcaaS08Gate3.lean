import Derived.Test.YtlhcklmaikfjcaaS08Gate2
set_option linter.all false
set_option linter.all false
namespace Go.Proofs.Ytlhcklmaikfjcaa
open Go.Sx
attribute [local irreducible] RunSem AListSem AgainK Again Side Sx.Ends IntKind.wrap
theorem Gate_ok (c w bl : List Int) (hc : c.length ≤ 1000000000) (hw : w.length ≤ 1000000000) (hb : bl.length ≤ 1000000000) : Sat Try.prog 8 [DI c, DI w, DI bl] [] (intsE (gateB c w bl).1 (gateB c w bl).2) := by
  refine Sat.of T_ok Try.func8 Try.call8 rfl rfl rfl ?_
  repeat' (first | assumption | exact sd (by first | omega | (simp only []; omega) | (simp only [List.length_append, List.length_cons, List.length_nil, List.length_take, List.length_drop, List.length_map, List.length_range]; omega)) | exact sp (fun h => by simp [PathHolds] at h; omega) | exact sd rfl | exact sd ⟨rfl, by decide⟩ | exact sd trivial | exact Bin.x rfl | (apply Run.nilStop rfl; apply RunSem.eqNil T_ok) | refine Run.storeStop rfl ?_ | (apply Run.mapStop; apply RunSem.mapSet T_ok) | (apply Run.newMapStop; apply RunSem.newMap T_ok) | (apply Run.sliceStop; apply RunSem.litI T_ok) | (apply AList.sliceStop; apply AListSem.litI T_ok) | apply Run.condP | apply Sx.Ends.by () | (apply Run.drawStop; refine RunSem.drawBy (id := 24) T_ok mix 10 (by kernel_rfl) ?_) | constructor | intro _)
  · rename_i hne
    apply Sx.Ends.by (.slice none 0 0)
    all_goals repeat' (first | assumption | exact sd (by first | omega | (simp only []; omega) | (simp only [List.length_append, List.length_cons, List.length_nil, List.length_take, List.length_drop, List.length_map, List.length_range]; omega)) | exact sp (fun h => by simp [PathHolds] at h; omega) | exact sd rfl | exact sd ⟨rfl, by decide⟩ | exact sd trivial | exact Bin.x rfl | (apply Run.nilStop rfl; apply RunSem.eqNil T_ok) | refine Run.storeStop rfl ?_ | (apply Run.mapStop; apply RunSem.mapSet T_ok) | (apply Run.newMapStop; apply RunSem.newMap T_ok) | (apply Run.sliceStop; apply RunSem.litI T_ok) | (apply AList.sliceStop; apply AListSem.litI T_ok) | apply Run.condP | apply Sx.Ends.by () | (apply Run.drawStop; refine RunSem.drawBy (id := 24) T_ok mix 10 (by kernel_rfl) ?_) | constructor | intro _)
    · rw [gateB, if_pos (by omega)]
    · rw [gateB, if_pos (by omega)]
  · apply RunSem.lend T_ok (Clone_ok w (by omega)) (fun _ => ⟨rfl, rfl⟩)
    all_goals repeat' (first | assumption | exact sd (by first | omega | (simp only []; omega) | (simp only [List.length_append, List.length_cons, List.length_nil, List.length_take, List.length_drop, List.length_map, List.length_range]; omega)) | exact sp (fun h => by simp [PathHolds] at h; omega) | exact sd rfl | exact sd ⟨rfl, by decide⟩ | exact sd trivial | exact Bin.x rfl | (apply Run.nilStop rfl; apply RunSem.eqNil T_ok) | refine Run.storeStop rfl ?_ | (apply Run.mapStop; apply RunSem.mapSet T_ok) | (apply Run.newMapStop; apply RunSem.newMap T_ok) | (apply Run.sliceStop; apply RunSem.litI T_ok) | (apply AList.sliceStop; apply AListSem.litI T_ok) | apply Run.condP | apply Sx.Ends.by () | (apply Run.drawStop; refine RunSem.drawBy (id := 24) T_ok mix 10 (by kernel_rfl) ?_) | constructor | intro _)
    rename_i v _ rw_ rs b
    have hl : c.length = w.length := by omega
    refine RunSem.loopK T_ok [0, 2, 8, 30, 31] (fun i : Nat => [(32, [], iv i)]) (fun i => [.mp rw_ false (kInt .i64) false 1 (encI .i64) (whoG c i)]) (fun i => i ≤ c.length ∧ (c.take i).Nodup) (fun i => c.length - i) 0 ⟨by omega, by simp⟩ (by repeat' constructor) (by repeat' constructor) (by repeat' constructor) ?_
    dsimp only [List.cons_append, List.nil_append]
    rintro i ⟨hi, hnd⟩
    repeat' (first | assumption | exact sd (by first | omega | (simp only []; omega) | (simp only [List.length_append, List.length_cons, List.length_nil, List.length_take, List.length_drop, List.length_map, List.length_range]; omega)) | exact sp (fun h => by simp [PathHolds] at h; omega) | exact sd rfl | exact sd ⟨rfl, by decide⟩ | exact sd trivial | exact Bin.x rfl | (apply Run.nilStop rfl; apply RunSem.eqNil T_ok) | refine Run.storeStop rfl ?_ | (apply Run.mapStop; apply RunSem.mapSet T_ok) | (apply Run.newMapStop; apply RunSem.newMap T_ok) | (apply Run.sliceStop; apply RunSem.litI T_ok) | (apply AList.sliceStop; apply AListSem.litI T_ok) | apply Run.condP | apply Sx.Ends.by () | (apply Run.drawStop; refine RunSem.drawBy (id := 24) T_ok mix 10 (by kernel_rfl) ?_) | constructor | intro _)
    · rename_i hlt his
      have hnn : ¬ c.Nodup := by
        refine not_nodup_take (k := i) (by omega) ?_
        cases hg : mget (whoG c i) (c.getD i 0) with
        | none => rw [hg] at his; cases his
        | some v =>
          obtain ⟨j, h1, _, h2⟩ := whoG_some c _ _ i hg
          rw [← h2]
          exact getD_mem_take h1 hi
      have hG : gateB c w bl = ([], 6) := by rw [gateB, if_neg (by omega), if_pos hnn]
      rw [hG]
      apply Sx.Ends.by (.slice none 0 0)
      all_goals repeat' (first | assumption | exact sd (by first | omega | (simp only []; omega) | (simp only [List.length_append, List.length_cons, List.length_nil, List.length_take, List.length_drop, List.length_map, List.length_range]; omega)) | exact sp (fun h => by simp [PathHolds] at h; omega) | exact sd rfl | exact sd ⟨rfl, by decide⟩ | exact sd trivial | exact Bin.x rfl | (apply Run.nilStop rfl; apply RunSem.eqNil T_ok) | refine Run.storeStop rfl ?_ | (apply Run.mapStop; apply RunSem.mapSet T_ok) | (apply Run.newMapStop; apply RunSem.newMap T_ok) | (apply Run.sliceStop; apply RunSem.litI T_ok) | (apply AList.sliceStop; apply AListSem.litI T_ok) | apply Run.condP | apply Sx.Ends.by () | (apply Run.drawStop; refine RunSem.drawBy (id := 24) T_ok mix 10 (by kernel_rfl) ?_) | constructor | intro _)
    · rename_i hlt his
      apply AgainK.mk (i + 1)
      case' h4 => repeat' constructor
      case' h3 => repeat' constructor
      case' h1 => first | omega | (dsimp only; omega)
      refine ⟨by omega, nodup_take_succ (by omega) hnd (fun hm => ?_)⟩
      obtain ⟨j, h1, h2, h3⟩ := mem_take_getD hm
      cases hg : mget (whoG c i) (c.getD i 0) with
      | none => exact whoG_none c _ i hg j h1 h3
      | some v => rw [hg] at his; exact his rfl
    · rename_i hlt
      have hie : i = c.length := by omega
      subst hie
      rw [List.take_length] at hnd
      refine RunSem.loopK T_ok [0, 8, 54, 55] (fun x : Nat × List (Int × Bool) => [(56, [], iv x.1)]) (fun x => [.mp rs false (kInt .i64) false 1 encBo x.2]) (fun x => x.1 ≤ bl.length ∧ shutG (bl.drop x.1) x.2 = shutG bl []) (fun x => bl.length - x.1) (0, []) ⟨by omega, rfl⟩ (by repeat' constructor) (by repeat' constructor) (by repeat' constructor) ?_
      dsimp only [List.cons_append, List.nil_append]
      rintro ⟨k, es⟩ ⟨hk, hes⟩
      try dsimp only at *
      repeat' (first | assumption | exact sd (by first | omega | (simp only []; omega) | (simp only [List.length_append, List.length_cons, List.length_nil, List.length_take, List.length_drop, List.length_map, List.length_range]; omega)) | exact sp (fun h => by simp [PathHolds] at h; omega) | exact sd rfl | exact sd ⟨rfl, by decide⟩ | exact sd trivial | exact Bin.x rfl | (apply Run.nilStop rfl; apply RunSem.eqNil T_ok) | refine Run.storeStop rfl ?_ | (apply Run.mapStop; apply RunSem.mapSet T_ok) | (apply Run.newMapStop; apply RunSem.newMap T_ok) | (apply Run.sliceStop; apply RunSem.litI T_ok) | (apply AList.sliceStop; apply AListSem.litI T_ok) | apply Run.condP | apply Sx.Ends.by () | (apply Run.drawStop; refine RunSem.drawBy (id := 24) T_ok mix 10 (by kernel_rfl) ?_) | constructor | intro _)
      · rename_i hlt2
        apply AgainK.mk ((k + 1, mset es (bl.getD k 0) true))
        case' h4 => repeat' constructor
        case' h3 => repeat' constructor
        case' h1 => first | omega | (dsimp only; omega)
        refine ⟨by dsimp only; omega, ?_⟩
        rw [← hes, List.drop_eq_getElem_cons (show k < bl.length by omega), shutG]
        simp [List.getD, show k < bl.length by omega]
      · rename_i hlt2
        have hke : k = bl.length := by omega
        subst hke
        rw [List.drop_length, shutG] at hes
        subst hes
        refine RunSem.loopK T_ok [0, 8] (fun x : Nat × List Int × Value => []) (fun x => [.box b [DI c, .o v, .v (.map (some rw_)), .v x.2.2, .v (.map (some rs))], .row v false 3 1 (encI .i64) 0 x.2.1]) (fun x => x.2.1.length = c.length ∧ movers c x.2.1 < x.1 ∧ gateGo c bl x.1 x.2.1 = gateGo c bl (c.length + 1) w ∧ oneV x.2.2 = true) (fun x => x.1) (c.length + 1, w, .map none) ⟨hl.symm, by have := movers_le c w; dsimp only; omega, rfl, rfl⟩ (by repeat' constructor) (by repeat' constructor) (by repeat' constructor) ?_
        dsimp only [List.cons_append, List.nil_append]
        rintro ⟨f, now, fz⟩ ⟨hnl, hmv, hgo, hfz⟩
        try dsimp only at *
        repeat' (first | assumption | exact sd (by first | omega | (simp only []; omega) | (simp only [List.length_append, List.length_cons, List.length_nil, List.length_take, List.length_drop, List.length_map, List.length_range]; omega)) | exact sp (fun h => by simp [PathHolds] at h; omega) | exact sd rfl | exact sd ⟨rfl, by decide⟩ | exact sd trivial | exact Bin.x rfl | (apply Run.nilStop rfl; apply RunSem.eqNil T_ok) | refine Run.storeStop rfl ?_ | (apply Run.mapStop; apply RunSem.mapSet T_ok) | (apply Run.newMapStop; apply RunSem.newMap T_ok) | (apply Run.sliceStop; apply RunSem.litI T_ok) | (apply AList.sliceStop; apply AListSem.litI T_ok) | apply Run.condP | apply Sx.Ends.by () | (apply Run.drawStop; refine RunSem.drawBy (id := 24) T_ok mix 10 (by kernel_rfl) ?_) | constructor | intro _)
        apply RunSem.call T_ok (look_ok b c v now rw_ rs (whoG c c.length) (shutG bl []) fz hfz (by omega) (by omega))
        all_goals repeat' (first | assumption | exact sd (by first | omega | (simp only []; omega) | (simp only [List.length_append, List.length_cons, List.length_nil, List.length_take, List.length_drop, List.length_map, List.length_range]; omega)) | exact sp (fun h => by simp [PathHolds] at h; omega) | exact sd rfl | exact sd ⟨rfl, by decide⟩ | exact sd trivial | exact Bin.x rfl | (apply Run.nilStop rfl; apply RunSem.eqNil T_ok) | refine Run.storeStop rfl ?_ | (apply Run.mapStop; apply RunSem.mapSet T_ok) | (apply Run.newMapStop; apply RunSem.newMap T_ok) | (apply Run.sliceStop; apply RunSem.litI T_ok) | (apply AList.sliceStop; apply AListSem.litI T_ok) | apply Run.condP | apply Sx.Ends.by () | (apply Run.drawStop; refine RunSem.drawBy (id := 24) T_ok mix 10 (by kernel_rfl) ?_) | constructor | intro _)
        rename_i rf _
        have hC := chosen_ok (c.length : Int) (by omega) 16 #[.pointer (some ⟨b, 0, none⟩)] #[] (crowdS b c v now rw_ rf rs (whoG c c.length) (firstG c now now.length) (shutG bl [])) rfl (kept1 c bl now)
          (fun k hk => by
            rw [← keptG_eq c bl now hnl.symm hnd k (by omega)]
            exact kept_ok b c v now rw_ rf rs (whoG c c.length) (firstG c now now.length) (shutG bl []) k hnl.symm (by omega) (fun x z h => by
              obtain ⟨j, h1, rfl, _⟩ := whoG_some c _ _ _ h
              omega))
        rw [Int.toNat_natCast] at hC
        apply RunSem.call T_ok hC
        all_goals repeat' (first | assumption | exact sd (by first | omega | (simp only []; omega) | (simp only [List.length_append, List.length_cons, List.length_nil, List.length_take, List.length_drop, List.length_map, List.length_range]; omega)) | exact sp (fun h => by simp [PathHolds] at h; omega) | exact sd rfl | exact sd ⟨rfl, by decide⟩ | exact sd trivial | exact Bin.x rfl | (apply Run.nilStop rfl; apply RunSem.eqNil T_ok) | refine Run.storeStop rfl ?_ | (apply Run.mapStop; apply RunSem.mapSet T_ok) | (apply Run.newMapStop; apply RunSem.newMap T_ok) | (apply Run.sliceStop; apply RunSem.litI T_ok) | (apply AList.sliceStop; apply AListSem.litI T_ok) | apply Run.condP | apply Sx.Ends.by () | (apply Run.drawStop; refine RunSem.drawBy (id := 24) T_ok mix 10 (by kernel_rfl) ?_) | constructor | intro _)
        · rename_i v2 _ hem
          have hE : (List.range c.length).filter (kept1 c bl now) = [] := List.eq_nil_of_length_eq_zero (by omega)
          obtain ⟨f, rfl⟩ : ∃ f', f = f' + 1 := ⟨f - 1, by omega⟩
          rw [gateGo, any_filter, hE] at hgo
          simp at hgo
          have hG : gateB c w bl = (now, 0) := by rw [gateB, if_neg (by omega), if_neg (by simpa using hnd), ← hgo]
          rw [hG]
          apply Sx.Ends.by v
          all_goals repeat' (first | assumption | exact sd (by first | omega | (simp only []; omega) | (simp only [List.length_append, List.length_cons, List.length_nil, List.length_take, List.length_drop, List.length_map, List.length_range]; omega)) | exact sp (fun h => by simp [PathHolds] at h; omega) | exact sd rfl | exact sd ⟨rfl, by decide⟩ | exact sd trivial | exact Bin.x rfl | (apply Run.nilStop rfl; apply RunSem.eqNil T_ok) | refine Run.storeStop rfl ?_ | (apply Run.mapStop; apply RunSem.mapSet T_ok) | (apply Run.newMapStop; apply RunSem.newMap T_ok) | (apply Run.sliceStop; apply RunSem.litI T_ok) | (apply AList.sliceStop; apply AListSem.litI T_ok) | apply Run.condP | apply Sx.Ends.by () | (apply Run.drawStop; refine RunSem.drawBy (id := 24) T_ok mix 10 (by kernel_rfl) ?_) | constructor | intro _)
        · rename_i v2 _ hem
          have hE : (List.range c.length).filter (kept1 c bl now) ≠ [] := fun e => by rw [e] at hem; exact hem rfl
          have hlt3 : ∀ i ∈ (List.range c.length).filter (kept1 c bl now), i < c.length := fun i hi => by have := (List.mem_filter.1 hi).1; simpa using this
          have hrd := setL_round c bl now hnl.symm
          generalize hL : (List.range c.length).filter (kept1 c bl now) = L at hE hlt3 hrd
          refine RunSem.loopK T_ok [0, 8, 80, 81] (fun x : Nat × List Int => [(82, [], iv x.1)]) (fun x => [.row v false 3 1 (encI .i64) 0 x.2]) (fun x => x.1 ≤ L.length ∧ x.2.length = c.length ∧ setL c (L.drop x.1) x.2 = setL c L now) (fun x => L.length - x.1) (0, now) ⟨by omega, hnl, rfl⟩ (by repeat' constructor) (by repeat' constructor) (by repeat' constructor) ?_
          dsimp only [List.cons_append, List.nil_append]
          rintro ⟨j, cur⟩ ⟨hj, hcl, hset⟩
          try dsimp only at *
          have hLl : L.length ≤ c.length := by rw [← hL]; simpa using List.length_filter_le (kept1 c bl now) (List.range c.length)
          have hg3 : j < L.length → L.getD j 0 < c.length := fun h => by rw [List.getD, List.getElem?_eq_getElem h]; exact hlt3 _ (List.getElem_mem h)
          repeat' (first | assumption | exact sd (by first | omega | (simp only []; omega) | (simp only [List.length_append, List.length_cons, List.length_nil, List.length_take, List.length_drop, List.length_map, List.length_range]; omega)) | exact sp (fun h => by simp [PathHolds] at h; omega) | exact sd rfl | exact sd ⟨rfl, by decide⟩ | exact sd trivial | exact Bin.x rfl | (apply Run.nilStop rfl; apply RunSem.eqNil T_ok) | refine Run.storeStop rfl ?_ | (apply Run.mapStop; apply RunSem.mapSet T_ok) | (apply Run.newMapStop; apply RunSem.newMap T_ok) | (apply Run.sliceStop; apply RunSem.litI T_ok) | (apply AList.sliceStop; apply AListSem.litI T_ok) | apply Run.condP | apply Sx.Ends.by () | (apply Run.drawStop; refine RunSem.drawBy (id := 24) T_ok mix 10 (by kernel_rfl) ?_) | constructor | intro _)
          · rename_i hj2
            apply RunSem.storeE T_ok (c.getD (L.getD j 0) 0)
            all_goals repeat' (first | assumption | exact sd (by first | omega | (simp only []; omega) | (simp only [List.length_append, List.length_cons, List.length_nil, List.length_take, List.length_drop, List.length_map, List.length_range]; omega)) | exact sp (fun h => by simp [PathHolds] at h; omega) | exact sd rfl | exact sd ⟨rfl, by decide⟩ | exact sd trivial | exact Bin.x rfl | (apply Run.nilStop rfl; apply RunSem.eqNil T_ok) | refine Run.storeStop rfl ?_ | (apply Run.mapStop; apply RunSem.mapSet T_ok) | (apply Run.newMapStop; apply RunSem.newMap T_ok) | (apply Run.sliceStop; apply RunSem.litI T_ok) | (apply AList.sliceStop; apply AListSem.litI T_ok) | apply Run.condP | apply Sx.Ends.by () | (apply Run.drawStop; refine RunSem.drawBy (id := 24) T_ok mix 10 (by kernel_rfl) ?_) | constructor | intro _)
            apply AgainK.mk ((j + 1, cur.set (L.getD j 0) (c.getD (L.getD j 0) 0)))
            case' h4 => repeat' constructor
            case' h3 => repeat' constructor
            case' h1 => first | omega | (dsimp only; omega)
            refine ⟨by dsimp only; omega, by simpa using hcl, ?_⟩
            rw [← hset, List.drop_eq_getElem_cons (show j < L.length by omega), setL]
            simp [List.getD, show j < L.length by omega]
          · rename_i hj2
            have hje : j = L.length := by omega
            subst hje
            rw [List.drop_length, setL, hrd] at hset
            subst hset
            obtain ⟨f, rfl⟩ : ∃ f', f = f' + 1 := ⟨f - 1, by omega⟩
            have hany : (List.range c.length).any (kept1 c bl now) = true := by
              rw [any_filter, hL]
              cases L with
              | nil => exact absurd rfl hE
              | cons => rfl
            have hm := movers_round c bl now hany
            rw [gateGo, if_pos hany] at hgo
            apply AgainK.mk ((f, round1 c bl now, .map (some rf)))
            case' h4 => repeat' constructor
            case' h3 => repeat' constructor
            case' h1 => first | omega | (dsimp only; omega)
            exact ⟨hcl, by dsimp only; omega, hgo, rfl⟩
end Go.Proofs.Ytlhcklmaikfjcaa
