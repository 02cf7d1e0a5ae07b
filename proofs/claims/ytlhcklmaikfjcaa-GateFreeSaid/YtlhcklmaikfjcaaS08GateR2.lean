import Derived.Test.YtlhcklmaikfjcaaS08GateR
set_option linter.all false
set_option linter.all false
namespace Go.Proofs.Ytlhcklmaikfjcaa
open Go.Sx
attribute [local irreducible] RunSem AListSem AgainK Again Side Sx.Ends IntKind.wrap
theorem refClash_ok (f t : List Int) (hf : f.length ≤ 1099511627776) (ht : t.length ≤ 1099511627776) : Sat Try.prog 11 [DI f, DI t] [] (Gives (ι := Unit) (fun _ => .t [iv (clashB f t).1, iv (clashB f t).2]) (fun _ => []) (fun _ => True)) := by
  refine Sat.of T_ok Try.func11 Try.call11 rfl rfl rfl ?_
  repeat' (first | assumption | exact sd (by first | omega | (simp only []; omega) | (simp only [List.length_append, List.length_cons, List.length_nil, List.length_take, List.length_drop, List.length_map, List.length_range]; omega)) | exact sp (fun h => by simp [PathHolds] at h; omega) | exact sd rfl | exact sd ⟨rfl, by decide⟩ | exact sd trivial | exact Bin.x rfl | (apply Run.nilStop rfl; apply RunSem.eqNil T_ok) | refine Run.storeStop rfl ?_ | (apply Run.mapStop; apply RunSem.mapSet T_ok) | (apply Run.newMapStop; apply RunSem.newMap T_ok) | (apply Run.sliceStop; apply RunSem.litI T_ok) | (apply AList.sliceStop; apply AListSem.litI T_ok) | apply Run.condP | apply Sx.Ends.by () | (apply Run.drawStop; refine RunSem.drawBy (id := 8) T_ok mix 31 (by kernel_rfl) ?_) | constructor | intro _)
  refine RunSem.loopK T_ok [0, 1, 6] (fun i : Nat => [(7, [], iv i)]) (fun _ => []) (fun i => i ≤ min f.length t.length ∧ clashGo f t (min f.length t.length) (min f.length t.length - i) i = clashB f t) (fun i => min f.length t.length - i) 0 ⟨by omega, rfl⟩ (by repeat' constructor) (by repeat' constructor) (by repeat' constructor) ?_
  dsimp only [List.cons_append, List.nil_append]
  rintro i ⟨hi, hg⟩
  repeat' (first | assumption | exact sd (by first | omega | (simp only []; omega) | (simp only [List.length_append, List.length_cons, List.length_nil, List.length_take, List.length_drop, List.length_map, List.length_range]; omega)) | exact sp (fun h => by simp [PathHolds] at h; omega) | exact sd rfl | exact sd ⟨rfl, by decide⟩ | exact sd trivial | exact Bin.x rfl | (apply Run.nilStop rfl; apply RunSem.eqNil T_ok) | refine Run.storeStop rfl ?_ | (apply Run.mapStop; apply RunSem.mapSet T_ok) | (apply Run.newMapStop; apply RunSem.newMap T_ok) | (apply Run.sliceStop; apply RunSem.litI T_ok) | (apply AList.sliceStop; apply AListSem.litI T_ok) | apply Run.condP | apply Sx.Ends.by () | (apply Run.drawStop; refine RunSem.drawBy (id := 8) T_ok mix 31 (by kernel_rfl) ?_) | constructor | intro _)
  · rename_i hlt
    have hstep : clashB f t = match clashK f t (min f.length t.length) i with | k :: _ => ((i : Int), (k : Int)) | [] => clashGo f t (min f.length t.length) (min f.length t.length - (i + 1)) (i + 1) := by
      rw [← hg, show min f.length t.length - i = (min f.length t.length - (i + 1)) + 1 by omega]; rfl
    refine RunSem.loopK T_ok [0, 1, 6, 7] (fun k : Nat => [(8, [], iv k)]) (fun _ => []) (fun k => i < k ∧ k ≤ min f.length t.length ∧ ∀ j, j < k → (decide (i < j) && meets1 f t i j) = false) (fun k => min f.length t.length - k) (i + 1) ⟨by omega, by omega, fun j hj => by rw [decide_eq_false (by omega)]; rfl⟩ (by repeat' constructor) (by repeat' constructor) (by repeat' constructor) ?_
    dsimp only [List.cons_append, List.nil_append]
    rintro k ⟨hik, hk, hno⟩
    have hyes : k < min f.length t.length → meets1 f t i k = true → clashB f t = ((i : Int), (k : Int)) := fun h1 h2 => by
      obtain ⟨l, e⟩ := filter_least (p := fun k => decide (i < k) && meets1 f t i k) h1 (by rw [h2, decide_eq_true hik]; rfl) hno
      rw [hstep, clashK, e]
    repeat' (first | assumption | exact sd (by first | omega | (simp only []; omega) | (simp only [List.length_append, List.length_cons, List.length_nil, List.length_take, List.length_drop, List.length_map, List.length_range]; omega)) | exact sp (fun h => by simp [PathHolds] at h; omega) | exact sd rfl | exact sd ⟨rfl, by decide⟩ | exact sd trivial | exact Bin.x rfl | (apply Run.nilStop rfl; apply RunSem.eqNil T_ok) | refine Run.storeStop rfl ?_ | (apply Run.mapStop; apply RunSem.mapSet T_ok) | (apply Run.newMapStop; apply RunSem.newMap T_ok) | (apply Run.sliceStop; apply RunSem.litI T_ok) | (apply AList.sliceStop; apply AListSem.litI T_ok) | apply Run.condP | apply Sx.Ends.by () | (apply Run.drawStop; refine RunSem.drawBy (id := 8) T_ok mix 31 (by kernel_rfl) ?_) | constructor | intro _)
    · rename_i h1 h2
      rw [hyes (by omega) (by rw [meets1, decide_eq_true_eq]; exact h2)]
    · rename_i h1 h2
      rw [hyes (by omega) (by rw [meets1, decide_eq_true_eq]; exact h2)]
    · rename_i h1 h2
      apply AgainK.mk (k + 1)
      case' h4 => repeat' constructor
      case' h3 => repeat' constructor
      case' h1 => first | omega | (dsimp only; omega)
      refine ⟨by omega, by omega, fun j hj => ?_⟩
      rcases Nat.lt_succ_iff_lt_or_eq.1 hj with h | h
      · exact hno j h
      · subst h
        rw [meets1, decide_eq_false h2, Bool.and_false]
    · rename_i h1
      have hke : k = min f.length t.length := by omega
      subst hke
      rw [clashK, filter_none hno] at hstep
      apply AgainK.mk (i + 1)
      case' h4 => repeat' constructor
      case' h3 => repeat' constructor
      case' h1 => first | omega | (dsimp only; omega)
      exact ⟨by omega, hstep.symm⟩
  · rename_i h1
    have : min f.length t.length - i = 0 := by omega
    rw [this] at hg
    rw [← hg]
    rfl
  · rename_i h1
    have : min f.length t.length - i = 0 := by omega
    rw [this] at hg
    rw [← hg]
    rfl
attribute [local irreducible] kept1
theorem refGate_ok (c w bl : List Int) (hc : c.length ≤ 1000000000) (hw : w.length ≤ 1000000000) (hb : bl.length ≤ 1000000000) : Sat Try.prog 9 [DI c, DI w, DI bl] [] (intsE (gateB c w bl).1 (gateB c w bl).2) := by
  refine Sat.of T_ok Try.func9 Try.call9 rfl rfl rfl ?_
  repeat' (first | assumption | exact sd (by first | omega | (simp only []; omega) | (simp only [List.length_append, List.length_cons, List.length_nil, List.length_take, List.length_drop, List.length_map, List.length_range]; omega)) | exact sp (fun h => by simp [PathHolds] at h; omega) | exact sd rfl | exact sd ⟨rfl, by decide⟩ | exact sd trivial | exact Bin.x rfl | (apply Run.nilStop rfl; apply RunSem.eqNil T_ok) | refine Run.storeStop rfl ?_ | (apply Run.mapStop; apply RunSem.mapSet T_ok) | (apply Run.newMapStop; apply RunSem.newMap T_ok) | (apply Run.sliceStop; apply RunSem.litI T_ok) | (apply AList.sliceStop; apply AListSem.litI T_ok) | apply Run.condP | apply Sx.Ends.by () | (apply Run.drawStop; refine RunSem.drawBy (id := 6) T_ok mix 8 (by kernel_rfl) ?_) | constructor | intro _)
  · rename_i hne
    have hG : gateB c w bl = ([], 1) := by rw [gateB, if_pos (by omega)]
    rw [hG]
    apply Sx.Ends.by (.slice none 0 0)
    all_goals repeat' (first | assumption | exact sd (by first | omega | (simp only []; omega) | (simp only [List.length_append, List.length_cons, List.length_nil, List.length_take, List.length_drop, List.length_map, List.length_range]; omega)) | exact sp (fun h => by simp [PathHolds] at h; omega) | exact sd rfl | exact sd ⟨rfl, by decide⟩ | exact sd trivial | exact Bin.x rfl | (apply Run.nilStop rfl; apply RunSem.eqNil T_ok) | refine Run.storeStop rfl ?_ | (apply Run.mapStop; apply RunSem.mapSet T_ok) | (apply Run.newMapStop; apply RunSem.newMap T_ok) | (apply Run.sliceStop; apply RunSem.litI T_ok) | (apply AList.sliceStop; apply AListSem.litI T_ok) | apply Run.condP | apply Sx.Ends.by () | (apply Run.drawStop; refine RunSem.drawBy (id := 6) T_ok mix 8 (by kernel_rfl) ?_) | constructor | intro _)
  · have hl : c.length = w.length := by omega
    refine RunSem.loopK T_ok [0, 1, 2] (fun i : Nat => [(8, [], iv i)]) (fun _ => []) (fun i => i ≤ c.length ∧ (c.take i).Nodup) (fun i => c.length - i) 0 ⟨by omega, by simp⟩ (by repeat' constructor) (by repeat' constructor) (by repeat' constructor) ?_
    dsimp only [List.cons_append, List.nil_append]
    rintro i ⟨hi, hnd⟩
    repeat' (first | assumption | exact sd (by first | omega | (simp only []; omega) | (simp only [List.length_append, List.length_cons, List.length_nil, List.length_take, List.length_drop, List.length_map, List.length_range]; omega)) | exact sp (fun h => by simp [PathHolds] at h; omega) | exact sd rfl | exact sd ⟨rfl, by decide⟩ | exact sd trivial | exact Bin.x rfl | (apply Run.nilStop rfl; apply RunSem.eqNil T_ok) | refine Run.storeStop rfl ?_ | (apply Run.mapStop; apply RunSem.mapSet T_ok) | (apply Run.newMapStop; apply RunSem.newMap T_ok) | (apply Run.sliceStop; apply RunSem.litI T_ok) | (apply AList.sliceStop; apply AListSem.litI T_ok) | apply Run.condP | apply Sx.Ends.by () | (apply Run.drawStop; refine RunSem.drawBy (id := 6) T_ok mix 8 (by kernel_rfl) ?_) | constructor | intro _)
    · rename_i hlt
      first | apply RunSem.lend T_ok (in_ok (c.take i) (c.getD i 0) (by simp only [List.length_take]; omega)) (fun _ => ⟨rfl, rfl⟩) | apply RunSem.callG T_ok (lend := true) (isV_fun (in_ok (c.take i) (c.getD i 0) (by simp only [List.length_take]; omega))) (fun _ => rfl) | apply AListSem.call T_ok (lend := true) (isV_fun (in_ok (c.take i) (c.getD i 0) (by simp only [List.length_take]; omega))) (fun _ => rfl) | apply AListSem.callG T_ok (lend := true) (isV_fun (in_ok (c.take i) (c.getD i 0) (by simp only [List.length_take]; omega))) (fun _ => rfl)
      all_goals repeat' (first | assumption | exact sd (by first | omega | (simp only []; omega) | (simp only [List.length_append, List.length_cons, List.length_nil, List.length_take, List.length_drop, List.length_map, List.length_range]; omega)) | exact sp (fun h => by simp [PathHolds] at h; omega) | exact sd rfl | exact sd ⟨rfl, by decide⟩ | exact sd trivial | exact Bin.x rfl | (apply Run.nilStop rfl; apply RunSem.eqNil T_ok) | refine Run.storeStop rfl ?_ | (apply Run.mapStop; apply RunSem.mapSet T_ok) | (apply Run.newMapStop; apply RunSem.newMap T_ok) | (apply Run.sliceStop; apply RunSem.litI T_ok) | (apply AList.sliceStop; apply AListSem.litI T_ok) | apply Run.condP | apply Sx.Ends.by () | (apply Run.drawStop; refine RunSem.drawBy (id := 6) T_ok mix 8 (by kernel_rfl) ?_) | constructor | intro _)
      · rename_i hm
        have hG : gateB c w bl = ([], 6) := by rw [gateB, if_neg (by omega), if_pos (not_nodup_take (by omega) hm)]
        rw [hG]
        apply Sx.Ends.by (.slice none 0 0)
        all_goals repeat' (first | assumption | exact sd (by first | omega | (simp only []; omega) | (simp only [List.length_append, List.length_cons, List.length_nil, List.length_take, List.length_drop, List.length_map, List.length_range]; omega)) | exact sp (fun h => by simp [PathHolds] at h; omega) | exact sd rfl | exact sd ⟨rfl, by decide⟩ | exact sd trivial | exact Bin.x rfl | (apply Run.nilStop rfl; apply RunSem.eqNil T_ok) | refine Run.storeStop rfl ?_ | (apply Run.mapStop; apply RunSem.mapSet T_ok) | (apply Run.newMapStop; apply RunSem.newMap T_ok) | (apply Run.sliceStop; apply RunSem.litI T_ok) | (apply AList.sliceStop; apply AListSem.litI T_ok) | apply Run.condP | apply Sx.Ends.by () | (apply Run.drawStop; refine RunSem.drawBy (id := 6) T_ok mix 8 (by kernel_rfl) ?_) | constructor | intro _)
      · rename_i hm
        apply AgainK.mk (i + 1)
        case' h4 => repeat' constructor
        case' h3 => repeat' constructor
        case' h1 => first | omega | (dsimp only; omega)
        exact ⟨by omega, nodup_take_succ (by omega) hnd hm⟩
    · rename_i hlt v0 v1
      have hie : i = c.length := by omega
      subst hie
      rw [List.take_length] at hnd
      refine RunSem.loopK T_ok [0, 2] (fun x : Nat × List Int × Value × Bool => [(9, [], .o x.2.2.1), (10, [], bv x.2.2.2)]) (fun x => [.row x.2.2.1 true 3 1 (encI .i64) 0 x.2.1]) (fun x => x.2.1.length = c.length ∧ (if x.2.2.2 = true then movers c x.2.1 < x.1 ∧ gateGo c bl x.1 x.2.1 = gateGo c bl (c.length + 1) w else x.2.1 = gateGo c bl (c.length + 1) w)) (fun x => x.1) (c.length + 1, w, v1, true) ⟨hl.symm, by have := movers_le c w; exact ⟨by dsimp only; omega, rfl⟩⟩ (by repeat' constructor) (by repeat' constructor) (by repeat' constructor) ?_
      dsimp only [List.cons_append, List.nil_append]
      rintro ⟨f, now, v, news⟩ ⟨hnl, hst⟩
      try dsimp only at *
      repeat' (first | assumption | exact sd (by first | omega | (simp only []; omega) | (simp only [List.length_append, List.length_cons, List.length_nil, List.length_take, List.length_drop, List.length_map, List.length_range]; omega)) | exact sp (fun h => by simp [PathHolds] at h; omega) | exact sd rfl | exact sd ⟨rfl, by decide⟩ | exact sd trivial | exact Bin.x rfl | (apply Run.nilStop rfl; apply RunSem.eqNil T_ok) | refine Run.storeStop rfl ?_ | (apply Run.mapStop; apply RunSem.mapSet T_ok) | (apply Run.newMapStop; apply RunSem.newMap T_ok) | (apply Run.sliceStop; apply RunSem.litI T_ok) | (apply AList.sliceStop; apply AListSem.litI T_ok) | apply Run.condP | apply Sx.Ends.by () | (apply Run.drawStop; refine RunSem.drawBy (id := 6) T_ok mix 8 (by kernel_rfl) ?_) | constructor | intro _)
      · rename_i hnews v2 v3
        rw [if_pos hnews] at hst
        refine RunSem.loopK T_ok [0, 2, 9] (fun x : Nat × Bool => [(12, [], iv x.1), (11, [], .o v3), (10, [], bv x.2)]) (fun x => [.row v3 true 3 1 (encI .i64) 0 (setL c ((List.range x.1).filter (kept1 c bl now)) now)]) (fun x => x.1 ≤ c.length ∧ x.2 = (List.range x.1).any (kept1 c bl now)) (fun x => c.length - x.1) (0, false) ⟨by omega, rfl⟩ (by repeat' constructor) (by repeat' constructor) (by repeat' constructor) ?_
        dsimp only [List.cons_append, List.nil_append]
        rintro ⟨i, b⟩ ⟨hi, hb2⟩
        try dsimp only at *
        repeat' (first | assumption | exact sd (by first | omega | (simp only []; omega) | (simp only [List.length_append, List.length_cons, List.length_nil, List.length_take, List.length_drop, List.length_map, List.length_range]; omega)) | exact sp (fun h => by simp [PathHolds] at h; omega) | exact sd rfl | exact sd ⟨rfl, by decide⟩ | exact sd trivial | exact Bin.x rfl | (apply Run.nilStop rfl; apply RunSem.eqNil T_ok) | refine Run.storeStop rfl ?_ | (apply Run.mapStop; apply RunSem.mapSet T_ok) | (apply Run.newMapStop; apply RunSem.newMap T_ok) | (apply Run.sliceStop; apply RunSem.litI T_ok) | (apply AList.sliceStop; apply AListSem.litI T_ok) | apply Run.condP | apply Sx.Ends.by () | (apply Run.drawStop; refine RunSem.drawBy (id := 6) T_ok mix 8 (by kernel_rfl) ?_) | constructor | intro _)
        · rename_i hlt2
          have hsl : (setL c ((List.range i).filter (kept1 c bl now)) now).length = c.length := by rw [setL_len, hnl]
          apply RunSem.lend T_ok (refkept_ok c now bl i hc hnl.symm (by omega) hb) (fun _ => ⟨rfl, rfl⟩)
          all_goals repeat' (first | assumption | exact sd (by first | omega | (simp only []; omega) | (simp only [List.length_append, List.length_cons, List.length_nil, List.length_take, List.length_drop, List.length_map, List.length_range]; omega)) | exact sp (fun h => by simp [PathHolds] at h; omega) | exact sd rfl | exact sd ⟨rfl, by decide⟩ | exact sd trivial | exact Bin.x rfl | (apply Run.nilStop rfl; apply RunSem.eqNil T_ok) | refine Run.storeStop rfl ?_ | (apply Run.mapStop; apply RunSem.mapSet T_ok) | (apply Run.newMapStop; apply RunSem.newMap T_ok) | (apply Run.sliceStop; apply RunSem.litI T_ok) | (apply AList.sliceStop; apply AListSem.litI T_ok) | apply Run.condP | apply Sx.Ends.by () | (apply Run.drawStop; refine RunSem.drawBy (id := 6) T_ok mix 8 (by kernel_rfl) ?_) | constructor | intro _)
          · rename_i hk
            apply RunSem.storeE T_ok (c.getD i 0)
            all_goals repeat' (first | assumption | exact sd (by first | omega | (simp only []; omega) | (simp only [List.length_append, List.length_cons, List.length_nil, List.length_take, List.length_drop, List.length_map, List.length_range]; omega)) | exact sp (fun h => by simp [PathHolds] at h; omega) | exact sd rfl | exact sd ⟨rfl, by decide⟩ | exact sd trivial | exact Bin.x rfl | (apply Run.nilStop rfl; apply RunSem.eqNil T_ok) | refine Run.storeStop rfl ?_ | (apply Run.mapStop; apply RunSem.mapSet T_ok) | (apply Run.newMapStop; apply RunSem.newMap T_ok) | (apply Run.sliceStop; apply RunSem.litI T_ok) | (apply AList.sliceStop; apply AListSem.litI T_ok) | apply Run.condP | apply Sx.Ends.by () | (apply Run.drawStop; refine RunSem.drawBy (id := 6) T_ok mix 8 (by kernel_rfl) ?_) | constructor | intro _)
            apply AgainK.mk ((i + 1, true))
            case' h4 => repeat' constructor
            case' h3 => repeat' constructor
            case' h1 => first | omega | (dsimp only; omega)
            · rw [List.range_succ, List.filter_append, List.filter_cons, if_pos hk, List.filter_nil, setL_snoc]
            · exact ⟨by dsimp only; omega, by rw [List.range_succ, List.any_append, List.any_cons, hk, Bool.true_or, Bool.or_true]⟩
          · rename_i hk
            have hk' : kept1 c bl now i = false := by simpa using hk
            apply AgainK.mk ((i + 1, b))
            case' h4 => repeat' constructor
            case' h3 => repeat' constructor
            case' h1 => first | omega | (dsimp only; omega)
            · rw [List.range_succ, List.filter_append, List.filter_cons, if_neg hk, List.filter_nil, List.append_nil]
            · exact ⟨by dsimp only; omega, by rw [List.range_succ, List.any_append, List.any_cons, hk', hb2]; simp⟩
        · rename_i hlt2
          have hie : i = c.length := by omega
          subst hie
          obtain ⟨f, rfl⟩ : ∃ f', f = f' + 1 := ⟨f - 1, by omega⟩
          have hrd := setL_round c bl now hnl.symm
          rw [hrd]
          have hgo := hst.2
          rw [gateGo] at hgo
          apply AgainK.mk ((f, round1 c bl now, v3, b))
          case' h4 => repeat' constructor
          case' h3 => repeat' constructor
          case' h1 => first | omega | (dsimp only; omega)
          refine ⟨round1_len .., ?_⟩
          dsimp only
          split
          · rename_i hbt
            rw [hb2] at hbt
            rw [if_pos hbt] at hgo
            exact ⟨by have := movers_round c bl now hbt; omega, hgo⟩
          · rename_i hbt
            rw [hb2] at hbt
            rw [if_neg hbt] at hgo
            rw [← hgo, ← hrd]
            have he : (List.range c.length).filter (kept1 c bl now) = [] := by
              rw [any_filter] at hbt
              cases hF : (List.range c.length).filter (kept1 c bl now) with
              | nil => rfl
              | cons => rw [hF] at hbt; exact absurd rfl hbt
            rw [he]
            rfl
      · rename_i hnews
        rw [if_neg hnews] at hst
        have hG : gateB c w bl = (now, 0) := by rw [gateB, if_neg (by omega), if_neg (by simpa using hnd), ← hst]
        rw [hG]
        apply Sx.Ends.by v
        all_goals repeat' (first | assumption | exact sd (by first | omega | (simp only []; omega) | (simp only [List.length_append, List.length_cons, List.length_nil, List.length_take, List.length_drop, List.length_map, List.length_range]; omega)) | exact sp (fun h => by simp [PathHolds] at h; omega) | exact sd rfl | exact sd ⟨rfl, by decide⟩ | exact sd trivial | exact Bin.x rfl | (apply Run.nilStop rfl; apply RunSem.eqNil T_ok) | refine Run.storeStop rfl ?_ | (apply Run.mapStop; apply RunSem.mapSet T_ok) | (apply Run.newMapStop; apply RunSem.newMap T_ok) | (apply Run.sliceStop; apply RunSem.litI T_ok) | (apply AList.sliceStop; apply AListSem.litI T_ok) | apply Run.condP | apply Sx.Ends.by () | (apply Run.drawStop; refine RunSem.drawBy (id := 6) T_ok mix 8 (by kernel_rfl) ?_) | constructor | intro _)
end Go.Proofs.Ytlhcklmaikfjcaa
