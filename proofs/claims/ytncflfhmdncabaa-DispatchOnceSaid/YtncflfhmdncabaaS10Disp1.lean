import Derived.Test.YtncflfhmdncabaaS10State2
import Derived.Test.YtncflfhmdncabaaS10Dist3
import Derived.Test.YtncflfhmdncabaaSxUDisp
import Derived.Test.YtncflfhmdncabaaSxUState2
set_option linter.all false
set_option maxHeartbeats 4000000
set_option linter.all false
namespace Go.Proofs.Ytncflfhmdncabaa
open Go.Sx
attribute [local irreducible] RunSem AListSem AgainK Again Side Sx.Ends IntKind.wrap SatV AgainR DSem MJ
attribute [local irreducible] floorB goesB rightG arrow isLetter findI findN fieldL fieldE FieldP farG nearG freeB
theorem refBest_ok (g : Gr) (hg : GrOk g) (s : St) (t : Int) (hR : s.R.length < 4611686018427387904) (hB : s.B.length < 4611686018427387904) (hi : ∀ i, i < s.R.length → (s.R.getD i dR).mode = 0 → (s.R.getD i dR).task = 0) :
    Sat Try.prog 12 [gA g, sA s, iv t] [] (isV (.int .i64 (bestI g s t))) := by
  by_cases ht : 0 ≤ t ∧ t < s.K.length ∧ (s.K.getD t.toNat dT).st = 1
  · have hb : bestI g s t = minI (costR g s (s.K.getD t.toNat dT).fr) s.R.length := by
      unfold bestI
      rw [if_pos ht]
      exact minI_congr _ (fun i hii => (cost_eq' (hi i hii) _).symm)
    rw [hb]
    generalize hfr : (s.K.getD t.toNat dT).fr = fr
    refine Sat.of T_ok Try.func12 Try.call12 rfl rfl rfl ?_
    repeat' (first | assumption | exact fun h : ¬ True => absurd trivial h | exact fun h : False => h.elim | exact sd (by first | omega | (simp only []; omega) | (simp only [List.length_append, List.length_cons, List.length_nil, List.length_take, List.length_drop, List.length_map, List.length_range, List.length_set]; omega)) | exact sp (fun h => by simp [PathHolds] at h; omega) | exact sp (fun h => by simp [PathHolds, -List.getD_eq_getElem?_getD] at h; omega) | exact sd rfl | exact sd ⟨rfl, by decide⟩ | exact sd trivial | (show Nat.beq _ _ = true; rfl) | (apply Run.nilStop rfl; apply RunSem.eqNil T_ok) | refine Run.storeStop rfl ?_ | (apply Run.mapStop; apply RunSem.mapSet T_ok) | (apply Run.newMapStop; apply RunSem.newMap T_ok) | (apply Run.sliceStop; apply RunSem.litI T_ok; rotate_left; rfl; rfl; rfl) | (apply AList.sliceStop; apply AListSem.litI T_ok; rotate_left; rfl; rfl; rfl) | (apply Run.semStop; apply RunSem.rangeStr T_ok) | (apply Run.semStop; apply RunSem.nextStr T_ok) | apply Run.condP | apply Sx.Ends.by () | (apply Run.drawStop; apply RunSem.drawW (id := 9) T_ok mix [(.fl, 0), (.fl, 1), (.fl, 2), (.fl, 3), (.fl, 4), (.fl, 5), (.fl, 6), (.fl, 7), (.fl, 8), (.fl, 9), (.fl, 10), (.mn, 11), (.mn, 12)] [] (by kernel_rfl) (by rfl)) | (apply MJ.none T_ok) | (apply MJ.some T_ok) | (apply DSem.nilW T_ok) | (apply DSem.flI T_ok; rfl; rotate_left; rfl; rfl; rfl) | (apply DSem.flW T_ok; rfl; rfl) | (apply DSem.flG T_ok; rfl; rfl) | (apply DSem.mnW T_ok; rfl) | (apply DSem.alW T_ok) | (apply FlW.q; rfl; rfl) | (apply FlW.g; rfl; rfl) | (apply FlW.l; rfl; rotate_left; rfl; rfl; rfl; rfl) | constructor | intro _)
    · rename_i h
      exfalso
      rcases h with h | h
      · omega
      · exact h ht.2.2
    rename_i bg bs h0
    refine RunSem.loopK T_ok [2, 3, 4] (fun x : Nat × Int × Int => [(9, [], iv x.1), (7, [], iv x.2.1), (8, [], iv x.2.2)]) (fun _ => []) (fun x => x.1 ≤ s.R.length ∧ x.2.1 = minI (costR g s fr) x.1 ∧ (x.2.1 = -1 ∨ x.2.2 = costR g s fr x.2.1.toNat)) (fun x => s.R.length - x.1) (0, -1, 0) ⟨by simp, rfl, .inl rfl⟩ (by repeat' constructor) (by repeat' first | assumption | constructor) (by repeat' first | assumption | constructor) ?_
    dsimp only [List.cons_append, List.nil_append]
    rintro ⟨k, b, m⟩ ⟨hk, hbm, hl⟩
    simp only at hk hbm hl ⊢
    have hm := minI_rng (costR g s fr) k
    have hm1 : minI (costR g s fr) (k + 1) = if 0 ≤ costR g s fr k ∧ (minI (costR g s fr) k = -1 ∨ costR g s fr k < costR g s fr (minI (costR g s fr) k).toNat) then (k : Int) else minI (costR g s fr) k := rfl
    rw [← hbm] at hm hm1
    have hck : costR g s fr k = if (s.R.getD k dR).mode = 0 ∧ 100 ≤ (s.R.getD k dR).bat then farG g s.B (s.R.getD k dR).cell fr else -1 := rfl
    repeat' (first | assumption | exact fun h : ¬ True => absurd trivial h | exact fun h : False => h.elim | exact sd (by first | omega | (simp only []; omega) | (simp only [List.length_append, List.length_cons, List.length_nil, List.length_take, List.length_drop, List.length_map, List.length_range, List.length_set]; omega)) | exact sp (fun h => by simp [PathHolds] at h; omega) | exact sp (fun h => by simp [PathHolds, -List.getD_eq_getElem?_getD] at h; omega) | exact sd rfl | exact sd ⟨rfl, by decide⟩ | exact sd trivial | (show Nat.beq _ _ = true; rfl) | exact Bin.x rfl | (apply Run.nilStop rfl; apply RunSem.eqNil T_ok) | refine Run.storeStop rfl ?_ | (apply Run.mapStop; apply RunSem.mapSet T_ok) | (apply Run.newMapStop; apply RunSem.newMap T_ok) | (apply Run.sliceStop; apply RunSem.litI T_ok; rotate_left; rfl; rfl; rfl) | (apply AList.sliceStop; apply AListSem.litI T_ok; rotate_left; rfl; rfl; rfl) | (apply Run.semStop; apply RunSem.rangeStr T_ok) | (apply Run.semStop; apply RunSem.nextStr T_ok) | apply Run.condP | apply Sx.Ends.by () | (apply Run.drawStop; apply RunSem.drawW (id := 9) T_ok mix [(.fl, 0), (.fl, 1), (.fl, 2), (.fl, 3), (.fl, 4), (.fl, 5), (.fl, 6), (.fl, 7), (.fl, 8), (.fl, 9), (.fl, 10), (.mn, 11), (.mn, 12)] [] (by kernel_rfl) (by rfl)) | (apply MJ.none T_ok) | (apply MJ.some T_ok) | (apply DSem.nilW T_ok) | (apply DSem.flI T_ok; rfl; rotate_left; rfl; rfl; rfl) | (apply DSem.flW T_ok; rfl; rfl) | (apply DSem.flG T_ok; rfl; rfl) | (apply DSem.mnW T_ok; rfl) | (apply DSem.alW T_ok) | (apply FlW.q; rfl; rfl) | (apply FlW.g; rfl; rfl) | (apply FlW.l; rfl; rotate_left; rfl; rfl; rfl; rfl) | constructor | intro _)
    · rename_i hlt
      apply RunSem.lend T_ok (refFar_ok g hg (s.R.getD k dR).cell fr s.B hB) (fun _ => ⟨rfl, rfl⟩)
      all_goals repeat' (first | assumption | exact fun h : ¬ True => absurd trivial h | exact fun h : False => h.elim | exact sd (by first | omega | (simp only []; omega) | (simp only [List.length_append, List.length_cons, List.length_nil, List.length_take, List.length_drop, List.length_map, List.length_range, List.length_set]; omega)) | exact sp (fun h => by simp [PathHolds] at h; omega) | exact sp (fun h => by simp [PathHolds, -List.getD_eq_getElem?_getD] at h; omega) | exact sd rfl | exact sd ⟨rfl, by decide⟩ | exact sd trivial | (show Nat.beq _ _ = true; rfl) | exact Bin.x rfl | (apply Run.nilStop rfl; apply RunSem.eqNil T_ok) | refine Run.storeStop rfl ?_ | (apply Run.mapStop; apply RunSem.mapSet T_ok) | (apply Run.newMapStop; apply RunSem.newMap T_ok) | (apply Run.sliceStop; apply RunSem.litI T_ok; rotate_left; rfl; rfl; rfl) | (apply AList.sliceStop; apply AListSem.litI T_ok; rotate_left; rfl; rfl; rfl) | (apply Run.semStop; apply RunSem.rangeStr T_ok) | (apply Run.semStop; apply RunSem.nextStr T_ok) | apply Run.condP | apply Sx.Ends.by () | (apply Run.drawStop; apply RunSem.drawW (id := 9) T_ok mix [(.fl, 0), (.fl, 1), (.fl, 2), (.fl, 3), (.fl, 4), (.fl, 5), (.fl, 6), (.fl, 7), (.fl, 8), (.fl, 9), (.fl, 10), (.mn, 11), (.mn, 12)] [] (by kernel_rfl) (by rfl)) | (apply MJ.none T_ok) | (apply MJ.some T_ok) | (apply DSem.nilW T_ok) | (apply DSem.flI T_ok; rfl; rotate_left; rfl; rfl; rfl) | (apply DSem.flW T_ok; rfl; rfl) | (apply DSem.flG T_ok; rfl; rfl) | (apply DSem.mnW T_ok; rfl) | (apply DSem.alW T_ok) | (apply FlW.q; rfl; rfl) | (apply FlW.g; rfl; rfl) | (apply FlW.l; rfl; rotate_left; rfl; rfl; rfl; rfl) | constructor | intro _)
      · rw [hfr]
      · rename_i hc
        obtain ⟨⟨⟨c1, c2⟩, c3⟩, c4⟩ := hc
        rw [if_pos ⟨c1, c2⟩] at hck
        apply AgainK.mk ((k + 1, (k : Int), farG g s.B (s.R.getD k dR).cell fr))
        case' h4 => (try simp only [List.append_nil]); repeat' constructor
        case' h3 => repeat' constructor
        case' h1 => first | omega | (dsimp only; omega)
        refine ⟨by simp only; omega, ?_, .inr (by simp only [Int.toNat_natCast]; exact hck.symm)⟩
        simp only
        have hcond : b = -1 ∨ costR g s fr k < costR g s fr b.toNat := by
          rcases c4 with c4 | c4
          · exact .inl (by omega)
          · rcases hl with hl | hl
            · exact .inl hl
            · exact .inr (by omega)
        rw [hm1, if_pos ⟨by omega, hcond⟩]
      · rename_i hc
        apply AgainK.mk ((k + 1, b, m))
        case' h4 => (try simp only [List.append_nil]); repeat' constructor
        case' h3 => repeat' constructor
        case' h1 => first | omega | (dsimp only; omega)
        refine ⟨by simp only; omega, ?_, hl⟩
        simp only
        rw [hm1, if_neg]
        rintro ⟨c3, c4⟩
        by_cases c1 : (s.R.getD k dR).mode = 0 ∧ 100 ≤ (s.R.getD k dR).bat
        · rw [if_pos c1] at hck
          refine hc ⟨⟨⟨c1.1, c1.2⟩, by omega⟩, ?_⟩
          rcases c4 with c4 | c4
          · exact .inl (by omega)
          · rcases hl with hl | hl
            · exact .inl (by omega)
            · exact .inr (by omega)
        · rw [if_neg c1] at hck
          omega
    · rename_i hge
      obtain rfl : k = s.R.length := by omega
      rw [hbm]
  · have hb : bestI g s t = -1 := by unfold bestI; rw [if_neg ht]
    rw [hb]
    refine Sat.of T_ok Try.func12 Try.call12 rfl rfl rfl ?_
    repeat' (first | assumption | exact fun h : ¬ True => absurd trivial h | exact fun h : False => h.elim | exact sd (by first | omega | (simp only []; omega) | (simp only [List.length_append, List.length_cons, List.length_nil, List.length_take, List.length_drop, List.length_map, List.length_range, List.length_set]; omega)) | exact sp (fun h => by simp [PathHolds] at h; omega) | exact sp (fun h => by simp [PathHolds, -List.getD_eq_getElem?_getD] at h; omega) | exact sd rfl | exact sd ⟨rfl, by decide⟩ | exact sd trivial | (show Nat.beq _ _ = true; rfl) | (apply Run.nilStop rfl; apply RunSem.eqNil T_ok) | refine Run.storeStop rfl ?_ | (apply Run.mapStop; apply RunSem.mapSet T_ok) | (apply Run.newMapStop; apply RunSem.newMap T_ok) | (apply Run.sliceStop; apply RunSem.litI T_ok; rotate_left; rfl; rfl; rfl) | (apply AList.sliceStop; apply AListSem.litI T_ok; rotate_left; rfl; rfl; rfl) | (apply Run.semStop; apply RunSem.rangeStr T_ok) | (apply Run.semStop; apply RunSem.nextStr T_ok) | apply Run.condP | apply Sx.Ends.by () | (apply Run.drawStop; apply RunSem.drawW (id := 9) T_ok mix [(.fl, 0), (.fl, 1), (.fl, 2), (.fl, 3), (.fl, 4), (.fl, 5), (.fl, 6), (.fl, 7), (.fl, 8), (.fl, 9), (.fl, 10), (.mn, 11), (.mn, 12)] [] (by kernel_rfl) (by rfl)) | (apply MJ.none T_ok) | (apply MJ.some T_ok) | (apply DSem.nilW T_ok) | (apply DSem.flI T_ok; rfl; rotate_left; rfl; rfl; rfl) | (apply DSem.flW T_ok; rfl; rfl) | (apply DSem.flG T_ok; rfl; rfl) | (apply DSem.mnW T_ok; rfl) | (apply DSem.alW T_ok) | (apply FlW.q; rfl; rfl) | (apply FlW.g; rfl; rfl) | (apply FlW.l; rfl; rotate_left; rfl; rfl; rfl; rfl) | constructor | intro _)
    rename_i h
    exact absurd (show 0 ≤ t ∧ t < s.K.length ∧ (s.K.getD t.toNat dT).st = 1 from ⟨by omega, by omega, Classical.byContradiction fun e => h (.inr e)⟩) ht
end Go.Proofs.Ytncflfhmdncabaa
