import Derived.Test.YtngjjedlpjbdoaaS12Moves2
import Derived.Test.YtngjjedlpjbdoaaS12Moves3
set_option linter.all false
set_option maxHeartbeats 4000000
set_option linter.all false
namespace Go.Proofs.Ytngjjedlpjbdoaa
open Go.Sx
attribute [local irreducible] RunSem AListSem AgainK Again Side Sx.Ends IntKind.wrap SatV AgainR DSem MJ
attribute [local irreducible] floorB goesB rightG arrow isLetter wayTo allP allM nearB inC
def lightM (g : Gr) (l : List (List Int)) : Bool := (l.take 40).all (fun x => decide (x.length ≤ 60)) && (decide (g.C.size ≤ 400) && (decide (l.length ≤ 30) && rightG g))
theorem lightM_ok {g : Gr} {l : List (List Int)} (h : lightM g l = true) : (∀ x ∈ l, x.length ≤ 60) ∧ g.C.size ≤ 400 ∧ l.length ≤ 30 ∧ rightG g = true := by
  simp only [lightM, Bool.and_eq_true, decide_eq_true_eq, List.all_eq_true] at h
  refine ⟨fun x hx => ?_, h.2.1, h.2.2.1, h.2.2.2⟩
  rw [List.take_of_length_le (by omega)] at h
  exact h.1 x hx
theorem light_ok (g : Gr) (l : List (List Int)) : Sat Try.prog 7 [gA g, DLL l] [] (isV (.bool (lightM g l))) := by
  have hR := refRight_ok g
  refine Sat.of T_ok Try.func7 Try.call7 rfl rfl rfl ?_
  repeat' (first | assumption | exact fun h : ¬ True => absurd trivial h | exact fun h : False => h.elim | exact sd (by first | omega | (simp only []; omega) | (simp only [List.length_append, List.length_cons, List.length_nil, List.length_take, List.length_drop, List.length_map, List.length_range]; omega)) | exact sp (fun h => by simp [PathHolds] at h; omega) | exact sd rfl | exact sd ⟨rfl, by decide⟩ | exact sd trivial | exact Bin.x rfl | (apply Run.nilStop rfl; apply RunSem.eqNil T_ok) | refine Run.storeStop rfl ?_ | (apply Run.mapStop; apply RunSem.mapSet T_ok) | (apply Run.newMapStop; apply RunSem.newMap T_ok) | (apply Run.sliceStop; apply RunSem.litI T_ok; rotate_left; rfl; rfl; rfl) | (apply AList.sliceStop; apply AListSem.litI T_ok; rotate_left; rfl; rfl; rfl) | (apply Run.semStop; apply RunSem.rangeStr T_ok) | (apply Run.semStop; apply RunSem.nextStr T_ok) | apply Run.condP | apply Sx.Ends.by () | constructor | intro _)
  refine RunSem.loopK T_ok [0, 1, 2] (fun k : Nat => [(5, [], iv k)]) (fun _ => []) (fun k => k ≤ l.length ∧ k ≤ 40 ∧ ∀ i, i < k → (l.getD i []).length ≤ 60) (fun k => l.length - k) 0 ⟨by omega, by omega, by simp⟩ (by repeat' constructor) (by repeat' first | assumption | constructor) (by repeat' first | assumption | constructor) ?_
  dsimp only [List.cons_append, List.nil_append]
  rintro k ⟨hk, hk4, hs⟩
  repeat' (first | assumption | exact fun h : ¬ True => absurd trivial h | exact fun h : False => h.elim | exact sd (by first | omega | (simp only []; omega) | (simp only [List.length_append, List.length_cons, List.length_nil, List.length_take, List.length_drop, List.length_map, List.length_range]; omega)) | exact sp (fun h => by simp [PathHolds] at h; omega) | exact sd rfl | exact sd ⟨rfl, by decide⟩ | exact sd trivial | exact Bin.x rfl | (apply Run.nilStop rfl; apply RunSem.eqNil T_ok) | refine Run.storeStop rfl ?_ | (apply Run.mapStop; apply RunSem.mapSet T_ok) | (apply Run.newMapStop; apply RunSem.newMap T_ok) | (apply Run.sliceStop; apply RunSem.litI T_ok; rotate_left; rfl; rfl; rfl) | (apply AList.sliceStop; apply AListSem.litI T_ok; rotate_left; rfl; rfl; rfl) | (apply Run.semStop; apply RunSem.rangeStr T_ok) | (apply Run.semStop; apply RunSem.nextStr T_ok) | apply Run.condP | apply Sx.Ends.by () | constructor | intro _)
  · rename_i hlt h60
    have : lightM g l = false := by
      unfold lightM
      rw [Bool.and_eq_false_iff]
      left
      rw [List.all_eq_false]
      refine ⟨l.getD k [], ?_, by simp only [decide_eq_true_eq]; omega⟩
      rw [List.mem_iff_getElem?]
      exact ⟨k, by rw [List.getElem?_take, if_pos (by omega), List.getD, List.getElem?_eq_getElem (show k < l.length by omega)]; rfl⟩
    rw [this]
  · rename_i hlt h60
    apply AgainK.mk (k + 1)
    case' h4 => (try simp only [List.append_nil]); repeat' constructor
    case' h3 => repeat' constructor
    case' h1 => first | omega | (dsimp only; omega)
    refine ⟨by omega, by omega, fun i hi => ?_⟩
    rcases Nat.lt_succ_iff_lt_or_eq.1 hi with h' | h'
    · exact hs i h'
    · subst h'; omega
  · rename_i hge
    have hall : (l.take 40).all (fun x => decide (x.length ≤ 60)) = true := by
      rw [List.all_eq_true]
      intro x hx
      obtain ⟨i, hi⟩ := List.mem_iff_getElem?.1 hx
      rw [List.getElem?_take] at hi
      split at hi
      · have hil : i < l.length := (List.getElem?_eq_some_iff.1 hi).1
        have := hs i (by omega)
        rw [List.getD, hi] at this
        simpa using this
      · cases hi
    have hL : lightM g l = (decide ((g.C.size : Int) ≤ 400) && (decide ((l.length : Int) ≤ 30) && rightG g)) := by
      unfold lightM
      rw [hall, Bool.true_and]
      congr 1
      · exact decide_eq_decide.2 (by omega)
      · congr 1
        exact decide_eq_decide.2 (by omega)
    first | apply RunSem.lend T_ok hR (fun _ => ⟨rfl, rfl⟩) | apply RunSem.callG T_ok (lend := true) (isV_fun hR) (fun _ => rfl) rfl | apply AListSem.call T_ok (lend := true) (isV_fun hR) (fun _ => rfl) rfl | apply AListSem.callG T_ok (lend := true) (isV_fun hR) (fun _ => rfl) rfl
    all_goals repeat' (first | assumption | exact fun h : ¬ True => absurd trivial h | exact fun h : False => h.elim | exact sd (by first | omega | (simp only []; omega) | (simp only [List.length_append, List.length_cons, List.length_nil, List.length_take, List.length_drop, List.length_map, List.length_range]; omega)) | exact sp (fun h => by simp [PathHolds] at h; omega) | exact sd rfl | exact sd ⟨rfl, by decide⟩ | exact sd trivial | exact Bin.x rfl | (apply Run.nilStop rfl; apply RunSem.eqNil T_ok) | refine Run.storeStop rfl ?_ | (apply Run.mapStop; apply RunSem.mapSet T_ok) | (apply Run.newMapStop; apply RunSem.newMap T_ok) | (apply Run.sliceStop; apply RunSem.litI T_ok; rotate_left; rfl; rfl; rfl) | (apply AList.sliceStop; apply AListSem.litI T_ok; rotate_left; rfl; rfl; rfl) | (apply Run.semStop; apply RunSem.rangeStr T_ok) | (apply Run.semStop; apply RunSem.nextStr T_ok) | apply Run.condP | apply Sx.Ends.by () | constructor | intro _)
    rw [hL, Bool.and_assoc]
theorem refNear_ok (g : Gr) (hg : GrOk g) (l : List Int) (hl : l.length ≤ 1000000) : Sat Try.prog 18 [gA g, DI l] [] (Gives (ι := Value) (fun v => .o v) (fun v => [.row v true 42 2 encP2 (0, 0) (nearL g l)]) (fun _ => True)) := by
  have hW := hg.w
  have hsz := hg.size
  refine Sat.of T_ok Try.func18 Try.call18 rfl rfl rfl ?_
  repeat' (first | assumption | exact fun h : ¬ True => absurd trivial h | exact fun h : False => h.elim | exact sd (by first | omega | (simp only []; omega) | (simp only [List.length_append, List.length_cons, List.length_nil, List.length_take, List.length_drop, List.length_map, List.length_range]; omega)) | exact sp (fun h => by simp [PathHolds] at h; omega) | exact sd rfl | exact sd ⟨rfl, by decide⟩ | exact sd trivial | (apply Run.nilStop rfl; apply RunSem.eqNil T_ok) | refine Run.storeStop rfl ?_ | (apply Run.mapStop; apply RunSem.mapSet T_ok) | (apply Run.newMapStop; apply RunSem.newMap T_ok) | (apply Run.sliceStop; apply RunSem.litI T_ok; rotate_left; rfl; rfl; rfl) | (apply AList.sliceStop; apply AListSem.litI T_ok; rotate_left; rfl; rfl; rfl) | (apply Run.semStop; apply RunSem.rangeStr T_ok) | (apply Run.semStop; apply RunSem.nextStr T_ok) | apply Run.condP | apply Sx.Ends.by () | (apply Run.drawStop; apply RunSem.drawW (id := 11) T_ok mix [(.fl, 0), (.fl, 1), (.fl, 2), (.fl, 3), (.fl, 4), (.fl, 5), (.fl, 6), (.fl, 7), (.fl, 8), (.mn, 9)] [] (by kernel_rfl) (by rfl)) | (apply Run.drawStop; apply RunSem.drawW (id := 12) T_ok mix [(.fl, 0), (.fl, 1), (.fl, 2), (.fl, 3), (.fl, 4), (.fl, 5), (.fl, 6), (.fl, 7), (.fl, 8), (.mn, 9)] [] (by kernel_rfl) (by rfl)) | (apply MJ.none T_ok) | (apply MJ.some T_ok) | (apply DSem.nilW T_ok) | (apply DSem.flI T_ok; rfl; rotate_left; rfl; rfl; rfl) | (apply DSem.flW T_ok; rfl; rfl) | (apply DSem.flG T_ok; rfl; rfl) | (apply DSem.mnW T_ok; rfl) | (apply DSem.alW T_ok) | (apply FlW.q; rfl; rfl) | (apply FlW.g; rfl; rfl) | (apply FlW.l; rfl; rotate_left; rfl; rfl; rfl; rfl) | constructor | intro _)
  refine RunSem.loopK T_ok [0, 1, 2] (fun x : Nat × Value => [(6, [], iv x.1), (5, [], .o x.2)]) (fun x => [.row x.2 true 42 2 encP2 (0, 0) (pairsP (nearB g) l x.1)]) (fun x => x.1 ≤ l.length) (fun x => l.length - x.1) (0, .slice none 0 0) (by simp) (by repeat' constructor) (by repeat' first | assumption | constructor) (by repeat' first | assumption | constructor) ?_
  dsimp only [List.cons_append, List.nil_append]
  rintro ⟨k, v⟩ hk
  simp only at hk ⊢
  repeat' (first | assumption | exact fun h : ¬ True => absurd trivial h | exact fun h : False => h.elim | exact sd (by first | omega | (simp only []; omega) | (simp only [List.length_append, List.length_cons, List.length_nil, List.length_take, List.length_drop, List.length_map, List.length_range]; omega)) | exact sp (fun h => by simp [PathHolds] at h; omega) | exact sd rfl | exact sd ⟨rfl, by decide⟩ | exact sd trivial | exact Bin.x rfl | (apply Run.nilStop rfl; apply RunSem.eqNil T_ok) | refine Run.storeStop rfl ?_ | (apply Run.mapStop; apply RunSem.mapSet T_ok) | (apply Run.newMapStop; apply RunSem.newMap T_ok) | (apply Run.sliceStop; apply RunSem.litI T_ok; rotate_left; rfl; rfl; rfl) | (apply AList.sliceStop; apply AListSem.litI T_ok; rotate_left; rfl; rfl; rfl) | (apply Run.semStop; apply RunSem.rangeStr T_ok) | (apply Run.semStop; apply RunSem.nextStr T_ok) | apply Run.condP | apply Sx.Ends.by () | (apply Run.drawStop; apply RunSem.drawW (id := 11) T_ok mix [(.fl, 0), (.fl, 1), (.fl, 2), (.fl, 3), (.fl, 4), (.fl, 5), (.fl, 6), (.fl, 7), (.fl, 8), (.mn, 9)] [] (by kernel_rfl) (by rfl)) | (apply Run.drawStop; apply RunSem.drawW (id := 12) T_ok mix [(.fl, 0), (.fl, 1), (.fl, 2), (.fl, 3), (.fl, 4), (.fl, 5), (.fl, 6), (.fl, 7), (.fl, 8), (.mn, 9)] [] (by kernel_rfl) (by rfl)) | (apply MJ.none T_ok) | (apply MJ.some T_ok) | (apply DSem.nilW T_ok) | (apply DSem.flI T_ok; rfl; rotate_left; rfl; rfl; rfl) | (apply DSem.flW T_ok; rfl; rfl) | (apply DSem.flG T_ok; rfl; rfl) | (apply DSem.mnW T_ok; rfl) | (apply DSem.alW T_ok) | (apply FlW.q; rfl; rfl) | (apply FlW.g; rfl; rfl) | (apply FlW.l; rfl; rotate_left; rfl; rfl; rfl; rfl) | constructor | intro _)
  · rename_i hlt
    have hz : pairsP (nearB g) l k = pairsP (nearB g) l k ++ rowP (nearB g) l k (k + 1 - (k + 1)) := by simp [rowP]
    have hple := pairsP_le (nearB g) l k
    have hkl : k * l.length ≤ 1000000 * 1000000 := Nat.mul_le_mul (by omega) (by omega)
    refine RunSem.loopK T_ok [0, 1, 2, 6] (fun x : Nat × Value => [(7, [], iv x.1), (5, [], .o x.2)]) (fun x => [.row x.2 true 42 2 encP2 (0, 0) (pairsP (nearB g) l k ++ rowP (nearB g) l k (x.1 - (k + 1)))]) (fun x => k + 1 ≤ x.1 ∧ x.1 ≤ l.length) (fun x => l.length - x.1) (k + 1, v) ⟨Nat.le_refl _, by simp only; omega⟩ (by repeat' constructor) (by repeat' first | assumption | constructor) (by repeat' first | assumption | constructor) ?_
    dsimp only [List.cons_append, List.nil_append]
    rintro ⟨n, v1⟩ ⟨hn, hn2⟩
    simp only at hn hn2 ⊢
    have hrle := rowP_le (nearB g) l k (n - (k + 1))
    have hrs := rowP_succ (nearB g) l k (n - (k + 1))
    rw [show k + 1 + (n - (k + 1)) = n by omega, show n - (k + 1) + 1 = n + 1 - (k + 1) by omega] at hrs
    by_cases hin : (0 ≤ l.getD k 0 ∧ l.getD k 0 < g.C.size) ∧ (0 ≤ l.getD n 0 ∧ l.getD n 0 < g.C.size)
    · have hb := near_bounds hg hin.1 hin.2
      rw [nearB_in hin.1 hin.2] at hrs
      repeat' (first | assumption | exact fun h : ¬ True => absurd trivial h | exact fun h : False => h.elim | exact sd (by first | omega | (simp only []; omega) | (simp only [List.length_append, List.length_cons, List.length_nil, List.length_take, List.length_drop, List.length_map, List.length_range]; omega)) | exact sp (fun h => by simp [PathHolds] at h; omega) | exact sd rfl | exact sd ⟨rfl, by decide⟩ | exact sd trivial | exact Bin.x rfl | (apply Run.nilStop rfl; apply RunSem.eqNil T_ok) | refine Run.storeStop rfl ?_ | (apply Run.mapStop; apply RunSem.mapSet T_ok) | (apply Run.newMapStop; apply RunSem.newMap T_ok) | (apply Run.sliceStop; apply RunSem.litI T_ok; rotate_left; rfl; rfl; rfl) | (apply AList.sliceStop; apply AListSem.litI T_ok; rotate_left; rfl; rfl; rfl) | (apply Run.semStop; apply RunSem.rangeStr T_ok) | (apply Run.semStop; apply RunSem.nextStr T_ok) | apply Run.condP | apply Sx.Ends.by () | (apply Run.drawStop; apply RunSem.drawW (id := 11) T_ok mix [(.fl, 0), (.fl, 1), (.fl, 2), (.fl, 3), (.fl, 4), (.fl, 5), (.fl, 6), (.fl, 7), (.fl, 8), (.mn, 9)] [] (by kernel_rfl) (by rfl)) | (apply Run.drawStop; apply RunSem.drawW (id := 12) T_ok mix [(.fl, 0), (.fl, 1), (.fl, 2), (.fl, 3), (.fl, 4), (.fl, 5), (.fl, 6), (.fl, 7), (.fl, 8), (.mn, 9)] [] (by kernel_rfl) (by rfl)) | (apply MJ.none T_ok) | (apply MJ.some T_ok) | (apply DSem.nilW T_ok) | (apply DSem.flI T_ok; rfl; rotate_left; rfl; rfl; rfl) | (apply DSem.flW T_ok; rfl; rfl) | (apply DSem.flG T_ok; rfl; rfl) | (apply DSem.mnW T_ok; rfl) | (apply DSem.alW T_ok) | (apply FlW.q; rfl; rfl) | (apply FlW.g; rfl; rfl) | (apply FlW.l; rfl; rotate_left; rfl; rfl; rfl; rfl) | constructor | intro _)
      · exfalso; omega
      · rename_i hlt2 hno hone
        rw [decide_eq_true hone] at hrs
        apply RunSem.lit T_ok encP2 (0, 0) [((k : Int), (n : Int))]
        all_goals repeat' (first | assumption | exact fun h : ¬ True => absurd trivial h | exact fun h : False => h.elim | exact sd (by first | omega | (simp only []; omega) | (simp only [List.length_append, List.length_cons, List.length_nil, List.length_take, List.length_drop, List.length_map, List.length_range]; omega)) | exact sp (fun h => by simp [PathHolds] at h; omega) | exact sd rfl | exact sd ⟨rfl, by decide⟩ | exact sd trivial | exact Bin.x rfl | (apply Run.nilStop rfl; apply RunSem.eqNil T_ok) | refine Run.storeStop rfl ?_ | (apply Run.mapStop; apply RunSem.mapSet T_ok) | (apply Run.newMapStop; apply RunSem.newMap T_ok) | (apply Run.sliceStop; apply RunSem.litI T_ok; rotate_left; rfl; rfl; rfl) | (apply AList.sliceStop; apply AListSem.litI T_ok; rotate_left; rfl; rfl; rfl) | (apply Run.semStop; apply RunSem.rangeStr T_ok) | (apply Run.semStop; apply RunSem.nextStr T_ok) | apply Run.condP | apply Sx.Ends.by () | (apply Run.drawStop; apply RunSem.drawW (id := 11) T_ok mix [(.fl, 0), (.fl, 1), (.fl, 2), (.fl, 3), (.fl, 4), (.fl, 5), (.fl, 6), (.fl, 7), (.fl, 8), (.mn, 9)] [] (by kernel_rfl) (by rfl)) | (apply Run.drawStop; apply RunSem.drawW (id := 12) T_ok mix [(.fl, 0), (.fl, 1), (.fl, 2), (.fl, 3), (.fl, 4), (.fl, 5), (.fl, 6), (.fl, 7), (.fl, 8), (.mn, 9)] [] (by kernel_rfl) (by rfl)) | (apply MJ.none T_ok) | (apply MJ.some T_ok) | (apply DSem.nilW T_ok) | (apply DSem.flI T_ok; rfl; rotate_left; rfl; rfl; rfl) | (apply DSem.flW T_ok; rfl; rfl) | (apply DSem.flG T_ok; rfl; rfl) | (apply DSem.mnW T_ok; rfl) | (apply DSem.alW T_ok) | (apply FlW.q; rfl; rfl) | (apply FlW.g; rfl; rfl) | (apply FlW.l; rfl; rotate_left; rfl; rfl; rfl; rfl) | constructor | intro _)
        rename_i v2 v3
        apply AgainK.mk ((n + 1, v3))
        case' h4 => (try simp only [List.append_nil]); repeat' constructor
        case' h3 => repeat' constructor
        case' h1 => first | omega | (dsimp only; omega)
        · rw [hrs]; simp
        · simp only; omega
      · rename_i hlt2 hno hone
        rw [decide_eq_false hone] at hrs
        apply AgainK.mk ((n + 1, v1))
        case' h4 => (try simp only [List.append_nil]); repeat' constructor
        case' h3 => repeat' constructor
        case' h1 => first | omega | (dsimp only; omega)
        · rw [hrs]; simp
        · simp only; omega
      · rename_i hge2
        apply AgainK.mk ((k + 1, v1))
        case' h4 => (try simp only [List.append_nil]); repeat' constructor
        case' h3 => repeat' constructor
        case' h1 => first | omega | (dsimp only; omega)
        · rw [pairsP_succ, show l.length - (k + 1) = n - (k + 1) by omega]
        · omega
    · rw [nearB_out hin] at hrs
      repeat' (first | assumption | exact fun h : ¬ True => absurd trivial h | exact fun h : False => h.elim | exact sd (by first | omega | (simp only []; omega) | (simp only [List.length_append, List.length_cons, List.length_nil, List.length_take, List.length_drop, List.length_map, List.length_range]; omega)) | exact sp (fun h => by simp [PathHolds] at h; omega) | exact sd rfl | exact sd ⟨rfl, by decide⟩ | exact sd trivial | exact Bin.x rfl | (apply Run.nilStop rfl; apply RunSem.eqNil T_ok) | refine Run.storeStop rfl ?_ | (apply Run.mapStop; apply RunSem.mapSet T_ok) | (apply Run.newMapStop; apply RunSem.newMap T_ok) | (apply Run.sliceStop; apply RunSem.litI T_ok; rotate_left; rfl; rfl; rfl) | (apply AList.sliceStop; apply AListSem.litI T_ok; rotate_left; rfl; rfl; rfl) | (apply Run.semStop; apply RunSem.rangeStr T_ok) | (apply Run.semStop; apply RunSem.nextStr T_ok) | apply Run.condP | apply Sx.Ends.by () | (apply Run.drawStop; apply RunSem.drawW (id := 11) T_ok mix [(.fl, 0), (.fl, 1), (.fl, 2), (.fl, 3), (.fl, 4), (.fl, 5), (.fl, 6), (.fl, 7), (.fl, 8), (.mn, 9)] [] (by kernel_rfl) (by rfl)) | (apply Run.drawStop; apply RunSem.drawW (id := 12) T_ok mix [(.fl, 0), (.fl, 1), (.fl, 2), (.fl, 3), (.fl, 4), (.fl, 5), (.fl, 6), (.fl, 7), (.fl, 8), (.mn, 9)] [] (by kernel_rfl) (by rfl)) | (apply MJ.none T_ok) | (apply MJ.some T_ok) | (apply DSem.nilW T_ok) | (apply DSem.flI T_ok; rfl; rotate_left; rfl; rfl; rfl) | (apply DSem.flW T_ok; rfl; rfl) | (apply DSem.flG T_ok; rfl; rfl) | (apply DSem.mnW T_ok; rfl) | (apply DSem.alW T_ok) | (apply FlW.q; rfl; rfl) | (apply FlW.g; rfl; rfl) | (apply FlW.l; rfl; rotate_left; rfl; rfl; rfl; rfl) | constructor | intro _)
      · apply AgainK.mk ((n + 1, v1))
        case' h4 => (try simp only [List.append_nil]); repeat' constructor
        case' h3 => repeat' constructor
        case' h1 => first | omega | (dsimp only; omega)
        · rw [hrs]; simp
        · simp only; omega
      all_goals first
        | exact sd (by omega)
        | (exfalso; omega)
        | skip
      · rename_i hge2
        apply AgainK.mk ((k + 1, v1))
        case' h4 => (try simp only [List.append_nil]); repeat' constructor
        case' h3 => repeat' constructor
        case' h1 => first | omega | (dsimp only; omega)
        · rw [pairsP_succ, show l.length - (k + 1) = n - (k + 1) by omega]
        · omega
  · rename_i hge
    have hke : k = l.length := by omega
    subst hke
    apply Sx.Ends.by (v)
    all_goals repeat' (first | assumption | exact fun h : ¬ True => absurd trivial h | exact fun h : False => h.elim | exact sd (by first | omega | (simp only []; omega) | (simp only [List.length_append, List.length_cons, List.length_nil, List.length_take, List.length_drop, List.length_map, List.length_range]; omega)) | exact sp (fun h => by simp [PathHolds] at h; omega) | exact sd rfl | exact sd ⟨rfl, by decide⟩ | exact sd trivial | exact Bin.x rfl | (apply Run.nilStop rfl; apply RunSem.eqNil T_ok) | refine Run.storeStop rfl ?_ | (apply Run.mapStop; apply RunSem.mapSet T_ok) | (apply Run.newMapStop; apply RunSem.newMap T_ok) | (apply Run.sliceStop; apply RunSem.litI T_ok; rotate_left; rfl; rfl; rfl) | (apply AList.sliceStop; apply AListSem.litI T_ok; rotate_left; rfl; rfl; rfl) | (apply Run.semStop; apply RunSem.rangeStr T_ok) | (apply Run.semStop; apply RunSem.nextStr T_ok) | apply Run.condP | apply Sx.Ends.by () | (apply Run.drawStop; apply RunSem.drawW (id := 11) T_ok mix [(.fl, 0), (.fl, 1), (.fl, 2), (.fl, 3), (.fl, 4), (.fl, 5), (.fl, 6), (.fl, 7), (.fl, 8), (.mn, 9)] [] (by kernel_rfl) (by rfl)) | (apply Run.drawStop; apply RunSem.drawW (id := 12) T_ok mix [(.fl, 0), (.fl, 1), (.fl, 2), (.fl, 3), (.fl, 4), (.fl, 5), (.fl, 6), (.fl, 7), (.fl, 8), (.mn, 9)] [] (by kernel_rfl) (by rfl)) | (apply MJ.none T_ok) | (apply MJ.some T_ok) | (apply DSem.nilW T_ok) | (apply DSem.flI T_ok; rfl; rotate_left; rfl; rfl; rfl) | (apply DSem.flW T_ok; rfl; rfl) | (apply DSem.flG T_ok; rfl; rfl) | (apply DSem.mnW T_ok; rfl) | (apply DSem.alW T_ok) | (apply FlW.q; rfl; rfl) | (apply FlW.g; rfl; rfl) | (apply FlW.l; rfl; rotate_left; rfl; rfl; rfl; rfl) | constructor | intro _)
end Go.Proofs.Ytngjjedlpjbdoaa
