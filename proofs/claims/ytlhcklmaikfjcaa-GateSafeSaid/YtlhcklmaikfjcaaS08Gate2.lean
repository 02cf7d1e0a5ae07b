import Derived.Test.YtlhcklmaikfjcaaS08Gate1
set_option linter.all false
set_option linter.all false
namespace Go.Proofs.Ytlhcklmaikfjcaa
open Go.Sx
attribute [local irreducible] RunSem AListSem AgainK Again Side Sx.Ends IntKind.wrap
abbrev meetS (bi bt bf : Nat) (f t : List Int) (i : Nat) : Sto := [.box bi [iv i], .box bt [DI t], .box bf [DI f]]
theorem meets_ok (f t : List Int) (n i k : Nat) (hf : n ≤ f.length) (ht : n ≤ t.length) (hi : i < n) (hk : k < n) (bi bt bf : Nat) :
    Sat Try.prog 19 [iv k, .v (.pointer (some ⟨bi, 0, none⟩)), .v (.pointer (some ⟨bt, 0, none⟩)), .v (.pointer (some ⟨bf, 0, none⟩))] (meetS bi bt bf f t i) (isVS (.bool (decide (i < k) && meets1 f t i k)) (meetS bi bt bf f t i)) := by
  refine Sat.of T_ok Try.func19 Try.call19 rfl rfl rfl ?_
  repeat' (first | assumption | exact sd (by first | omega | (simp only []; omega) | (simp only [List.length_append, List.length_cons, List.length_nil, List.length_take, List.length_drop, List.length_map, List.length_range]; omega)) | exact sp (fun h => by simp [PathHolds] at h; omega) | exact sd rfl | exact sd ⟨rfl, by decide⟩ | exact sd trivial | exact Bin.x rfl | (apply Run.nilStop rfl; apply RunSem.eqNil T_ok) | refine Run.storeStop rfl ?_ | (apply Run.mapStop; apply RunSem.mapSet T_ok) | (apply Run.newMapStop; apply RunSem.newMap T_ok) | (apply Run.sliceStop; apply RunSem.litI T_ok) | (apply AList.sliceStop; apply AListSem.litI T_ok) | apply Run.condP | apply Sx.Ends.by () | (apply Run.drawStop; refine RunSem.drawBy (id := 1) T_ok mix 37 (by kernel_rfl) ?_) | constructor | intro _)
  congr 1
  rw [Bool.eq_iff_iff]
  simp [-List.getD_eq_getElem?_getD, meets1]
theorem Clash_ok (f t : List Int) (hf : f.length ≤ 1099511627776) : Sat Try.prog 10 [DI f, DI t] [] (Gives (ι := Unit) (fun _ => .t [iv (clashB f t).1, iv (clashB f t).2]) (fun _ => []) (fun _ => True)) := by
  refine Sat.of T_ok Try.func10 Try.call10 rfl rfl rfl ?_
  repeat' (first | assumption | exact sd (by first | omega | (simp only []; omega) | (simp only [List.length_append, List.length_cons, List.length_nil, List.length_take, List.length_drop, List.length_map, List.length_range]; omega)) | exact sp (fun h => by simp [PathHolds] at h; omega) | exact sd rfl | exact sd ⟨rfl, by decide⟩ | exact sd trivial | exact Bin.x rfl | (apply Run.nilStop rfl; apply RunSem.eqNil T_ok) | refine Run.storeStop rfl ?_ | (apply Run.mapStop; apply RunSem.mapSet T_ok) | (apply Run.newMapStop; apply RunSem.newMap T_ok) | (apply Run.sliceStop; apply RunSem.litI T_ok) | (apply AList.sliceStop; apply AListSem.litI T_ok) | apply Run.condP | apply Sx.Ends.by () | (apply Run.drawStop; refine RunSem.drawBy (id := 8) T_ok mix 6 (by kernel_rfl) ?_) | constructor | intro _)
  rename_i bf bt
  refine RunSem.loopK T_ok [6, 15, 2, 3] (fun i : Nat => [(16, [], iv i)]) (fun _ => []) (fun i => i ≤ min f.length t.length ∧ clashGo f t (min f.length t.length) (min f.length t.length - i) i = clashB f t) (fun i => min f.length t.length - i) 0 ⟨by omega, rfl⟩ (by repeat' constructor) (by repeat' constructor) (by repeat' constructor) ?_
  dsimp only [List.cons_append, List.nil_append]
  rintro i ⟨hi, hg⟩
  repeat' (first | assumption | exact sd (by first | omega | (simp only []; omega) | (simp only [List.length_append, List.length_cons, List.length_nil, List.length_take, List.length_drop, List.length_map, List.length_range]; omega)) | exact sp (fun h => by simp [PathHolds] at h; omega) | exact sd rfl | exact sd ⟨rfl, by decide⟩ | exact sd trivial | exact Bin.x rfl | (apply Run.nilStop rfl; apply RunSem.eqNil T_ok) | refine Run.storeStop rfl ?_ | (apply Run.mapStop; apply RunSem.mapSet T_ok) | (apply Run.newMapStop; apply RunSem.newMap T_ok) | (apply Run.sliceStop; apply RunSem.litI T_ok) | (apply AList.sliceStop; apply AListSem.litI T_ok) | apply Run.condP | apply Sx.Ends.by () | (apply Run.drawStop; refine RunSem.drawBy (id := 8) T_ok mix 6 (by kernel_rfl) ?_) | constructor | intro _)
  · rename_i hlt bi
    have hn : ((min f.length t.length : Nat) : Int) ≤ 1099511627776 := by omega
    have hC := chosen_ok ((min f.length t.length : Nat) : Int) hn 19 #[] #[.pointer (some ⟨bi, 0, none⟩), .pointer (some ⟨bt, 0, none⟩), .pointer (some ⟨bf, 0, none⟩)] (meetS bi bt bf f t i) rfl (fun k => decide (i < k) && meets1 f t i k)
      (fun k hk => meets_ok f t (min f.length t.length) i k (by omega) (by omega) (by omega) (by omega) bi bt bf)
    rw [Int.toNat_natCast] at hC
    have hstep : clashGo f t (min f.length t.length) (min f.length t.length - i) i = match clashK f t (min f.length t.length) i with | k :: _ => ((i : Int), (k : Int)) | [] => clashGo f t (min f.length t.length) (min f.length t.length - (i + 1)) (i + 1) := by
      rw [show min f.length t.length - i = (min f.length t.length - (i + 1)) + 1 by omega]; rfl
    rw [hg] at hstep
    simp only [clashK] at hstep
    generalize hL : (List.range (min f.length t.length)).filter (fun k => decide (i < k) && meets1 f t i k) = L at hstep hC
    apply RunSem.call T_ok hC
    all_goals repeat' (first | assumption | exact sd (by first | omega | (simp only []; omega) | (simp only [List.length_append, List.length_cons, List.length_nil, List.length_take, List.length_drop, List.length_map, List.length_range]; omega)) | exact sp (fun h => by simp [PathHolds] at h; omega) | exact sd rfl | exact sd ⟨rfl, by decide⟩ | exact sd trivial | exact Bin.x rfl | (apply Run.nilStop rfl; apply RunSem.eqNil T_ok) | refine Run.storeStop rfl ?_ | (apply Run.mapStop; apply RunSem.mapSet T_ok) | (apply Run.newMapStop; apply RunSem.newMap T_ok) | (apply Run.sliceStop; apply RunSem.litI T_ok) | (apply AList.sliceStop; apply AListSem.litI T_ok) | apply Run.condP | apply Sx.Ends.by () | (apply Run.drawStop; refine RunSem.drawBy (id := 8) T_ok mix 6 (by kernel_rfl) ?_) | constructor | intro _)
    · exact congrArg _ (by omega)
    · rename_i hpos
      cases L with
      | nil => simp at hpos
      | cons k l => rw [hstep]
    · rename_i hpos
      cases L with
      | nil => simp at hpos
      | cons k l => rw [hstep]; rfl
    · rename_i hpos
      cases L with
      | cons k l => simp at hpos
      | nil =>
        apply AgainK.mk (i + 1)
        case' h4 => repeat' constructor
        case' h3 => repeat' constructor
        case' h1 => first | omega | (dsimp only; omega)
        exact ⟨by omega, hstep.symm⟩
  · rename_i hlt
    have : min f.length t.length - i = 0 := by omega
    rw [this] at hg
    rw [← hg]
    rfl
  · rename_i hlt
    have : min f.length t.length - i = 0 := by omega
    rw [this] at hg
    rw [← hg]
    rfl
end Go.Proofs.Ytlhcklmaikfjcaa
