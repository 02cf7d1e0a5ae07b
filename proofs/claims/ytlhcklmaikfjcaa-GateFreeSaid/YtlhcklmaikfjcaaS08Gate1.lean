import Derived.Test.YtlhcklmaikfjcaaS08Gate0
set_option linter.all false
set_option linter.all false
namespace Go.Proofs.Ytlhcklmaikfjcaa
open Go.Sx
attribute [local irreducible] RunSem AListSem AgainK Again Side Sx.Ends IntKind.wrap
abbrev crowdS (b : Nat) (c : List Int) (v : Value) (w : List Int) (rw rf rs : Nat) (who first : List (Int × Int)) (shut : List (Int × Bool)) : Sto :=
  [.box b [DI c, .o v, .v (.map (some rw)), .v (.map (some rf)), .v (.map (some rs))], .row v false 3 1 (encI .i64) 0 w, .mp rw false (kInt .i64) false 1 (encI .i64) who, .mp rf false (kInt .i64) false 1 (encI .i64) first, .mp rs false (kInt .i64) false 1 encBo shut]
section
variable (b : Nat) (c : List Int) (v : Value) (w : List Int) (rw rf rs : Nat) (who first : List (Int × Int)) (shut : List (Int × Bool))
theorem moves_ok (i : Nat) (h1 : i < c.length) (h2 : i < w.length) :
    Sat Try.prog 20 [.v (.pointer (some ⟨b, 0, none⟩)), iv i] (crowdS b c v w rw rf rs who first shut) (isVS (.bool (w.getD i 0 != c.getD i 0)) (crowdS b c v w rw rf rs who first shut)) := by
  refine Sat.of T_ok Try.func20 Try.call20 rfl rfl rfl ?_
  repeat' (first | assumption | exact sd (by first | omega | (simp only []; omega) | (simp only [List.length_append, List.length_cons, List.length_nil, List.length_take, List.length_drop, List.length_map, List.length_range]; omega)) | exact sp (fun h => by simp [PathHolds] at h; omega) | exact sd rfl | exact sd ⟨rfl, by decide⟩ | exact sd trivial | exact Bin.x rfl | (apply Run.nilStop rfl; apply RunSem.eqNil T_ok) | refine Run.storeStop rfl ?_ | (apply Run.mapStop; apply RunSem.mapSet T_ok) | (apply Run.newMapStop; apply RunSem.newMap T_ok) | (apply Run.sliceStop; apply RunSem.litI T_ok) | (apply AList.sliceStop; apply AListSem.litI T_ok) | apply Run.condP | apply Sx.Ends.by () | (apply Run.drawStop; refine RunSem.drawBy (id := 1) T_ok mix 16 (by kernel_rfl) ?_) | constructor | intro _)
theorem look_ok (fz : Value) (hz : oneV fz = true) (h1 : c.length = w.length) (h2 : w.length ≤ 1099511627776) :
    Sat Try.prog 14 [.v (.pointer (some ⟨b, 0, none⟩))] [.box b [DI c, .o v, .v (.map (some rw)), .v fz, .v (.map (some rs))], .row v false 3 1 (encI .i64) 0 w, .mp rw false (kInt .i64) false 1 (encI .i64) who, .mp rs false (kInt .i64) false 1 encBo shut]
      (Gives (ι := Nat) (fun _ => .t []) (fun rf' => crowdS b c v w rw rf' rs who (firstG c w w.length) shut) (fun _ => True)) := by
  refine Sat.of T_ok Try.func14 Try.call14 rfl rfl rfl ?_
  repeat' (first | assumption | exact sd (by first | omega | (simp only []; omega) | (simp only [List.length_append, List.length_cons, List.length_nil, List.length_take, List.length_drop, List.length_map, List.length_range]; omega)) | exact sp (fun h => by simp [PathHolds] at h; omega) | exact sd rfl | exact sd ⟨rfl, by decide⟩ | exact sd trivial | exact Bin.x rfl | (apply Run.nilStop rfl; apply RunSem.eqNil T_ok) | refine Run.storeStop rfl ?_ | (apply Run.mapStop; apply RunSem.mapSet T_ok) | (apply Run.newMapStop; apply RunSem.newMap T_ok) | (apply Run.sliceStop; apply RunSem.litI T_ok) | (apply AList.sliceStop; apply AListSem.litI T_ok) | apply Run.condP | apply Sx.Ends.by () | constructor | intro _)
  rename_i rf'
  refine RunSem.loopK T_ok [0, 13, 14] (fun k : Nat => [(15, [], iv k)]) (fun k => [.mp rf' false (kInt .i64) false 1 (encI .i64) (firstG c w k)]) (fun k => k ≤ w.length) (fun k => w.length - k) 0 (by omega) (by repeat' constructor) (by repeat' constructor) (by repeat' constructor) ?_
  dsimp only [List.cons_append, List.nil_append]
  intro k hk
  repeat' (first | assumption | exact sd (by first | omega | (simp only []; omega) | (simp only [List.length_append, List.length_cons, List.length_nil, List.length_take, List.length_drop, List.length_map, List.length_range]; omega)) | exact sp (fun h => by simp [PathHolds] at h; omega) | exact sd rfl | exact sd ⟨rfl, by decide⟩ | exact sd trivial | exact Bin.x rfl | (apply Run.nilStop rfl; apply RunSem.eqNil T_ok) | refine Run.storeStop rfl ?_ | (apply Run.mapStop; apply RunSem.mapSet T_ok) | (apply Run.newMapStop; apply RunSem.newMap T_ok) | (apply Run.sliceStop; apply RunSem.litI T_ok) | (apply AList.sliceStop; apply AListSem.litI T_ok) | apply Run.condP | apply Sx.Ends.by () | constructor | intro _)
  · rename_i hlt
    first | apply RunSem.callR T_ok (moves_ok b c v w rw rf' rs who (firstG c w k) shut k (by omega) (by omega)) | apply RunSem.callGR T_ok (moves_ok b c v w rw rf' rs who (firstG c w k) shut k (by omega) (by omega)) | apply AListSem.callR T_ok (moves_ok b c v w rw rf' rs who (firstG c w k) shut k (by omega) (by omega)) | apply AListSem.callGR T_ok (moves_ok b c v w rw rf' rs who (firstG c w k) shut k (by omega) (by omega))
    all_goals repeat' (first | assumption | exact sd (by first | omega | (simp only []; omega) | (simp only [List.length_append, List.length_cons, List.length_nil, List.length_take, List.length_drop, List.length_map, List.length_range]; omega)) | exact sp (fun h => by simp [PathHolds] at h; omega) | exact sd rfl | exact sd ⟨rfl, by decide⟩ | exact sd trivial | exact Bin.x rfl | (apply Run.nilStop rfl; apply RunSem.eqNil T_ok) | refine Run.storeStop rfl ?_ | (apply Run.mapStop; apply RunSem.mapSet T_ok) | (apply Run.newMapStop; apply RunSem.newMap T_ok) | (apply Run.sliceStop; apply RunSem.litI T_ok) | (apply AList.sliceStop; apply AListSem.litI T_ok) | apply Run.condP | apply Sx.Ends.by () | constructor | intro _)
    · rename_i hc
      apply AgainK.mk (k + 1)
      case' h4 => repeat' constructor
      case' h3 => repeat' constructor
      case' h1 => first | omega | (dsimp only; omega)
      · rw [firstG, if_pos (by simpa using hc)]
      · omega
    · rename_i hc
      apply AgainK.mk (k + 1)
      case' h4 => repeat' constructor
      case' h3 => repeat' constructor
      case' h1 => first | omega | (dsimp only; omega)
      · rw [firstG, if_neg (by simpa using hc)]
      · omega
  · rename_i hlt
    have : k = w.length := by omega
    subst this
    apply Sx.Ends.by rf'
    all_goals repeat' (first | assumption | exact sd (by first | omega | (simp only []; omega) | (simp only [List.length_append, List.length_cons, List.length_nil, List.length_take, List.length_drop, List.length_map, List.length_range]; omega)) | exact sp (fun h => by simp [PathHolds] at h; omega) | exact sd rfl | exact sd ⟨rfl, by decide⟩ | exact sd trivial | exact Bin.x rfl | (apply Run.nilStop rfl; apply RunSem.eqNil T_ok) | refine Run.storeStop rfl ?_ | (apply Run.mapStop; apply RunSem.mapSet T_ok) | (apply Run.newMapStop; apply RunSem.newMap T_ok) | (apply Run.sliceStop; apply RunSem.litI T_ok) | (apply AList.sliceStop; apply AListSem.litI T_ok) | apply Run.condP | apply Sx.Ends.by () | constructor | intro _)
theorem kept_ok (i : Nat) (h1 : c.length = w.length) (h2 : i < w.length) (hw : ∀ x k, mget who x = some k → 0 ≤ k ∧ k < w.length) :
    Sat Try.prog 16 [.v (.pointer (some ⟨b, 0, none⟩)), iv i] (crowdS b c v w rw rf rs who first shut) (isVS (.bool (keptG c w who first shut i)) (crowdS b c v w rw rf rs who first shut)) := by
  refine Sat.of T_ok Try.func16 Try.call16 rfl rfl rfl ?_
  repeat' (first | assumption | exact sd (by first | omega | (simp only []; omega) | (simp only [List.length_append, List.length_cons, List.length_nil, List.length_take, List.length_drop, List.length_map, List.length_range]; omega)) | exact sp (fun h => by simp [PathHolds] at h; omega) | exact sd rfl | exact sd ⟨rfl, by decide⟩ | exact sd trivial | exact Bin.x rfl | (apply Run.nilStop rfl; apply RunSem.eqNil T_ok) | refine Run.storeStop rfl ?_ | (apply Run.mapStop; apply RunSem.mapSet T_ok) | (apply Run.newMapStop; apply RunSem.newMap T_ok) | (apply Run.sliceStop; apply RunSem.litI T_ok) | (apply AList.sliceStop; apply AListSem.litI T_ok) | apply Run.condP | apply Sx.Ends.by () | (apply Run.drawStop; refine RunSem.drawBy (id := 7) T_ok mix 25 (by kernel_rfl) ?_) | constructor | intro _)
  first | apply RunSem.callR T_ok (moves_ok b c v w rw rf rs who first shut i (by omega) (by omega)) | apply RunSem.callGR T_ok (moves_ok b c v w rw rf rs who first shut i (by omega) (by omega)) | apply AListSem.callR T_ok (moves_ok b c v w rw rf rs who first shut i (by omega) (by omega)) | apply AListSem.callGR T_ok (moves_ok b c v w rw rf rs who first shut i (by omega) (by omega))
  all_goals repeat' (first | assumption | exact sd (by first | omega | (simp only []; omega) | (simp only [List.length_append, List.length_cons, List.length_nil, List.length_take, List.length_drop, List.length_map, List.length_range]; omega)) | exact sp (fun h => by simp [PathHolds] at h; omega) | exact sd rfl | exact sd ⟨rfl, by decide⟩ | exact sd trivial | exact Bin.x rfl | (apply Run.nilStop rfl; apply RunSem.eqNil T_ok) | refine Run.storeStop rfl ?_ | (apply Run.mapStop; apply RunSem.mapSet T_ok) | (apply Run.newMapStop; apply RunSem.newMap T_ok) | (apply Run.sliceStop; apply RunSem.litI T_ok) | (apply AList.sliceStop; apply AListSem.litI T_ok) | apply Run.condP | apply Sx.Ends.by () | (apply Run.drawStop; refine RunSem.drawBy (id := 7) T_ok mix 25 (by kernel_rfl) ?_) | constructor | intro _)
  · rename_i hm
    simp only [keptG]
    simp at hm
    simp [wrapRes, hm]
  · rename_i hm ho
    have hm' : w.getD i 0 ≠ c.getD i 0 := Classical.not_not.1 hm
    simp only [keptG]
    simp at hm' ho
    simp [wrapRes, hm', ho]
  · rename_i hm ho
    have hk : 0 ≤ (mget who (w.getD i 0)).getD 0 ∧ (mget who (w.getD i 0)).getD 0 < w.length := by
      cases hg : mget who (w.getD i 0) with
      | none => simp; omega
      | some k => have := hw _ _ hg; simpa using this
    obtain ⟨k, hke⟩ := Int.eq_ofNat_of_zero_le hk.1
    have hkl : k < w.length := by omega
    first | apply RunSem.callR T_ok (moves_ok b c v w rw rf rs who first shut k (by omega) hkl) | apply RunSem.callGR T_ok (moves_ok b c v w rw rf rs who first shut k (by omega) hkl) | apply AListSem.callR T_ok (moves_ok b c v w rw rf rs who first shut k (by omega) hkl) | apply AListSem.callGR T_ok (moves_ok b c v w rw rf rs who first shut k (by omega) hkl)
    all_goals repeat' (first | assumption | exact sd (by first | omega | (simp only []; omega) | (simp only [List.length_append, List.length_cons, List.length_nil, List.length_take, List.length_drop, List.length_map, List.length_range]; omega)) | exact sp (fun h => by simp [PathHolds] at h; omega) | exact sd rfl | exact sd ⟨rfl, by decide⟩ | exact sd trivial | exact Bin.x rfl | (apply Run.nilStop rfl; apply RunSem.eqNil T_ok) | refine Run.storeStop rfl ?_ | (apply Run.mapStop; apply RunSem.mapSet T_ok) | (apply Run.newMapStop; apply RunSem.newMap T_ok) | (apply Run.sliceStop; apply RunSem.litI T_ok) | (apply AList.sliceStop; apply AListSem.litI T_ok) | apply Run.condP | apply Sx.Ends.by () | (apply Run.drawStop; refine RunSem.drawBy (id := 7) T_ok mix 25 (by kernel_rfl) ?_) | constructor | intro _)
    · rw [hke]
    · have hb : (w.getD i 0 != c.getD i 0) = true := by simpa [-List.getD_eq_getElem?_getD] using hm
      simp [-List.getD_eq_getElem?_getD] at hm ho
      simp [-List.getD_eq_getElem?_getD, keptG, wrapRes, hb, ho, hke]
end
end Go.Proofs.Ytlhcklmaikfjcaa
