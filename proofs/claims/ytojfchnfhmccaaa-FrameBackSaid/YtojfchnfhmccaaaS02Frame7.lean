import Derived.Test.YtojfchnfhmccaaaS02Frame6
set_option linter.all false
set_option maxHeartbeats 4000000
set_option maxRecDepth 100000
set_option linter.all false
namespace Go.Proofs.Ytojfchnfhmccaaa
open Go.Sx
attribute [local irreducible] RunSem AListSem AgainK Again Side Sx.Ends IntKind.wrap SatV AgainR DSem MJ
def endsL (l : List (List UInt8)) (k : Nat) : List Int := (List.range (k + 1)).map fun i => ((endsB l i : Nat) : Int)
theorem endsL_len (l : List (List UInt8)) (k : Nat) : (endsL l k).length = k + 1 := by simp [endsL]
theorem endsL_get (l : List (List UInt8)) {k i : Nat} (h : i ≤ k) : (endsL l k).getD i 0 = ((endsB l i : Nat) : Int) := by
  simp [endsL, List.getD, show i < k + 1 by omega]
theorem endsL_succ (l : List (List UInt8)) (k : Nat) : endsL l (k + 1) = endsL l k ++ [((endsB l (k + 1) : Nat) : Int)] := by
  simp [endsL, List.range_succ]
theorem endsL_zero (l : List (List UInt8)) : endsL l 0 = [0] := by simp [endsL, endsB, framesB]
theorem endsB_is (l : List (List UInt8)) (k : Nat) : (framesB (l.take k)).length = endsB l k := rfl
attribute [local irreducible] takeB takeGo crc1 crcN crc8 crcGo checkN frameAt scanGo scanB fourB frameB framesB endsB endsL
def scan3 (L : List (List UInt8)) (n : Nat) (e : Int) : AV → Sto → Prop := Gives (ι := Value) (fun v => .t [.o v, iv n, iv e]) (fun v => [.row v true 22 1 encBL [] L]) (fun _ => True)
theorem FrameBack_ok (l : List (List UInt8)) (cut : Int) (hcut : -9223372036854775808 ≤ cut ∧ cut ≤ 9223372036854775807) (hl : l.length < 4611686018427387904) (hm : ∀ x ∈ l, x.length < 4611686018427387904) : Sat Try.prog 4 [DBL l, iv cut] [] (isV (.bool true)) := by
  refine Sat.of T_ok Try.func4 Try.call4 rfl rfl rfl ?_
  repeat' (first | assumption | exact fun h : ¬ True => absurd trivial h | exact fun h : False => h.elim | exact sd (by first | omega | (simp only []; omega) | (simp only [List.length_append, List.length_cons, List.length_nil, List.length_take, List.length_drop, List.length_map, List.length_range, List.length_set]; omega)) | exact sp (fun h => by simp [PathHolds] at h; omega) | exact sp (fun h => by simp [PathHolds, -List.getD_eq_getElem?_getD] at h; omega) | exact sd rfl | exact sd ⟨rfl, by decide⟩ | exact sd trivial | (show Nat.beq _ _ = true; rfl) | (apply Run.nilStop rfl; apply RunSem.eqNil T_ok) | refine Run.storeStop rfl ?_ | (apply Run.mapStop; apply RunSem.mapSet T_ok) | (apply Run.newMapStop; apply RunSem.newMap T_ok) | (apply Run.sliceStop; apply RunSem.litI T_ok; rotate_left; rfl; rfl; rfl) | (apply AList.sliceStop; apply AListSem.litI T_ok; rotate_left; rfl; rfl; rfl) | (apply Run.semStop; apply RunSem.rangeStr T_ok) | (apply Run.semStop; apply RunSem.nextStr T_ok) | apply Run.condP | apply Sx.Ends.by () | constructor | intro _)
  apply RunSem.lend T_ok awake_ok (fun _ => ⟨rfl, rfl⟩)
  all_goals repeat' (first | assumption | exact fun h : ¬ True => absurd trivial h | exact fun h : False => h.elim | exact sd (by first | omega | (simp only []; omega) | (simp only [List.length_append, List.length_cons, List.length_nil, List.length_take, List.length_drop, List.length_map, List.length_range, List.length_set]; omega)) | exact sp (fun h => by simp [PathHolds] at h; omega) | exact sp (fun h => by simp [PathHolds, -List.getD_eq_getElem?_getD] at h; omega) | exact sd rfl | exact sd ⟨rfl, by decide⟩ | exact sd trivial | (show Nat.beq _ _ = true; rfl) | exact Bin.x rfl | (apply Run.nilStop rfl; apply RunSem.eqNil T_ok) | refine Run.storeStop rfl ?_ | (apply Run.mapStop; apply RunSem.mapSet T_ok) | (apply Run.newMapStop; apply RunSem.newMap T_ok) | (apply Run.sliceStop; apply RunSem.litI T_ok; rotate_left; rfl; rfl; rfl) | (apply AList.sliceStop; apply AListSem.litI T_ok; rotate_left; rfl; rfl; rfl) | (apply Run.semStop; apply RunSem.rangeStr T_ok) | (apply Run.semStop; apply RunSem.nextStr T_ok) | apply Run.condP | apply Sx.Ends.by () | constructor | intro _)
  apply RunSem.lend T_ok (Size_ok l hl hm) (fun _ => ⟨rfl, rfl⟩)
  all_goals repeat' (first | assumption | exact fun h : ¬ True => absurd trivial h | exact fun h : False => h.elim | exact sd (by first | omega | (simp only []; omega) | (simp only [List.length_append, List.length_cons, List.length_nil, List.length_take, List.length_drop, List.length_map, List.length_range, List.length_set]; omega)) | exact sp (fun h => by simp [PathHolds] at h; omega) | exact sp (fun h => by simp [PathHolds, -List.getD_eq_getElem?_getD] at h; omega) | exact sd rfl | exact sd ⟨rfl, by decide⟩ | exact sd trivial | (show Nat.beq _ _ = true; rfl) | exact Bin.x rfl | (apply Run.nilStop rfl; apply RunSem.eqNil T_ok) | refine Run.storeStop rfl ?_ | (apply Run.mapStop; apply RunSem.mapSet T_ok) | (apply Run.newMapStop; apply RunSem.newMap T_ok) | (apply Run.sliceStop; apply RunSem.litI T_ok; rotate_left; rfl; rfl; rfl) | (apply AList.sliceStop; apply AListSem.litI T_ok; rotate_left; rfl; rfl; rfl) | (apply Run.semStop; apply RunSem.rangeStr T_ok) | (apply Run.semStop; apply RunSem.nextStr T_ok) | apply Run.condP | apply Sx.Ends.by () | constructor | intro _)
  rename_i sz hsz hle ve
  have hsm : smallB l := hsz (by omega)
  have hsm' : l.length * 8 + l.flatten.length ≤ 3000 := hsm
  have hx : ∀ x ∈ l, x.length ≤ 1000000 := fun x hx => by have := mem_flat hx; omega
  have hg : ∀ k, k < l.length → (l.getD k []).length ≤ 1000000 := fun k hk => by rw [List.getD, List.getElem?_eq_getElem hk]; exact hx _ (List.getElem_mem hk)
  have hfr := frameB_sum l hx
  have hend : ∀ k, endsB l k ≤ (framesB l).length := fun k => by
    have h1 := endsB_mono (l := l) (i := k) (j := max k l.length) (by omega)
    have h2 : endsB l (max k l.length) = (framesB l).length := by rw [← endsB_is, List.take_of_length_le (by omega)]
    omega
  have hz : framesB (l.take 0) = [] := by rw [List.take_zero]; unfold framesB; rfl
  refine RunSem.loopK T_ok [0, 1, 5] (fun x : Nat × Value × Value × List Int × List UInt8 => [(8, [], iv x.1), (6, [], .o x.2.1), (7, [], .o x.2.2.1)]) (fun x => [.row x.2.1 true 5 1 encB 0 x.2.2.2.2, .row x.2.2.1 true 3 1 (encI .i64) 0 x.2.2.2.1]) (fun x => x.1 ≤ l.length ∧ x.2.2.2.1 = endsL l x.1 ∧ x.2.2.2.2 = framesB (l.take x.1)) (fun x => l.length - x.1) (0, .slice none 0 0, ve, [0], []) ⟨by simp, (endsL_zero l).symm, hz.symm⟩ (by repeat' constructor) (by repeat' first | assumption | exact tab_age _ _ _ | constructor) (by repeat' first | assumption | exact tab_age _ _ _ | constructor) ?_
  dsimp only [List.cons_append, List.nil_append]
  rintro ⟨k, va, ve2, el, bs⟩ ⟨hk, hel, hbs⟩
  simp only at hk hel hbs ⊢
  subst hel hbs
  have hb1 := hend k
  rw [← endsB_is] at hb1
  have hb2 := endsL_len l k
  repeat' (first | assumption | exact fun h : ¬ True => absurd trivial h | exact fun h : False => h.elim | exact sd (by first | omega | (simp only []; omega) | (simp only [List.length_append, List.length_cons, List.length_nil, List.length_take, List.length_drop, List.length_map, List.length_range, List.length_set]; omega)) | exact sp (fun h => by simp [PathHolds] at h; omega) | exact sp (fun h => by simp [PathHolds, -List.getD_eq_getElem?_getD] at h; omega) | exact sd rfl | exact sd ⟨rfl, by decide⟩ | exact sd trivial | (show Nat.beq _ _ = true; rfl) | exact Bin.x rfl | (apply Run.nilStop rfl; apply RunSem.eqNil T_ok) | refine Run.storeStop rfl ?_ | (apply Run.mapStop; apply RunSem.mapSet T_ok) | (apply Run.newMapStop; apply RunSem.newMap T_ok) | (apply Run.sliceStop; apply RunSem.litI T_ok; rotate_left; rfl; rfl; rfl) | (apply AList.sliceStop; apply AListSem.litI T_ok; rotate_left; rfl; rfl; rfl) | (apply Run.semStop; apply RunSem.rangeStr T_ok) | (apply Run.semStop; apply RunSem.nextStr T_ok) | apply Run.condP | apply Sx.Ends.by () | constructor | intro _)
  · rename_i hlt
    have hlt' : k < l.length := by omega
    have hgk := hg k hlt'
    have hbk := frameB_bounds (l.getD k []) (by omega)
    apply RunSem.lend T_ok (Put_ok' (l.getD k []) hgk) (fun _ => ⟨rfl, rfl⟩)
    all_goals repeat' (first | assumption | exact fun h : ¬ True => absurd trivial h | exact fun h : False => h.elim | exact sd (by first | omega | (simp only []; omega) | (simp only [List.length_append, List.length_cons, List.length_nil, List.length_take, List.length_drop, List.length_map, List.length_range, List.length_set]; omega)) | exact sp (fun h => by simp [PathHolds] at h; omega) | exact sp (fun h => by simp [PathHolds, -List.getD_eq_getElem?_getD] at h; omega) | exact sd rfl | exact sd ⟨rfl, by decide⟩ | exact sd trivial | (show Nat.beq _ _ = true; rfl) | exact Bin.x rfl | (apply Run.nilStop rfl; apply RunSem.eqNil T_ok) | refine Run.storeStop rfl ?_ | (apply Run.mapStop; apply RunSem.mapSet T_ok) | (apply Run.newMapStop; apply RunSem.newMap T_ok) | (apply Run.sliceStop; apply RunSem.litI T_ok; rotate_left; rfl; rfl; rfl) | (apply AList.sliceStop; apply AListSem.litI T_ok; rotate_left; rfl; rfl; rfl) | (apply Run.semStop; apply RunSem.rangeStr T_ok) | (apply Run.semStop; apply RunSem.nextStr T_ok) | apply Run.condP | apply Sx.Ends.by () | constructor | intro _)
    rename_i x _ v' v'' v''' v4
    rw [← framesB_take hlt'] at *
    apply AgainK.mk ((k + 1, v'', v4, endsL l (k + 1), framesB (l.take (k + 1))))
    case' h4 => (try simp only [List.append_nil]); repeat' (first | exact tab_age _ _ _ | constructor)
    case' h3 => repeat' constructor
    case' h1 => first | omega | (dsimp only; omega)
    · rw [endsL_succ, ← endsB_is]
    · exact ⟨hlt', rfl, rfl⟩
  · rename_i hge
    have hke : k = l.length := by omega
    subst hke
    rw [List.take_length] at hb1 ⊢
    have hS := Scan_ok (framesB l) (by omega)
    rw [scanB_frames hx] at hS
    change Sat _ _ _ _ (scan3 l (framesB l).length 0) at hS
    apply RunSem.lend T_ok hS (fun _ => ⟨rfl, rfl⟩)
    all_goals repeat' (first | assumption | exact fun h : ¬ True => absurd trivial h | exact fun h : False => h.elim | exact sd (by first | omega | (simp only []; omega) | (simp only [List.length_append, List.length_cons, List.length_nil, List.length_take, List.length_drop, List.length_map, List.length_range, List.length_set]; omega)) | exact sp (fun h => by simp [PathHolds] at h; omega) | exact sp (fun h => by simp [PathHolds, -List.getD_eq_getElem?_getD] at h; omega) | exact sd rfl | exact sd ⟨rfl, by decide⟩ | exact sd trivial | (show Nat.beq _ _ = true; rfl) | exact Bin.x rfl | (apply Run.nilStop rfl; apply RunSem.eqNil T_ok) | refine Run.storeStop rfl ?_ | (apply Run.mapStop; apply RunSem.mapSet T_ok) | (apply Run.newMapStop; apply RunSem.newMap T_ok) | (apply Run.sliceStop; apply RunSem.litI T_ok; rotate_left; rfl; rfl; rfl) | (apply AList.sliceStop; apply AListSem.litI T_ok; rotate_left; rfl; rfl; rfl) | (apply Run.semStop; apply RunSem.rangeStr T_ok) | (apply Run.semStop; apply RunSem.nextStr T_ok) | apply Run.condP | apply Sx.Ends.by () | constructor | intro _)
    apply RunSem.lend T_ok (All_ok l l (by omega) (fun x h => by have := hx x h; omega)) (fun _ => ⟨rfl, rfl⟩)
    all_goals repeat' (first | assumption | exact fun h : ¬ True => absurd trivial h | exact fun h : False => h.elim | exact sd (by first | omega | (simp only []; omega) | (simp only [List.length_append, List.length_cons, List.length_nil, List.length_take, List.length_drop, List.length_map, List.length_range, List.length_set]; omega)) | exact sp (fun h => by simp [PathHolds] at h; omega) | exact sp (fun h => by simp [PathHolds, -List.getD_eq_getElem?_getD] at h; omega) | exact sd rfl | exact sd ⟨rfl, by decide⟩ | exact sd trivial | (show Nat.beq _ _ = true; rfl) | exact Bin.x rfl | (apply Run.nilStop rfl; apply RunSem.eqNil T_ok) | refine Run.storeStop rfl ?_ | (apply Run.mapStop; apply RunSem.mapSet T_ok) | (apply Run.newMapStop; apply RunSem.newMap T_ok) | (apply Run.sliceStop; apply RunSem.litI T_ok; rotate_left; rfl; rfl; rfl) | (apply AList.sliceStop; apply AListSem.litI T_ok; rotate_left; rfl; rfl; rfl) | (apply Run.semStop; apply RunSem.rangeStr T_ok) | (apply Run.semStop; apply RunSem.nextStr T_ok) | apply Run.condP | apply Sx.Ends.by () | constructor | intro _)
    · rename_i hbad
      simp at hbad
    · rename_i hgood hcc
      obtain ⟨c, rfl⟩ := Int.eq_ofNat_of_zero_le (show 0 ≤ cut by omega)
      have hc : c ≤ (framesB l).length := by omega
      refine RunSem.loopK T_ok [0, 1, 5, 6, 7] (fun k : Nat => [(15, [], iv k)]) (fun _ => []) (fun k => k ≤ l.length ∧ endsB l k ≤ c) (fun k => l.length - k) 0 ⟨by omega, by rw [← endsB_is, hz]; simp⟩ (by repeat' constructor) (by repeat' first | assumption | exact tab_age _ _ _ | constructor) (by repeat' first | assumption | exact tab_age _ _ _ | constructor) ?_
      dsimp only [List.cons_append, List.nil_append]
      rintro k ⟨hk2, hek⟩
      have hgt : ∀ i : Nat, i ≤ l.length → (endsL l l.length).getD i 0 = ((endsB l i : Nat) : Int) := fun i hi => endsL_get l hi
      repeat' (first | assumption | exact fun h : ¬ True => absurd trivial h | exact fun h : False => h.elim | exact sd (by first | omega | (simp only []; omega) | (simp only [List.length_append, List.length_cons, List.length_nil, List.length_take, List.length_drop, List.length_map, List.length_range, List.length_set]; omega)) | exact sp (fun h => by simp [PathHolds] at h; omega) | exact sp (fun h => by simp [PathHolds, -List.getD_eq_getElem?_getD] at h; omega) | exact sd rfl | exact sd ⟨rfl, by decide⟩ | exact sd trivial | (show Nat.beq _ _ = true; rfl) | exact Bin.x rfl | (apply Run.nilStop rfl; apply RunSem.eqNil T_ok) | refine Run.storeStop rfl ?_ | (apply Run.mapStop; apply RunSem.mapSet T_ok) | (apply Run.newMapStop; apply RunSem.newMap T_ok) | (apply Run.sliceStop; apply RunSem.litI T_ok; rotate_left; rfl; rfl; rfl) | (apply AList.sliceStop; apply AListSem.litI T_ok; rotate_left; rfl; rfl; rfl) | (apply Run.semStop; apply RunSem.rangeStr T_ok) | (apply Run.semStop; apply RunSem.nextStr T_ok) | apply Run.condP | apply Sx.Ends.by () | constructor | intro _)
      · exact sp (fun h => by have h2 := of_decide_eq_true h.1; show k + 1 < _; omega)
      · rename_i hcd
        have h1 := hcd.2
        rw [hgt (k + 1) (by omega)] at h1
        apply AgainK.mk (k + 1)
        case' h4 => (try simp only [List.append_nil]); repeat' (first | exact tab_age _ _ _ | constructor)
        case' h3 => repeat' constructor
        case' h1 => first | omega | (dsimp only; omega)
        exact ⟨by omega, by omega⟩
      · rename_i hcd
        have hlast : k < l.length → c < endsB l (k + 1) := fun hk3 => by
          rcases Nat.lt_or_ge c (endsB l (k + 1)) with h2 | h2
          · exact h2
          · refine absurd ⟨?_, ?_⟩ hcd
            · show (k : Int) + 1 < _
              omega
            · show (endsL l l.length).getD (k + 1) 0 ≤ (c : Int)
              rw [hgt (k + 1) (by omega)]
              omega
        have hT := scanB_cut hx hk2 hek hlast hc
        have hTl : ((framesB l).take c).length ≤ (framesB l).length := by rw [List.length_take]; omega
        have hS2 := Scan_ok ((framesB l).take c) (by omega)
        rw [hT] at hS2
        change Sat _ _ _ _ (scan3 (l.take k) (endsB l k) (((if c = endsB l k then 0 else 1 : Nat)) : Int)) at hS2
        have hgk : (endsL l l.length).getD k 0 = ((endsB l k : Nat) : Int) := hgt k hk2
        apply RunSem.lend T_ok hS2 (fun _ => ⟨rfl, rfl⟩)
        all_goals repeat' (first | assumption | exact fun h : ¬ True => absurd trivial h | exact fun h : False => h.elim | exact sd (by first | omega | (simp only []; omega) | (simp only [List.length_append, List.length_cons, List.length_nil, List.length_take, List.length_drop, List.length_map, List.length_range, List.length_set]; omega)) | exact sp (fun h => by simp [PathHolds] at h; omega) | exact sp (fun h => by simp [PathHolds, -List.getD_eq_getElem?_getD] at h; omega) | exact sd rfl | exact sd ⟨rfl, by decide⟩ | exact sd trivial | (show Nat.beq _ _ = true; rfl) | exact Bin.x rfl | (apply Run.nilStop rfl; apply RunSem.eqNil T_ok) | refine Run.storeStop rfl ?_ | (apply Run.mapStop; apply RunSem.mapSet T_ok) | (apply Run.newMapStop; apply RunSem.newMap T_ok) | (apply Run.sliceStop; apply RunSem.litI T_ok; rotate_left; rfl; rfl; rfl) | (apply AList.sliceStop; apply AListSem.litI T_ok; rotate_left; rfl; rfl; rfl) | (apply Run.semStop; apply RunSem.rangeStr T_ok) | (apply Run.semStop; apply RunSem.nextStr T_ok) | apply Run.condP | apply Sx.Ends.by () | constructor | intro _)
        apply RunSem.lend T_ok (All_ok (l.take k) (l.take k) (by rw [List.length_take]; omega) (fun x h => by have := hx x (List.mem_of_mem_take h); omega)) (fun _ => ⟨rfl, rfl⟩)
        all_goals repeat' (first | assumption | exact fun h : ¬ True => absurd trivial h | exact fun h : False => h.elim | exact sd (by first | omega | (simp only []; omega) | (simp only [List.length_append, List.length_cons, List.length_nil, List.length_take, List.length_drop, List.length_map, List.length_range, List.length_set]; omega)) | exact sp (fun h => by simp [PathHolds] at h; omega) | exact sp (fun h => by simp [PathHolds, -List.getD_eq_getElem?_getD] at h; omega) | exact sd rfl | exact sd ⟨rfl, by decide⟩ | exact sd trivial | (show Nat.beq _ _ = true; rfl) | exact Bin.x rfl | (apply Run.nilStop rfl; apply RunSem.eqNil T_ok) | refine Run.storeStop rfl ?_ | (apply Run.mapStop; apply RunSem.mapSet T_ok) | (apply Run.newMapStop; apply RunSem.newMap T_ok) | (apply Run.sliceStop; apply RunSem.litI T_ok; rotate_left; rfl; rfl; rfl) | (apply AList.sliceStop; apply AListSem.litI T_ok; rotate_left; rfl; rfl; rfl) | (apply Run.semStop; apply RunSem.rangeStr T_ok) | (apply Run.semStop; apply RunSem.nextStr T_ok) | apply Run.condP | apply Sx.Ends.by () | constructor | intro _)
        rw [hgk]
        by_cases hce : c = endsB l k
        · subst hce; simp
        · have : ¬ ((endsB l k : Nat) : Int) = (c : Int) := by omega
          simp [hce, this]
end Go.Proofs.Ytojfchnfhmccaaa
