import Derived.Test.YtkpfbjlbllpahaaDoorMk9
import Derived.Test.YtkpfbjlbllpahaaDoorMk3
import Derived.BigQuiet
set_option linter.unusedVariables false
namespace Go.Proofs.YtkpfbjlbllpahaaDoor
open Go.RowKit
/-- What a proof says of the hash at the key's place. -/
def placeT (key : ByteArray) (f b : Bool) (o v : ByteArray) : ByteArray := if f then saidB key v else if b then saidB o v else ⟨#[]⟩
open Classical in
/-- Whether a root bears out what is proved for a key, or the refusal. -/
noncomputable def checkZ (root key : ByteArray) (W : Int) (f b : Bool) (o v : ByteArray) (fs : List Bool) (hs : List ByteArray) : Int :=
  if formedZ W f b o v ≠ 0 then formedZ W f b o v
  else if b = true ∧ (o = key ∨ ¬ cutB o W = cutB key W) then 13
  else if ¬ (root.size : Int) = W then 72
  else if sidedZ W fs hs ≠ 0 then sidedZ W fs hs
  else if ¬ wayH W (cutB key W) fs hs (cutB (placeT key f b o v) W) fs.length = root then 290 else 0
/-- Nothing to refuse in what a proof says of another key. -/
def Beyond (b : Bool) (o key : ByteArray) (W : Int) : Prop := ¬ (b = true ∧ (o = key ∨ ¬ cutB o W = cutB key W))
theorem formed_in {W : Int} {f b : Bool} {o v : ByteArray} (h : formedZ W f b o v = 0) : 1 ≤ W ∧ W ≤ 32 := by
  unfold formedZ at h
  split at h
  · omega
  · omega
section
variable {root key : ByteArray} {W : Int} {f b : Bool} {o v : ByteArray} {fs : List Bool} {hs : List ByteArray}
theorem check_1 (h1 : ¬ formedZ W f b o v = 0) : checkZ root key W f b o v fs hs = formedZ W f b o v := by unfold checkZ; rw [if_pos h1]
theorem check_2 (h1 : formedZ W f b o v = 0) (h2 : b = true ∧ (o = key ∨ ¬ cutB o W = cutB key W)) : checkZ root key W f b o v fs hs = 13 := by unfold checkZ; rw [if_neg (fun h => h h1), if_pos h2]
theorem check_3 (h1 : formedZ W f b o v = 0) (h2 : Beyond b o key W) (h3 : ¬ (root.size : Int) = W) : checkZ root key W f b o v fs hs = 72 := by unfold checkZ; rw [if_neg (fun h => h h1), if_neg (show ¬ (b = true ∧ (o = key ∨ ¬ cutB o W = cutB key W)) from h2), if_pos h3]
theorem check_4 (h1 : formedZ W f b o v = 0) (h2 : Beyond b o key W) (h3 : (root.size : Int) = W) (h4 : ¬ sidedZ W fs hs = 0) : checkZ root key W f b o v fs hs = sidedZ W fs hs := by unfold checkZ; rw [if_neg (fun h => h h1), if_neg (show ¬ (b = true ∧ (o = key ∨ ¬ cutB o W = cutB key W)) from h2), if_neg (fun h => h h3), if_pos h4]
theorem check_5 (h1 : formedZ W f b o v = 0) (h2 : Beyond b o key W) (h3 : (root.size : Int) = W) (h4 : sidedZ W fs hs = 0) (h5 : ¬ wayH W (cutB key W) fs hs (cutB (placeT key f b o v) W) fs.length = root) : checkZ root key W f b o v fs hs = 290 := by unfold checkZ; rw [if_neg (fun h => h h1), if_neg (show ¬ (b = true ∧ (o = key ∨ ¬ cutB o W = cutB key W)) from h2), if_neg (fun h => h h3), if_neg (fun h => h h4), if_pos h5]
theorem check_6 (h1 : formedZ W f b o v = 0) (h2 : Beyond b o key W) (h3 : (root.size : Int) = W) (h4 : sidedZ W fs hs = 0) (h5 : wayH W (cutB key W) fs hs (cutB (placeT key f b o v) W) fs.length = root) : checkZ root key W f b o v fs hs = 0 := by unfold checkZ; rw [if_neg (fun h => h h1), if_neg (show ¬ (b = true ∧ (o = key ∨ ¬ cutB o W = cutB key W)) from h2), if_neg (fun h => h h3), if_neg (fun h => h h4), if_neg (fun h => h h5)]
end
theorem mway_place (key : ByteArray) (m : Nat) (f b : Bool) (o v : ByteArray) (fs : List Bool) (hs : List ByteArray) (F H : Value) (w : World) (hL : Laid w) (hF : Held w F (bV fs)) (hH : Held w H (tV hs)) (S : Sided m fs hs) (hk : key.size ≤ 1048576) (ho : o.size ≤ 1048576) (hv : v.size ≤ 1048576) :
    Calls Tryd.prog 44 #[.string key, .agg #[.int .i64 m, .bool f, .bool b, .string o, .string v, F, H]] w fun e w' => ∃ g n, 0 < n ∧ e = .returned (.slice (some ⟨g, 0, none⟩) n n) ∧ g < w'.heap.size ∧ w'.cell? ⟨g, 0, none⟩ = some (.string (wayT m (cutB key m) fs hs (placeT key f b o v) fs.length)) ∧ Below w.heap.size w w' :=
  mway_calls key m f b o v fs hs F H w hL hF hH S hk ho hv
set_option maxRecDepth 100000 in
set_option maxHeartbeats 4000000 in
theorem mcheck_calls (root key : ByteArray) (W : Int) (f b : Bool) (o v : ByteArray) (fs : List Bool) (hs : List ByteArray) (F H : Value) (w : World) (hL : Laid w) (hF : Held w F (bV fs)) (hH : Held w H (tV hs)) (hfl : fs.length ≤ 1048576) (hhl : hs.length ≤ 1048576) (hk : key.size ≤ 1048576) (ho : o.size ≤ 1048576) (hv : v.size ≤ 1048576) (hr : root.size ≤ 1048576) :
    Calls Tryd.prog 11 #[.string root, .string key, .agg #[.int .i64 W, .bool f, .bool b, .string o, .string v, F, H]] w fun e w' => e = .returned (.int .i64 (checkZ root key W f b o v fs hs)) ∧ Below w.heap.size w w' := by
  have h4 := hL.size
  have HL := Lib.hid hL
  have HF := Lib.hid hF
  have HH := Lib.hid hH
  have CF := Lib.hid (fun w => mformed_calls W f b o v F H w)
  obtain ⟨z1, hz1⟩ : ∃ z, formedZ W f b o v = z := ⟨_, rfl⟩
  rw [hz1] at CF
  have HZ1 := Lib.hid hz1
  have HB0 : Hid (Below (w.heap.size + 1) (w.alloc (.cells #[.int .i64 W, .bool f, .bool b, .string o, .string v, F, H] 25)) (w.alloc (.cells #[.int .i64 W, .bool f, .bool b, .string o, .string v, F, H] 25))) := Lib.hid (Below.refl _ _)
  clear hL hF hH hz1
  go_enter Tryd.func11, Tryd.ntmps11
  go_wp2_with fail
  refine (CF.out _).mono ?_
  rintro e w1 ⟨rfl, hb1⟩
  have HB1 := Lib.hid (belowStep HB0.out (by simp) hb1)
  obtain ⟨x0, x1, x2, x3, x4, x5, x6⟩ := boxed7 HB1.out
  have hs1 := (boxed HB1.out).2.1
  clear hb1
  by_cases hz : z1 = 0
  · subst hz
    have hW := formed_in HZ1.out
    obtain ⟨m, rfl⟩ : ∃ m : Nat, W = m := ⟨W.toNat, by omega⟩
    go_wp2_with fail
    cases b
    · have HNO : Hid (Beyond false o key m) := Lib.hid (by rintro ⟨h, _⟩; cases h)
      have HKF : Hid (∀ w', Below (w.heap.size + 1) (w.alloc (.cells #[.int .i64 m, .bool f, .bool false, .string o, .string v, F, H] 25)) w' → Held w' F (bV fs) ∧ Held w' H (tV hs) ∧ Laid w') := Lib.hid (fun w' h => ⟨HF.out.keep (boxed h).1, HH.out.keep (boxed h).1, HL.out.below (boxed h).1 h4⟩)
      first | (go_quiet (fail)) | fail
      have HBA := Lib.hid (belowDrewA HB1.out nq)
      generalize w1.drewN nq = wA at *
      have hwz := HKF.out
      by_cases hr1 : (root.size : Int) = m
      · have hrb : ((root.size : Int) != m) = false := by rw [bne_eq_false_iff_eq]; exact hr1
        have HR1 := Lib.hid hr1
        clear hr1 hwz
        obtain ⟨y0, y1, y2, y3, y4, y5, y6⟩ := boxed7 HBA.out
        obtain ⟨z2, hz2⟩ : ∃ z, sidedZ m fs hs = z := ⟨_, rfl⟩
        have HZ2 := Lib.hid hz2
        clear hz2
        have CS := Lib.hid (msided_calls m f false o v fs hs F H wA (HKF.out wA HBA.out).2.2 (HKF.out wA HBA.out).1 (HKF.out wA HBA.out).2.1 hfl hhl (by omega) (by omega))
        rw [HZ2.out] at CS
        go_wp2_with fail
        refine CS.out.mono ?_
        rintro e wB ⟨rfl, hbB⟩
        have HBX := Lib.hid (belowStep HBA.out (boxed HBA.out).2.1 hbB)
        obtain ⟨u0, u1, u2, u3, u4, u5, u6⟩ := boxed7 HBX.out
        have hsB := (boxed HBX.out).2.1
        clear hbB
        by_cases hzz : z2 = 0
        · subst hzz
          have S := Sided.of HZ2.out (by omega)
          have CW := Lib.hid (fun w hL hF hH => mway_place key m f false o v fs hs F H w hL hF hH S hk ho hv)
          have htz : (placeT key f false o v).size ≤ 4194304 := by
            unfold placeT
            split
            · rw [said_size]; omega
            · split
              · rw [said_size]; omega
              · exact Nat.zero_le _
          have hTz := S.way_size (cutB key m) (placeT key f false o v) htz fs.length (Nat.le_refl _)
          have hwh := way_hash m (cutB key m) fs hs (placeT key f false o v) fs.length
          obtain ⟨T, hT⟩ : ∃ T, wayT m (cutB key m) fs hs (placeT key f false o v) fs.length = T := ⟨_, rfl⟩
          rw [hT] at hwh hTz
          simp only [hT] at CW
          have CT := Lib.hid (fun w h => cut_calls T m w h (by omega))
          obtain ⟨X, hX⟩ : ∃ X, cutB T m = X := ⟨_, rfl⟩
          rw [hX] at CT hwh
          have HWH := Lib.hid hwh
          clear hT hX hwh S htz hTz
          by_cases hxr : X = root
          · have HC := Lib.hid (check_6 (fs := fs) (hs := hs) HZ1.out HNO.out HR1.out HZ2.out (by rw [← HWH.out]; exact hxr))
            subst hxr
            go_wp2_with fail
            go_region_with ((first
              | (go_at_call 44; (with_reducible refine (CW.out _ (HKF.out _ (Below.drew HBX.out)).2.2 (HKF.out _ (Below.drew HBX.out)).1 (HKF.out _ (Below.drew HBX.out)).2.1).mono ?_); rintro e wC ⟨g, n, hn, rfl, hg, hx, hbC⟩
                 have hni : (0 : Int) < n := (by omega)
                 have HBC := Lib.hid (belowStep (Below.drew HBX.out) hsB hbC)
                 obtain ⟨v0, v1, v2, v3, v4, v5, v6⟩ := boxed7 HBC.out
                 clear hbC)
              | (go_at_call 42; (with_reducible refine (CT.out _ (HKF.out _ HBC.out).2.2).mono ?_); rintro e wD ⟨rfl, hbD⟩
                 have HBD := Lib.hid (belowStep HBC.out (boxed HBC.out).2.1 hbD)
                 clear hbD)))
            all_goals go_wp2
            all_goals go_ret
            all_goals exact ⟨congrArg (fun z => Ending.returned (.int .i64 z)) HC.out.symm, (boxed HBD.out).1⟩
          · have HC := Lib.hid (check_5 (fs := fs) (hs := hs) HZ1.out HNO.out HR1.out HZ2.out (by rw [← HWH.out]; exact hxr))
            have hne := seq_no hxr
            go_wp2_with fail
            go_region_with ((first
              | (go_at_call 44; (with_reducible refine (CW.out _ (HKF.out _ (Below.drew HBX.out)).2.2 (HKF.out _ (Below.drew HBX.out)).1 (HKF.out _ (Below.drew HBX.out)).2.1).mono ?_); rintro e wC ⟨g, n, hn, rfl, hg, hx, hbC⟩
                 have hni : (0 : Int) < n := (by omega)
                 have HBC := Lib.hid (belowStep (Below.drew HBX.out) hsB hbC)
                 obtain ⟨v0, v1, v2, v3, v4, v5, v6⟩ := boxed7 HBC.out
                 clear hbC)
              | (go_at_call 42; (with_reducible refine (CT.out _ (HKF.out _ HBC.out).2.2).mono ?_); rintro e wD ⟨rfl, hbD⟩
                 have HBD := Lib.hid (belowStep HBC.out (boxed HBC.out).2.1 hbD)
                 clear hbD)))
            all_goals go_wp2
            all_goals go_ret
            all_goals exact ⟨congrArg (fun z => Ending.returned (.int .i64 z)) HC.out.symm, (boxed HBD.out).1⟩
        · have hzb : (z2 != 0) = true := by rw [bne_iff_ne]; exact hzz
          have hc := check_4 (fs := fs) (hs := hs) HZ1.out HNO.out HR1.out (by rw [HZ2.out]; exact hzz)
          rw [HZ2.out] at hc
          have HC := Lib.hid hc
          clear hc hzz
          go_wp2
          go_ret
          exact ⟨congrArg (fun z => Ending.returned (.int .i64 z)) HC.out.symm, (boxed HBX.out).1⟩
      · have hrb : ((root.size : Int) != m) = true := by rw [bne_iff_ne]; exact hr1
        have HC := Lib.hid (check_3 (fs := fs) (hs := hs) HZ1.out HNO.out hr1)
        obtain ⟨y0, y1, y2, y3, y4, y5, y6⟩ := boxed7 HBA.out
        clear hr1
        go_wp2
        go_ret
        exact ⟨congrArg (fun z => Ending.returned (.int .i64 z)) HC.out.symm, (boxed HBA.out).1⟩
    · by_cases hok : o = key
      · have HC := Lib.hid (check_2 (root := root) (fs := fs) (hs := hs) HZ1.out ⟨rfl, .inl hok⟩)
        subst hok
        first | (go_quiet (fail)) | fail
        go_wp2_with fail
        go_ret
        exact ⟨congrArg (fun z => Ending.returned (.int .i64 z)) HC.out.symm, belowDrewA (boxed HB1.out).1 _⟩
      · have hno := seq_no hok
        have HKF : Hid (∀ w', Below (w.heap.size + 1) (w.alloc (.cells #[.int .i64 m, .bool f, .bool true, .string o, .string v, F, H] 25)) w' → Held w' F (bV fs) ∧ Held w' H (tV hs) ∧ Laid w') := Lib.hid (fun w' h => ⟨HF.out.keep (boxed h).1, HH.out.keep (boxed h).1, HL.out.below (boxed h).1 h4⟩)
        have C1 := Lib.hid (fun w h => cut_calls o m w h (by omega))
        have C2 := Lib.hid (fun w h => cut_calls key m w h (by omega))
        have HBX := HB1
        by_cases hcc : cutB o m = cutB key m
        · have HNO : Hid (Beyond true o key m) := Lib.hid (by rintro ⟨_, h | h⟩; exact hok h; exact h hcc)
          rw [hcc] at C1
          obtain ⟨c, hce⟩ : ∃ c, cutB key m = c := ⟨_, rfl⟩
          rw [hce] at C1 C2
          clear hce hcc hok
          go_region_held3 (fun w' => w'.cell? ⟨w.heap.size, 0, none⟩ = some (.int .i64 m) ∧ w'.cell? ⟨w.heap.size, 2, none⟩ = some (.bool true) ∧ w'.cell? ⟨w.heap.size, 3, none⟩ = some (.string o) ∧ w.heap.size < w'.heap.size ∧ Below (w.heap.size + 1) (w.alloc (.cells #[.int .i64 m, .bool f, .bool true, .string o, .string v, F, H] 25)) w')
            (first
              | (refine ⟨?_, ?_, ?_, ?_, Below.drew (Hid.out HBX)⟩ <;> simp <;> assumption)
              | (go_split_ands; refine ⟨(Below.cell (p := ⟨w.heap.size, 0, none⟩) hb1 ?_).trans ?_, (Below.cell (p := ⟨w.heap.size, 2, none⟩) hb1 ?_).trans ?_, (Below.cell (p := ⟨w.heap.size, 3, none⟩) hb1 ?_).trans ?_, Nat.lt_of_lt_of_le ?_ hb1.size, belowStep ?_ ?_ hb1⟩ <;> assumption)
              | go_keep)
            (first
              | (go_at_call 42; go_split_ands; (with_reducible refine (C1.out _ (HKF.out _ (by assumption)).2.2).mono ?_); rintro e wA ⟨rfl, hb1⟩)
              | (go_at_call 42; go_split_ands; (with_reducible refine (C2.out _ (HKF.out _ (by assumption)).2.2).mono ?_); rintro e wA ⟨rfl, hb1⟩))
          all_goals (
            go_split_ands
            have HBA : Hid (Below (w.heap.size + 1) (w.alloc (.cells #[.int .i64 m, .bool f, .bool true, .string o, .string v, F, H] 25)) wA) := Lib.hid (by assumption)
            clear HBX
            have hwz := HKF.out
            by_cases hr1 : (root.size : Int) = m
            · have hrb : ((root.size : Int) != m) = false := by rw [bne_eq_false_iff_eq]; exact hr1
              have HR1 := Lib.hid hr1
              clear hr1 hwz
              obtain ⟨y0, y1, y2, y3, y4, y5, y6⟩ := boxed7 HBA.out
              obtain ⟨z2, hz2⟩ : ∃ z, sidedZ m fs hs = z := ⟨_, rfl⟩
              have HZ2 := Lib.hid hz2
              clear hz2
              have CS := Lib.hid (msided_calls m f true o v fs hs F H wA (HKF.out wA HBA.out).2.2 (HKF.out wA HBA.out).1 (HKF.out wA HBA.out).2.1 hfl hhl (by omega) (by omega))
              rw [HZ2.out] at CS
              go_wp2_with fail
              refine CS.out.mono ?_
              rintro e wB ⟨rfl, hbB⟩
              have HBX := Lib.hid (belowStep HBA.out (boxed HBA.out).2.1 hbB)
              obtain ⟨u0, u1, u2, u3, u4, u5, u6⟩ := boxed7 HBX.out
              have hsB := (boxed HBX.out).2.1
              clear hbB
              by_cases hzz : z2 = 0
              · subst hzz
                have S := Sided.of HZ2.out (by omega)
                have CW := Lib.hid (fun w hL hF hH => mway_place key m f true o v fs hs F H w hL hF hH S hk ho hv)
                have htz : (placeT key f true o v).size ≤ 4194304 := by
                  unfold placeT
                  split
                  · rw [said_size]; omega
                  · split
                    · rw [said_size]; omega
                    · exact Nat.zero_le _
                have hTz := S.way_size (cutB key m) (placeT key f true o v) htz fs.length (Nat.le_refl _)
                have hwh := way_hash m (cutB key m) fs hs (placeT key f true o v) fs.length
                obtain ⟨T, hT⟩ : ∃ T, wayT m (cutB key m) fs hs (placeT key f true o v) fs.length = T := ⟨_, rfl⟩
                rw [hT] at hwh hTz
                simp only [hT] at CW
                have CT := Lib.hid (fun w h => cut_calls T m w h (by omega))
                obtain ⟨X, hX⟩ : ∃ X, cutB T m = X := ⟨_, rfl⟩
                rw [hX] at CT hwh
                have HWH := Lib.hid hwh
                clear hT hX hwh S htz hTz
                by_cases hxr : X = root
                · have HC := Lib.hid (check_6 (fs := fs) (hs := hs) HZ1.out HNO.out HR1.out HZ2.out (by rw [← HWH.out]; exact hxr))
                  subst hxr
                  go_wp2_with fail
                  go_region_with ((first
                    | (go_at_call 44; (with_reducible refine (CW.out _ (HKF.out _ (Below.drew HBX.out)).2.2 (HKF.out _ (Below.drew HBX.out)).1 (HKF.out _ (Below.drew HBX.out)).2.1).mono ?_); rintro e wC ⟨g, n, hn, rfl, hg, hx, hbC⟩
                       have hni : (0 : Int) < n := (by omega)
                       have HBC := Lib.hid (belowStep (Below.drew HBX.out) hsB hbC)
                       obtain ⟨v0, v1, v2, v3, v4, v5, v6⟩ := boxed7 HBC.out
                       clear hbC)
                    | (go_at_call 42; (with_reducible refine (CT.out _ (HKF.out _ HBC.out).2.2).mono ?_); rintro e wD ⟨rfl, hbD⟩
                       have HBD := Lib.hid (belowStep HBC.out (boxed HBC.out).2.1 hbD)
                       clear hbD)))
                  all_goals go_wp2
                  all_goals go_ret
                  all_goals exact ⟨congrArg (fun z => Ending.returned (.int .i64 z)) HC.out.symm, (boxed HBD.out).1⟩
                · have HC := Lib.hid (check_5 (fs := fs) (hs := hs) HZ1.out HNO.out HR1.out HZ2.out (by rw [← HWH.out]; exact hxr))
                  have hne := seq_no hxr
                  go_wp2_with fail
                  go_region_with ((first
                    | (go_at_call 44; (with_reducible refine (CW.out _ (HKF.out _ (Below.drew HBX.out)).2.2 (HKF.out _ (Below.drew HBX.out)).1 (HKF.out _ (Below.drew HBX.out)).2.1).mono ?_); rintro e wC ⟨g, n, hn, rfl, hg, hx, hbC⟩
                       have hni : (0 : Int) < n := (by omega)
                       have HBC := Lib.hid (belowStep (Below.drew HBX.out) hsB hbC)
                       obtain ⟨v0, v1, v2, v3, v4, v5, v6⟩ := boxed7 HBC.out
                       clear hbC)
                    | (go_at_call 42; (with_reducible refine (CT.out _ (HKF.out _ HBC.out).2.2).mono ?_); rintro e wD ⟨rfl, hbD⟩
                       have HBD := Lib.hid (belowStep HBC.out (boxed HBC.out).2.1 hbD)
                       clear hbD)))
                  all_goals go_wp2
                  all_goals go_ret
                  all_goals exact ⟨congrArg (fun z => Ending.returned (.int .i64 z)) HC.out.symm, (boxed HBD.out).1⟩
              · have hzb : (z2 != 0) = true := by rw [bne_iff_ne]; exact hzz
                have hc := check_4 (fs := fs) (hs := hs) HZ1.out HNO.out HR1.out (by rw [HZ2.out]; exact hzz)
                rw [HZ2.out] at hc
                have HC := Lib.hid hc
                clear hc hzz
                go_wp2
                go_ret
                exact ⟨congrArg (fun z => Ending.returned (.int .i64 z)) HC.out.symm, (boxed HBX.out).1⟩
            · have hrb : ((root.size : Int) != m) = true := by rw [bne_iff_ne]; exact hr1
              have HC := Lib.hid (check_3 (fs := fs) (hs := hs) HZ1.out HNO.out hr1)
              obtain ⟨y0, y1, y2, y3, y4, y5, y6⟩ := boxed7 HBA.out
              clear hr1
              go_wp2
              go_ret
              exact ⟨congrArg (fun z => Ending.returned (.int .i64 z)) HC.out.symm, (boxed HBA.out).1⟩
            skip)
        · have HC := Lib.hid (check_2 (root := root) (fs := fs) (hs := hs) HZ1.out ⟨rfl, .inr hcc⟩)
          obtain ⟨c1, hc1⟩ : ∃ c, cutB o m = c := ⟨_, rfl⟩
          obtain ⟨c2, hc2⟩ : ∃ c, cutB key m = c := ⟨_, rfl⟩
          rw [hc1] at C1 hcc
          rw [hc2] at C2 hcc
          have hne := seq_no hcc
          clear hc1 hc2 hcc hok
          go_region_held3 (fun w' => w'.cell? ⟨w.heap.size, 0, none⟩ = some (.int .i64 m) ∧ w'.cell? ⟨w.heap.size, 2, none⟩ = some (.bool true) ∧ w'.cell? ⟨w.heap.size, 3, none⟩ = some (.string o) ∧ w.heap.size < w'.heap.size ∧ Below (w.heap.size + 1) (w.alloc (.cells #[.int .i64 m, .bool f, .bool true, .string o, .string v, F, H] 25)) w')
            (first
              | (refine ⟨?_, ?_, ?_, ?_, Below.drew (Hid.out HBX)⟩ <;> simp <;> assumption)
              | (go_split_ands; refine ⟨(Below.cell (p := ⟨w.heap.size, 0, none⟩) hb1 ?_).trans ?_, (Below.cell (p := ⟨w.heap.size, 2, none⟩) hb1 ?_).trans ?_, (Below.cell (p := ⟨w.heap.size, 3, none⟩) hb1 ?_).trans ?_, Nat.lt_of_lt_of_le ?_ hb1.size, belowStep ?_ ?_ hb1⟩ <;> assumption)
              | go_keep)
            (first
              | (go_at_call 42; go_split_ands; (with_reducible refine (C1.out _ (HKF.out _ (by assumption)).2.2).mono ?_); rintro e wA ⟨rfl, hb1⟩)
              | (go_at_call 42; go_split_ands; (with_reducible refine (C2.out _ (HKF.out _ (by assumption)).2.2).mono ?_); rintro e wA ⟨rfl, hb1⟩))
          all_goals go_wp2
          all_goals go_ret
          all_goals go_split_ands
          all_goals exact ⟨congrArg (fun z => Ending.returned (.int .i64 z)) HC.out.symm, (boxed (by assumption)).1⟩
  · have hzb : (z1 != 0) = true := by rw [bne_iff_ne]; exact hz
    have hc := check_1 (root := root) (key := key) (fs := fs) (hs := hs) (by rw [HZ1.out]; exact hz)
    rw [HZ1.out] at hc
    have HC := Lib.hid hc
    clear hc hz
    go_wp2
    go_ret
    exact ⟨congrArg (fun z => Ending.returned (.int .i64 z)) HC.out.symm, (boxed HB1.out).1⟩
end Go.Proofs.YtkpfbjlbllpahaaDoor
