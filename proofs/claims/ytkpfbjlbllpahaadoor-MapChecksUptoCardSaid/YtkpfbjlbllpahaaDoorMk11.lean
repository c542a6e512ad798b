import Derived.Test.YtkpfbjlbllpahaaDoorMk10
import Derived.Test.YtkpfbjlbllpahaaDoorMk7
set_option linter.unusedVariables false
namespace Go.Proofs.YtkpfbjlbllpahaaDoor
open Go.RowKit
theorem formed_whole {m : Nat} {f b : Bool} {o v : ByteArray} (h1 : 1 ≤ m) (h2 : m ≤ 32) : formedZ m f b o v = wholeZ f b o v := by unfold formedZ; rw [if_neg (by omega)]
theorem place_ff (key o v : ByteArray) (W : Int) : cutB (placeT key false false o v) W = emptyB W := rfl
theorem place_tf (key o v : ByteArray) : placeT key true false o v = saidB key v := rfl
theorem place_ft (key o v : ByteArray) : placeT key false true o v = saidB o v := rfl
set_option maxRecDepth 100000 in
set_option maxHeartbeats 4000000 in
theorem mrefcheck_ff (root key : ByteArray) (m : Nat) (o v : ByteArray) (fs : List Bool) (hs : List ByteArray) (F H : Value) (w : World) (hL : Laid w) (hF : Held w F (bV fs)) (hH : Held w H (tV hs)) (hfl : fs.length ≤ 1048576) (hhl : hs.length ≤ 1048576) (hk : key.size ≤ 1048576) (ho : o.size ≤ 1048576) (hv : v.size ≤ 1048576) (hr : root.size ≤ 1048576) (hm1 : 1 ≤ m) (hm2 : m ≤ 32) :
    Calls Tryd.prog 12 #[.string root, .string key, .agg #[.int .i64 m, .bool false, .bool false, .string o, .string v, F, H]] w fun e w' => e = .returned (.int .i64 (checkZ root key m false false o v fs hs)) ∧ Below w.heap.size w w' := by
  have h4 := hL.size
  have HL := Lib.hid hL
  have HF := Lib.hid hF
  have HH := Lib.hid hH
  have CF := Lib.hid (fun w => mwhole_calls m false false o v F H w)
  obtain ⟨z1, hz1⟩ : ∃ z, wholeZ false false o v = z := ⟨_, rfl⟩
  rw [hz1] at CF
  have hz1' := formed_whole (f := false) (b := false) (o := o) (v := v) hm1 hm2
  rw [hz1] at hz1'
  have HZ1 := Lib.hid hz1'
  have HB0 : Hid (Below (w.heap.size + 1) (w.alloc (.cells #[.int .i64 m, .bool false, .bool false, .string o, .string v, F, H] 25)) (w.alloc (.cells #[.int .i64 m, .bool false, .bool false, .string o, .string v, F, H] 25))) := Lib.hid (Below.refl _ _)
  have CP := Lib.hid (fun w h => mrefplace_calls m key w h (by omega))
  obtain ⟨p, hp⟩ : ∃ p, cutB key m = p := ⟨_, rfl⟩
  rw [hp] at CP
  have hpz := cutB_size key m
  rw [hp, widN_in (by omega) (by omega), Int.toNat_natCast] at hpz
  have HP := Lib.hid hp
  have HPZ := Lib.hid hpz
  have HKF : Hid (∀ w', Below (w.heap.size + 1) (w.alloc (.cells #[.int .i64 m, .bool false, .bool false, .string o, .string v, F, H] 25)) w' → Held w' F (bV fs) ∧ Held w' H (tV hs) ∧ Laid w') := Lib.hid (fun w' h => ⟨HF.out.keep (boxed h).1, HH.out.keep (boxed h).1, HL.out.below (boxed h).1 h4⟩)
  clear hL hF hH hz1 hz1' hp hpz
  go_enter Tryd.func12, Tryd.ntmps12
  go_wp2_with fail
  refine (CF.out _).mono ?_
  rintro e w1 ⟨rfl, hb1⟩
  have HB1 := Lib.hid (belowStep HB0.out (by simp) hb1)
  obtain ⟨x0, x1, x2, x3, x4, x5, x6⟩ := boxed7 HB1.out
  have hs1 := (boxed HB1.out).2.1
  clear hb1
  by_cases hz : z1 = 0
  · subst hz
    go_wp2_with fail
    (with_reducible refine (CP.out _ (HKF.out _ HB1.out).2.2).mono ?_); rintro e wP ⟨rfl, hbP⟩
    have HBP := Lib.hid (belowStep HB1.out (boxed HB1.out).2.1 hbP)
    obtain ⟨p0, p1, p2, p3, p4, p5, p6⟩ := boxed7 HBP.out
    have hsP := (boxed HBP.out).2.1
    clear hbP
    have HNO : Hid (Beyond false o key m) := Lib.hid (by rintro ⟨h, _⟩; cases h)
    by_cases hr1 : (root.size : Int) = m
    · have hrb : ((root.size : Int) != m) = false := by rw [bne_eq_false_iff_eq]; exact hr1
      have HR1 := Lib.hid hr1
      clear hr1
      obtain ⟨z2, hz2⟩ : ∃ z, sidedZ m fs hs = z := ⟨_, rfl⟩
      have HZ2 := Lib.hid hz2
      clear hz2
      have CS := Lib.hid (msized_calls m false false o v fs hs F H _ (HKF.out _ HBP.out).2.2 (HKF.out _ HBP.out).1 (HKF.out _ HBP.out).2.1 hfl hhl (by omega) (by omega))
      rw [HZ2.out] at CS
      go_wp2_with fail
      refine CS.out.mono ?_
      rintro e wB ⟨rfl, hbB⟩
      have HBX := Lib.hid (belowStep HBP.out (boxed HBP.out).2.1 hbB)
      obtain ⟨u0, u1, u2, u3, u4, u5, u6⟩ := boxed7 HBX.out
      have hsB := (boxed HBX.out).2.1
      clear hbB
      by_cases hzz : z2 = 0
      · subst hzz
        have hS := Sided.of HZ2.out (by omega)
        have HS := Lib.hid hS
        have HFL := Lib.hid hS.full
        obtain ⟨aF, cF, rfl, hcF, hxF⟩ := HF.out.bool
        obtain ⟨aH, cH, rfl, hcH, hxH⟩ := HH.out.text
        have XF := Lib.hid hxF
        have XH := Lib.hid hxH
        have CE := Lib.hid (fun w h => refempty_calls m w h)
        obtain ⟨E, hE⟩ : ∃ E, emptyB m = E := ⟨_, rfl⟩
        rw [hE] at CE
        have hEz : E.size ≤ 32 := by rw [← hE]; unfold emptyB; rw [cutB_size]; exact (widN_le _).2
        have HE := Lib.hid hE
        clear hxF hxH hS hE
        go_wp2_with fail
        (with_reducible refine (CE.out _ (HKF.out _ HBX.out).2.2).mono ?_); rintro e wE ⟨rfl, hbE⟩
        have HBE := Lib.hid (belowStep HBX.out (boxed HBX.out).2.1 hbE)
        obtain ⟨v0, v1, v2, v3, v4, v5, v6⟩ := boxed7 HBE.out
        have hsE := (boxed HBE.out).2.1
        clear hbE
        have HH0 : Hid (cutB (placeT key false false o v) m = E) := Lib.hid (by rw [place_ff]; exact HE.out)
        have h0z := hEz
        have HBT := HBE
        go_wp2_with fail
        have hcc : hs.length = (fs.take (8 * m - 0)).count true := by rw [Nat.sub_zero, ← HFL.out, List.take_length]; exact HS.out.count
        have HCC := Lib.hid hcc
        clear hcc
        go_loopw [11, 12, 13, 14] (fun hv nv dv _ wr => ∃ (s : Nat) (dI : Int) (c : Nat) (hB : ByteArray), s ≤ 8 * m ∧ dI = 8 * m - 1 - s ∧ dv = .int .i64 dI ∧ nv = .int .i64 c ∧ hv = .string hB ∧ hB.size ≤ 32 ∧ Hid (c = (fs.take (8 * m - s)).count true) ∧ Hid (hB = wayH m p fs hs E s) ∧ Hid (Below (w.heap.size + 1) (w.alloc (.cells #[.int .i64 m, .bool false, .bool false, .string o, .string v, .slice aF fs.length cF, .slice aH hs.length cH] 25)) wr)) (fun _ _ dv _ _ => (intOf dv + 1).toNat)
        case atStart => exact ⟨0, 8 * m - 1, hs.length, E, by omega, by omega, by go_num, rfl, rfl, h0z, HCC, Lib.hid rfl, HBT⟩
        case round =>
          obtain ⟨s, dI, c, hB, hs8, hdI, rfl, rfl, rfl, hhz, HC, HX, HB⟩ := hrel
          by_cases hlt : s < 8 * m
          · obtain ⟨d, rfl⟩ : ∃ d : Nat, dI = d := ⟨8 * m - 1 - s, by omega⟩
            have hd : d < 8 * m := by omega
            have hds : 8 * m - s = d + 1 := by omega
            have hdf : d < fs.length := by rw [HFL.out]; exact hd
            have hc0 := HC.out
            rw [hds, count_step d hdf] at hc0
            have hdi : (d : Int) < fs.length := by omega
            have hbit := bitN_lt p d
            have hsd := HS.out.side_size d hdf
            have hws : fs.length - 1 - s = d := by rw [HFL.out]; omega
            have hstep : wayH m p fs hs E (s + 1) = if bitN p d = 1 then joinB m (sideB m fs hs d) hB else joinB m hB (sideB m fs hs d) := by
              rw [wayH, hws, HX.out]
            obtain ⟨nx, hnx⟩ : ∃ tx, wayH m p fs hs E (s + 1) = tx := ⟨_, rfl⟩
            rw [hnx] at hstep
            have CR := Lib.hid (fun w => mrefbit_calls p d (by rw [HPZ.out]; exact hd) (by rw [HPZ.out]; exact hm2) w)
            have hnz : nx.size ≤ 32 := by
              rw [hstep]
              split
              · rw [join_size]; exact (widN_le _).2
              · rw [join_size]; exact (widN_le _).2
            obtain ⟨y0, y1, y2, y3, y4, y5, y6⟩ := boxed7 HB.out
            obtain ⟨g1, o1, rfl, hg1, hcell1⟩ := XF.out d hdf
            have hq1 := ((boxed HB.out).1.cell (p := ⟨g1, o1 + d, none⟩) hg1).trans hcell1
            obtain ⟨x, hx⟩ : ∃ x, sideB m fs hs d = x := ⟨_, rfl⟩
            rw [hx] at hstep hsd
            have HNX := Lib.hid hnx
            have HDI := Lib.hid (And.intro hdI hds)
            clear hcell1 HX hnx hws hdI hds
            cases hfd : fs[d]
            · have hk : c = (fs.take d).count true := by rw [hc0, hfd]; simp
              have HK := Lib.hid hk
              have hxe : E = x := by rw [← hx, ← HE.out]; exact (sideB_off hdf hfd).symm
              rw [hfd] at hq1
              subst hxe
              clear hc0 hk hx
              by_cases hb1 : bitN p d = 1
              · rw [if_pos hb1] at hstep
                rw [hb1] at CR
                have HST := Lib.hid hstep
                have CJ := Lib.hid (fun w h' => mrefjoined_calls m E hB (by omega) (by omega) w h')
                rw [← HST.out] at CJ
                clear hstep
                go_wp2_with (first
                  | (go_at_call 51; (with_reducible refine (CR.out _).mono ?_); rintro e w5 ⟨rfl, hb5⟩
                     have HB6 := Lib.hid (belowStep HB.out (boxed HB.out).2.1 hb5)
                     clear hb5)
                  | (go_at_call 52; (with_reducible refine (CJ.out _ (HL.out.below (boxed HB6.out).1 h4)).mono ?_); rintro e w6 ⟨rfl, hb6⟩
                     have HB7 := Lib.hid (belowStep HB6.out (boxed HB6.out).2.1 hb6)
                     clear hb6))
                have hdi2 := HDI.out
                exact ⟨⟨s + 1, (d : Int) - 1, c, nx, by omega, by omega, by go_num, by go_num, rfl, hnz, Lib.hid (by rw [show 8 * m - (s + 1) = d by omega]; exact HK.out), Lib.hid HNX.out.symm, HB7⟩, by simp [intOf] <;> omega⟩
              · rw [if_neg hb1] at hstep
                obtain hb0 : bitN p d = 0 := by omega
                rw [hb0] at CR
                have HST := Lib.hid hstep
                have CJ := Lib.hid (fun w h' => mrefjoined_calls m hB E (by omega) (by omega) w h')
                rw [← HST.out] at CJ
                clear hstep
                go_wp2_with (first
                  | (go_at_call 51; (with_reducible refine (CR.out _).mono ?_); rintro e w5 ⟨rfl, hb5⟩
                     have HB6 := Lib.hid (belowStep HB.out (boxed HB.out).2.1 hb5)
                     clear hb5)
                  | (go_at_call 52; (with_reducible refine (CJ.out _ (HL.out.below (boxed HB6.out).1 h4)).mono ?_); rintro e w6 ⟨rfl, hb6⟩
                     have HB7 := Lib.hid (belowStep HB6.out (boxed HB6.out).2.1 hb6)
                     clear hb6))
                have hdi2 := HDI.out
                exact ⟨⟨s + 1, (d : Int) - 1, c, nx, by omega, by omega, by go_num, by go_num, rfl, hnz, Lib.hid (by rw [show 8 * m - (s + 1) = d by omega]; exact HK.out), Lib.hid HNX.out.symm, HB7⟩, by simp [intOf] <;> omega⟩
            · obtain ⟨k, hk⟩ : ∃ k, (fs.take d).count true = k := ⟨_, rfl⟩
              have hkl : k < hs.length := by rw [← hk, HS.out.count]; exact count_lt hdf hfd
              have hck : c = k + 1 := by rw [hc0, hfd, hk]; simp
              have hxe : hs[k] = x := by rw [← hx, sideB_on hdf hfd (by rw [hk]; exact hkl)]; simp only [hk]
              obtain ⟨g2, o2, rfl, hg2, hcell2⟩ := XH.out k hkl
              rw [hxe] at hcell2
              have hq2 := ((boxed HB.out).1.cell (p := ⟨g2, o2 + k, none⟩) hg2).trans hcell2
              have HK := Lib.hid hk.symm
              have hki : (k : Int) < hs.length := by omega
              have hkb : k ≤ 256 := by { have h1 := List.count_le_length (a := true) (l := fs); have h2 := HS.out.count; have h3 := HFL.out; omega }
              rw [hfd] at hq1
              subst hck
              clear hc0 hk hx hxe hcell2
              by_cases hb1 : bitN p d = 1
              · rw [if_pos hb1] at hstep
                rw [hb1] at CR
                have HST := Lib.hid hstep
                have CJ := Lib.hid (fun w h' => mrefjoined_calls m x hB (by omega) (by omega) w h')
                rw [← HST.out] at CJ
                clear hstep
                go_wp2_with (first
                  | (go_at_call 51; (with_reducible refine (CR.out _).mono ?_); rintro e w5 ⟨rfl, hb5⟩
                     have HB6 := Lib.hid (belowStep HB.out (boxed HB.out).2.1 hb5)
                     clear hb5)
                  | (go_at_call 52; (with_reducible refine (CJ.out _ (HL.out.below (boxed HB6.out).1 h4)).mono ?_); rintro e w6 ⟨rfl, hb6⟩
                     have HB7 := Lib.hid (belowStep HB6.out (boxed HB6.out).2.1 hb6)
                     clear hb6))
                have hdi2 := HDI.out
                exact ⟨⟨s + 1, (d : Int) - 1, k, nx, by omega, by omega, by go_num, by go_num, rfl, hnz, Lib.hid (by rw [show 8 * m - (s + 1) = d by omega]; exact HK.out), Lib.hid HNX.out.symm, HB7⟩, by simp [intOf] <;> omega⟩
              · rw [if_neg hb1] at hstep
                obtain hb0 : bitN p d = 0 := by omega
                rw [hb0] at CR
                have HST := Lib.hid hstep
                have CJ := Lib.hid (fun w h' => mrefjoined_calls m hB x (by omega) (by omega) w h')
                rw [← HST.out] at CJ
                clear hstep
                go_wp2_with (first
                  | (go_at_call 51; (with_reducible refine (CR.out _).mono ?_); rintro e w5 ⟨rfl, hb5⟩
                     have HB6 := Lib.hid (belowStep HB.out (boxed HB.out).2.1 hb5)
                     clear hb5)
                  | (go_at_call 52; (with_reducible refine (CJ.out _ (HL.out.below (boxed HB6.out).1 h4)).mono ?_); rintro e w6 ⟨rfl, hb6⟩
                     have HB7 := Lib.hid (belowStep HB6.out (boxed HB6.out).2.1 hb6)
                     clear hb6))
                have hdi2 := HDI.out
                exact ⟨⟨s + 1, (d : Int) - 1, k, nx, by omega, by omega, by go_num, by go_num, rfl, hnz, Lib.hid (by rw [show 8 * m - (s + 1) = d by omega]; exact HK.out), Lib.hid HNX.out.symm, HB7⟩, by simp [intOf] <;> omega⟩
          · obtain rfl : s = 8 * m := by omega
            obtain rfl : dI = -1 := by omega
            have hfin := HX.out
            rw [← HFL.out] at hfin
            clear HX
            by_cases hxr : hB = root
            · have HC := Lib.hid (check_6 (f := false) (b := false) (o := o) (v := v) (key := key) (root := root) HZ1.out HNO.out HR1.out HZ2.out (by rw [HP.out, HH0.out, ← hfin]; exact hxr))
              subst hxr
              clear hfin
              go_wp2
              go_ret
              exact ⟨congrArg (fun z => Ending.returned (.int .i64 z)) HC.out.symm, (boxed HB.out).1⟩
            · have HC := Lib.hid (check_5 (f := false) (b := false) (o := o) (v := v) (key := key) (root := root) HZ1.out HNO.out HR1.out HZ2.out (by rw [HP.out, HH0.out, ← hfin]; exact hxr))
              have hne := seq_no hxr
              clear hfin
              go_wp2
              go_ret
              exact ⟨congrArg (fun z => Ending.returned (.int .i64 z)) HC.out.symm, (boxed HB.out).1⟩
      · have hzb : (z2 != 0) = true := by rw [bne_iff_ne]; exact hzz
        have hc := check_4 (fs := fs) (hs := hs) HZ1.out HNO.out HR1.out (by rw [HZ2.out]; exact hzz)
        rw [HZ2.out] at hc
        have HC := Lib.hid hc
        clear hc hzz
        go_wp2
        go_ret
        exact ⟨congrArg (fun z => Ending.returned (.int .i64 z)) HC.out.symm, (boxed HBX.out).1⟩
    · have hrb : ((root.size : Int) != m) = true := by rw [bne_iff_ne]; exact hr1
      have HC := Lib.hid (check_3 (fs := fs) (hs := hs) HZ1.out HNO.out hr1)
      clear hr1
      go_wp2
      go_ret
      exact ⟨congrArg (fun z => Ending.returned (.int .i64 z)) HC.out.symm, (boxed HBP.out).1⟩
  · have hzb : (z1 != 0) = true := by rw [bne_iff_ne]; exact hz
    have hc := check_1 (root := root) (key := key) (fs := fs) (hs := hs) (by rw [HZ1.out]; exact hz)
    rw [HZ1.out] at hc
    have HC := Lib.hid hc
    clear hc hz
    go_wp2
    go_ret
    exact ⟨congrArg (fun z => Ending.returned (.int .i64 z)) HC.out.symm, (boxed HB1.out).1⟩
set_option maxRecDepth 100000 in
set_option maxHeartbeats 4000000 in
theorem mrefcheck_tf (root key : ByteArray) (m : Nat) (o v : ByteArray) (fs : List Bool) (hs : List ByteArray) (F H : Value) (w : World) (hL : Laid w) (hF : Held w F (bV fs)) (hH : Held w H (tV hs)) (hfl : fs.length ≤ 1048576) (hhl : hs.length ≤ 1048576) (hk : key.size ≤ 1048576) (ho : o.size ≤ 1048576) (hv : v.size ≤ 1048576) (hr : root.size ≤ 1048576) (hm1 : 1 ≤ m) (hm2 : m ≤ 32) :
    Calls Tryd.prog 12 #[.string root, .string key, .agg #[.int .i64 m, .bool true, .bool false, .string o, .string v, F, H]] w fun e w' => e = .returned (.int .i64 (checkZ root key m true false o v fs hs)) ∧ Below w.heap.size w w' := by
  have h4 := hL.size
  have HL := Lib.hid hL
  have HF := Lib.hid hF
  have HH := Lib.hid hH
  have CF := Lib.hid (fun w => mwhole_calls m true false o v F H w)
  obtain ⟨z1, hz1⟩ : ∃ z, wholeZ true false o v = z := ⟨_, rfl⟩
  rw [hz1] at CF
  have hz1' := formed_whole (f := true) (b := false) (o := o) (v := v) hm1 hm2
  rw [hz1] at hz1'
  have HZ1 := Lib.hid hz1'
  have HB0 : Hid (Below (w.heap.size + 1) (w.alloc (.cells #[.int .i64 m, .bool true, .bool false, .string o, .string v, F, H] 25)) (w.alloc (.cells #[.int .i64 m, .bool true, .bool false, .string o, .string v, F, H] 25))) := Lib.hid (Below.refl _ _)
  have CP := Lib.hid (fun w h => mrefplace_calls m key w h (by omega))
  obtain ⟨p, hp⟩ : ∃ p, cutB key m = p := ⟨_, rfl⟩
  rw [hp] at CP
  have hpz := cutB_size key m
  rw [hp, widN_in (by omega) (by omega), Int.toNat_natCast] at hpz
  have HP := Lib.hid hp
  have HPZ := Lib.hid hpz
  have HKF : Hid (∀ w', Below (w.heap.size + 1) (w.alloc (.cells #[.int .i64 m, .bool true, .bool false, .string o, .string v, F, H] 25)) w' → Held w' F (bV fs) ∧ Held w' H (tV hs) ∧ Laid w') := Lib.hid (fun w' h => ⟨HF.out.keep (boxed h).1, HH.out.keep (boxed h).1, HL.out.below (boxed h).1 h4⟩)
  clear hL hF hH hz1 hz1' hp hpz
  go_enter Tryd.func12, Tryd.ntmps12
  go_wp2_with fail
  refine (CF.out _).mono ?_
  rintro e w1 ⟨rfl, hb1⟩
  have HB1 := Lib.hid (belowStep HB0.out (by simp) hb1)
  obtain ⟨x0, x1, x2, x3, x4, x5, x6⟩ := boxed7 HB1.out
  have hs1 := (boxed HB1.out).2.1
  clear hb1
  by_cases hz : z1 = 0
  · subst hz
    go_wp2_with fail
    (with_reducible refine (CP.out _ (HKF.out _ HB1.out).2.2).mono ?_); rintro e wP ⟨rfl, hbP⟩
    have HBP := Lib.hid (belowStep HB1.out (boxed HB1.out).2.1 hbP)
    obtain ⟨p0, p1, p2, p3, p4, p5, p6⟩ := boxed7 HBP.out
    have hsP := (boxed HBP.out).2.1
    clear hbP
    have HNO : Hid (Beyond false o key m) := Lib.hid (by rintro ⟨h, _⟩; cases h)
    by_cases hr1 : (root.size : Int) = m
    · have hrb : ((root.size : Int) != m) = false := by rw [bne_eq_false_iff_eq]; exact hr1
      have HR1 := Lib.hid hr1
      clear hr1
      obtain ⟨z2, hz2⟩ : ∃ z, sidedZ m fs hs = z := ⟨_, rfl⟩
      have HZ2 := Lib.hid hz2
      clear hz2
      have CS := Lib.hid (msized_calls m true false o v fs hs F H _ (HKF.out _ HBP.out).2.2 (HKF.out _ HBP.out).1 (HKF.out _ HBP.out).2.1 hfl hhl (by omega) (by omega))
      rw [HZ2.out] at CS
      go_wp2_with fail
      refine CS.out.mono ?_
      rintro e wB ⟨rfl, hbB⟩
      have HBX := Lib.hid (belowStep HBP.out (boxed HBP.out).2.1 hbB)
      obtain ⟨u0, u1, u2, u3, u4, u5, u6⟩ := boxed7 HBX.out
      have hsB := (boxed HBX.out).2.1
      clear hbB
      by_cases hzz : z2 = 0
      · subst hzz
        have hS := Sided.of HZ2.out (by omega)
        have HS := Lib.hid hS
        have HFL := Lib.hid hS.full
        obtain ⟨aF, cF, rfl, hcF, hxF⟩ := HF.out.bool
        obtain ⟨aH, cH, rfl, hcH, hxH⟩ := HH.out.text
        have XF := Lib.hid hxF
        have XH := Lib.hid hxH
        have CE := Lib.hid (fun w h => refempty_calls m w h)
        obtain ⟨E, hE⟩ : ∃ E, emptyB m = E := ⟨_, rfl⟩
        rw [hE] at CE
        have hEz : E.size ≤ 32 := by rw [← hE]; unfold emptyB; rw [cutB_size]; exact (widN_le _).2
        have HE := Lib.hid hE
        clear hxF hxH hS hE
        go_wp2_with fail
        (with_reducible refine (CE.out _ (HKF.out _ HBX.out).2.2).mono ?_); rintro e wE ⟨rfl, hbE⟩
        have HBE := Lib.hid (belowStep HBX.out (boxed HBX.out).2.1 hbE)
        obtain ⟨v0, v1, v2, v3, v4, v5, v6⟩ := boxed7 HBE.out
        have hsE := (boxed HBE.out).2.1
        clear hbE
        have CD := Lib.hid (fun w => mrefsaid_calls key v (by omega) hv w)
        have hsz := said_size key v
        obtain ⟨tx, htx⟩ : ∃ tx, saidB key v = tx := ⟨_, rfl⟩
        rw [htx] at CD hsz
        have CU := Lib.hid (fun w h => refcut_calls tx m w h (by omega))
        obtain ⟨h0, hh0⟩ : ∃ h0, cutB tx m = h0 := ⟨_, rfl⟩
        rw [hh0] at CU
        have HH0 : Hid (cutB (placeT key true false o v) m = h0) := Lib.hid (by rw [place_tf, htx, hh0])
        have h0z : h0.size ≤ 32 := by rw [← hh0, cutB_size]; exact (widN_le _).2
        clear htx hh0 hsz
        go_wp2_with (first
          | (go_at_call 50; (with_reducible refine (CD.out _).mono ?_); rintro e wS ⟨rfl, hbS⟩
             have HBS := Lib.hid (belowStep HBE.out (boxed HBE.out).2.1 hbS)
             clear hbS)
          | (go_at_call 49; (with_reducible refine (CU.out _ (HKF.out _ HBS.out).2.2).mono ?_); rintro e wT ⟨rfl, hbT⟩
             have HBT := Lib.hid (belowStep HBS.out (boxed HBS.out).2.1 hbT)
             obtain ⟨t0, t1, t2, t3, t4, t5, t6⟩ := boxed7 HBT.out
             have hsT := (boxed HBT.out).2.1
             clear hbT))
        go_wp2_with fail
        have hcc : hs.length = (fs.take (8 * m - 0)).count true := by rw [Nat.sub_zero, ← HFL.out, List.take_length]; exact HS.out.count
        have HCC := Lib.hid hcc
        clear hcc
        go_loopw [11, 12, 13, 14] (fun hv nv dv _ wr => ∃ (s : Nat) (dI : Int) (c : Nat) (hB : ByteArray), s ≤ 8 * m ∧ dI = 8 * m - 1 - s ∧ dv = .int .i64 dI ∧ nv = .int .i64 c ∧ hv = .string hB ∧ hB.size ≤ 32 ∧ Hid (c = (fs.take (8 * m - s)).count true) ∧ Hid (hB = wayH m p fs hs h0 s) ∧ Hid (Below (w.heap.size + 1) (w.alloc (.cells #[.int .i64 m, .bool true, .bool false, .string o, .string v, .slice aF fs.length cF, .slice aH hs.length cH] 25)) wr)) (fun _ _ dv _ _ => (intOf dv + 1).toNat)
        case atStart => exact ⟨0, 8 * m - 1, hs.length, h0, by omega, by omega, by go_num, rfl, rfl, h0z, HCC, Lib.hid rfl, HBT⟩
        case round =>
          obtain ⟨s, dI, c, hB, hs8, hdI, rfl, rfl, rfl, hhz, HC, HX, HB⟩ := hrel
          by_cases hlt : s < 8 * m
          · obtain ⟨d, rfl⟩ : ∃ d : Nat, dI = d := ⟨8 * m - 1 - s, by omega⟩
            have hd : d < 8 * m := by omega
            have hds : 8 * m - s = d + 1 := by omega
            have hdf : d < fs.length := by rw [HFL.out]; exact hd
            have hc0 := HC.out
            rw [hds, count_step d hdf] at hc0
            have hdi : (d : Int) < fs.length := by omega
            have hbit := bitN_lt p d
            have hsd := HS.out.side_size d hdf
            have hws : fs.length - 1 - s = d := by rw [HFL.out]; omega
            have hstep : wayH m p fs hs h0 (s + 1) = if bitN p d = 1 then joinB m (sideB m fs hs d) hB else joinB m hB (sideB m fs hs d) := by
              rw [wayH, hws, HX.out]
            obtain ⟨nx, hnx⟩ : ∃ tx, wayH m p fs hs h0 (s + 1) = tx := ⟨_, rfl⟩
            rw [hnx] at hstep
            have CR := Lib.hid (fun w => mrefbit_calls p d (by rw [HPZ.out]; exact hd) (by rw [HPZ.out]; exact hm2) w)
            have hnz : nx.size ≤ 32 := by
              rw [hstep]
              split
              · rw [join_size]; exact (widN_le _).2
              · rw [join_size]; exact (widN_le _).2
            obtain ⟨y0, y1, y2, y3, y4, y5, y6⟩ := boxed7 HB.out
            obtain ⟨g1, o1, rfl, hg1, hcell1⟩ := XF.out d hdf
            have hq1 := ((boxed HB.out).1.cell (p := ⟨g1, o1 + d, none⟩) hg1).trans hcell1
            obtain ⟨x, hx⟩ : ∃ x, sideB m fs hs d = x := ⟨_, rfl⟩
            rw [hx] at hstep hsd
            have HNX := Lib.hid hnx
            have HDI := Lib.hid (And.intro hdI hds)
            clear hcell1 HX hnx hws hdI hds
            cases hfd : fs[d]
            · have hk : c = (fs.take d).count true := by rw [hc0, hfd]; simp
              have HK := Lib.hid hk
              have hxe : E = x := by rw [← hx, ← HE.out]; exact (sideB_off hdf hfd).symm
              rw [hfd] at hq1
              subst hxe
              clear hc0 hk hx
              by_cases hb1 : bitN p d = 1
              · rw [if_pos hb1] at hstep
                rw [hb1] at CR
                have HST := Lib.hid hstep
                have CJ := Lib.hid (fun w h' => mrefjoined_calls m E hB (by omega) (by omega) w h')
                rw [← HST.out] at CJ
                clear hstep
                go_wp2_with (first
                  | (go_at_call 51; (with_reducible refine (CR.out _).mono ?_); rintro e w5 ⟨rfl, hb5⟩
                     have HB6 := Lib.hid (belowStep HB.out (boxed HB.out).2.1 hb5)
                     clear hb5)
                  | (go_at_call 52; (with_reducible refine (CJ.out _ (HL.out.below (boxed HB6.out).1 h4)).mono ?_); rintro e w6 ⟨rfl, hb6⟩
                     have HB7 := Lib.hid (belowStep HB6.out (boxed HB6.out).2.1 hb6)
                     clear hb6))
                have hdi2 := HDI.out
                exact ⟨⟨s + 1, (d : Int) - 1, c, nx, by omega, by omega, by go_num, by go_num, rfl, hnz, Lib.hid (by rw [show 8 * m - (s + 1) = d by omega]; exact HK.out), Lib.hid HNX.out.symm, HB7⟩, by simp [intOf] <;> omega⟩
              · rw [if_neg hb1] at hstep
                obtain hb0 : bitN p d = 0 := by omega
                rw [hb0] at CR
                have HST := Lib.hid hstep
                have CJ := Lib.hid (fun w h' => mrefjoined_calls m hB E (by omega) (by omega) w h')
                rw [← HST.out] at CJ
                clear hstep
                go_wp2_with (first
                  | (go_at_call 51; (with_reducible refine (CR.out _).mono ?_); rintro e w5 ⟨rfl, hb5⟩
                     have HB6 := Lib.hid (belowStep HB.out (boxed HB.out).2.1 hb5)
                     clear hb5)
                  | (go_at_call 52; (with_reducible refine (CJ.out _ (HL.out.below (boxed HB6.out).1 h4)).mono ?_); rintro e w6 ⟨rfl, hb6⟩
                     have HB7 := Lib.hid (belowStep HB6.out (boxed HB6.out).2.1 hb6)
                     clear hb6))
                have hdi2 := HDI.out
                exact ⟨⟨s + 1, (d : Int) - 1, c, nx, by omega, by omega, by go_num, by go_num, rfl, hnz, Lib.hid (by rw [show 8 * m - (s + 1) = d by omega]; exact HK.out), Lib.hid HNX.out.symm, HB7⟩, by simp [intOf] <;> omega⟩
            · obtain ⟨k, hk⟩ : ∃ k, (fs.take d).count true = k := ⟨_, rfl⟩
              have hkl : k < hs.length := by rw [← hk, HS.out.count]; exact count_lt hdf hfd
              have hck : c = k + 1 := by rw [hc0, hfd, hk]; simp
              have hxe : hs[k] = x := by rw [← hx, sideB_on hdf hfd (by rw [hk]; exact hkl)]; simp only [hk]
              obtain ⟨g2, o2, rfl, hg2, hcell2⟩ := XH.out k hkl
              rw [hxe] at hcell2
              have hq2 := ((boxed HB.out).1.cell (p := ⟨g2, o2 + k, none⟩) hg2).trans hcell2
              have HK := Lib.hid hk.symm
              have hki : (k : Int) < hs.length := by omega
              have hkb : k ≤ 256 := by { have h1 := List.count_le_length (a := true) (l := fs); have h2 := HS.out.count; have h3 := HFL.out; omega }
              rw [hfd] at hq1
              subst hck
              clear hc0 hk hx hxe hcell2
              by_cases hb1 : bitN p d = 1
              · rw [if_pos hb1] at hstep
                rw [hb1] at CR
                have HST := Lib.hid hstep
                have CJ := Lib.hid (fun w h' => mrefjoined_calls m x hB (by omega) (by omega) w h')
                rw [← HST.out] at CJ
                clear hstep
                go_wp2_with (first
                  | (go_at_call 51; (with_reducible refine (CR.out _).mono ?_); rintro e w5 ⟨rfl, hb5⟩
                     have HB6 := Lib.hid (belowStep HB.out (boxed HB.out).2.1 hb5)
                     clear hb5)
                  | (go_at_call 52; (with_reducible refine (CJ.out _ (HL.out.below (boxed HB6.out).1 h4)).mono ?_); rintro e w6 ⟨rfl, hb6⟩
                     have HB7 := Lib.hid (belowStep HB6.out (boxed HB6.out).2.1 hb6)
                     clear hb6))
                have hdi2 := HDI.out
                exact ⟨⟨s + 1, (d : Int) - 1, k, nx, by omega, by omega, by go_num, by go_num, rfl, hnz, Lib.hid (by rw [show 8 * m - (s + 1) = d by omega]; exact HK.out), Lib.hid HNX.out.symm, HB7⟩, by simp [intOf] <;> omega⟩
              · rw [if_neg hb1] at hstep
                obtain hb0 : bitN p d = 0 := by omega
                rw [hb0] at CR
                have HST := Lib.hid hstep
                have CJ := Lib.hid (fun w h' => mrefjoined_calls m hB x (by omega) (by omega) w h')
                rw [← HST.out] at CJ
                clear hstep
                go_wp2_with (first
                  | (go_at_call 51; (with_reducible refine (CR.out _).mono ?_); rintro e w5 ⟨rfl, hb5⟩
                     have HB6 := Lib.hid (belowStep HB.out (boxed HB.out).2.1 hb5)
                     clear hb5)
                  | (go_at_call 52; (with_reducible refine (CJ.out _ (HL.out.below (boxed HB6.out).1 h4)).mono ?_); rintro e w6 ⟨rfl, hb6⟩
                     have HB7 := Lib.hid (belowStep HB6.out (boxed HB6.out).2.1 hb6)
                     clear hb6))
                have hdi2 := HDI.out
                exact ⟨⟨s + 1, (d : Int) - 1, k, nx, by omega, by omega, by go_num, by go_num, rfl, hnz, Lib.hid (by rw [show 8 * m - (s + 1) = d by omega]; exact HK.out), Lib.hid HNX.out.symm, HB7⟩, by simp [intOf] <;> omega⟩
          · obtain rfl : s = 8 * m := by omega
            obtain rfl : dI = -1 := by omega
            have hfin := HX.out
            rw [← HFL.out] at hfin
            clear HX
            by_cases hxr : hB = root
            · have HC := Lib.hid (check_6 (f := true) (b := false) (o := o) (v := v) (key := key) (root := root) HZ1.out HNO.out HR1.out HZ2.out (by rw [HP.out, HH0.out, ← hfin]; exact hxr))
              subst hxr
              clear hfin
              go_wp2
              go_ret
              exact ⟨congrArg (fun z => Ending.returned (.int .i64 z)) HC.out.symm, (boxed HB.out).1⟩
            · have HC := Lib.hid (check_5 (f := true) (b := false) (o := o) (v := v) (key := key) (root := root) HZ1.out HNO.out HR1.out HZ2.out (by rw [HP.out, HH0.out, ← hfin]; exact hxr))
              have hne := seq_no hxr
              clear hfin
              go_wp2
              go_ret
              exact ⟨congrArg (fun z => Ending.returned (.int .i64 z)) HC.out.symm, (boxed HB.out).1⟩
      · have hzb : (z2 != 0) = true := by rw [bne_iff_ne]; exact hzz
        have hc := check_4 (fs := fs) (hs := hs) HZ1.out HNO.out HR1.out (by rw [HZ2.out]; exact hzz)
        rw [HZ2.out] at hc
        have HC := Lib.hid hc
        clear hc hzz
        go_wp2
        go_ret
        exact ⟨congrArg (fun z => Ending.returned (.int .i64 z)) HC.out.symm, (boxed HBX.out).1⟩
    · have hrb : ((root.size : Int) != m) = true := by rw [bne_iff_ne]; exact hr1
      have HC := Lib.hid (check_3 (fs := fs) (hs := hs) HZ1.out HNO.out hr1)
      clear hr1
      go_wp2
      go_ret
      exact ⟨congrArg (fun z => Ending.returned (.int .i64 z)) HC.out.symm, (boxed HBP.out).1⟩
  · have hzb : (z1 != 0) = true := by rw [bne_iff_ne]; exact hz
    have hc := check_1 (root := root) (key := key) (fs := fs) (hs := hs) (by rw [HZ1.out]; exact hz)
    rw [HZ1.out] at hc
    have HC := Lib.hid hc
    clear hc hz
    go_wp2
    go_ret
    exact ⟨congrArg (fun z => Ending.returned (.int .i64 z)) HC.out.symm, (boxed HB1.out).1⟩
set_option maxRecDepth 100000 in
set_option maxHeartbeats 4000000 in
theorem mrefcheck_ft (root key : ByteArray) (m : Nat) (o v : ByteArray) (fs : List Bool) (hs : List ByteArray) (F H : Value) (w : World) (hL : Laid w) (hF : Held w F (bV fs)) (hH : Held w H (tV hs)) (hfl : fs.length ≤ 1048576) (hhl : hs.length ≤ 1048576) (hk : key.size ≤ 1048576) (ho : o.size ≤ 1048576) (hv : v.size ≤ 1048576) (hr : root.size ≤ 1048576) (hm1 : 1 ≤ m) (hm2 : m ≤ 32) :
    Calls Tryd.prog 12 #[.string root, .string key, .agg #[.int .i64 m, .bool false, .bool true, .string o, .string v, F, H]] w fun e w' => e = .returned (.int .i64 (checkZ root key m false true o v fs hs)) ∧ Below w.heap.size w w' := by
  have h4 := hL.size
  have HL := Lib.hid hL
  have HF := Lib.hid hF
  have HH := Lib.hid hH
  have CF := Lib.hid (fun w => mwhole_calls m false true o v F H w)
  obtain ⟨z1, hz1⟩ : ∃ z, wholeZ false true o v = z := ⟨_, rfl⟩
  rw [hz1] at CF
  have hz1' := formed_whole (f := false) (b := true) (o := o) (v := v) hm1 hm2
  rw [hz1] at hz1'
  have HZ1 := Lib.hid hz1'
  have HB0 : Hid (Below (w.heap.size + 1) (w.alloc (.cells #[.int .i64 m, .bool false, .bool true, .string o, .string v, F, H] 25)) (w.alloc (.cells #[.int .i64 m, .bool false, .bool true, .string o, .string v, F, H] 25))) := Lib.hid (Below.refl _ _)
  have CP := Lib.hid (fun w h => mrefplace_calls m key w h (by omega))
  obtain ⟨p, hp⟩ : ∃ p, cutB key m = p := ⟨_, rfl⟩
  rw [hp] at CP
  have hpz := cutB_size key m
  rw [hp, widN_in (by omega) (by omega), Int.toNat_natCast] at hpz
  have HP := Lib.hid hp
  have HPZ := Lib.hid hpz
  have HKF : Hid (∀ w', Below (w.heap.size + 1) (w.alloc (.cells #[.int .i64 m, .bool false, .bool true, .string o, .string v, F, H] 25)) w' → Held w' F (bV fs) ∧ Held w' H (tV hs) ∧ Laid w') := Lib.hid (fun w' h => ⟨HF.out.keep (boxed h).1, HH.out.keep (boxed h).1, HL.out.below (boxed h).1 h4⟩)
  clear hL hF hH hz1 hz1' hp hpz
  go_enter Tryd.func12, Tryd.ntmps12
  go_wp2_with fail
  refine (CF.out _).mono ?_
  rintro e w1 ⟨rfl, hb1⟩
  have HB1 := Lib.hid (belowStep HB0.out (by simp) hb1)
  obtain ⟨x0, x1, x2, x3, x4, x5, x6⟩ := boxed7 HB1.out
  have hs1 := (boxed HB1.out).2.1
  clear hb1
  by_cases hz : z1 = 0
  · subst hz
    go_wp2_with fail
    (with_reducible refine (CP.out _ (HKF.out _ HB1.out).2.2).mono ?_); rintro e wP ⟨rfl, hbP⟩
    have HBP := Lib.hid (belowStep HB1.out (boxed HB1.out).2.1 hbP)
    obtain ⟨p0, p1, p2, p3, p4, p5, p6⟩ := boxed7 HBP.out
    have hsP := (boxed HBP.out).2.1
    clear hbP
    by_cases hok : o = key
    · have HC := Lib.hid (check_2 (root := root) (fs := fs) (hs := hs) HZ1.out ⟨rfl, .inl hok⟩)
      subst hok
      go_wp2
      go_ret
      exact ⟨congrArg (fun z => Ending.returned (.int .i64 z)) HC.out.symm, (boxed HBP.out).1⟩
    · have hno := seq_no hok
      have C1 := Lib.hid (fun w h => mrefplace_calls m o w h (by omega))
      by_cases hcc : cutB o m = cutB key m
      · have HNO : Hid (Beyond true o key m) := Lib.hid (by rintro ⟨_, h | h⟩; exact hok h; exact h hcc)
        rw [hcc, HP.out] at C1
        clear hcc hok
        go_wp2_with fail
        (with_reducible refine (C1.out _ (HKF.out _ HBP.out).2.2).mono ?_); rintro e wA ⟨rfl, hbA⟩
        have HBA := Lib.hid (belowStep HBP.out hsP hbA)
        clear hbA
        obtain ⟨p0, p1, p2, p3, p4, p5, p6⟩ := boxed7 HBA.out
        by_cases hr1 : (root.size : Int) = m
        · have hrb : ((root.size : Int) != m) = false := by rw [bne_eq_false_iff_eq]; exact hr1
          have HR1 := Lib.hid hr1
          clear hr1
          obtain ⟨z2, hz2⟩ : ∃ z, sidedZ m fs hs = z := ⟨_, rfl⟩
          have HZ2 := Lib.hid hz2
          clear hz2
          have CS := Lib.hid (msized_calls m false true o v fs hs F H _ (HKF.out _ HBA.out).2.2 (HKF.out _ HBA.out).1 (HKF.out _ HBA.out).2.1 hfl hhl (by omega) (by omega))
          rw [HZ2.out] at CS
          go_wp2_with fail
          refine CS.out.mono ?_
          rintro e wB ⟨rfl, hbB⟩
          have HBX := Lib.hid (belowStep HBA.out (boxed HBA.out).2.1 hbB)
          obtain ⟨u0, u1, u2, u3, u4, u5, u6⟩ := boxed7 HBX.out
          have hsB := (boxed HBX.out).2.1
          clear hbB
          by_cases hzz : z2 = 0
          · subst hzz
            have hS := Sided.of HZ2.out (by omega)
            have HS := Lib.hid hS
            have HFL := Lib.hid hS.full
            obtain ⟨aF, cF, rfl, hcF, hxF⟩ := HF.out.bool
            obtain ⟨aH, cH, rfl, hcH, hxH⟩ := HH.out.text
            have XF := Lib.hid hxF
            have XH := Lib.hid hxH
            have CE := Lib.hid (fun w h => refempty_calls m w h)
            obtain ⟨E, hE⟩ : ∃ E, emptyB m = E := ⟨_, rfl⟩
            rw [hE] at CE
            have hEz : E.size ≤ 32 := by rw [← hE]; unfold emptyB; rw [cutB_size]; exact (widN_le _).2
            have HE := Lib.hid hE
            clear hxF hxH hS hE
            go_wp2_with fail
            (with_reducible refine (CE.out _ (HKF.out _ HBX.out).2.2).mono ?_); rintro e wE ⟨rfl, hbE⟩
            have HBE := Lib.hid (belowStep HBX.out (boxed HBX.out).2.1 hbE)
            obtain ⟨v0, v1, v2, v3, v4, v5, v6⟩ := boxed7 HBE.out
            have hsE := (boxed HBE.out).2.1
            clear hbE
            have CD := Lib.hid (fun w => mrefsaid_calls o v (by omega) hv w)
            have hsz := said_size o v
            obtain ⟨tx, htx⟩ : ∃ tx, saidB o v = tx := ⟨_, rfl⟩
            rw [htx] at CD hsz
            have CU := Lib.hid (fun w h => refcut_calls tx m w h (by omega))
            obtain ⟨h0, hh0⟩ : ∃ h0, cutB tx m = h0 := ⟨_, rfl⟩
            rw [hh0] at CU
            have HH0 : Hid (cutB (placeT key false true o v) m = h0) := Lib.hid (by rw [place_ft, htx, hh0])
            have h0z : h0.size ≤ 32 := by rw [← hh0, cutB_size]; exact (widN_le _).2
            clear htx hh0 hsz
            go_wp2_with (first
              | (go_at_call 50; (with_reducible refine (CD.out _).mono ?_); rintro e wS ⟨rfl, hbS⟩
                 have HBS := Lib.hid (belowStep HBE.out (boxed HBE.out).2.1 hbS)
                 clear hbS)
              | (go_at_call 49; (with_reducible refine (CU.out _ (HKF.out _ HBS.out).2.2).mono ?_); rintro e wT ⟨rfl, hbT⟩
                 have HBT := Lib.hid (belowStep HBS.out (boxed HBS.out).2.1 hbT)
                 obtain ⟨t0, t1, t2, t3, t4, t5, t6⟩ := boxed7 HBT.out
                 have hsT := (boxed HBT.out).2.1
                 clear hbT))
            go_wp2_with fail
            have hcc : hs.length = (fs.take (8 * m - 0)).count true := by rw [Nat.sub_zero, ← HFL.out, List.take_length]; exact HS.out.count
            have HCC := Lib.hid hcc
            clear hcc
            go_loopw [11, 12, 13, 14] (fun hv nv dv _ wr => ∃ (s : Nat) (dI : Int) (c : Nat) (hB : ByteArray), s ≤ 8 * m ∧ dI = 8 * m - 1 - s ∧ dv = .int .i64 dI ∧ nv = .int .i64 c ∧ hv = .string hB ∧ hB.size ≤ 32 ∧ Hid (c = (fs.take (8 * m - s)).count true) ∧ Hid (hB = wayH m p fs hs h0 s) ∧ Hid (Below (w.heap.size + 1) (w.alloc (.cells #[.int .i64 m, .bool false, .bool true, .string o, .string v, .slice aF fs.length cF, .slice aH hs.length cH] 25)) wr)) (fun _ _ dv _ _ => (intOf dv + 1).toNat)
            case atStart => exact ⟨0, 8 * m - 1, hs.length, h0, by omega, by omega, by go_num, rfl, rfl, h0z, HCC, Lib.hid rfl, HBT⟩
            case round =>
              obtain ⟨s, dI, c, hB, hs8, hdI, rfl, rfl, rfl, hhz, HC, HX, HB⟩ := hrel
              by_cases hlt : s < 8 * m
              · obtain ⟨d, rfl⟩ : ∃ d : Nat, dI = d := ⟨8 * m - 1 - s, by omega⟩
                have hd : d < 8 * m := by omega
                have hds : 8 * m - s = d + 1 := by omega
                have hdf : d < fs.length := by rw [HFL.out]; exact hd
                have hc0 := HC.out
                rw [hds, count_step d hdf] at hc0
                have hdi : (d : Int) < fs.length := by omega
                have hbit := bitN_lt p d
                have hsd := HS.out.side_size d hdf
                have hws : fs.length - 1 - s = d := by rw [HFL.out]; omega
                have hstep : wayH m p fs hs h0 (s + 1) = if bitN p d = 1 then joinB m (sideB m fs hs d) hB else joinB m hB (sideB m fs hs d) := by
                  rw [wayH, hws, HX.out]
                obtain ⟨nx, hnx⟩ : ∃ tx, wayH m p fs hs h0 (s + 1) = tx := ⟨_, rfl⟩
                rw [hnx] at hstep
                have CR := Lib.hid (fun w => mrefbit_calls p d (by rw [HPZ.out]; exact hd) (by rw [HPZ.out]; exact hm2) w)
                have hnz : nx.size ≤ 32 := by
                  rw [hstep]
                  split
                  · rw [join_size]; exact (widN_le _).2
                  · rw [join_size]; exact (widN_le _).2
                obtain ⟨y0, y1, y2, y3, y4, y5, y6⟩ := boxed7 HB.out
                obtain ⟨g1, o1, rfl, hg1, hcell1⟩ := XF.out d hdf
                have hq1 := ((boxed HB.out).1.cell (p := ⟨g1, o1 + d, none⟩) hg1).trans hcell1
                obtain ⟨x, hx⟩ : ∃ x, sideB m fs hs d = x := ⟨_, rfl⟩
                rw [hx] at hstep hsd
                have HNX := Lib.hid hnx
                have HDI := Lib.hid (And.intro hdI hds)
                clear hcell1 HX hnx hws hdI hds
                cases hfd : fs[d]
                · have hk : c = (fs.take d).count true := by rw [hc0, hfd]; simp
                  have HK := Lib.hid hk
                  have hxe : E = x := by rw [← hx, ← HE.out]; exact (sideB_off hdf hfd).symm
                  rw [hfd] at hq1
                  subst hxe
                  clear hc0 hk hx
                  by_cases hb1 : bitN p d = 1
                  · rw [if_pos hb1] at hstep
                    rw [hb1] at CR
                    have HST := Lib.hid hstep
                    have CJ := Lib.hid (fun w h' => mrefjoined_calls m E hB (by omega) (by omega) w h')
                    rw [← HST.out] at CJ
                    clear hstep
                    go_wp2_with (first
                      | (go_at_call 51; (with_reducible refine (CR.out _).mono ?_); rintro e w5 ⟨rfl, hb5⟩
                         have HB6 := Lib.hid (belowStep HB.out (boxed HB.out).2.1 hb5)
                         clear hb5)
                      | (go_at_call 52; (with_reducible refine (CJ.out _ (HL.out.below (boxed HB6.out).1 h4)).mono ?_); rintro e w6 ⟨rfl, hb6⟩
                         have HB7 := Lib.hid (belowStep HB6.out (boxed HB6.out).2.1 hb6)
                         clear hb6))
                    have hdi2 := HDI.out
                    exact ⟨⟨s + 1, (d : Int) - 1, c, nx, by omega, by omega, by go_num, by go_num, rfl, hnz, Lib.hid (by rw [show 8 * m - (s + 1) = d by omega]; exact HK.out), Lib.hid HNX.out.symm, HB7⟩, by simp [intOf] <;> omega⟩
                  · rw [if_neg hb1] at hstep
                    obtain hb0 : bitN p d = 0 := by omega
                    rw [hb0] at CR
                    have HST := Lib.hid hstep
                    have CJ := Lib.hid (fun w h' => mrefjoined_calls m hB E (by omega) (by omega) w h')
                    rw [← HST.out] at CJ
                    clear hstep
                    go_wp2_with (first
                      | (go_at_call 51; (with_reducible refine (CR.out _).mono ?_); rintro e w5 ⟨rfl, hb5⟩
                         have HB6 := Lib.hid (belowStep HB.out (boxed HB.out).2.1 hb5)
                         clear hb5)
                      | (go_at_call 52; (with_reducible refine (CJ.out _ (HL.out.below (boxed HB6.out).1 h4)).mono ?_); rintro e w6 ⟨rfl, hb6⟩
                         have HB7 := Lib.hid (belowStep HB6.out (boxed HB6.out).2.1 hb6)
                         clear hb6))
                    have hdi2 := HDI.out
                    exact ⟨⟨s + 1, (d : Int) - 1, c, nx, by omega, by omega, by go_num, by go_num, rfl, hnz, Lib.hid (by rw [show 8 * m - (s + 1) = d by omega]; exact HK.out), Lib.hid HNX.out.symm, HB7⟩, by simp [intOf] <;> omega⟩
                · obtain ⟨k, hk⟩ : ∃ k, (fs.take d).count true = k := ⟨_, rfl⟩
                  have hkl : k < hs.length := by rw [← hk, HS.out.count]; exact count_lt hdf hfd
                  have hck : c = k + 1 := by rw [hc0, hfd, hk]; simp
                  have hxe : hs[k] = x := by rw [← hx, sideB_on hdf hfd (by rw [hk]; exact hkl)]; simp only [hk]
                  obtain ⟨g2, o2, rfl, hg2, hcell2⟩ := XH.out k hkl
                  rw [hxe] at hcell2
                  have hq2 := ((boxed HB.out).1.cell (p := ⟨g2, o2 + k, none⟩) hg2).trans hcell2
                  have HK := Lib.hid hk.symm
                  have hki : (k : Int) < hs.length := by omega
                  have hkb : k ≤ 256 := by { have h1 := List.count_le_length (a := true) (l := fs); have h2 := HS.out.count; have h3 := HFL.out; omega }
                  rw [hfd] at hq1
                  subst hck
                  clear hc0 hk hx hxe hcell2
                  by_cases hb1 : bitN p d = 1
                  · rw [if_pos hb1] at hstep
                    rw [hb1] at CR
                    have HST := Lib.hid hstep
                    have CJ := Lib.hid (fun w h' => mrefjoined_calls m x hB (by omega) (by omega) w h')
                    rw [← HST.out] at CJ
                    clear hstep
                    go_wp2_with (first
                      | (go_at_call 51; (with_reducible refine (CR.out _).mono ?_); rintro e w5 ⟨rfl, hb5⟩
                         have HB6 := Lib.hid (belowStep HB.out (boxed HB.out).2.1 hb5)
                         clear hb5)
                      | (go_at_call 52; (with_reducible refine (CJ.out _ (HL.out.below (boxed HB6.out).1 h4)).mono ?_); rintro e w6 ⟨rfl, hb6⟩
                         have HB7 := Lib.hid (belowStep HB6.out (boxed HB6.out).2.1 hb6)
                         clear hb6))
                    have hdi2 := HDI.out
                    exact ⟨⟨s + 1, (d : Int) - 1, k, nx, by omega, by omega, by go_num, by go_num, rfl, hnz, Lib.hid (by rw [show 8 * m - (s + 1) = d by omega]; exact HK.out), Lib.hid HNX.out.symm, HB7⟩, by simp [intOf] <;> omega⟩
                  · rw [if_neg hb1] at hstep
                    obtain hb0 : bitN p d = 0 := by omega
                    rw [hb0] at CR
                    have HST := Lib.hid hstep
                    have CJ := Lib.hid (fun w h' => mrefjoined_calls m hB x (by omega) (by omega) w h')
                    rw [← HST.out] at CJ
                    clear hstep
                    go_wp2_with (first
                      | (go_at_call 51; (with_reducible refine (CR.out _).mono ?_); rintro e w5 ⟨rfl, hb5⟩
                         have HB6 := Lib.hid (belowStep HB.out (boxed HB.out).2.1 hb5)
                         clear hb5)
                      | (go_at_call 52; (with_reducible refine (CJ.out _ (HL.out.below (boxed HB6.out).1 h4)).mono ?_); rintro e w6 ⟨rfl, hb6⟩
                         have HB7 := Lib.hid (belowStep HB6.out (boxed HB6.out).2.1 hb6)
                         clear hb6))
                    have hdi2 := HDI.out
                    exact ⟨⟨s + 1, (d : Int) - 1, k, nx, by omega, by omega, by go_num, by go_num, rfl, hnz, Lib.hid (by rw [show 8 * m - (s + 1) = d by omega]; exact HK.out), Lib.hid HNX.out.symm, HB7⟩, by simp [intOf] <;> omega⟩
              · obtain rfl : s = 8 * m := by omega
                obtain rfl : dI = -1 := by omega
                have hfin := HX.out
                rw [← HFL.out] at hfin
                clear HX
                by_cases hxr : hB = root
                · have HC := Lib.hid (check_6 (f := false) (b := true) (o := o) (v := v) (key := key) (root := root) HZ1.out HNO.out HR1.out HZ2.out (by rw [HP.out, HH0.out, ← hfin]; exact hxr))
                  subst hxr
                  clear hfin
                  go_wp2
                  go_ret
                  exact ⟨congrArg (fun z => Ending.returned (.int .i64 z)) HC.out.symm, (boxed HB.out).1⟩
                · have HC := Lib.hid (check_5 (f := false) (b := true) (o := o) (v := v) (key := key) (root := root) HZ1.out HNO.out HR1.out HZ2.out (by rw [HP.out, HH0.out, ← hfin]; exact hxr))
                  have hne := seq_no hxr
                  clear hfin
                  go_wp2
                  go_ret
                  exact ⟨congrArg (fun z => Ending.returned (.int .i64 z)) HC.out.symm, (boxed HB.out).1⟩
          · have hzb : (z2 != 0) = true := by rw [bne_iff_ne]; exact hzz
            have hc := check_4 (fs := fs) (hs := hs) HZ1.out HNO.out HR1.out (by rw [HZ2.out]; exact hzz)
            rw [HZ2.out] at hc
            have HC := Lib.hid hc
            clear hc hzz
            go_wp2
            go_ret
            exact ⟨congrArg (fun z => Ending.returned (.int .i64 z)) HC.out.symm, (boxed HBX.out).1⟩
        · have hrb : ((root.size : Int) != m) = true := by rw [bne_iff_ne]; exact hr1
          have HC := Lib.hid (check_3 (fs := fs) (hs := hs) HZ1.out HNO.out hr1)
          clear hr1
          go_wp2
          go_ret
          exact ⟨congrArg (fun z => Ending.returned (.int .i64 z)) HC.out.symm, (boxed HBA.out).1⟩
      · have HC := Lib.hid (check_2 (root := root) (fs := fs) (hs := hs) HZ1.out ⟨rfl, .inr hcc⟩)
        obtain ⟨c1, hc1⟩ : ∃ c, cutB o m = c := ⟨_, rfl⟩
        rw [hc1] at C1 hcc
        rw [HP.out] at hcc
        have hne := seq_no hcc
        clear hc1 hcc hok
        go_wp2_with fail
        (with_reducible refine (C1.out _ (HKF.out _ HBP.out).2.2).mono ?_); rintro e wA ⟨rfl, hbA⟩
        have HBA := Lib.hid (belowStep HBP.out hsP hbA)
        clear hbA
        go_wp2
        go_ret
        exact ⟨congrArg (fun z => Ending.returned (.int .i64 z)) HC.out.symm, (boxed HBA.out).1⟩
  · have hzb : (z1 != 0) = true := by rw [bne_iff_ne]; exact hz
    have hc := check_1 (root := root) (key := key) (fs := fs) (hs := hs) (by rw [HZ1.out]; exact hz)
    rw [HZ1.out] at hc
    have HC := Lib.hid hc
    clear hc hz
    go_wp2
    go_ret
    exact ⟨congrArg (fun z => Ending.returned (.int .i64 z)) HC.out.symm, (boxed HB1.out).1⟩
set_option maxRecDepth 100000 in
set_option maxHeartbeats 4000000 in
theorem mrefcheck_calls (root key : ByteArray) (W : Int) (f b : Bool) (o v : ByteArray) (fs : List Bool) (hs : List ByteArray) (F H : Value) (w : World) (hL : Laid w) (hF : Held w F (bV fs)) (hH : Held w H (tV hs)) (hfl : fs.length ≤ 1048576) (hhl : hs.length ≤ 1048576) (hk : key.size ≤ 1048576) (ho : o.size ≤ 1048576) (hv : v.size ≤ 1048576) (hr : root.size ≤ 1048576) :
    Calls Tryd.prog 12 #[.string root, .string key, .agg #[.int .i64 W, .bool f, .bool b, .string o, .string v, F, H]] w fun e w' => e = .returned (.int .i64 (checkZ root key W f b o v fs hs)) ∧ Below w.heap.size w w' := by
  have HB := Lib.hid ((Below.refl w.heap.size w).alloc (Nat.le_refl _) (.cells #[.int .i64 W, .bool f, .bool b, .string o, .string v, F, H] 25))
  by_cases a1 : W < 1
  · have HC := Lib.hid (check_1 (root := root) (key := key) (fs := fs) (hs := hs) (W := W) (f := f) (b := b) (o := o) (v := v) (by unfold formedZ; rw [if_pos (.inl a1)]; omega))
    have hz : formedZ W f b o v = 10 := by unfold formedZ; rw [if_pos (.inl a1)]
    rw [hz] at HC
    clear hz
    go_enter Tryd.func12, Tryd.ntmps12
    go_wp2
    go_ret
    exact ⟨congrArg (fun z => Ending.returned (.int .i64 z)) HC.out.symm, HB.out⟩
  · by_cases a2 : 32 < W
    · have HC := Lib.hid (check_1 (root := root) (key := key) (fs := fs) (hs := hs) (W := W) (f := f) (b := b) (o := o) (v := v) (by unfold formedZ; rw [if_pos (.inr a2)]; omega))
      have hz : formedZ W f b o v = 10 := by unfold formedZ; rw [if_pos (.inr a2)]
      rw [hz] at HC
      clear hz
      go_enter Tryd.func12, Tryd.ntmps12
      go_wp2
      go_ret
      exact ⟨congrArg (fun z => Ending.returned (.int .i64 z)) HC.out.symm, HB.out⟩
    · obtain ⟨m, rfl⟩ : ∃ m : Nat, W = m := ⟨W.toNat, by omega⟩
      cases f
      · cases b
        · exact mrefcheck_ff root key m o v fs hs F H w hL hF hH hfl hhl hk ho hv hr (by omega) (by omega)
        · exact mrefcheck_ft root key m o v fs hs F H w hL hF hH hfl hhl hk ho hv hr (by omega) (by omega)
      · cases b
        · exact mrefcheck_tf root key m o v fs hs F H w hL hF hH hfl hhl hk ho hv hr (by omega) (by omega)
        · have hw : wholeZ true true o v = 13 := by simp [wholeZ]
          have hz : formedZ m true true o v = 13 := by rw [formed_whole (by omega) (by omega)]; exact hw
          have hc := check_1 (root := root) (key := key) (fs := fs) (hs := hs) (W := m) (f := true) (b := true) (o := o) (v := v) (by rw [hz]; omega)
          rw [hz] at hc
          have HC := Lib.hid hc
          have CF := Lib.hid (fun w => mwhole_calls m true true o v F H w)
          rw [hw] at CF
          have hm1 : 1 ≤ m := by omega
          have hm2 : m ≤ 32 := by omega
          clear hc hz hw a1 a2
          go_enter Tryd.func12, Tryd.ntmps12
          go_wp2_with fail
          refine (CF.out _).mono ?_
          rintro e w1 ⟨rfl, hb1⟩
          have HB1 := Lib.hid (HB.out.trans (hb1.mono (by simp)))
          clear hb1
          go_wp2
          go_ret
          exact ⟨congrArg (fun z => Ending.returned (.int .i64 z)) HC.out.symm, HB1.out⟩
end Go.Proofs.YtkpfbjlbllpahaaDoor
