import Derived.Test.YtcicdgajhheipaaGreatMgBookFresh23
set_option linter.unusedVariables false
set_option linter.unusedSimpArgs false
namespace Go.Proofs.YtcicdgajhheipaaGreat
open Go.RowKit Go.WideMaps Go.Maps Go.MapKept
set_option maxRecDepth 100000 in
set_option maxHeartbeats 16000000 in
theorem bookFresh_walk (sv : Value) (l : List StepZ) (s kd : Int) (W : World) (ho : StepsIn W.heap.size W sv l) (hl : l.length ≤ 150000) (hsb : -9223372036854775808 ≤ s ∧ s ≤ 9223372036854775807) (hkb : -9223372036854775808 ≤ kd ∧ kd ≤ 9223372036854775807) :
    Calls Tryz.prog 3 #[sv, .int .i64 s, .int .i64 kd] W fun e W' => e = .returned (.bool true) ∧ Below W.heap.size W W' := by
  obtain ⟨s0, s1⟩ := hsb
  obtain ⟨k0, k1⟩ := hkb
  have hc : goesB 1048576 = true := by decide
  have HO := Lib.hid ho
  obtain ⟨pa, pc, hsv⟩ := ho.form
  subst hsv
  have HF0 := Lib.hid (tidy_new hc)
  have HC := Lib.hid hc
  have S1 := Lib.hid s1
  obtain ⟨n, hn⟩ : ∃ n, l.length = n := ⟨_, rfl⟩
  rw [hn] at hl HO
  have HN := Lib.hid hn
  rw [hn]
  clear ho hc hn
  go_enter Tryz.func3, Tryz.ntmps3
  go_wp2_with fail
  (with_reducible refine (snew_yes 1048576 HC.out _).mono ?_); rintro e w1 ⟨g, bn0, bd0, rfl, hp1, hn1, hb1⟩
  have HP1 := Lib.hid hp1
  have HN1 := Lib.hid hn1
  have HB1 := Lib.hid hb1
  clear hp1 hn1 hb1
  go_wp2_with fail
  (with_reducible refine (rnew_yes 1048576 HC.out _).mono ?_); rintro e w2 ⟨rfl, hr2, hb2⟩
  have HT := Lib.hid (two_new HP1.out HN1.out hb2 hr2 HB1.out.size)
  have HB2 := Lib.hid (HB1.out.trans (hb2.mono HB1.out.size))
  obtain ⟨h, hh⟩ : ∃ h, w1.heap.size = h := ⟨_, rfl⟩
  rw [hh] at HT
  rw [hh]
  clear hr2 hb2 hh
  go_wp2_with fail
  go_loopw [9] (fun iv wr => ∃ (k : Nat), k ≤ n ∧ iv = .int .i64 k ∧ Hid (∃ x, TwoG W.heap.size wr g h x x ∧ Tidy (2 * k) x) ∧ Hid (Below W.heap.size W wr)) (fun iv _ => n - (intOf iv).toNat)
  case atStart => exact ⟨0, by omega, rfl, Lib.hid ⟨_, HT.out, HF0.out⟩, HB2⟩
  case round =>
    obtain ⟨k, hk, rfl, HX, HB⟩ := hrel
    obtain ⟨x, hx1, hx2⟩ := HX.out
    have hzB := HB.out.size
    by_cases hlt : k < n
    · have hkl : k < l.length := by rw [HN.out]; exact hlt
      obtain ⟨gg, off, cc, hv, hg, r0, r1, r2, r3, r4, r5, r6⟩ := (HO.out.below HB.out).cells k hkl
      injection hv with q1 q2 q3
      subst q1
      have hbk : (k : Int) < n := by omega
      have hok := HO.out.ok _ (List.getElem_mem hkl)
      obtain ⟨s, hss⟩ : ∃ s, l[k] = s := ⟨_, rfl⟩
      rw [hss] at r0 r1 r2 r3 r4 r5 r6 hok
      have hx3 := rec_tidy hx2 s
      have hx4 := oth_tidy hx3 s hok
      have CR := Lib.hid (lrec_all (by omega) s hok wr x hzB hx1 hx2.fine)
      have CO := Lib.hid (fun (w : World) (hz : W.heap.size ≤ w.heap.size) (t : TwoG W.heap.size w g h (recZ x s) (recZ x s)) => loth_all (by omega) s hok w (recZ x s) hz t hx3.fine)
      have HX4 := Lib.hid hx4
      obtain ⟨x1, hx1e⟩ : ∃ z, recZ x s = z := ⟨_, rfl⟩
      simp only [hx1e] at CR CO HX4
      obtain ⟨x2, hx2e⟩ : ∃ z, othZ x1 s = z := ⟨_, rfl⟩
      simp only [hx2e] at CO HX4
      obtain ⟨what, sp, kd2, nm, sn, key, text⟩ := s
      simp only at r0 r1 r2 r3 r4 r5 r6
      simp only [StepZ.agg] at CR CO
      have hkb : k ≤ 150000 := by omega
      clear q2 q3 hss hx1 hx2 hx3 hx4 hok HX hx1e hx2e
      go_wp2_with (go_at_call 7; (with_reducible refine CR.out.mono ?_); rintro e w3 ⟨rfl, ht, hb⟩; have HT3 := Lib.hid ht; have HB3 := Lib.hid (HB.out.trans hb)
                   have s0 := (hb.cell (p := ⟨gg, off + k * 7, none⟩) hg).trans r0; have s1 := (hb.cell (p := ⟨gg, off + k * 7 + 1, none⟩) hg).trans r1; have s2 := (hb.cell (p := ⟨gg, off + k * 7 + 2, none⟩) hg).trans r2; have s3 := (hb.cell (p := ⟨gg, off + k * 7 + 3, none⟩) hg).trans r3
                   have s4 := (hb.cell (p := ⟨gg, off + k * 7 + 4, none⟩) hg).trans r4; have s5 := (hb.cell (p := ⟨gg, off + k * 7 + 5, none⟩) hg).trans r5; have s6 := (hb.cell (p := ⟨gg, off + k * 7 + 6, none⟩) hg).trans r6
                   clear ht hb)
      (with_reducible refine (CO.out _ HB3.out.size HT3.out).mono ?_); rintro e w4 ⟨rfl, ht, hb⟩
      have HT4 := Lib.hid ht
      have HB4 := Lib.hid (HB3.out.trans hb)
      clear ht hb
      go_wp2_with fail
      go_roundw
      case rel => exact ⟨k + 1, by omega, by go_num, Lib.hid ⟨x2, HT4.out, HX4.out⟩, HB4⟩
      case measure => simp [intOf]; omega
    · obtain rfl : k = n := by omega
      have CP := Lib.hid (fun (w : World) (hz : W.heap.size ≤ w.heap.size) (t : TwoG W.heap.size w g h x x) => two_gp hz t (fun bn bd v p => scrash_calls _ (by omega) ⟨#[1]⟩ (by decide) w g bn bd v x p hx2.fine))
      have CR := Lib.hid (fun (w : World) (hz : W.heap.size ≤ w.heap.size) (t : TwoG W.heap.size w g h (crashZ x ⟨#[1]⟩) x) => two_gr hz t (fun vd vw vv p => rcrash_calls _ (by omega) ⟨#[1]⟩ (by decide) w h vd vw vv x p hx2.fine))
      have HT5 := Lib.hid hx1
      have HX5 := Lib.hid (crash_tidy hx2 ⟨#[1]⟩).fine
      obtain ⟨y, hy⟩ : ∃ y, crashZ x ⟨#[1]⟩ = y := ⟨_, rfl⟩
      simp only [hy] at CP CR HX5
      have C1 := Lib.hid (fun (w : World) (k : Int) (t : TwoG W.heap.size w g h y y) => rbnums_any (by omega) s k S1.out w y t HX5.out)
      clear hy hx1 hx2 HX hlt hzB
      go_wp2_with (first
        | (go_at_call 9; (with_reducible refine (CP.out _ HB.out.size HT5.out).mono ?_); rintro e w1 ⟨rfl, ht, hb⟩; have HT6 := Lib.hid ht; have HB6 := Lib.hid (HB.out.trans hb); clear ht hb)
        | (go_at_call 10; (with_reducible refine (CR.out _ HB6.out.size HT6.out).mono ?_); rintro e w2 ⟨rfl, ht, hb⟩; have HT7 := Lib.hid ht; have HB7 := Lib.hid (HB6.out.trans hb); clear ht hb))
      have CN := Lib.hid (fun (w : World) (k : Int) (t : TwoG W.heap.size w g h y y) => pnums_any (by omega) s k S1.out w y t.lives HX5.out)
      have CS := Lib.hid (fun (w : World) (t : TwoG W.heap.size w g h y y) => rbspaces_any (by omega) w y t HX5.out)
      have CT := Lib.hid (fun (w : World) (t : TwoG W.heap.size w g h y y) => bspaces_calls (by omega) w y t.lives HX5.out)
      have LN := Lib.hid (fun (k : Int) => numsP_len HX5.out (by omega) s k S1.out)
      have LS := Lib.hid (show (spacesZ (keysZ y letB)).length ≤ 4194304 from Nat.le_trans (spaces_len _) (Nat.le_trans (keys_len2 HX5.out _) (by omega)))
      (with_reducible refine (C1.out _ kd HT7.out).mono ?_); rintro e w3 ⟨xv, rfl, hx3, hb3⟩
      obtain ⟨xa, xc, hxv⟩ := hx3.slice
      subst hxv
      have HX3 := Lib.hid hx3
      have HT3 := Lib.hid (HT7.out.keep hb3)
      have HB3 := Lib.hid (HB7.out.trans (hb3.mono HB7.out.size))
      clear hx3 hb3
      go_wp2_with fail
      (with_reducible refine (CS.out _ HT3.out).mono ?_); rintro e w4 ⟨yv, rfl, hy4, hb4⟩
      obtain ⟨ya, yc, hyv⟩ := hy4.slice
      subst hyv
      have HX4 := Lib.hid (HX3.out.keep hb4)
      have HY4 := Lib.hid hy4
      have HT4 := Lib.hid (HT3.out.keep hb4)
      have HB4 := Lib.hid (HB3.out.trans (hb4.mono HB3.out.size))
      clear hy4 hb4
      go_wp2_with fail
      (with_reducible refine (C1.out _ _ HT4.out).mono ?_); rintro e w5 ⟨zv, rfl, hz5, hb5⟩
      obtain ⟨za, zc, hzv⟩ := hz5.slice
      subst hzv
      have HX5r := Lib.hid (HX4.out.keep hb5)
      have HY5 := Lib.hid (HY4.out.keep hb5)
      have HZ5 := Lib.hid hz5
      have HT5' := Lib.hid (HT4.out.keep hb5)
      have HB5 := Lib.hid (HB4.out.trans (hb5.mono HB4.out.size))
      clear hz5 hb5
      have CN1 := Lib.hid (fun (w : World) (hb : Below w5.heap.size w5 w) => CN.out w kd (HT5'.out.keep hb))
      have CN2 := Lib.hid (fun (w : World) (hb : Below w5.heap.size w5 w) => CN.out w (wrap64 (kd + 1)) (HT5'.out.keep hb))
      have CT1 := Lib.hid (fun (w : World) (hb : Below w5.heap.size w5 w) => CT.out w (HT5'.out.keep hb))
      have LN1 := Lib.hid (LN.out kd)
      have LN2 := Lib.hid (LN.out (wrap64 (kd + 1)))
      have HXR := Lib.hid ((HX5r.out.mono (Nat.zero_le _) : Row w5 0 1 _ _ _))
      have HYR := Lib.hid ((HY5.out.mono (Nat.zero_le _) : Row w5 0 1 _ _ _))
      have HZR := Lib.hid ((HZ5.out.mono (Nat.zero_le _) : Row w5 0 1 _ _ _))
      have HBZ := Lib.hid HB5.out.size
      have HB00 := Lib.hid HB5.out
      clear CN CS CT C1 LN CP CR HX3 HX4 HX5r HY4 HY5 HZ5 HT3 HT4 HT5 HT6 HT7 HT HB3 HB4 HB6 HB7 HB1 HB2 HP1 HN1 HX5 HF0 HC HO HN HB
      generalize numsP y s kd = L1 at *
      generalize numsP y s (wrap64 (kd + 1)) = L2 at *
      generalize spacesZ (keysZ y letB) = SL at *
      go_wp2_with fail
      go_loopw [13, 14] (fun lvv iv wr => ∃ (k : Nat) (lv : Value) (vs : List Value), k ≤ 5 ∧ lv = lvv ∧ iv = .int .i64 k ∧ Hid (Lsts w5.heap.size wr lv vs (fiveL L1 L2 k) ∧ vs.length = k) ∧ Hid (Below w5.heap.size w5 wr)) (fun _ iv _ => 5 - (intOf iv).toNat)
      case atStart => exact ⟨0, _, [], by omega, rfl, rfl, Lib.hid ⟨Lsts.nil _ _, rfl⟩, Lib.hid (Below.refl _ _)⟩
      case round =>
        obtain ⟨q, lv, vs, hq, hlv, rfl, HL, HB⟩ := hrel
        subst hlv
        obtain ⟨la, lc, hlv⟩ : ∃ a c, lv = .slice a q c := by obtain ⟨a, c, e⟩ := HL.out.1.row.slice; rw [HL.out.2] at e; exact ⟨a, c, e⟩
        subst hlv
        have HV := Lib.hid (show Row wr w5.heap.size 1 (.slice la q lc) q vs by have := HL.out.1.row; rw [HL.out.2] at this; exact this)
        by_cases hlt : q < 5
        · have hbq : (q : Int) < 5 := by omega
          by_cases hc : q = 2 ∨ q = 3
          · have hn : fiveL L1 L2 (q + 1) = fiveL L1 L2 q ++ [L2] := by rw [fiveL_snoc, if_pos hc]
            have HNX := Lib.hid hn
            have hqb : q ≤ 100 := by omega
            clear hn
            have hcc : ((q : Int) == 2) = true ∨ (((q : Int) == 2) = false ∧ ((q : Int) == 3) = true) := by
              rcases hc with rfl | rfl
              · exact .inl rfl
              · exact .inr ⟨rfl, rfl⟩
            clear hc
            rcases hcc with hcc | ⟨hcc, hcd⟩
            all_goals
              go_wp2_with (first
                | (go_at_call 13; (with_reducible refine (CN2.out _ HB.out).mono ?_); rintro e w6 ⟨v6, rfl, hr6, hb6⟩; obtain ⟨a6, c6, hv6⟩ := hr6.slice; subst hv6; have HR6 := Lib.hid hr6; have HA6 := Lib.hid hb6; have HB6 := Lib.hid (HB.out.trans (hb6.mono HB.out.size)); clear hr6 hb6)
                | (refine wpList_lstA w6 w5.heap.size (.slice a6 L2.length c6) rfl rfl (.tmp 84) (.tmp 90) rfl (.slice la q lc) q vs rfl w6.heap.size rfl rfl (HV.out.keep HA6.out) hqb HB6.out.size ?_; intro v7 w7 hr7 hg7 ho7 hb7; have HL7 := Lib.hid (HL.out.1.snoc HB.out.size HA6.out HR6.out _ (by rw [HL.out.2]; exact hr7) hg7 ho7); have HB7 := Lib.hid (HB6.out.trans hb7); clear hr7 hg7 ho7 hb7))
              go_roundw
              case rel => exact ⟨q + 1, v7, _, by omega, rfl, by go_num, Lib.hid ⟨by rw [HNX.out]; exact HL7.out, by rw [List.length_append, HL.out.2]; rfl⟩, HB7⟩
              case measure => simp [intOf]; omega
          · have hn : fiveL L1 L2 (q + 1) = fiveL L1 L2 q ++ [L1] := by rw [fiveL_snoc, if_neg hc]
            have HNX := Lib.hid hn
            have hqb : q ≤ 100 := by omega
            clear hn
            have hcc : ((q : Int) == 2) = false := by rw [beq_eq_false_iff_ne]; omega
            have hcd : ((q : Int) == 3) = false := by rw [beq_eq_false_iff_ne]; omega
            clear hc
            go_wp2_with (first
                | (go_at_call 13; (with_reducible refine (CN1.out _ HB.out).mono ?_); rintro e w6 ⟨v6, rfl, hr6, hb6⟩; obtain ⟨a6, c6, hv6⟩ := hr6.slice; subst hv6; have HR6 := Lib.hid hr6; have HA6 := Lib.hid hb6; have HB6 := Lib.hid (HB.out.trans (hb6.mono HB.out.size)); clear hr6 hb6)
                | (refine wpList_lstA w6 w5.heap.size (.slice a6 L1.length c6) rfl rfl (.tmp 92) (.tmp 97) rfl (.slice la q lc) q vs rfl w6.heap.size rfl rfl (HV.out.keep HA6.out) hqb HB6.out.size ?_; intro v7 w7 hr7 hg7 ho7 hb7; have HL7 := Lib.hid (HL.out.1.snoc HB.out.size HA6.out HR6.out _ (by rw [HL.out.2]; exact hr7) hg7 ho7); have HB7 := Lib.hid (HB6.out.trans hb7); clear hr7 hg7 ho7 hb7))
            go_roundw
            case rel => exact ⟨q + 1, v7, _, by omega, rfl, by go_num, Lib.hid ⟨by rw [HNX.out]; exact HL7.out, by rw [List.length_append, HL.out.2]; rfl⟩, HB7⟩
            case measure => simp [intOf]; omega
        · have hq9 : (q : Int) = 5 := by omega
          simp only [hq9]
          clear hq9
          obtain rfl : q = 5 := by omega
          clear hlt hq HV
          go_wp2_with fail
          go_loopw [15, 16] (fun iv rv wq => ∃ k : Nat, k ≤ 5 ∧ iv = .int .i64 k ∧ Hid (Lsts w5.heap.size wq (.slice la 5 lc) vs (fiveL L1 L2 5) ∧ vs.length = 5) ∧ Hid (Below w5.heap.size w5 wq)) (fun iv _ _ => 5 - (intOf iv).toNat)
          case atStart => exact ⟨0, by omega, rfl, HL, HB⟩
          case round =>
            clear HL HB
            obtain ⟨k, hk, rfl, HL, HB⟩ := hrel
            by_cases hlt2 : k < 5
            · have hkv : k < vs.length := by rw [HL.out.2]; exact hlt2
              obtain ⟨lg, lcc, hlv, hlg, hlcell⟩ := HL.out.1.at k hkv
              injection hlv with e1 e2 e3
              subst e1
              clear e2 e3
              have hbk : (k : Int) < 5 := by omega
              by_cases hc : k = 2 ∨ k = 3
              · have hr := HL.out.1.each k vs[k] L2 (by rw [List.getElem?_eq_getElem hkv]) (by rw [fiveL_at _ _ hlt2, if_pos hc])
                obtain ⟨va, vc, hvv⟩ := hr.slice
                rw [hvv] at hr hlcell
                have HR := Lib.hid ((hr.mono (Nat.zero_le _) : Row wr 0 1 _ _ _))
                have hcc : ((k : Int) == 2) = true ∨ (((k : Int) == 2) = false ∧ ((k : Int) == 3) = true) := by
                  rcases hc with rfl | rfl
                  · exact .inl rfl
                  · exact .inr ⟨rfl, rfl⟩
                clear hr hc hvv hkv
                rcases hcc with hcc | ⟨hcc, hcd⟩
                all_goals
                  go_wp2_with fail
                  (with_reducible refine (sameInts_any _ _ L2 L1 _ HR.out (HXR.out.keep HB.out) LN2.out).mono ?_); rintro e w6 ⟨⟨c6, rfl⟩, q6, rfl⟩
                  go_wp2_with fail
                  (with_reducible refine (sameInts_calls _ _ L2 _ (HR.out.drewN q6) ((HZR.out.keep HB.out).drewN q6) LN2.out).mono ?_); rintro e w7 ⟨rfl, q7, rfl⟩
                  go_wp2_with fail
                  go_roundw
                  case rel => exact ⟨k + 1, by omega, by go_num, Lib.hid ⟨HL.out.1.drewN (q6 + q7), HL.out.2⟩, Lib.hid (belowDrewN HB.out (q6 + q7))⟩
                  case measure => simp [intOf]; omega
              · have hr := HL.out.1.each k vs[k] L1 (by rw [List.getElem?_eq_getElem hkv]) (by rw [fiveL_at _ _ hlt2, if_neg hc])
                obtain ⟨va, vc, hvv⟩ := hr.slice
                rw [hvv] at hr hlcell
                have HR := Lib.hid ((hr.mono (Nat.zero_le _) : Row wr 0 1 _ _ _))
                have hcc : ((k : Int) == 2) = false := by rw [beq_eq_false_iff_ne]; omega
                have hcd : ((k : Int) == 3) = false := by rw [beq_eq_false_iff_ne]; omega
                clear hr hc hvv hkv
                go_wp2_with fail
                (with_reducible refine (sameInts_calls _ _ L1 _ HR.out (HXR.out.keep HB.out) LN1.out).mono ?_); rintro e w6 ⟨rfl, q6, rfl⟩
                go_wp2_with fail
                go_roundw
                case rel => exact ⟨k + 1, by omega, by go_num, Lib.hid ⟨HL.out.1.drewN q6, HL.out.2⟩, Lib.hid (belowDrewN HB.out q6)⟩
                case measure => simp [intOf]; omega
            · have hq9 : (k : Int) = 5 := by omega
              simp only [hq9]
              clear hq9
              obtain rfl : k = 5 := by omega
              have HL0 := Lib.hid (show Lsts w5.heap.size wr (.slice la 5 lc) vs (fiveL L1 L2 5 ++ List.replicate 0 SL) ∧ vs.length = 5 + 0 from ⟨by simpa using HL.out.1, HL.out.2⟩)
              clear hlt2 hk
              go_wp2_with fail
              go_loopw [13, 17, 18, 19] (fun lvv iv x1 x2 wq => ∃ (k : Nat) (lv : Value) (vs : List Value), k ≤ 3 ∧ lv = lvv ∧ iv = .int .i64 k ∧ Hid (Lsts w5.heap.size wq lv vs (fiveL L1 L2 5 ++ List.replicate k SL) ∧ vs.length = 5 + k) ∧ Hid (Below w5.heap.size w5 wq)) (fun _ iv _ _ _ => 3 - (intOf iv).toNat)
              case atStart => exact ⟨0, _, vs, by omega, rfl, rfl, HL0, HB⟩
              case round =>
                clear HL HL0 HB
                obtain ⟨k, lv, vs, hk, hlv, rfl, HL, HB⟩ := hrel
                subst hlv
                obtain ⟨la, lc, hlv⟩ : ∃ a c, lv = .slice a (5 + k) c := by obtain ⟨a, c, e⟩ := HL.out.1.row.slice; rw [HL.out.2] at e; exact ⟨a, c, e⟩
                subst hlv
                have HV := Lib.hid (show Row wr w5.heap.size 1 (.slice la (5 + k) lc) (5 + k) vs by have := HL.out.1.row; rw [HL.out.2] at this; exact this)
                by_cases hlt3 : k < 3
                · have hbk : (k : Int) < 3 := by omega
                  have hqb : 5 + k ≤ 100 := by omega
                  have HNX := Lib.hid (show fiveL L1 L2 5 ++ List.replicate (k + 1) SL = (fiveL L1 L2 5 ++ List.replicate k SL) ++ [SL] by rw [List.replicate_succ', List.append_assoc])
                  go_wp2_with (first
                    | (go_at_call 15; (with_reducible refine (CT1.out _ HB.out).mono ?_); rintro e w6 ⟨v6, rfl, hr6, hb6⟩; obtain ⟨a6, c6, hv6⟩ := hr6.slice; subst hv6; have HR6 := Lib.hid hr6; have HA6 := Lib.hid hb6; have HB6 := Lib.hid (HB.out.trans (hb6.mono HB.out.size)); clear hr6 hb6)
                    | (go_at_call 14; (with_reducible refine (sameInts_calls _ _ SL _ (HR6.out.mono (Nat.zero_le _)) (HYR.out.keep HB6.out) LS.out).mono ?_); rintro e w7 ⟨rfl, q6, rfl⟩)
                    | (refine wpList_lstA (w6.drewN q6) w5.heap.size (.slice a6 SL.length c6) rfl rfl (.tmp 134) (.tmp 136) rfl (.slice la (5 + k) lc) (5 + k) vs rfl w6.heap.size rfl rfl ((HV.out.keep HA6.out).drewN q6) hqb HB6.out.size ?_; intro v7 w7 hr7 hg7 ho7 hb7; have HL7 := Lib.hid (HL.out.1.snoc HB.out.size (belowDrewN HA6.out q6) (HR6.out.drewN q6) _ (by rw [HL.out.2]; exact hr7) hg7 ho7); have HB7 := Lib.hid ((belowDrewN HB6.out q6).trans hb7); clear hr7 hg7 ho7 hb7))
                  go_roundw
                  case rel => exact ⟨k + 1, v7, _, by omega, rfl, by go_num, Lib.hid ⟨by rw [HNX.out]; exact HL7.out, by rw [List.length_append, HL.out.2]; rfl⟩, HB7⟩
                  case measure => simp [intOf]; omega
                · have hq9 : (k : Int) = 3 := by omega
                  simp only [hq9]
                  clear hq9
                  obtain rfl : k = 3 := by omega
                  have CA := Lib.hid (apart_calls _ vs _ _ HL.out.1.fill HB.out.size (by rw [HL.out.2]; omega) (fun q _ => eightL_len LN1.out LN2.out LS.out q))
                  clear hlt3 hk HV
                  go_wp2_with fail
                  (with_reducible refine CA.out.mono ?_); rintro e wa ⟨rfl, hba⟩
                  have HBa := Lib.hid (HB.out.trans hba)
                  clear hba CA HL
                  go_wp2_with fail
                  (with_reducible refine (CN1.out _ HBa.out).mono ?_); rintro e w6 ⟨av, rfl, ha6, hb6⟩
                  obtain ⟨aa, ac, hav⟩ := ha6.slice
                  subst hav
                  have HA6 := Lib.hid ha6
                  have HB6 := Lib.hid (HBa.out.trans (hb6.mono HBa.out.size))
                  clear ha6 hb6
                  go_wp2_with fail
                  (with_reducible refine (CT1.out _ HB6.out).mono ?_); rintro e w7 ⟨bv, rfl, hy7, hb7⟩
                  obtain ⟨ba, bc, hbv⟩ := hy7.slice
                  subst hbv
                  have HA7 := Lib.hid (HA6.out.keep hb7)
                  have HY7 := Lib.hid hy7
                  have HS7 : Hid (∀ k, (Value.slice aa L1.length ac).ownBlock = some k → (Value.slice ba SL.length bc).ownBlock ≠ some k) := Lib.hid (fun k hk e => by have := (HA6.out.lt k hk).2; have := (hy7.lt k e).1; omega)
                  have HB7 := Lib.hid (HB6.out.trans (hb7.mono HB6.out.size))
                  clear hy7 hb7
                  go_wp2_with fail
                  (with_reducible refine (sameInts_calls _ _ L1 _ (HA7.out.mono (Nat.zero_le _)) (HXR.out.keep HB7.out) LN1.out).mono ?_); rintro e w8 ⟨rfl, q8, hw8⟩
                  have HA8 := Lib.hid (hw8 ▸ HA7.out.drewN q8 : Row w8 _ 1 _ _ _)
                  have HY8 := Lib.hid (hw8 ▸ HY7.out.drewN q8 : Row w8 _ 1 _ _ _)
                  have HB8 := Lib.hid (hw8 ▸ belowDrewN HB7.out q8 : Below w5.heap.size w5 w8)
                  clear hw8
                  go_wp2_with fail
                  (with_reducible refine (sameInts_calls _ _ SL _ (HY8.out.mono (Nat.zero_le _)) (HYR.out.keep HB8.out) LS.out).mono ?_); rintro e w9 ⟨rfl, q9, hw9⟩
                  have HA9 := Lib.hid (hw9 ▸ HA8.out.drewN q9 : Row w9 _ 1 _ _ _)
                  have HY9 := Lib.hid (hw9 ▸ HY8.out.drewN q9 : Row w9 _ 1 _ _ _)
                  have HB9 := Lib.hid (hw9 ▸ belowDrewN HB8.out q9 : Below w5.heap.size w5 w9)
                  clear hw9
                  have HP9 := Lib.hid (Part.start (u := -1) (HA9.out.mono HBa.out.size))
                  have HQ9 := Lib.hid (HY9.out.mono HB6.out.size)
                  have hL1 := LN1.out
                  have hSL := LS.out
                  clear HA6 HA7 HA8 HA9 HY7 HY8 HY9 HBa HB6 HB7 HB8
                  go_wp2_with fail
                  go_loopw [25] (fun iv wq => ∃ j : Nat, j ≤ L1.length ∧ iv = .int .i64 j ∧ Hid (Part w5.heap.size wq (.slice aa L1.length ac) L1.length (-1) j) ∧ Hid (Row wq w5.heap.size 1 (.slice ba SL.length bc) SL.length (iV SL)) ∧ Hid (Below w5.heap.size w5 wq)) (fun iv _ => L1.length - (intOf iv).toNat)
                  case atStart => exact ⟨0, by omega, rfl, HP9, HQ9, HB9⟩
                  case round =>
                    clear HP9 HQ9 HB9
                    obtain ⟨j, hj, rfl, HP, HQ, HB⟩ := hrel
                    by_cases hjl : j < L1.length
                    · have hji : (j : Int) < L1.length := by omega
                      obtain ⟨g9, c9, hv9, hb9, hg9, ⟨z9, hz9⟩, hf9⟩ := HP.out.at hjl
                      injection hv9 with e1 e2 e3
                      subst e1
                      clear e2 e3
                      have HP2 := Lib.hid (HP.out.put hjl)
                      have HQ2 := Lib.hid (HQ.out.setCell (p := ⟨g9, j, none⟩) (HS7.out g9 rfl) (.int .i64 (-1)))
                      have HB2 := Lib.hid (HB.out.setCell (p := ⟨g9, j, none⟩) hb9 (.int .i64 (-1)))
                      go_wp2
                      go_roundw
                      case rel => exact ⟨j + 1, by omega, by go_num, HP2, HQ2, HB2⟩
                      case measure => simp [intOf]; omega
                    · obtain rfl : j = L1.length := by omega
                      have HA := Lib.hid HP.out.full
                      have HP0 := Lib.hid (Part.start (u := -2) HQ.out)
                      clear HP HQ hjl hj
                      go_wp2_with fail
                      go_loopw [26] (fun iv wq => ∃ j : Nat, j ≤ SL.length ∧ iv = .int .i64 j ∧ Hid (Part w5.heap.size wq (.slice ba SL.length bc) SL.length (-2) j) ∧ Hid (Row wq w5.heap.size 1 (.slice aa L1.length ac) L1.length (iV (List.replicate L1.length (-1)))) ∧ Hid (Below w5.heap.size w5 wq)) (fun iv _ => SL.length - (intOf iv).toNat)
                      case atStart => exact ⟨0, by omega, rfl, HP0, HA, HB⟩
                      case round =>
                        clear HP0 HA HB
                        obtain ⟨j, hj, rfl, HP, HQ, HB⟩ := hrel
                        by_cases hjl : j < SL.length
                        · have hji : (j : Int) < SL.length := by omega
                          obtain ⟨g9, c9, hv9, hb9, hg9, ⟨z9, hz9⟩, hf9⟩ := HP.out.at hjl
                          injection hv9 with e1 e2 e3
                          subst e1
                          clear e2 e3
                          have HP2 := Lib.hid (HP.out.put hjl)
                          have HQ2 := Lib.hid (HQ.out.setCell (p := ⟨g9, j, none⟩) (fun e => HS7.out g9 e rfl) (.int .i64 (-2)))
                          have HB2 := Lib.hid (HB.out.setCell (p := ⟨g9, j, none⟩) hb9 (.int .i64 (-2)))
                          go_wp2
                          go_roundw
                          case rel => exact ⟨j + 1, by omega, by go_num, HP2, HQ2, HB2⟩
                          case measure => simp [intOf]; omega
                        · obtain rfl : j = SL.length := by omega
                          have HY := Lib.hid HP.out.full
                          clear HP hjl hj
                          go_wp2_with (first
                            | (refine wpList_int3 wr w5.heap.size (-1) rfl (.tmp 176) (.tmp 177) rfl (.slice aa L1.length ac) L1.length rfl wr.heap.size rfl rfl HQ.out hL1 HB.out.size ?_; intro v10 w10 hr10 ha10 hp10 ho10 hb10
                               have HY10 : Hid (Row w10 w5.heap.size 1 (.slice ba SL.length bc) SL.length (iV (List.replicate SL.length (-2)))) := Lib.hid (by
                                 rcases ho10 with ⟨_, g⟩ | ⟨_, g⟩
                                 · refine (HY.out.alloc _).grown g ?_
                                   cases hk : (Value.slice ba SL.length bc).ownBlock with
                                   | none => exact .inl rfl
                                   | some k => exact .inr (fun e => HS7.out k e.symm hk)
                                 · refine (HY.out.alloc _).grown g ?_
                                   cases hk : (Value.slice ba SL.length bc).ownBlock with
                                   | none => exact .inl rfl
                                   | some k => exact .inr (fun e => by cases e))
                               have HS10 : Hid (∀ k, v10.ownBlock = some k → (Value.slice ba SL.length bc).ownBlock ≠ some k) := Lib.hid (fun k hk e => by
                                 rcases ho10 with ⟨g, _⟩ | ⟨g, _⟩
                                 · rw [g] at hk
                                   exact HS7.out k hk e
                                 · rw [g] at hk
                                   injection hk with hk
                                   have := (HY.out.lt k e).2
                                   omega)
                               have HA10 := Lib.hid ha10
                               have HP10 := Lib.hid hp10
                               have HB10 := Lib.hid (HB.out.trans hb10)
                               obtain ⟨pa2, pc2, hp2⟩ : ∃ a c, v10 = .slice a (L1.length + 3) c := by obtain ⟨a, c, e, _⟩ := hp10; exact ⟨a, c, e⟩
                               clear hr10 ha10 hp10 ho10 hb10
                               subst hp2)
                            | (refine wpList_int3 w10 w5.heap.size (-2) rfl (.tmp 179) (.tmp 180) rfl (.slice ba SL.length bc) SL.length rfl w10.heap.size rfl rfl HY10.out hSL HB10.out.size ?_; intro v11 w11 hr11 hb11 hq11 ho11 hl11
                               have HA11 := Lib.hid (show ReadI w11 (.slice aa L1.length ac) L1.length (-1) by rcases ho11 with ⟨_, g⟩ | ⟨_, g⟩; exact (HA10.out.alloc _).grown g (fun k hk => HS7.out k hk); exact (HA10.out.alloc _).grown g (fun k hk e => by cases e))
                               have HP11 := Lib.hid (show ReadI w11 (.slice pa2 (L1.length + 3) pc2) (L1.length + 3) (-1) by rcases ho11 with ⟨_, g⟩ | ⟨_, g⟩; exact (HP10.out.alloc _).grown g (fun k hk => HS10.out k hk); exact (HP10.out.alloc _).grown g (fun k hk e => by cases e))
                               have HY11 := Lib.hid hb11
                               have HQ11 := Lib.hid hq11
                               have HB11 := Lib.hid (HB10.out.trans hl11)
                               obtain ⟨qa2, qc2, hq2⟩ : ∃ a c, v11 = .slice a (SL.length + 3) c := by obtain ⟨a, c, e, _⟩ := hq11; exact ⟨a, c, e⟩
                               clear hr11 hb11 hq11 ho11 hl11
                               subst hq2)
                            | (go_at_call 13; (with_reducible refine (CN1.out _ HB11.out).mono ?_); rintro e w12 ⟨v12, rfl, hr12, hb12⟩
                               obtain ⟨a12, c12, hv12⟩ := hr12.slice
                               subst hv12
                               have HR12 := Lib.hid hr12
                               have HA12 := Lib.hid (HA11.out.keep hb12)
                               have HP12 := Lib.hid (HP11.out.keep hb12)
                               have HY12 := Lib.hid (HY11.out.keep hb12)
                               have HQ12 := Lib.hid (HQ11.out.keep hb12)
                               have HB12 := Lib.hid (HB11.out.trans (hb12.mono HB11.out.size))
                               clear hr12 hb12))
                          (with_reducible refine (sameInts_calls _ _ L1 _ (HR12.out.mono (Nat.zero_le _)) (HXR.out.keep HB12.out) LN1.out).mono ?_); rintro e w13 ⟨rfl, q13, hw13⟩
                          have HA13 := Lib.hid (hw13 ▸ HA12.out.keep (belowDrewN (Below.refl _ _) q13) : ReadI w13 _ _ _)
                          have HP13 := Lib.hid (hw13 ▸ HP12.out.keep (belowDrewN (Below.refl _ _) q13) : ReadI w13 _ _ _)
                          have HY13 := Lib.hid (hw13 ▸ HY12.out.keep (belowDrewN (Below.refl _ _) q13) : ReadI w13 _ _ _)
                          have HQ13 := Lib.hid (hw13 ▸ HQ12.out.keep (belowDrewN (Below.refl _ _) q13) : ReadI w13 _ _ _)
                          have HB13 := Lib.hid (hw13 ▸ belowDrewN HB12.out q13 : Below w5.heap.size w5 w13)
                          clear hw13 HA12 HP12 HY12 HQ12 HB12 HA11 HP11 HY11 HQ11 HB11 HA10 HP10 HY10 HB10
                          go_wp2_with fail
                          (with_reducible refine (CT1.out _ HB13.out).mono ?_); rintro e w14 ⟨v14, rfl, hr14, hb14⟩
                          obtain ⟨a14, c14, hv14⟩ := hr14.slice
                          subst hv14
                          have HR14 := Lib.hid hr14
                          have HA14 := Lib.hid (HA13.out.keep hb14)
                          have HP14 := Lib.hid (HP13.out.keep hb14)
                          have HY14 := Lib.hid (HY13.out.keep hb14)
                          have HQ14 := Lib.hid (HQ13.out.keep hb14)
                          have HB14 := Lib.hid (HB13.out.trans (hb14.mono HB13.out.size))
                          clear hr14 hb14
                          go_wp2_with fail
                          (with_reducible refine (sameInts_calls _ _ SL _ (HR14.out.mono (Nat.zero_le _)) (HYR.out.keep HB14.out) LS.out).mono ?_); rintro e w15 ⟨rfl, q15, hw15⟩
                          have HA15 := Lib.hid (hw15 ▸ HA14.out.keep (belowDrewN (Below.refl _ _) q15) : ReadI w15 _ _ _)
                          have HP15 := Lib.hid (hw15 ▸ HP14.out.keep (belowDrewN (Below.refl _ _) q15) : ReadI w15 _ _ _)
                          have HY15 := Lib.hid (hw15 ▸ HY14.out.keep (belowDrewN (Below.refl _ _) q15) : ReadI w15 _ _ _)
                          have HQ15 := Lib.hid (hw15 ▸ HQ14.out.keep (belowDrewN (Below.refl _ _) q15) : ReadI w15 _ _ _)
                          have HB15 := Lib.hid (hw15 ▸ belowDrewN HB14.out q15 : Below w5.heap.size w5 w15)
                          clear hw15 HA14 HP14 HY14 HQ14 HB14 HA13 HP13 HY13 HQ13 HB13
                          go_wp2_with fail
                          go_loopw [29] (fun iv wq => ∃ j : Nat, j ≤ L1.length + 3 ∧ iv = .int .i64 j ∧ w15 = wq) (fun iv _ => L1.length + 3 - (intOf iv).toNat)
                          case atStart => exact ⟨0, by omega, rfl, rfl⟩
                          case round =>
                            obtain ⟨j, hj, rfl, hwq⟩ := hrel
                            subst hwq
                            by_cases hjl : j < L1.length + 3
                            · have hji : (j : Int) < (L1.length : Int) + 3 := by omega
                              obtain ⟨xa2, xc2, e0, hx⟩ := HP15.out
                              injection e0 with e1 e2 e3
                              subst e1
                              clear e2 e3
                              obtain ⟨pg, rfl, hpg, hpc⟩ := hx j hjl
                              clear hx
                              by_cases hjm : j < L1.length
                              · obtain ⟨xa3, xc3, e0, hx⟩ := HA15.out
                                injection e0 with e1 e2 e3
                                subst e1
                                clear e2 e3
                                obtain ⟨ag, rfl, hag, hac⟩ := hx j hjm
                                clear hx
                                have hjn : (j : Int) < L1.length := by omega
                                go_wp2
                                go_roundw
                                case rel => exact ⟨j + 1, by omega, by go_num, trivial⟩
                                case measure => simp [intOf]; omega
                              · have hjn : ¬ (j : Int) < L1.length := by omega
                                go_wp2
                                go_roundw
                                case rel => exact ⟨j + 1, by omega, by go_num, trivial⟩
                                case measure => simp [intOf]; omega
                            · obtain rfl : j = L1.length + 3 := by omega
                              clear hjl hj
                              go_wp2_with fail
                              go_loopw [30] (fun iv wq => ∃ j : Nat, j ≤ SL.length + 3 ∧ iv = .int .i64 j ∧ w15 = wq) (fun iv _ => SL.length + 3 - (intOf iv).toNat)
                              case atStart => exact ⟨0, by omega, rfl, rfl⟩
                              case round =>
                                obtain ⟨j, hj, rfl, hwq⟩ := hrel
                                subst hwq
                                by_cases hjl : j < SL.length + 3
                                · have hji : (j : Int) < (SL.length : Int) + 3 := by omega
                                  obtain ⟨xa2, xc2, e0, hx⟩ := HQ15.out
                                  injection e0 with e1 e2 e3
                                  subst e1
                                  clear e2 e3
                                  obtain ⟨pg, rfl, hpg, hpc⟩ := hx j hjl
                                  clear hx
                                  by_cases hjm : j < SL.length
                                  · obtain ⟨xa3, xc3, e0, hx⟩ := HY15.out
                                    injection e0 with e1 e2 e3
                                    subst e1
                                    clear e2 e3
                                    obtain ⟨ag, rfl, hag, hac⟩ := hx j hjm
                                    clear hx
                                    have hjn : (j : Int) < SL.length := by omega
                                    go_wp2
                                    go_roundw
                                    case rel => exact ⟨j + 1, by omega, by go_num, trivial⟩
                                    case measure => simp [intOf]; omega
                                  · have hjn : ¬ (j : Int) < SL.length := by omega
                                    go_wp2
                                    go_roundw
                                    case rel => exact ⟨j + 1, by omega, by go_num, trivial⟩
                                    case measure => simp [intOf]; omega
                                · obtain rfl : j = SL.length + 3 := by omega
                                  clear hjl hj
                                  go_wp2
                                  go_ret
                                  exact ⟨rfl, HB00.out.trans (HB15.out.mono HBZ.out)⟩
end Go.Proofs.YtcicdgajhheipaaGreat
