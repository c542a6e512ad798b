import Derived.Test.YtpddnbkmiogheaaRs16
set_option linter.unusedVariables false
namespace Go.Proofs.Ytpddnbkmiogheaa
open Go.RowKit Go.WideMaps Go.Maps Go.MapKept
set_option maxRecDepth 100000 in
set_option maxHeartbeats 8000000 in
theorem storeTwo_walk (c c2 : Int) (l l2 : List OpZ) (sv sv2 : Value) (W : World) (ho : OpsIn W.heap.size W sv l) (ho2 : OpsIn W.heap.size W sv2 l2) (hl : l.length ≤ 1048576) (hl2 : l2.length ≤ 1048576) :
    Calls Try.prog 10 #[.int .i64 c, .int .i64 c2, sv, sv2] W fun e W' => e = .returned (.bool true) ∧ Below W.heap.size W W' := by
  cases hc : goesB c
  · cases hc2 : goesB c2
    · go_enter Try.func10, Try.ntmps10
      go_wp2_with fail
      (with_reducible refine (snew_no c hc _).mono ?_); rintro e w2 ⟨rfl, rfl⟩
      go_wp2_with fail
      (with_reducible refine (snew_no c2 hc2 _).mono ?_); rintro e w2 ⟨rfl, rfl⟩
      go_wp2_with fail
      (with_reducible refine (rnew_no c hc _).mono ?_); rintro e w2 ⟨rfl, rfl⟩
      go_wp2_with fail
      (with_reducible refine (rnew_no c2 hc2 _).mono ?_); rintro e w2 ⟨rfl, rfl⟩
      clear hc hc2
      go_wp2
      go_ret
      exact ⟨rfl, Below.refl _ _⟩
    · go_enter Try.func10, Try.ntmps10
      go_wp2_with fail
      (with_reducible refine (snew_no c hc _).mono ?_); rintro e w1 ⟨rfl, rfl⟩
      go_wp2_with fail
      (with_reducible refine (snew_yes c2 hc2 _).mono ?_); rintro e w1 ⟨g0, bn0, bd0, rfl, hp1, hn1, hb1⟩
      have HB1 := Lib.hid hb1
      clear hp1 hn1 hb1
      go_wp2_with fail
      (with_reducible refine (rnew_no c hc _).mono ?_); rintro e w2 ⟨rfl, rfl⟩
      go_wp2_with fail
      (with_reducible refine (rnew_yes c2 hc2 _).mono ?_); rintro e w2 ⟨rfl, hr2, hb2⟩
      have HB2 := Lib.hid (HB1.out.trans (hb2.mono HB1.out.size))
      clear hc hc2 hr2 hb2
      go_wp2
      go_ret
      exact ⟨rfl, HB2.out⟩
  · cases hc2 : goesB c2
    · go_enter Try.func10, Try.ntmps10
      go_wp2_with fail
      (with_reducible refine (snew_yes c hc _).mono ?_); rintro e w1 ⟨g0, bn0, bd0, rfl, hp1, hn1, hb1⟩
      have HB1 := Lib.hid hb1
      clear hp1 hn1 hb1
      go_wp2_with fail
      (with_reducible refine (snew_no c2 hc2 _).mono ?_); rintro e w2 ⟨rfl, rfl⟩
      go_wp2_with fail
      (with_reducible refine (rnew_yes c hc _).mono ?_); rintro e w2 ⟨rfl, hr2, hb2⟩
      have HB2 := Lib.hid (HB1.out.trans (hb2.mono HB1.out.size))
      clear hr2 hb2
      go_wp2_with fail
      (with_reducible refine (rnew_no c2 hc2 _).mono ?_); rintro e w3 ⟨rfl, rfl⟩
      clear hc hc2
      go_wp2
      go_ret
      exact ⟨rfl, HB2.out⟩
    · have HO := Lib.hid ho
      have HO2 := Lib.hid ho2
      obtain ⟨pa, pc, hsv⟩ := ho.form
      obtain ⟨qa, qc, hsv2⟩ := ho2.form
      subst hsv hsv2
      have HF0 := Lib.hid (newF_fine hc)
      have HF1 := Lib.hid (newF_fine hc2)
      have HC := Lib.hid hc
      have HC2 := Lib.hid hc2
      obtain ⟨n, hn⟩ : ∃ n, l.length = n := ⟨_, rfl⟩
      obtain ⟨m, hm⟩ : ∃ m, l2.length = m := ⟨_, rfl⟩
      rw [hn] at hl HO
      rw [hm] at hl2 HO2
      have HN := Lib.hid hn
      have HM := Lib.hid hm
      rw [hn, hm]
      clear ho ho2 hc hc2 hn hm
      go_enter Try.func10, Try.ntmps10
      go_wp2_with fail
      (with_reducible refine (snew_yes c HC.out _).mono ?_); rintro e w1 ⟨g1, bn1, bd1, rfl, hp1, hn1, hb1⟩
      have HP1 := Lib.hid hp1
      have HN1 := Lib.hid hn1
      have HB1 := Lib.hid hb1
      clear hp1 hn1 hb1
      go_wp2_with fail
      (with_reducible refine (snew_yes c2 HC2.out _).mono ?_); rintro e w2 ⟨g2, bn2, bd2, rfl, hp2, hn2, hb2⟩
      have HP2 := Lib.hid hp2
      have HN2 := Lib.hid hn2
      have HB2 := Lib.hid hb2
      clear hp2 hn2 hb2
      go_wp2_with fail
      (with_reducible refine (rnew_yes c HC.out _).mono ?_); rintro e w3 ⟨rfl, hr3, hb3⟩
      have HR3 := Lib.hid hr3
      have HB3 := Lib.hid hb3
      clear hr3 hb3
      go_wp2_with fail
      (with_reducible refine (rnew_yes c2 HC2.out _).mono ?_); rintro e w4 ⟨rfl, hr4, hb4⟩
      have HB4 := Lib.hid hb4
      have HPB := Lib.hid (pair_two (B := W.heap.size) (t := 63) (w := w4) (((HP1.out.keep HB2.out).keep HB3.out).keep hb4) (HR3.out.keep hb4) ((HP2.out.keep HB3.out).keep hb4) hr4 w1.heap.size w2.heap.size w3.heap.size HB1.out.size HB2.out.size HB3.out.size
        (fun m hm => ⟨HN1.out m hm, HP1.out.foot_lt m hm⟩) (fun m hm => ⟨HN2.out m hm, HP2.out.foot_lt m hm⟩) (fun m hm => ⟨by { rcases mem_rfoot.1 hm with e | e | e | e; omega; cases e; cases e; cases e }, HR3.out.foot_lt m hm⟩) (fun m hm => by { rcases mem_rfoot.1 hm with e | e | e | e; omega; cases e; cases e; cases e }))
      have HBA := Lib.hid (((HB1.out.trans (HB2.out.mono HB1.out.size)).trans (HB3.out.mono (Nat.le_trans HB1.out.size HB2.out.size))).trans (hb4.mono (Nat.le_trans (Nat.le_trans HB1.out.size HB2.out.size) HB3.out.size)))
      have HBB := Lib.hid ((HBA.out.alloc HBA.out.size (.cells #[.pointer (some ⟨g1, 0, none⟩), .pointer (some ⟨w2.heap.size, 0, none⟩)] 63)).alloc (HBA.out.alloc HBA.out.size (.cells #[.pointer (some ⟨g1, 0, none⟩), .pointer (some ⟨w2.heap.size, 0, none⟩)] 63)).size (.cells #[.pointer (some ⟨g2, 0, none⟩), .pointer (some ⟨w3.heap.size, 0, none⟩)] 63))
      clear hr4 hb4
      go_wp2_with fail
      go_loopw [15, 16, 17] (fun iv _ _ wr => ∃ (k : Nat), (k ≤ n ∨ k ≤ m) ∧ iv = .int .i64 k ∧ Hid (∃ x y, TwoB W.heap.size wr w4.heap.size (w4.heap.size + 1) x y ∧ Fine (0 + k) x ∧ Fine (0 + k) y) ∧ Hid (Below W.heap.size W wr)) (fun iv _ _ _ => n + m - (intOf iv).toNat)
      case atStart => exact ⟨0, by omega, rfl, Lib.hid ⟨_, _, HPB.out, HF0.out, HF1.out⟩, HBB⟩
      case round =>
        obtain ⟨k, hk, rfl, HX, HB⟩ := hrel
        obtain ⟨x, y, hx1, hx2, hx3⟩ := HX.out
        have hzB := HB.out.size
        have hkk : k ≤ 1048576 := by omega
        have HTW := Lib.hid hx1
        have HFX := Lib.hid hx2
        have HFY := Lib.hid hx3
        clear hx1 hx2 hx3 HX
        by_cases hlt : k < n
        · have hbk : (k : Int) < n := by omega
          have hkl : k < l.length := by rw [HN.out]; exact hlt
          obtain ⟨gg, off, cc, hv, hg, r0, r1, r2, r3⟩ := (HO.out.below HB.out).cells k hkl
          injection hv with q1 q2 q3
          subst q1
          have hok := HO.out.ok _ (List.getElem_mem hkl)
          obtain ⟨o, hoo⟩ : ∃ o, l[k] = o := ⟨_, rfl⟩
          rw [hoo] at r0 r1 r2 r3 hok
          have CS := Lib.hid (step_two (by omega) o hok wr x y hzB HTW.out HFX.out)
          have HFX1 := Lib.hid (step_fine HFX.out hok)
          obtain ⟨ok, okey, odata, on⟩ := o
          simp only at r0 r1 r2 r3
          simp only [opV] at CS
          clear q2 q3 hoo hok
          by_cases hlt2 : k < m
          · have hbk2 : (k : Int) < m := by omega
            have hkl2 : k < l2.length := by rw [HM.out]; exact hlt2
            obtain ⟨gg2, off2, cc2, hv2, hg2, s0, s1, s2, s3⟩ := (HO2.out.below HB.out).cells k hkl2
            injection hv2 with t1 t2 t3
            subst t1
            have hok2 := HO2.out.ok _ (List.getElem_mem hkl2)
            obtain ⟨o2, hoo2⟩ : ∃ o, l2[k] = o := ⟨_, rfl⟩
            rw [hoo2] at s0 s1 s2 s3 hok2
            have HFY1 := Lib.hid (step_fine HFY.out hok2)
            have CS2 := Lib.hid (fun (w3 : World) (x' : Fld) (hz : W.heap.size ≤ w3.heap.size) (ht : TwoB W.heap.size w3 w4.heap.size (w4.heap.size + 1) x' y) => step_two (by omega) o2 hok2 w3 y x' hz ht.swap HFY.out)
            obtain ⟨ok2, okey2, odata2, on2⟩ := o2
            simp only at s0 s1 s2 s3
            simp only [opV] at CS2
            clear t2 t3 hoo2 hok2
            have S0 := Lib.hid s0
            have S1 := Lib.hid s1
            have S2 := Lib.hid s2
            have S3 := Lib.hid s3
            go_wp2_with (first
              | (go_at_call 38; (with_reducible refine CS.out.mono ?_); rintro e w5 ⟨rfl, ht5, hb5⟩
                 have HT5 := Lib.hid ht5
                 have HB5 := Lib.hid (HB.out.trans hb5)
                 have s0 := (hb5.cell (p := ⟨gg2, off2 + k * 4, none⟩) hg2).trans S0.out
                 have s1 := (hb5.cell (p := ⟨gg2, off2 + k * 4 + 1, none⟩) hg2).trans S1.out
                 have s2 := (hb5.cell (p := ⟨gg2, off2 + k * 4 + 2, none⟩) hg2).trans S2.out
                 have s3 := (hb5.cell (p := ⟨gg2, off2 + k * 4 + 3, none⟩) hg2).trans S3.out
                 clear ht5 hb5)
              | (go_at_call 38; (with_reducible refine (CS2.out _ _ HB5.out.size HT5.out).mono ?_); rintro e w6 ⟨rfl, ht6, hb6⟩
                 have HT6 := Lib.hid ht6.swap
                 have HB6 := Lib.hid (HB5.out.trans hb6)
                 clear ht6 hb6))
            exact ⟨⟨k + 1, by omega, by go_num, Lib.hid ⟨_, _, HT6.out, HFX1.out, HFY1.out⟩, HB6⟩, by simp [intOf]; omega⟩
          · have hbk2 : ¬ (k : Int) < m := by omega
            go_wp2_with (go_at_call 38; (with_reducible refine CS.out.mono ?_); rintro e w5 ⟨rfl, ht5, hb5⟩; have HT5 := Lib.hid ht5; have HB5 := Lib.hid (HB.out.trans hb5); clear ht5 hb5)
            exact ⟨⟨k + 1, by omega, by go_num, Lib.hid ⟨_, _, HT5.out, HFX1.out, HFY.out.mono (by omega)⟩, HB5⟩, by simp [intOf]; omega⟩
        · have hbk : ¬ (k : Int) < n := by omega
          by_cases hlt2 : k < m
          · have hbk2 : (k : Int) < m := by omega
            have hkl2 : k < l2.length := by rw [HM.out]; exact hlt2
            obtain ⟨gg2, off2, cc2, hv2, hg2, s0, s1, s2, s3⟩ := (HO2.out.below HB.out).cells k hkl2
            injection hv2 with t1 t2 t3
            subst t1
            have hok2 := HO2.out.ok _ (List.getElem_mem hkl2)
            obtain ⟨o2, hoo2⟩ : ∃ o, l2[k] = o := ⟨_, rfl⟩
            rw [hoo2] at s0 s1 s2 s3 hok2
            have HFY1 := Lib.hid (step_fine HFY.out hok2)
            have CS2 := Lib.hid (step_two (by omega) o2 hok2 wr y x hzB HTW.out.swap HFY.out)
            obtain ⟨ok2, okey2, odata2, on2⟩ := o2
            simp only at s0 s1 s2 s3
            simp only [opV] at CS2
            clear t2 t3 hoo2 hok2
            go_wp2_with (go_at_call 38; (with_reducible refine CS2.out.mono ?_); rintro e w6 ⟨rfl, ht6, hb6⟩; have HT6 := Lib.hid ht6.swap; have HB6 := Lib.hid (HB.out.trans hb6); clear ht6 hb6)
            exact ⟨⟨k + 1, by omega, by go_num, Lib.hid ⟨_, _, HT6.out, HFX.out.mono (by omega), HFY1.out⟩, HB6⟩, by simp [intOf]; omega⟩
          · have hbk2 : ¬ (k : Int) < m := by omega
            obtain ⟨H1, H2, ⟨g, bn, bd, v, h, vd, vw, vv, p, hm1⟩, ⟨g', bn', bd', v', h', vd', vw', vv', p', hm2⟩, hd, hl1, hl2'⟩ := HTW.out
            have HP := Lib.hid p
            have HQ := Lib.hid p'
            have a0 := p.p0
            have a1 := p.p1
            have a2 := p'.p0
            have a3 := p'.p1
            have hlb := p.lt
            have hlb' := p'.lt
            have CI := Lib.hid (fun w (h : PSF w g bn bd v x) => simage_calls (0 + k) (by omega) w g bn bd v x h HFX.out)
            have CR := Lib.hid (fun w (hh : RSF w h vd vw vv x) => rimage_calls (0 + k) (by omega) w h vd vw vv x hh HFX.out)
            have CI' := Lib.hid (fun w (h : PSF w g' bn' bd' v' y) => simage_calls (0 + k) (by omega) w g' bn' bd' v' y h HFY.out)
            have CR' := Lib.hid (fun w (hh : RSF w h' vd' vw' vv' y) => rimage_calls (0 + k) (by omega) w h' vd' vw' vv' y hh HFY.out)
            obtain ⟨im, him⟩ : ∃ im : ByteArray, ⟨(imageL x.dur).toArray⟩ = im := ⟨_, rfl⟩
            simp only [him] at CI CR
            obtain ⟨jm, hjm⟩ : ∃ im : ByteArray, ⟨(imageL y.dur).toArray⟩ = im := ⟨_, rfl⟩
            simp only [hjm] at CI' CR'
            have MB := Lib.hid (show ∀ (wa wb : World), Below wa.heap.size wa wb → w4.heap.size + 1 < wa.heap.size → (wa.cell? ⟨w4.heap.size, 0, none⟩ = some (.pointer (some ⟨g, 0, none⟩)) ∧ wa.cell? ⟨w4.heap.size, 1, none⟩ = some (.pointer (some ⟨h, 0, none⟩)) ∧ wa.cell? ⟨w4.heap.size + 1, 0, none⟩ = some (.pointer (some ⟨g', 0, none⟩)) ∧ wa.cell? ⟨w4.heap.size + 1, 1, none⟩ = some (.pointer (some ⟨h', 0, none⟩))) → (wb.cell? ⟨w4.heap.size, 0, none⟩ = some (.pointer (some ⟨g, 0, none⟩)) ∧ wb.cell? ⟨w4.heap.size, 1, none⟩ = some (.pointer (some ⟨h, 0, none⟩)) ∧ wb.cell? ⟨w4.heap.size + 1, 0, none⟩ = some (.pointer (some ⟨g', 0, none⟩)) ∧ wb.cell? ⟨w4.heap.size + 1, 1, none⟩ = some (.pointer (some ⟨h', 0, none⟩))) from fun wa wb e hl q => ⟨(e.cell (p := ⟨w4.heap.size, 0, none⟩) (Nat.lt_of_succ_lt hl)).trans q.1, (e.cell (p := ⟨w4.heap.size, 1, none⟩) (Nat.lt_of_succ_lt hl)).trans q.2.1, (e.cell (p := ⟨w4.heap.size + 1, 0, none⟩) hl).trans q.2.2.1, (e.cell (p := ⟨w4.heap.size + 1, 1, none⟩) hl).trans q.2.2.2⟩)
            have R5 := Lib.hid (show wr.drew.cell? ⟨w4.heap.size, 0, none⟩ = some (.pointer (some ⟨g, 0, none⟩)) ∧ wr.drew.cell? ⟨w4.heap.size, 1, none⟩ = some (.pointer (some ⟨h, 0, none⟩)) ∧ wr.drew.cell? ⟨w4.heap.size + 1, 0, none⟩ = some (.pointer (some ⟨g', 0, none⟩)) ∧ wr.drew.cell? ⟨w4.heap.size + 1, 1, none⟩ = some (.pointer (some ⟨h', 0, none⟩)) from ⟨a0, a1, a2, a3⟩)
            have HD5 := Lib.hid (show PairS wr.drew _ _ _ _ _ _ _ _ _ _ from p.keep (Below.refl _ wr).drew)
            have HE5 := Lib.hid (show PairS wr.drew _ _ _ _ _ _ _ _ _ _ from p'.keep (Below.refl _ wr).drew)
            clear him hjm p p' hm1 hm2 hd hl1 hl2'
            go_wp2_with fail
            go_region_held3 (fun w' => w'.cell? ⟨w4.heap.size, 0, none⟩ = some (.pointer (some ⟨g, 0, none⟩)) ∧ w'.cell? ⟨w4.heap.size, 1, none⟩ = some (.pointer (some ⟨h, 0, none⟩)) ∧ w'.cell? ⟨w4.heap.size + 1, 0, none⟩ = some (.pointer (some ⟨g', 0, none⟩)) ∧ w'.cell? ⟨w4.heap.size + 1, 1, none⟩ = some (.pointer (some ⟨h', 0, none⟩)))
              (first | exact R5.out | exact R6.out | exact R7.out | exact R8.out | exact R9.out | go_keep)
              (first
                | (go_at_call 22; go_split_ands; (with_reducible refine (CI.out _ HD5.out.ps).mono ?_); rintro e w6 ⟨rfl, hb6⟩
                   have HB6 := Lib.hid (HB.out.drew.trans (hb6.mono HB.out.size))
                   have R6 := Lib.hid (MB.out _ w6 hb6 HE5.out.lt R5.out)
                   have HD6 := Lib.hid (HD5.out.keep hb6)
                   have HE6 := Lib.hid (HE5.out.keep hb6)
                   clear hb6)
                | (go_at_call 34; go_split_ands; (with_reducible refine (CR.out _ HD6.out.rs).mono ?_); rintro e w7 ⟨rfl, hb7⟩
                   have HB7 := Lib.hid (HB6.out.trans (hb7.mono HB6.out.size))
                   have R7 := Lib.hid (MB.out _ w7 hb7 HE6.out.lt R6.out)
                   have HE7 := Lib.hid (HE6.out.keep hb7)
                   clear hb7)
                | (go_at_call 22; go_split_ands; (with_reducible refine (CI'.out _ HE7.out.ps).mono ?_); rintro e w8 ⟨rfl, hb8⟩
                   have HB8 := Lib.hid (HB7.out.trans (hb8.mono HB7.out.size))
                   have R8 := Lib.hid (MB.out _ w8 hb8 HE7.out.lt R7.out)
                   have HE8 := Lib.hid (HE7.out.keep hb8)
                   clear hb8)
                | (go_at_call 34; go_split_ands; (with_reducible refine (CR'.out _ HE8.out.rs).mono ?_); rintro e w9 ⟨rfl, hb9⟩
                   have HB9 := Lib.hid (HB8.out.trans (hb9.mono HB8.out.size))
                   have R9 := Lib.hid (MB.out _ w9 hb9 HE8.out.lt R8.out)
                   clear hb9))
            go_wp2
            go_ret
            exact ⟨rfl, HB9.out⟩
end Go.Proofs.Ytpddnbkmiogheaa
