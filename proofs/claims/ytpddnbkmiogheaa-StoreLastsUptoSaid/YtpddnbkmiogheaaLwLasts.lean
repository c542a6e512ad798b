import Derived.Test.YtpddnbkmiogheaaLd6
import Derived.Test.YtpddnbkmiogheaaSp5
set_option linter.unusedVariables false
namespace Go.Proofs.Ytpddnbkmiogheaa
open Go.RowKit Go.WideMaps Go.Maps Go.MapKept
theorem goes_not {c : Int} (h : goesB c = false) : c < 0 ∨ 1073741824 < c := by
  unfold goesB at h
  simp only [decide_eq_false_iff_not] at h
  omega
set_option maxRecDepth 100000 in
set_option maxHeartbeats 4000000 in
theorem storeLasts_walk (c : Int) (l : List OpZ) (key data : ByteArray) (l2 : List OpZ) (sv sv2 : Value) (W : World) (ho : OpsIn W.heap.size W sv l) (ho2 : OpsIn W.heap.size W sv2 l2) (hl : l.length ≤ 1048576) (hl2 : l.length + l2.length ≤ 1048576) (h1 : key.size ≤ 1048576) (h2 : data.size ≤ 1048576) :
    Calls Try.prog 6 #[.int .i64 c, sv, .string key, .string data, sv2] W fun e W' => e = .returned (.bool true) ∧ Below W.heap.size W W' := by
  cases hc : goesB c
  · have hcc := goes_not hc
    go_enter Try.func6, Try.ntmps6
    go_wp2_with fail
    (with_reducible refine (lbegun_calls _).mono ?_); rintro e w1 ⟨rfl, hb1⟩
    have HB1 := Lib.hid hb1
    clear hb1
    go_wp2_with fail
    (with_reducible refine (snew_no c hc _).mono ?_); rintro e w2 ⟨rfl, rfl⟩
    by_cases hneg : c < 0
    · clear hcc
      go_wp2
      go_ret
      exact ⟨rfl, HB1.out⟩
    · have hbig : 1073741824 < c := by omega
      clear hcc
      go_wp2
      go_ret
      exact ⟨rfl, HB1.out⟩
  · have HO := Lib.hid ho
    have HO2 := Lib.hid ho2
    obtain ⟨pa, pc, hsv2⟩ := ho2.form
    subst hsv2
    have hf0 := newF_fine hc
    have hf1 := play_fine l hf0 ho.ok
    have hf2 := crash_fine hf1 ⟨#[]⟩
    have hf3 := put_fine hf2 key data
    have hf4 := sync_fine hf3
    have HF0 := Lib.hid hf0
    have HF1 := Lib.hid hf1
    have HF2 := Lib.hid hf2
    have HF3 := Lib.hid hf3
    have HF4 := Lib.hid hf4
    have hps := put_sync (key := key) (data := data) hf2 rfl rfl rfl
    have HC := Lib.hid hc
    obtain ⟨x1, hx1⟩ : ∃ x, playZ (newF c) l = x := ⟨_, rfl⟩
    have HX1 := Lib.hid hx1
    rw [hx1] at HF1 HF2 HF3 HF4 hps
    obtain ⟨x2, hx2⟩ : ∃ x, crashZ x1 ⟨#[]⟩ = x := ⟨_, rfl⟩
    have HX2 := Lib.hid hx2
    rw [hx2] at HF2 HF3 HF4 hps
    obtain ⟨⟨e3, x3⟩, hx3⟩ : ∃ y, putZ x2 key data = y := ⟨_, rfl⟩
    have HX3 := Lib.hid hx3
    rw [hx3] at HF3 HF4 hps
    simp only at HF3 HF4 hps
    obtain ⟨⟨e4, x4⟩, hx4⟩ : ∃ y, syncZ x3 = y := ⟨_, rfl⟩
    have HX4 := Lib.hid hx4
    rw [hx4] at HF4 hps
    simp only at HF4 hps
    clear ho ho2 hc hf0 hf1 hf2 hf3 hf4 hx1 hx2 hx3 hx4
    go_enter Try.func6, Try.ntmps6
    go_wp2_with fail
    (with_reducible refine (lbegun_calls _).mono ?_); rintro e w1 ⟨rfl, hb1⟩
    have HB1 := Lib.hid hb1
    clear hb1
    go_wp2_with fail
    (with_reducible refine (new_lives c HC.out _).mono ?_); rintro e w2 ⟨g, rfl, hl2', hb2⟩
    have HL2 := Lib.hid (hl2'.down HB1.out.size)
    have HB2 := Lib.hid (HB1.out.trans (hb2.mono HB1.out.size))
    clear hl2' hb2
    go_wp2_with fail
    (with_reducible refine (lplay_calls W.heap.size 0 l (by omega) sv w2 g (newF c) HB2.out.size (HO.out.below HB2.out) HL2.out HF0.out).mono ?_); rintro e w3 ⟨rfl, hl3, hb3⟩
    have HL3 := Lib.hid (show Lives W.heap.size w3 g x1 from HX1.out ▸ hl3)
    have HB3 := Lib.hid (HB2.out.trans hb3)
    clear hl3 hb3
    go_wp2_with fail
    (with_reducible refine (crash_lives (by omega) ⟨#[]⟩ (by decide) w3 g x1 HB3.out.size HL3.out HF1.out).mono ?_); rintro e w4 ⟨rfl, hl4, hb4⟩
    have HL4 := Lib.hid (show Lives W.heap.size w4 g x2 from HX2.out ▸ hl4)
    have HB4 := Lib.hid (HB3.out.trans hb4)
    clear hl4 hb4
    go_wp2_with fail
    (with_reducible refine (put_lives (by omega) key data (by omega) (by omega) w4 g x2 HB4.out.size HL4.out HF2.out).mono ?_); rintro e w5 ⟨he5, hl5, hb5⟩
    rw [HX3.out] at he5 hl5
    simp only at he5 hl5
    subst he5
    have HL5 := Lib.hid hl5
    have HB5 := Lib.hid (HB4.out.trans hb5)
    clear hl5 hb5
    by_cases he3 : e3 = 0
    · obtain ⟨rfl, hhas⟩ := hps he3
      subst he3
      have HH := Lib.hid hhas
      clear hhas
      go_wp2_with fail
      (with_reducible refine (sync_lives (by omega) w5 g x3 HB5.out.size HL5.out HF3.out).mono ?_); rintro e w6 ⟨he6, hl6, hb6⟩
      rw [HX4.out] at he6 hl6
      simp only at he6 hl6
      subst he6
      have HL6 := Lib.hid hl6
      have HB6 := Lib.hid (HB5.out.trans hb6)
      clear hl6 hb6
      obtain ⟨n, hn⟩ : ∃ n, l2.length = n := ⟨_, rfl⟩
      have HN := Lib.hid hn
      rw [hn] at hl2
      rw [hn] at HO2
      have HO3 := Lib.hid (show OpsIn W.heap.size W (.slice pa n pc) l2 from HO2.out)
      rw [hn]
      clear HO2 hn
      go_wp2_with fail
      go_loopw [13] (fun iv wr => ∃ (k : Nat), k ≤ n ∧ iv = .int .i64 k ∧ Hid (∃ x, Lives W.heap.size wr g x ∧ Fine (0 + l.length + 1 + 1 + 1 + k) x ∧ Has key data x) ∧ Hid (Below W.heap.size W wr)) (fun iv _ => n - (intOf iv).toNat)
      case atStart => exact ⟨0, by omega, rfl, Lib.hid ⟨x4, HL6.out, HF4.out, HH.out⟩, HB6⟩
      case round =>
        obtain ⟨k, hk, rfl, HX, HB⟩ := hrel
        obtain ⟨x, hx1, hx2, hx3⟩ := HX.out
        have hzB := HB.out.size
        by_cases hlt : k < n
        · have hkl : k < l2.length := by rw [HN.out]; exact hlt
          obtain ⟨gg, off, cc, hv, hg, r0, r1, r2, r3⟩ := (HO3.out.below HB.out).cells k hkl
          injection hv with q1 q2 q3
          subst q1
          have hbk : (k : Int) < n := by omega
          have hok := HO3.out.ok _ (List.getElem_mem hkl)
          obtain ⟨o, hoo⟩ : ∃ o, l2[k] = o := ⟨_, rfl⟩
          rw [hoo] at r0 r1 r2 r3 hok
          have HL := Lib.hid hx1
          have HF := Lib.hid hx2
          have HH := Lib.hid hx3
          clear q2 q3 hoo hg hx1 hx2 hx3
          by_cases hskip : (o.kind = 1 ∨ o.kind = 2) ∧ o.key = key
          · obtain ⟨hs1, hs2⟩ := hskip
            have CW := Lib.hid (fun w => (show Calls Try.prog 17 #[.int .i64 o.kind] w fun e w' => e = .returned (.bool true) ∧ w = w' by
              have h := lwrites_calls o.kind w
              rw [decide_eq_true hs1] at h; exact h))
            obtain ⟨ok, okey, odata, on⟩ := o
            simp only at r0 r1 r2 r3 hs2 CW
            subst hs2
            clear hs1 hok
            go_wp2_with (go_at_call 17; (with_reducible refine (CW.out _).mono ?_); rintro e w2 ⟨rfl, rfl⟩)
            exact ⟨⟨k + 1, by omega, by go_num, Lib.hid ⟨x, HL.out.keep ((Below.refl _ _).alloc (Nat.le_refl _) _), HF.out.mono (by omega), HH.out⟩, Lib.hid (HB.out.alloc hzB _)⟩, by simp [intOf]; omega⟩
          · have HHD := Lib.hid (HH.out.do HF.out o hskip)
            have HFD := Lib.hid (do_fine HF.out hok)
            have CD := Lib.hid (fun (w : World) (hz : W.heap.size ≤ w.heap.size) (h : Lives W.heap.size w g x) => do_lives (B := W.heap.size) (K := 0 + l.length + 1 + 1 + 1 + k) (by omega) o hok w g x hz h HF.out)
            obtain ⟨x', hx'⟩ : ∃ x', (doZ x o).2 = x' := ⟨_, rfl⟩
            rw [hx'] at HHD HFD
            simp only [hx'] at CD
            have hget := HHD.out.get HFD.out
            have hkz : key.size ≤ 4194304 := by omega
            have CG := Lib.hid (fun w (h : Lives W.heap.size w g x') => get_lives key hkz w g x' h)
            have CN := Lib.hid (fun w (h : Lives W.heap.size w g x') => down_lives w g x' h)
            have CW := Lib.hid (fun w => lwrites_calls o.kind w)
            have hcase : (decide (o.kind = 1 ∨ o.kind = 2) = true ∧ (o.key.toList == key.toList) = false) ∨ decide (o.kind = 1 ∨ o.kind = 2) = false := by
              by_cases hw : o.kind = 1 ∨ o.kind = 2
              · exact .inl ⟨decide_eq_true hw, textNe (fun e => hskip ⟨hw, e⟩)⟩
              · exact .inr (decide_eq_false hw)
            have hfin : ∀ w3, Lives W.heap.size w3 g x' → Below W.heap.size W w3 → ∃ (k_1 : Nat), k_1 ≤ n ∧ (Value.int .i64 ((k : Int) + 1)) = .int .i64 k_1 ∧ Hid (∃ x, Lives W.heap.size w3 g x ∧ Fine (0 + l.length + 1 + 1 + 1 + k_1) x ∧ Has key data x) ∧ Hid (Below W.heap.size W w3) :=
              fun w3 h1 h2 => ⟨k + 1, by omega, by go_num, Lib.hid ⟨x', h1, HFD.out, HHD.out⟩, Lib.hid h2⟩
            have HFIN := Lib.hid hfin
            clear hfin
            obtain ⟨ok, okey, odata, on⟩ := o
            simp only [opV] at r0 r1 r2 r3 CD CW hcase
            obtain ⟨dw, hdw⟩ : ∃ b, decide (ok = 1 ∨ ok = 2) = b := ⟨_, rfl⟩
            simp only [hdw] at CW hcase
            clear hok hskip hx' hdw
            obtain ⟨off2, hoff⟩ : ∃ b, x'.off = b := ⟨_, rfl⟩
            rw [hoff] at hget
            simp only [hoff] at CN
            clear hoff
            cases off2
            · simp only [Bool.false_eq_true, if_false] at hget
              simp only [hget] at CG
              clear hget
              rcases hcase with ⟨rfl, hne⟩ | rfl
              · go_wp2_with (first
                  | (go_at_call 17; (with_reducible refine (CW.out _).mono ?_); rintro e w2 ⟨rfl, rfl⟩)
                  | (go_at_call 16; (with_reducible refine (CD.out _ (by simp; omega) (HL.out.keep ((Below.refl _ _).alloc (Nat.le_refl _) _))).mono ?_); rintro e w2 ⟨nv, rfl, _, hl3, hb3⟩; have HL3 := Lib.hid hl3; have HB3 := Lib.hid ((HB.out.alloc hzB _).trans hb3); clear hl3 hb3)
                  | (go_at_call 29; (with_reducible refine (CG.out _ HL3.out).mono ?_); rintro e w4 ⟨rfl, rfl⟩)
                  | (go_at_call 15; (with_reducible refine (CN.out _ HL3.out).mono ?_); rintro e w4 ⟨rfl, rfl⟩))
                exact ⟨HFIN.out _ HL3.out HB3.out, by simp [intOf]; omega⟩
              · go_wp2_with (first
                  | (go_at_call 17; (with_reducible refine (CW.out _).mono ?_); rintro e w2 ⟨rfl, rfl⟩)
                  | (go_at_call 16; (with_reducible refine (CD.out _ (by simp; omega) (HL.out.keep ((Below.refl _ _).alloc (Nat.le_refl _) _))).mono ?_); rintro e w2 ⟨nv, rfl, _, hl3, hb3⟩; have HL3 := Lib.hid hl3; have HB3 := Lib.hid ((HB.out.alloc hzB _).trans hb3); clear hl3 hb3)
                  | (go_at_call 29; (with_reducible refine (CG.out _ HL3.out).mono ?_); rintro e w4 ⟨rfl, rfl⟩)
                  | (go_at_call 15; (with_reducible refine (CN.out _ HL3.out).mono ?_); rintro e w4 ⟨rfl, rfl⟩))
                exact ⟨HFIN.out _ HL3.out HB3.out, by simp [intOf]; omega⟩
            · simp only [if_true] at hget
              simp only [hget] at CG
              clear hget
              rcases hcase with ⟨rfl, hne⟩ | rfl
              · go_wp2_with (first
                  | (go_at_call 17; (with_reducible refine (CW.out _).mono ?_); rintro e w2 ⟨rfl, rfl⟩)
                  | (go_at_call 16; (with_reducible refine (CD.out _ (by simp; omega) (HL.out.keep ((Below.refl _ _).alloc (Nat.le_refl _) _))).mono ?_); rintro e w2 ⟨nv, rfl, _, hl3, hb3⟩; have HL3 := Lib.hid hl3; have HB3 := Lib.hid ((HB.out.alloc hzB _).trans hb3); clear hl3 hb3)
                  | (go_at_call 29; (with_reducible refine (CG.out _ HL3.out).mono ?_); rintro e w4 ⟨rfl, rfl⟩)
                  | (go_at_call 15; (with_reducible refine (CN.out _ HL3.out).mono ?_); rintro e w4 ⟨rfl, rfl⟩))
                exact ⟨HFIN.out _ HL3.out HB3.out, by simp [intOf]; omega⟩
              · go_wp2_with (first
                  | (go_at_call 17; (with_reducible refine (CW.out _).mono ?_); rintro e w2 ⟨rfl, rfl⟩)
                  | (go_at_call 16; (with_reducible refine (CD.out _ (by simp; omega) (HL.out.keep ((Below.refl _ _).alloc (Nat.le_refl _) _))).mono ?_); rintro e w2 ⟨nv, rfl, _, hl3, hb3⟩; have HL3 := Lib.hid hl3; have HB3 := Lib.hid ((HB.out.alloc hzB _).trans hb3); clear hl3 hb3)
                  | (go_at_call 29; (with_reducible refine (CG.out _ HL3.out).mono ?_); rintro e w4 ⟨rfl, rfl⟩)
                  | (go_at_call 15; (with_reducible refine (CN.out _ HL3.out).mono ?_); rintro e w4 ⟨rfl, rfl⟩))
                exact ⟨HFIN.out _ HL3.out HB3.out, by simp [intOf]; omega⟩
        · obtain rfl : k = n := by omega
          have HL := Lib.hid hx1
          have HF := Lib.hid hx2
          have HH := Lib.hid (hx3.crash hx2 ⟨#[]⟩)
          have HFC := Lib.hid (crash_fine hx2 ⟨#[]⟩)
          have hget := HH.out.get HFC.out
          rw [if_neg (by simp [crashZ])] at hget
          have CG := Lib.hid (fun w (h : Lives W.heap.size w g (crashZ x ⟨#[]⟩)) => get_lives key (by omega) w g (crashZ x ⟨#[]⟩) h)
          simp only [hget] at CG
          clear hget hx1 hx2 hx3 hlt hk
          go_wp2_with (first
            | (go_at_call 19; (with_reducible refine (crash_lives (by omega) ⟨#[]⟩ (by decide) _ g x hzB HL.out HF.out).mono ?_); rintro e w7 ⟨rfl, hl7, hb7⟩; have HL7 := Lib.hid hl7; have HB7 := Lib.hid (HB.out.trans hb7); clear hl7 hb7)
            | (go_at_call 29; (with_reducible refine (CG.out _ HL7.out).mono ?_); rintro e w8 ⟨rfl, rfl⟩))
          go_ret
          exact ⟨rfl, HB7.out⟩
    · have hq := intNe he3
      clear hps
      go_wp2
      go_ret
      exact ⟨rfl, HB5.out⟩
end Go.Proofs.Ytpddnbkmiogheaa
