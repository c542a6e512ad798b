import Derived.Test.YtpddnbkmiogheaaRs15
set_option linter.unusedVariables false
namespace Go.Proofs.Ytpddnbkmiogheaa
open Go.RowKit Go.WideMaps Go.Maps Go.MapKept
set_option maxRecDepth 100000 in
set_option maxHeartbeats 8000000 in
theorem storeExact_walk (c : Int) (l : List OpZ) (sv : Value) (W : World) (ho : OpsIn W.heap.size W sv l) (hl : l.length ≤ 1048576) :
    Calls Try.prog 9 #[.int .i64 c, sv] W fun e W' => e = .returned (.bool true) ∧ Below W.heap.size W W' := by
  cases hc : goesB c
  · go_enter Try.func9, Try.ntmps9
    go_wp2_with fail
    (with_reducible refine (snew_no c hc _).mono ?_); rintro e w2 ⟨rfl, rfl⟩
    go_wp2_with fail
    (with_reducible refine (rnew_no c hc _).mono ?_); rintro e w2 ⟨rfl, rfl⟩
    clear hc
    go_wp2
    go_ret
    exact ⟨rfl, Below.refl _ _⟩
  · have HO := Lib.hid ho
    obtain ⟨pa, pc, hsv⟩ := ho.form
    subst hsv
    have HF0 := Lib.hid (newF_fine hc)
    have HC := Lib.hid hc
    obtain ⟨n, hn⟩ : ∃ n, l.length = n := ⟨_, rfl⟩
    rw [hn] at hl HO
    have HN := Lib.hid hn
    rw [hn]
    clear ho hc hn
    go_enter Try.func9, Try.ntmps9
    go_wp2_with fail
    (with_reducible refine (snew_yes c HC.out _).mono ?_); rintro e w1 ⟨g0, bn0, bd0, rfl, hp1, hn1, hb1⟩
    have HP1 := Lib.hid hp1
    have HN1 := Lib.hid hn1
    have HB1 := Lib.hid hb1
    clear hp1 hn1 hb1
    go_wp2_with fail
    (with_reducible refine (rnew_yes c HC.out _).mono ?_); rintro e w2 ⟨rfl, hr2, hb2⟩
    have HPB := Lib.hid (pair_new (t := 63) HP1.out HN1.out hb2 hr2 (fun m hm => by { rcases mem_rfoot.1 hm with e | e | e | e; omega; cases e; cases e; cases e }) HB1.out.size)
    have HB2 := Lib.hid ((HB1.out.trans (hb2.mono HB1.out.size)).alloc (HB1.out.trans (hb2.mono HB1.out.size)).size (.cells #[.pointer (some ⟨g0, 0, none⟩), .pointer (some ⟨w1.heap.size, 0, none⟩)] 63))
    clear hr2 hb2
    go_wp2_with fail
    go_loopw [8, 9] (fun iv _ wr => ∃ (k : Nat), k ≤ n ∧ iv = .int .i64 k ∧ Hid (∃ x, PairB W.heap.size wr w2.heap.size x ∧ Fine (0 + k) x) ∧ Hid (Below W.heap.size W wr)) (fun iv _ _ => n - (intOf iv).toNat)
    case atStart => exact ⟨0, by omega, rfl, Lib.hid ⟨_, HPB.out, HF0.out⟩, HB2⟩
    case round =>
      obtain ⟨k, hk, rfl, HX, HB⟩ := hrel
      obtain ⟨x, hx1, hx2⟩ := HX.out
      have hzB := HB.out.size
      by_cases hlt : k < n
      · have hkl : k < l.length := by rw [HN.out]; exact hlt
        obtain ⟨gg, off, cc, hv, hg, r0, r1, r2, r3⟩ := (HO.out.below HB.out).cells k hkl
        injection hv with q1 q2 q3
        subst q1
        have hbk : (k : Int) < n := by omega
        have hok := HO.out.ok _ (List.getElem_mem hkl)
        obtain ⟨o, hoo⟩ : ∃ o, l[k] = o := ⟨_, rfl⟩
        rw [hoo] at r0 r1 r2 r3 hok
        have HFD := Lib.hid (step_fine hx2 hok)
        have CS := Lib.hid (step_pairB (by omega) o hok wr w2.heap.size x hzB hx1 hx2)
        obtain ⟨ok, okey, odata, on⟩ := o
        simp only at r0 r1 r2 r3
        simp only [opV] at CS
        clear q2 q3 hoo hg hx1 hx2 hok HX
        go_wp2_with (go_at_call 38; (with_reducible refine CS.out.mono ?_); rintro e w3 ⟨rfl, hp3, hb3⟩; have HP3 := Lib.hid hp3; have HB3 := Lib.hid (HB.out.trans hb3); clear hp3 hb3)
        exact ⟨⟨k + 1, by omega, by go_num, Lib.hid ⟨_, HP3.out, HFD.out⟩, HB3⟩, by simp [intOf]; omega⟩
      · obtain rfl : k = n := by omega
        obtain ⟨H, hat, hH⟩ := hx1
        obtain ⟨g, bn, bd, v, h, vd, vw, vv, p, hm⟩ := hat
        have HP := Lib.hid p
        have HHB := Lib.hid (fun m hm' => hH m (hm m hm'))
        have hkk : k ≤ 1048576 := by omega
        have p0 := p.p0
        have p1 := p.p1
        have HPL := Lib.hid p.ps.foot_lt
        have HRL := Lib.hid p.rs.foot_lt
        have hkey := keysLenB hx2 ⟨9, ⟨#[]⟩, ⟨#[]⟩, 0⟩
        have CD := Lib.hid (fun w (hh : PSF w g bn bd v x) => ldo_calls (0 + k) (by omega) ⟨9, ⟨#[]⟩, ⟨#[]⟩, 0⟩ ⟨by decide, by decide, by decide⟩ w g bn bd v x hh hx2)
        have CT := Lib.hid (fun w (hh : RSF w h vd vw vv x) => ltold_calls (0 + k) (by omega) ⟨9, ⟨#[]⟩, ⟨#[]⟩, 0⟩ ⟨by decide, by decide, by decide⟩ w h vd vw vv x hh hx2)
        have hd2 : (doZ x ⟨9, ⟨#[]⟩, ⟨#[]⟩, 0⟩).2 = x := rfl
        obtain ⟨gA, hgA⟩ : ∃ y, (doZ x ⟨9, ⟨#[]⟩, ⟨#[]⟩, 0⟩).1 = y := ⟨_, rfl⟩
        simp only [hgA, hd2] at CD CT
        rw [hgA] at hkey
        have HLN := Lib.hid (show gA.names.length ≤ 4194304 by omega)
        have HF := Lib.hid hx2
        simp only [opV] at CD CT
        have Q0 := Lib.hid (show wr.drew.cell? ⟨w2.heap.size, 0, none⟩ = some (.pointer (some ⟨g, 0, none⟩)) ∧ wr.drew.cell? ⟨w2.heap.size, 1, none⟩ = some (.pointer (some ⟨h, 0, none⟩)) from ⟨HP.out.p0, HP.out.p1⟩)
        have MV := Lib.hid (show ∀ (wa wb : World), wb.heap[w2.heap.size]? = wa.heap[w2.heap.size]? → (wa.cell? ⟨w2.heap.size, 0, none⟩ = some (.pointer (some ⟨g, 0, none⟩)) ∧ wa.cell? ⟨w2.heap.size, 1, none⟩ = some (.pointer (some ⟨h, 0, none⟩))) → (wb.cell? ⟨w2.heap.size, 0, none⟩ = some (.pointer (some ⟨g, 0, none⟩)) ∧ wb.cell? ⟨w2.heap.size, 1, none⟩ = some (.pointer (some ⟨h, 0, none⟩))) from fun wa wb e q => ⟨(World.cell?_of_block (a := ⟨w2.heap.size, 0, none⟩) e).trans q.1, (World.cell?_of_block (a := ⟨w2.heap.size, 1, none⟩) e).trans q.2⟩)
        have HBD := Lib.hid (show Below wr.heap.size wr wr.drew from (Below.refl _ wr).drew)
        clear hx2 hgA hkey p
        go_wp2_with fail
        go_region_held3 (fun w' => w'.cell? ⟨w2.heap.size, 0, none⟩ = some (.pointer (some ⟨g, 0, none⟩)) ∧ w'.cell? ⟨w2.heap.size, 1, none⟩ = some (.pointer (some ⟨h, 0, none⟩)))
          (first | exact Q0.out | exact Q3.out | exact Q4.out | exact Q5.out | go_keep)
          (first
            | (go_at_call 16; go_split_ands; (with_reducible refine (CD.out _ HP.out.ps.drew).mono ?_); rintro e w3 ⟨nvA, rfl, hrA, hk2⟩
               have HK2 := Lib.hid hk2
               have HRA := Lib.hid hrA
               have Q3 := Lib.hid (MV.out _ w3 (kept_same hk2 HP.out.lt HP.out.d2) Q0.out)
               have HR3 := Lib.hid (show RSF w3 h vd vw vv x by { obtain ⟨_, _, _, t, _⟩ := hk2; exact HP.out.rs.drew.touch t (fun m hm e => HP.out.d1 m e hm) })
               have HZ3 := Lib.hid (kept_size hk2)
               clear hrA hk2)
            | (go_at_call 33; go_split_ands; (with_reducible refine (CT.out _ HR3.out).mono ?_); rintro e w4 ⟨nvB, rfl, hrB, hk3⟩
               have HK3 := Lib.hid hk3
               have HRB := Lib.hid hrB
               have Q4 := Lib.hid (MV.out _ w4 (rkept_same hk3 (Nat.lt_of_lt_of_le HP.out.lt HZ3.out) HP.out.d3) Q3.out)
               have HZ4 := Lib.hid (Nat.le_trans HZ3.out (rkept_size hk3))
               have HRA4 := Lib.hid (show Row w4 0 1 nvA gA.names.length (strV gA.names) by {
                 obtain ⟨_, _, _, _, t, _⟩ := hk3
                 exact (HRA.out.touch t (fun m hm e => by { have h1 : wr.heap.size ≤ m := (HRA.out.lt m hm).1; have h2 := HRL.out _ e; omega })).mono (Nat.zero_le _) })
               clear hrB hk3)
            | (go_at_call 32; go_split_ands; (with_reducible refine (lsame_calls gA gA _ nvA nvB _ _ HRA4.out HRB.out HLN.out HLN.out).mono ?_); rintro e w5 ⟨rfl, hb4⟩
               have HB4 := Lib.hid hb4
               have Q5 := Lib.hid (MV.out _ w5 (hb4.block w2.heap.size (Nat.lt_of_lt_of_le HP.out.lt HZ4.out)) Q4.out)
               clear hb4))
        have hnx := (pair_do HP.out HBD.out HK2.out HK3.out HB4.out).toB HHB.out hzB
        obtain ⟨⟨H5, ⟨g5, bn5, bd5, v5, h5, vd5, vw5, vv5, p5, hm5⟩, hH5⟩, hb5⟩ := hnx
        have HP5 := Lib.hid p5
        have HB5 := Lib.hid (HB.out.trans hb5)
        have e0 := p5.p0
        have e1 := p5.p1
        have hlt5 := p5.lt
        have CI := Lib.hid (fun w (h : PSF w g5 bn5 bd5 v5 x) => simage_calls (0 + k) (by omega) w g5 bn5 bd5 v5 x h HF.out)
        have CR := Lib.hid (fun w (hh : RSF w h5 vd5 vw5 vv5 x) => rimage_calls (0 + k) (by omega) w h5 vd5 vw5 vv5 x hh HF.out)
        have CK := Lib.hid (fun w (h : PSF w g5 bn5 bd5 v5 x) => skeys_calls (0 + k) (by omega) ⟨#[]⟩ w g5 bn5 bd5 v5 x h HF.out)
        have CL := Lib.hid (fun w (hh : RSF w h5 vd5 vw5 vv5 x) => rkeys_calls (0 + k) (by omega) ⟨#[]⟩ (by decide) w h5 vd5 vw5 vv5 x hh HF.out)
        have hky := keysLenB HF.out ⟨7, ⟨#[]⟩, ⟨#[]⟩, 0⟩
        have HKY := Lib.hid (show (keysZ x ⟨#[]⟩).length ≤ 4194304 from Nat.le_trans hky (by omega))
        obtain ⟨im, him⟩ : ∃ im : ByteArray, ⟨(imageL x.dur).toArray⟩ = im := ⟨_, rfl⟩
        simp only [him] at CI CR
        obtain ⟨ks, hks⟩ : ∃ ks, keysZ x ⟨#[]⟩ = ks := ⟨_, rfl⟩
        simp only [hks] at CK CL
        rw [hks] at HKY
        have MB := Lib.hid (show ∀ (wa wb : World), Below wa.heap.size wa wb → w2.heap.size < wa.heap.size → (wa.cell? ⟨w2.heap.size, 0, none⟩ = some (.pointer (some ⟨g5, 0, none⟩)) ∧ wa.cell? ⟨w2.heap.size, 1, none⟩ = some (.pointer (some ⟨h5, 0, none⟩))) → (wb.cell? ⟨w2.heap.size, 0, none⟩ = some (.pointer (some ⟨g5, 0, none⟩)) ∧ wb.cell? ⟨w2.heap.size, 1, none⟩ = some (.pointer (some ⟨h5, 0, none⟩))) from fun wa wb e hl q => ⟨(e.cell (p := ⟨w2.heap.size, 0, none⟩) hl).trans q.1, (e.cell (p := ⟨w2.heap.size, 1, none⟩) hl).trans q.2⟩)
        have R5 := Lib.hid (show w5.drew.cell? ⟨w2.heap.size, 0, none⟩ = some (.pointer (some ⟨g5, 0, none⟩)) ∧ w5.drew.cell? ⟨w2.heap.size, 1, none⟩ = some (.pointer (some ⟨h5, 0, none⟩)) from ⟨e0, e1⟩)
        have HD5 := Lib.hid p5.ps.drew
        have HE5 := Lib.hid p5.rs.drew
        have HL5 := Lib.hid hlt5
        clear hky him hks p5 hm5 hH5 hb5
        go_wp2_with fail
        go_region_held3 (fun w' => w'.cell? ⟨w2.heap.size, 0, none⟩ = some (.pointer (some ⟨g5, 0, none⟩)) ∧ w'.cell? ⟨w2.heap.size, 1, none⟩ = some (.pointer (some ⟨h5, 0, none⟩)))
          (first | exact R5.out | exact R6.out | exact R7.out | exact R8.out | exact R9.out | go_keep)
          (first
            | (go_at_call 22; go_split_ands; (with_reducible refine (CI.out _ HD5.out).mono ?_); rintro e w6 ⟨rfl, hb6⟩
               have HB6 := Lib.hid (HB5.out.drew.trans (hb6.mono HB5.out.size))
               have HL6 := Lib.hid (Nat.lt_of_lt_of_le HL5.out hb6.size)
               have R6 := Lib.hid (MB.out _ w6 hb6 HL5.out R5.out)
               have HD6 := Lib.hid (HD5.out.keep hb6)
               have HE6 := Lib.hid (HE5.out.keep hb6)
               clear hb6)
            | (go_at_call 34; go_split_ands; (with_reducible refine (CR.out _ HE6.out).mono ?_); rintro e w7 ⟨rfl, hb7⟩
               have HB7 := Lib.hid (HB6.out.trans (hb7.mono HB6.out.size))
               have HL7 := Lib.hid (Nat.lt_of_lt_of_le HL6.out hb7.size)
               have R7 := Lib.hid (MB.out _ w7 hb7 HL6.out R6.out)
               have HD7 := Lib.hid (HD6.out.keep hb7)
               have HE7 := Lib.hid (HE6.out.keep hb7)
               clear hb7)
            | (go_at_call 23; go_split_ands; (with_reducible refine (CK.out _ HD7.out).mono ?_); rintro e w8 ⟨ka, rfl, hka, hb8⟩
               have HKA := Lib.hid hka
               have HB8 := Lib.hid (HB7.out.trans (hb8.mono HB7.out.size))
               have HL8 := Lib.hid (Nat.lt_of_lt_of_le HL7.out hb8.size)
               have R8 := Lib.hid (MB.out _ w8 hb8 HL7.out R7.out)
               have HE8 := Lib.hid (HE7.out.keep hb8)
               clear hb8 hka)
            | (go_at_call 37; go_split_ands; (with_reducible refine (CL.out _ HE8.out).mono ?_); rintro e w9 ⟨kb, rfl, hkb, hb9⟩
               have HKB := Lib.hid hkb
               have HKA9 := Lib.hid (HKA.out.keep hb9)
               have HB9 := Lib.hid (HB8.out.trans (hb9.mono HB8.out.size))
               have R9 := Lib.hid (MB.out _ w9 hb9 HL8.out R8.out)
               clear hb9 hkb)
            | (go_at_call 26; go_split_ands; (with_reducible refine (lnames_calls ks ks ka kb _ _ _ HKA9.out HKB.out HKY.out HKY.out).mono ?_); rintro e w10 ⟨rfl, nd, rfl⟩))
        go_wp2
        go_ret
        exact ⟨rfl, below_drewN HB9.out _⟩
end Go.Proofs.Ytpddnbkmiogheaa
