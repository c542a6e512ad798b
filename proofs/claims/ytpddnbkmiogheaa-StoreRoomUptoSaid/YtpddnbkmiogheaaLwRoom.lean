import Derived.Test.YtpddnbkmiogheaaLd6
import Derived.Test.YtpddnbkmiogheaaSp6
set_option linter.unusedVariables false
namespace Go.Proofs.Ytpddnbkmiogheaa
open Go.RowKit Go.WideMaps Go.Maps Go.MapKept
theorem goes_not {c : Int} (h : goesB c = false) : c < 0 ∨ 1073741824 < c := by
  unfold goesB at h
  simp only [decide_eq_false_iff_not] at h
  omega
theorem lives_drew {B g : Nat} {w : World} {x : Fld} (h : Lives B w g x) (q : Nat) : Lives B (w.drewN q) g x := by
  obtain ⟨bn, bd, v, hp, hn⟩ := h
  exact ⟨bn, bd, v, hp.drewN q, hn⟩
set_option maxRecDepth 100000 in
set_option maxHeartbeats 8000000 in
theorem storeRoom_walk (c : Int) (l : List OpZ) (sv : Value) (W : World) (ho : OpsIn W.heap.size W sv l) (hl : l.length ≤ 1048576) :
    Calls Try.prog 7 #[.int .i64 c, sv] W fun e W' => e = .returned (.bool true) ∧ Below W.heap.size W W' := by
  cases hc : goesB c
  · have hcc := goes_not hc
    go_enter Try.func7, Try.ntmps7
    go_wp2_with fail
    (with_reducible refine (lbegun_calls _).mono ?_); rintro e w1 ⟨rfl, hb1⟩
    have HB1 := Lib.hid hb1
    clear hb1
    go_wp2_with fail
    (with_reducible refine (snew_no c hc _).mono ?_); rintro e w2 ⟨rfl, rfl⟩
    by_cases hneg : c < 0
    · clear hcc
      go_wp2
      go_ret
      exact ⟨rfl, HB1.out⟩
    · have hbig : 1073741824 < c := by omega
      clear hcc
      go_wp2
      go_ret
      exact ⟨rfl, HB1.out⟩
  · have HO := Lib.hid ho
    obtain ⟨pa, pc, hsv⟩ := ho.form
    subst hsv
    have HF0 := Lib.hid (newF_fine hc)
    have HC0 := Lib.hid (Calm.new hc)
    have HC := Lib.hid hc
    have hcr : 0 ≤ c ∧ c ≤ 1073741824 := of_decide_eq_true hc
    obtain ⟨n, hn⟩ : ∃ n, l.length = n := ⟨_, rfl⟩
    rw [hn] at hl HO
    have HN := Lib.hid hn
    rw [hn]
    clear ho hc hn
    go_enter Try.func7, Try.ntmps7
    go_wp2_with fail
    (with_reducible refine (lbegun_calls _).mono ?_); rintro e w1 ⟨rfl, hb1⟩
    have HB1 := Lib.hid hb1
    clear hb1
    go_wp2_with fail
    (with_reducible refine (new_lives c HC.out _).mono ?_); rintro e w2 ⟨g, rfl, hl2', hb2⟩
    have HL2 := Lib.hid (hl2'.down HB1.out.size)
    have HB2 := Lib.hid (HB1.out.trans (hb2.mono HB1.out.size))
    clear hl2' hb2
    go_wp2_with fail
    go_loopw [7] (fun iv wr => ∃ (k : Nat), k ≤ n ∧ iv = .int .i64 k ∧ Hid (∃ x, Lives W.heap.size wr g x ∧ Fine (0 + k) x ∧ Calm c x) ∧ Hid (Below W.heap.size W wr)) (fun iv _ => n - (intOf iv).toNat)
    case atStart => exact ⟨0, by omega, rfl, Lib.hid ⟨_, HL2.out, HF0.out, HC0.out⟩, HB2⟩
    case round =>
      obtain ⟨k, hk, rfl, HX, HB⟩ := hrel
      obtain ⟨x, hx1, hx2, hx3⟩ := HX.out
      have hzB := HB.out.size
      by_cases hlt : k < n
      · have hkl : k < l.length := by rw [HN.out]; exact hlt
        obtain ⟨gg, off, cc, hv, hg, r0, r1, r2, r3⟩ := (HO.out.below HB.out).cells k hkl
        injection hv with q1 q2 q3
        subst q1
        have hbk : (k : Int) < n := by omega
        have hok := HO.out.ok _ (List.getElem_mem hkl)
        obtain ⟨o, hoo⟩ : ∃ o, l[k] = o := ⟨_, rfl⟩
        rw [hoo] at r0 r1 r2 r3 hok
        have HL := Lib.hid hx1
        have HF := Lib.hid hx2
        have HCM := Lib.hid hx3
        clear q2 q3 hoo hg hx1 hx2 hx3
        by_cases h5 : o.kind = 5
        · obtain ⟨ok, okey, odata, on⟩ := o
          simp only at r0 r1 r2 r3 h5
          subst h5
          clear hok
          go_wp2
          exact ⟨⟨k + 1, by omega, by go_num, Lib.hid ⟨x, HL.out.keep ((Below.refl _ _).alloc (Nat.le_refl _) _), HF.out.mono (by omega), HCM.out⟩, Lib.hid (HB.out.alloc hzB _)⟩, by simp [intOf]; omega⟩
        · by_cases h4 : o.kind = 4
          · obtain ⟨ok, okey, odata, on⟩ := o
            simp only at r0 r1 r2 r3 h4
            subst h4
            have q5 : ((4 : Int) == 5) = false := rfl
            clear hok h5
            go_wp2
            exact ⟨⟨k + 1, by omega, by go_num, Lib.hid ⟨x, HL.out.keep ((Below.refl _ _).alloc (Nat.le_refl _) _), HF.out.mono (by omega), HCM.out⟩, Lib.hid (HB.out.alloc hzB _)⟩, by simp [intOf]; omega⟩
          · have hdo := HCM.out.do HF.out o h4 h5
            have HFD := Lib.hid (do_fine HF.out hok)
            have CU := Lib.hid (fun w (h : Lives W.heap.size w g x) => used_lives w g x h)
            have CD := Lib.hid (fun (w : World) (hz : W.heap.size ≤ w.heap.size) (h : Lives W.heap.size w g x) => do_lives (B := W.heap.size) (K := 0 + k) (by omega) o hok w g x hz h HF.out)
            obtain ⟨x', hx'⟩ : ∃ x', (doZ x o).2 = x' := ⟨_, rfl⟩
            rw [hx'] at HFD hdo
            simp only [hx'] at CD
            obtain ⟨got, hgot⟩ : ∃ y, (doZ x o).1 = y := ⟨_, rfl⟩
            rw [hgot] at hdo
            simp only [hgot] at CD
            obtain ⟨hcm, hdo2⟩ := hdo
            have HCM2 := Lib.hid hcm
            obtain ⟨gt, gn, ge, ga, gb, gc, gd, gg2⟩ := got
            simp only [gotV, gotA] at CD hdo2
            have hk2 := keys_all hcm.off
            have CK := Lib.hid (fun w (h : Lives W.heap.size w g x') => keys_lives (K := 0 + k + 1) (by omega) ⟨#[]⟩ w g x' h HFD.out)
            simp only [hk2] at CK
            have hus := HFD.out.used
            obtain ⟨ok, okey, odata, on⟩ := o
            simp only [opV] at r0 r1 r2 r3 CD h4 h5
            have q5 : (ok == 5) = false := intNe h5
            have q4 : (ok == 4) = false := intNe h4
            clear hok hx' hgot hk2 hcm h4 h5
            go_wp2_with (first
              | (go_at_call 24; (with_reducible refine (CU.out _ (HL.out.keep ((Below.refl _ _).alloc (Nat.le_refl _) _))).mono ?_); rintro e w2 ⟨rfl, rfl⟩)
              | (go_at_call 16; (with_reducible refine (CD.out _ (by simp; omega) (HL.out.keep ((Below.refl _ _).alloc (Nat.le_refl _) _))).mono ?_); rintro e w3 ⟨nv, rfl, hr3, hl3, hb3⟩; obtain ⟨na, nc, rfl⟩ := hr3.slice; have HL3 := Lib.hid hl3; have HB3 := Lib.hid ((HB.out.alloc hzB _).trans hb3); clear hr3 hl3 hb3)
              | (go_at_call 23; (with_reducible refine (CK.out _ (HL3.out.keep ((Below.refl _ _).alloc (Nat.le_refl _) _))).mono ?_)))
            rintro e w4 ⟨ks, rfl, hr4, hb4⟩
            obtain ⟨ka, kc, rfl⟩ := hr4.slice
            have HL4 := Lib.hid ((HL3.out.keep ((Below.refl _ _).alloc (Nat.le_refl _) _)).keep hb4)
            have hce : w4.cell? ⟨w3.heap.size, 2, none⟩ = some (.int .i64 ge) := (hb4.cell (p := ⟨w3.heap.size, 2, none⟩) (by simp)).trans (World.cell?_alloc_new w3 _ _ 2)
            have HB4 := Lib.hid ((HB3.out.alloc HB3.out.size _).trans (hb4.mono (by have := HB3.out.size; simp; omega)))
            have HR4 := Lib.hid hr4
            have hln := HFD.out.ln
            have hcm1 := HCM2.out.used
            have hcm2 := HCM2.out.room
            have HSO := Lib.hid HFD.out.sn
            have HFI := Lib.hid HFD.out.fn
            have CGT := Lib.hid (fun key hk w (h : Lives W.heap.size w g x') => get_lives key hk w g x' h)
            have CU2 := Lib.hid (fun w (h : Lives W.heap.size w g x') => used_lives w g x' h)
            have CR2 := Lib.hid (fun w (h : Lives W.heap.size w g x') => room_lives w g x' h)
            have HFIN := Lib.hid (fun w5 (h1 : Lives W.heap.size w5 g x') (h2 : Below W.heap.size W w5) => (show ∃ (k_1 : Nat), k_1 ≤ n ∧ (Value.int .i64 ((k : Int) + 1)) = .int .i64 k_1 ∧ Hid (∃ x, Lives W.heap.size w5 g x ∧ Fine (0 + k_1) x ∧ Calm c x) ∧ Hid (Below W.heap.size W w5) from
              ⟨k + 1, by omega, by go_num, Lib.hid ⟨x', h1, HFD.out, HCM2.out⟩, Lib.hid h2⟩))
            obtain ⟨L, hL⟩ : ∃ L, x'.now = L := ⟨_, rfl⟩
            have HGE := Lib.hid (show ∀ (i : Nat) (hi : i < L.length), getZ x' L[i].1 = (L[i].2, 0) by subst hL; exact fun i hi => get_at HFD.out HCM2.out.off i hi)
            simp only [hL] at HSO HFI HR4 hus hln
            obtain ⟨m, hm⟩ : ∃ m, L.length = m := ⟨_, rfl⟩
            have HM := Lib.hid hm
            rw [hm] at hln
            obtain ⟨U, hU⟩ : ∃ U, x'.used = U := ⟨_, rfl⟩
            rw [hU] at hus hcm1 hdo2
            simp only [hU] at CU2
            obtain ⟨R, hR⟩ : ∃ R, x'.room = R := ⟨_, rfl⟩
            rw [hR] at hcm2
            simp only [hR] at CR2
            subst hcm2
            have HUS := Lib.hid hus
            simp only [List.length_map, hL, hm]
            clear hr4 hb4 hL hm hU hR hus
            go_wp2_with fail
            go_loopw [11, 13, 14, 15] (fun nv kv _ _ wr2 => ∃ (i u : Nat), i ≤ m ∧ kv = .int .i64 i ∧ nv = .int .i64 u ∧ u ≤ i * 1048656 ∧ Hid (u = costL (L.take i)) ∧ Hid (∃ q, wr2 = w4.drewN q)) (fun _ kv _ _ _ => m - (intOf kv).toNat)
            case atStart => exact ⟨0, 0, by omega, rfl, rfl, by omega, Lib.hid rfl, Lib.hid ⟨0, rfl⟩⟩
            case round =>
              obtain ⟨i, u, hi, rfl, rfl, hu, HU, HQ⟩ := hrel
              obtain ⟨q, hq⟩ := HQ.out
              subst hq
              by_cases him : i < m
              · have hil : i < L.length := by rw [HM.out]; exact him
                obtain ⟨kg, kc2, hv4, hkg, s1⟩ := str_row HR4.out i (by rw [List.length_map]; exact hil)
                injection hv4 with q6 q7 q8
                subst q6
                rw [List.getElem_map] at s1
                have hfit := HFI.out _ (List.getElem_mem hil)
                have hst := cost_take hil
                have hgt := HGE.out i hil
                have CG1 := Lib.hid (fun w (h : Lives W.heap.size w g x') => CGT.out L[i].1 (by have := hfit.2.1; omega) w h)
                simp only [hgt] at CG1
                have hprev : ∀ j, i = j + 1 → ∃ pk : ByteArray, w4.cell? ⟨kg, j, none⟩ = some (.string pk) ∧ Op.bytesLess L[i].1.toList pk.toList = false ∧ (L[i].1.toList == pk.toList) = false := by
                  intro j hj
                  subst hj
                  obtain ⟨kg', kc', hv', _, s0⟩ := str_row HR4.out j (by rw [List.length_map]; omega)
                  injection hv' with q9 _ _
                  injection q9 with q9
                  injection q9 with q9 _ _
                  subst q9
                  rw [List.getElem_map] at s0
                  have hlt2 := sorted_next HSO.out hil
                  exact ⟨_, s0, by rw [less_kLt]; exact kLt_asymm hlt2, textNe (fun e => kLt_ne hlt2 e.symm)⟩
                obtain ⟨yk, hyk⟩ : ∃ y, L[i].1 = y := ⟨_, rfl⟩
                obtain ⟨yd, hyd⟩ : ∃ y, L[i].2 = y := ⟨_, rfl⟩
                have hf1 : yk.size ≤ 64 := hyk ▸ hfit.2.1
                have hf2 : yd.size ≤ 1048576 := hyd ▸ hfit.2.2
                have hc2 : costL (L.take (i + 1)) = costL (L.take i) + (yk.size + yd.size + 16) := by rw [hst, ← hyk, ← hyd]; rfl
                have HCC := Lib.hid hc2
                rw [hyk] at s1 hprev
                simp only [hyk, hyd] at CG1
                have hbi : (i : Int) < m := by omega
                have hub : u ≤ 2199120625664 := by omega
                have w1' : IntKind.i64.wrap ((u : Int) + yk.size) = (u : Int) + yk.size := IntWalk.i64_in _ (by omega)
                have w2' : IntKind.i64.wrap ((u : Int) + yk.size + yd.size) = (u : Int) + yk.size + yd.size := IntWalk.i64_in _ (by omega)
                have w3' : IntKind.i64.wrap ((u : Int) + yk.size + yd.size + 16) = (u : Int) + yk.size + yd.size + 16 := IntWalk.i64_in _ (by omega)
                clear q7 q8 hfit hst hgt hc2 hyk hyd hkg
                cases i with
                | zero =>
                  clear hprev
                  go_wp2_with (go_at_call 29; (with_reducible refine (CG1.out _ (lives_drew HL4.out q)).mono ?_); rintro e w5 ⟨rfl, rfl⟩)
                  go_quiet (fail)
                  go_wp2
                  exact ⟨⟨1, u + (yk.size + yd.size + 16), by omega, rfl, by go_num, by omega, Lib.hid (by rw [HCC.out, HU.out]), Lib.hid ⟨_, rfl⟩⟩, by simp [intOf]; omega⟩
                | succ j =>
                  obtain ⟨pk, s0, hl0, he0⟩ := hprev j rfl
                  clear hprev
                  go_wp2_with (go_at_call 29; (with_reducible refine (CG1.out _ (lives_drew HL4.out q)).mono ?_); rintro e w5 ⟨rfl, rfl⟩)
                  go_quiet (fail)
                  go_wp2
                  exact ⟨⟨j + 1 + 1, u + (yk.size + yd.size + 16), by omega, by go_num, by go_num, by omega, Lib.hid (by rw [HCC.out, HU.out]), Lib.hid ⟨_, rfl⟩⟩, by simp [intOf]; omega⟩
              · obtain rfl : i = m := by omega
                have hUu : U = (u : Int) := by
                  rw [HUS.out, HU.out, ← HM.out, List.take_length]
                subst hUu
                have HLE := Lib.hid (lives_drew HL4.out q)
                have HBE := Lib.hid (below_drewQ HB4.out q)
                clear him hi hu
                by_cases hge : ge = 0
                · subst hge
                  clear hdo2
                  go_wp2_with (first
                    | (go_at_call 24; (with_reducible refine (CU2.out _ HLE.out).mono ?_); rintro e w6 ⟨rfl, rfl⟩)
                    | (go_at_call 30; (with_reducible refine (CR2.out _ HLE.out).mono ?_); rintro e w6 ⟨rfl, rfl⟩))
                  exact ⟨HFIN.out _ HLE.out HBE.out, by simp [intOf]; omega⟩
                · have hxu := hdo2 hge
                  have hgb := intNe hge
                  clear hdo2 hge
                  obtain ⟨xu, hxx⟩ : ∃ y, x.used = y := ⟨_, rfl⟩
                  rw [hxx] at hxu ⊢
                  subst hxu
                  go_wp2_with (first
                    | (go_at_call 24; (with_reducible refine (CU2.out _ HLE.out).mono ?_); rintro e w6 ⟨rfl, rfl⟩)
                    | (go_at_call 30; (with_reducible refine (CR2.out _ HLE.out).mono ?_); rintro e w6 ⟨rfl, rfl⟩))
                  all_goals exact ⟨HFIN.out _ HLE.out HBE.out, by simp [intOf]; omega⟩
      · obtain rfl : k = n := by omega
        clear hlt hk hx1 hx2 hx3
        go_wp2
        go_ret
        exact ⟨rfl, HB.out⟩
end Go.Proofs.Ytpddnbkmiogheaa
