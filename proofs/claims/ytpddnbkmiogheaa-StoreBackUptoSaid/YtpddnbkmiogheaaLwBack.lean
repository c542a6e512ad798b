import Derived.Test.YtpddnbkmiogheaaLd7
set_option linter.unusedVariables false
namespace Go.Proofs.Ytpddnbkmiogheaa
open Go.RowKit Go.WideMaps Go.Maps Go.MapKept
theorem goes_not {c : Int} (h : goesB c = false) : c < 0 ∨ 1073741824 < c := by
  unfold goesB at h
  simp only [decide_eq_false_iff_not] at h
  omega
theorem twin_0 {K : Nat} {c : Int} {x : Fld} (hf : Fine K x) (hr : x.room = c) : fieldsOf c x.dur = (crashZ x ⟨#[]⟩).aged 0 := by
  unfold fieldsOf crashZ Fld.aged
  simp only [crash_empty, hr]
theorem crash_dur (x : Fld) : (crashZ x ⟨#[]⟩).dur = x.dur := crash_empty _ _ _
theorem keysLen {K : Nat} {x : Fld} (h : Fine K x) (o : OpZ) : (doZ x o).1.names.length ≤ K := by
  unfold doZ
  by_cases h1 : o.kind = 1
  · rw [if_pos h1]; exact Nat.zero_le _
  rw [if_neg h1]
  by_cases h2 : o.kind = 2
  · rw [if_pos h2]; exact Nat.zero_le _
  rw [if_neg h2]
  by_cases h3 : o.kind = 3
  · rw [if_pos h3]; exact Nat.zero_le _
  rw [if_neg h3]
  by_cases h4 : o.kind = 4
  · rw [if_pos h4]; exact Nat.zero_le _
  rw [if_neg h4]
  by_cases h5 : o.kind = 5
  · rw [if_pos h5]; exact Nat.zero_le _
  rw [if_neg h5]
  by_cases h6 : o.kind = 6
  · rw [if_pos h6]; exact Nat.zero_le _
  rw [if_neg h6]
  by_cases h7 : o.kind = 7
  · rw [if_pos h7]
    show (keysZ x o.key).length ≤ K
    unfold keysZ
    split
    · exact Nat.zero_le _
    · exact Nat.le_trans (List.length_filter_le _ _) (by rw [List.length_map]; exact h.ln)
  rw [if_neg h7]
  by_cases h8 : o.kind = 8
  · rw [if_pos h8]; exact Nat.zero_le _
  rw [if_neg h8]
  by_cases h9 : o.kind = 9
  · rw [if_pos h9]; exact Nat.zero_le _
  rw [if_neg h9]
  exact Nat.zero_le _
theorem opBox {wr w2 : World} {ok on : Int} {okey odata : ByteArray} (hp : ∀ k, wr.heap.size ≤ k → k < (wr.alloc (.cells #[.int .i64 ok, .string okey, .string odata, .int .i64 on] 31)).heap.size → w2.heap[k]? = (wr.alloc (.cells #[.int .i64 ok, .string okey, .string odata, .int .i64 on] 31)).heap[k]?) :
    w2.cell? ⟨wr.heap.size, 0, none⟩ = some (.int .i64 ok) ∧ w2.cell? ⟨wr.heap.size, 1, none⟩ = some (.string okey) ∧ w2.cell? ⟨wr.heap.size, 2, none⟩ = some (.string odata) ∧ w2.cell? ⟨wr.heap.size, 3, none⟩ = some (.int .i64 on) ∧ wr.heap.size < w2.heap.size := by
  have hob : w2.heap[wr.heap.size]? = some (.cells #[.int .i64 ok, .string okey, .string odata, .int .i64 on] 31) := by
    rw [hp wr.heap.size (Nat.le_refl _) (by simp)]
    exact heap_alloc_new _ _
  have b0 : w2.cell? ⟨wr.heap.size, 0, none⟩ = some (.int .i64 ok) := by rw [cell_of_row _ _ _ _ _ _ hob]; rfl
  exact ⟨b0, by rw [cell_of_row _ _ _ _ _ _ hob]; rfl, by rw [cell_of_row _ _ _ _ _ _ hob]; rfl, by rw [cell_of_row _ _ _ _ _ _ hob]; rfl, World.block_lt_of_cell? w2 _ b0⟩
theorem gotBox {w2 w4 : World} {U C n : Nat} {c0 c1 c2 c3 c4 c5 c6 c7 v : Value} {xs : List Value} (hU : U ≤ w2.heap.size) (hC : U ≤ C) (hr : Row w2 C 1 v n xs) (hp : ∀ k, U ≤ k → k < (w2.alloc (.cells #[c0, c1, c2, c3, c4, c5, c6, c7] 34)).heap.size → w4.heap[k]? = (w2.alloc (.cells #[c0, c1, c2, c3, c4, c5, c6, c7] 34)).heap[k]?) :
    w4.cell? ⟨w2.heap.size, 0, none⟩ = some c0 ∧ w4.cell? ⟨w2.heap.size, 1, none⟩ = some c1 ∧ w4.cell? ⟨w2.heap.size, 2, none⟩ = some c2 ∧ w4.cell? ⟨w2.heap.size, 3, none⟩ = some c3 ∧ w4.cell? ⟨w2.heap.size, 4, none⟩ = some c4 ∧ w4.cell? ⟨w2.heap.size, 5, none⟩ = some c5 ∧ w4.cell? ⟨w2.heap.size, 6, none⟩ = some c6 ∧ w4.cell? ⟨w2.heap.size, 7, none⟩ = some c7 ∧
    (∀ j, w4.frozen? ⟨w2.heap.size, j, none⟩ = false) ∧ w2.heap.size < w4.heap.size ∧ Row w4 C 1 v n xs := by
  have hob : w4.heap[w2.heap.size]? = some (.cells #[c0, c1, c2, c3, c4, c5, c6, c7] 34) := by
    rw [hp w2.heap.size hU (by simp)]
    exact heap_alloc_new _ _
  have b0 : w4.cell? ⟨w2.heap.size, 0, none⟩ = some c0 := by rw [cell_of_row _ _ _ _ _ _ hob]; rfl
  have hz := World.block_lt_of_cell? w4 _ b0
  refine ⟨b0, by rw [cell_of_row _ _ _ _ _ _ hob]; rfl, by rw [cell_of_row _ _ _ _ _ _ hob]; rfl, by rw [cell_of_row _ _ _ _ _ _ hob]; rfl, by rw [cell_of_row _ _ _ _ _ _ hob]; rfl, by rw [cell_of_row _ _ _ _ _ _ hob]; rfl, by rw [cell_of_row _ _ _ _ _ _ hob]; rfl, by rw [cell_of_row _ _ _ _ _ _ hob]; rfl, fun j => by simp [World.frozen?, hob], hz, ?_⟩
  refine hr.of (Nat.le_of_lt hz) fun k hk => ?_
  have h1 := hr.lt k hk
  rw [hp k (by omega) (by simp; omega), heap_alloc_old _ _ _ h1.2]
set_option maxRecDepth 100000 in
set_option maxHeartbeats 8000000 in
theorem storeBack_walk (c : Int) (l l2 : List OpZ) (sv sv2 : Value) (W : World) (ho : OpsIn W.heap.size W sv l) (ho2 : OpsIn W.heap.size W sv2 l2) (hl : l.length ≤ 1048576) (hl2 : l.length + l2.length ≤ 1048576) :
    Calls Try.prog 11 #[.int .i64 c, sv, sv2] W fun e W' => e = .returned (.bool true) ∧ Below W.heap.size W W' := by
  cases hc : goesB c
  · have hcc := goes_not hc
    go_enter Try.func11, Try.ntmps11
    go_wp2_with fail
    (with_reducible refine (lbegun_calls _).mono ?_); rintro e w1 ⟨rfl, hb1⟩
    have HB1 := Lib.hid hb1
    clear hb1
    go_wp2_with fail
    (with_reducible refine (snew_no c hc _).mono ?_); rintro e w2 ⟨rfl, rfl⟩
    by_cases hneg : c < 0
    · clear hcc
      go_wp2
      go_ret
      exact ⟨rfl, HB1.out⟩
    · have hbig : 1073741824 < c := by omega
      clear hcc
      go_wp2
      go_ret
      exact ⟨rfl, HB1.out⟩
  · have HO := Lib.hid ho
    obtain ⟨pa, pc, hsv2⟩ := ho2.form
    subst hsv2
    have hf0 := newF_fine hc
    have hf1 := play_fine l hf0 ho.ok
    have hf2 := crash_fine hf1 ⟨#[]⟩
    have HF0 := Lib.hid hf0
    have HF1 := Lib.hid hf1
    have HF2 := Lib.hid hf2
    have htw := twin_0 hf1 ((room_play l (newF c)).trans rfl)
    have HC := Lib.hid hc
    have hop := open_image hf1.sd hf1.fd
    have hil := imageL_len hf1.fd
    have hdl := hf1.len
    obtain ⟨x1, hx1⟩ : ∃ x, playZ (newF c) l = x := ⟨_, rfl⟩
    have HX1 := Lib.hid hx1
    have htw2 : fieldsOf c x1.dur = (crashZ x1 ⟨#[]⟩).aged 0 := hx1 ▸ htw
    rw [hx1] at HF1 HF2 hop hil hdl
    have HD2 := Lib.hid (crash_dur x1)
    obtain ⟨x2, hx2⟩ : ∃ x, crashZ x1 ⟨#[]⟩ = x := ⟨_, rfl⟩
    have HX2 := Lib.hid hx2
    rw [hx2] at HF2 HD2 htw2
    have HTW := Lib.hid htw2
    have himl : (⟨(imageL x1.dur).toArray⟩ : ByteArray).size ≤ 4398046511104 := by
      show (imageL x1.dur).toArray.size ≤ _
      simp only [List.size_toArray]
      omega
    have HIL := Lib.hid himl
    have HOP := Lib.hid (show openL ⟨(imageL x1.dur).toArray⟩ = some x1.dur from hop)
    have hfy : Fine (0 + l.length + 1) (x2.aged 0) := by
      rw [← htw2]
      exact fieldsOf_fine hc (hx1 ▸ hf1.sd) (hx1 ▸ hf1.fd) (by omega)
    have HFY := Lib.hid hfy
    obtain ⟨im, him⟩ : ∃ im : ByteArray, ⟨(imageL x1.dur).toArray⟩ = im := ⟨_, rfl⟩
    have HIM := Lib.hid him
    rw [him] at HIL HOP
    obtain ⟨n, hn⟩ : ∃ n, l2.length = n := ⟨_, rfl⟩
    have HN := Lib.hid hn
    rw [hn] at hl2
    have HO2 := Lib.hid (show OpsIn W.heap.size W (.slice pa n pc) l2 by rw [hn] at ho2; exact ho2)
    rw [hn]
    clear ho ho2 hc hf0 hf1 hf2 hx1 hx2 htw htw2 hop hil hdl himl hfy him hn
    go_enter Try.func11, Try.ntmps11
    go_wp2_with fail
    (with_reducible refine (lbegun_calls _).mono ?_); rintro e w1 ⟨rfl, hb1⟩
    have HB1 := Lib.hid hb1
    clear hb1
    go_wp2_with fail
    (with_reducible refine (new_lives c HC.out _).mono ?_); rintro e w2 ⟨g, rfl, hl2', hb2⟩
    have HL2 := Lib.hid (hl2'.down HB1.out.size)
    have HB2 := Lib.hid (HB1.out.trans (hb2.mono HB1.out.size))
    clear hl2' hb2
    go_wp2_with fail
    (with_reducible refine (lplay_calls W.heap.size 0 l (by omega) sv w2 g (newF c) HB2.out.size (HO.out.below HB2.out) HL2.out HF0.out).mono ?_); rintro e w3 ⟨rfl, hl3, hb3⟩
    have HL3 := Lib.hid (show Lives W.heap.size w3 g x1 from HX1.out ▸ hl3)
    have HB3 := Lib.hid (HB2.out.trans hb3)
    clear hl3 hb3
    go_wp2_with fail
    (with_reducible refine (image_lives (by omega) w3 g x1 HL3.out HF1.out).mono ?_); rintro e w4 ⟨he4, hb4⟩
    rw [HIM.out] at he4
    subst he4
    have HL4 := Lib.hid (HL3.out.keep hb4)
    have HB4 := Lib.hid (HB3.out.trans (hb4.mono HB3.out.size))
    clear hb4
    go_wp2_with fail
    (with_reducible refine (open_two c HC.out im HIL.out x1.dur HOP.out HB4.out.size HL4.out).mono ?_); rintro e w5 ⟨h, rfl, ht5, hb5⟩
    have HT5 := Lib.hid ht5
    have HB5 := Lib.hid (HB4.out.trans hb5)
    clear ht5 hb5
    go_wp2_with fail
    (with_reducible refine (crash_g (by omega) ⟨#[]⟩ (by decide) HB5.out.size HT5.out HF1.out).mono ?_); rintro e w6 ⟨rfl, ht6, hb6⟩
    have HT6 := Lib.hid (show Two W.heap.size w6.heap.size w6 g h x2 (x2.aged 0) by rw [HX2.out, HTW.out] at ht6; exact ht6)
    have HB6 := Lib.hid (HB5.out.trans hb6)
    clear ht6 hb6
    have CI2 := Lib.hid (show Calls Try.prog 22 #[.pointer (some ⟨h, 0, none⟩)] w6 fun e w' => e = .returned (.string im) ∧ Below w6.heap.size w6 w' by
      have q := image_h (by omega) HT6.out HFY.out
      rw [show (x2.aged 0).dur = x1.dur from HD2.out, HIM.out] at q
      exact q)
    go_wp2_with fail
    (with_reducible refine CI2.out.mono ?_); rintro e w7 ⟨rfl, hb7⟩
    have HT7 := Lib.hid (HT6.out.keep hb7)
    have HB7 := Lib.hid (HB6.out.trans (hb7.mono HB6.out.size))
    clear hb7
    have CI3 := Lib.hid (show Calls Try.prog 22 #[.pointer (some ⟨g, 0, none⟩)] w7 fun e w' => e = .returned (.string im) ∧ Below w7.heap.size w7 w' by
      have q := image_g (by omega) HT7.out HF2.out
      rw [HD2.out, HIM.out] at q
      exact q)
    go_wp2_with fail
    (with_reducible refine CI3.out.mono ?_); rintro e w8 ⟨rfl, hb8⟩
    have HT8 := Lib.hid (HT7.out.keep hb8)
    have HB8 := Lib.hid (HB7.out.trans (hb8.mono HB7.out.size))
    clear hb8
    go_wp2_with fail
    go_loopw [12] (fun iv wr => ∃ (k : Nat), k ≤ n ∧ iv = .int .i64 k ∧ Hid (∃ x a, Two W.heap.size wr.heap.size wr g h x (x.aged a) ∧ Fine (0 + l.length + 1 + k) x ∧ Fine (0 + l.length + 1 + k) (x.aged a)) ∧ Hid (Below W.heap.size W wr)) (fun iv _ => n - (intOf iv).toNat)
    case atStart => exact ⟨0, by omega, rfl, Lib.hid ⟨x2, 0, HT8.out.top, HF2.out, HFY.out⟩, HB8⟩
    case round =>
      obtain ⟨k, hk, rfl, HX, HB⟩ := hrel
      obtain ⟨x, a, hx1, hx2, hx3⟩ := HX.out
      have hzB := HB.out.size
      by_cases hlt : k < n
      · have hkl : k < l2.length := by rw [HN.out]; exact hlt
        obtain ⟨gg, off, cc, hv, hg, r0, r1, r2, r3⟩ := (HO2.out.below HB.out).cells k hkl
        injection hv with q1 q2 q3
        subst q1
        have hbk : (k : Int) < n := by omega
        have hok := HO2.out.ok _ (List.getElem_mem hkl)
        obtain ⟨o, hoo⟩ : ∃ o, l2[k] = o := ⟨_, rfl⟩
        rw [hoo] at r0 r1 r2 r3 hok
        have HT := Lib.hid hx1
        have HFx := Lib.hid (do_fine hx2 hok)
        have HFy := Lib.hid (do_fine hx3 hok)
        have HLA := Lib.hid (keysLen hx2 o)
        have HLB := Lib.hid (keysLen hx3 o)
        have CG := Lib.hid (fun (w : World) (hb : Below wr.heap.size wr w) => do_g (B := W.heap.size) (U := wr.heap.size) (K := 0 + l.length + 1 + k) (w0 := wr) (w := w) (g := g) (h := h) (by omega) o hok hzB hx1 (Nat.le_refl _) hb hx2)
        have CH := Lib.hid (fun (w2 w : World) (hz : W.heap.size ≤ w2.heap.size) (ht : Two W.heap.size wr.heap.size w2 g h (doZ x o).2 (x.aged a)) (hz2 : wr.heap.size ≤ w2.heap.size) (hb : Below w2.heap.size w2 w) => do_h (B := W.heap.size) (U := wr.heap.size) (K := 0 + l.length + 1 + k) (w0 := w2) (w := w) (g := g) (h := h) (by omega) o hok hz ht hz2 hb hx3)
        obtain ⟨a', ha1, ha2⟩ := do_aged x a o
        obtain ⟨x', hx'⟩ : ∃ y, (doZ x o).2 = y := ⟨_, rfl⟩
        obtain ⟨gA, hgA⟩ : ∃ y, (doZ x o).1 = y := ⟨_, rfl⟩
        obtain ⟨gB, hgB⟩ : ∃ y, (doZ (x.aged a) o).1 = y := ⟨_, rfl⟩
        rw [hgA, hgB] at ha2
        rw [hgA] at HLA
        rw [hgB] at HLB
        rw [ha1] at HFy
        rw [hx'] at HFx HFy
        simp only [ha1, hx', hgA, hgB] at CG CH
        obtain ⟨tA, nA, eA, aA, bA, cA, dA, gA2⟩ := gA
        obtain ⟨tB, nB, eB, aB, bB, cB, dB, gB2⟩ := gB
        have HAB := Lib.hid ha2
        obtain ⟨ok, okey, odata, on⟩ := o
        simp only at r0 r1 r2 r3 HLA HLB
        simp only [opV, gotV, gotA] at CG CH
        clear q2 q3 hoo hg hx1 hx2 hx3 hok ha1 ha2 hgA hgB hx'
        go_wp2_with (first
          | (go_at_call 16; (with_reducible refine (CG.out _ ((Below.refl _ _).alloc (Nat.le_refl _) _)).mono ?_)
             rintro e w2 ⟨nvA, rfl, hrA, ht2, hb2, hp2⟩
             obtain ⟨na, nca, rfl⟩ := hrA.slice
             obtain ⟨b0, b1, b2, b3, hz2⟩ := opBox hp2
             have HRA := Lib.hid hrA
             have HT2 := Lib.hid ht2
             have HB2 := Lib.hid ((HB.out.alloc hzB (.cells #[.int .i64 ok, .string okey, .string odata, .int .i64 on] 31)).trans hb2)
             clear hrA ht2 hb2 hp2)
          | (fail))
        ((with_reducible refine (CH.out w2 _ HB2.out.size HT2.out (Nat.le_of_lt hz2) ((Below.refl _ _).alloc (Nat.le_refl _) _)).mono ?_))
        rintro e w4 ⟨nvB, rfl, hrB, hb4, hp4, hcl4⟩
        obtain ⟨nb, ncb, rfl⟩ := hrB.slice
        obtain ⟨a0, a1, a2, a3, a4, a5, a6, a7, fA, hz4, hrA4⟩ := gotBox (Nat.le_of_lt hz2) (by simp) HRA.out hp4
        have HRB := Lib.hid hrB
        have HRA4 := Lib.hid hrA4
        have HCL := Lib.hid hcl4
        have HB4 := Lib.hid ((HB2.out.alloc HB2.out.size (.cells #[.string tA, .slice na nA.length nca, .int .i64 eA, .int .i64 aA, .int .i64 bA, .int .i64 cA, .bool dA, .int .i64 gA2] 34)).trans hb4)
        clear hrB hb4 hp4 hcl4 hrA4
        go_wp2_with fail
        have hra5 := (HRA4.out.setCell (p := ⟨w2.heap.size, 7, none⟩) (fun e => by have h1 := (HRA.out.lt _ e).2; simp at h1) (.int .i64 0)).alloc (.cells #[.string tB, .slice nb nB.length ncb, .int .i64 eB, .int .i64 aB, .int .i64 bB, .int .i64 cB, .bool dB, .int .i64 0] 34)
        have hrb5 := (HRB.out.setCell (p := ⟨w2.heap.size, 7, none⟩) (fun e => absurd (HRB.out.lt _ e).1 (by simp)) (.int .i64 0)).alloc (.cells #[.string tB, .slice nb nB.length ncb, .int .i64 eB, .int .i64 aB, .int .i64 bB, .int .i64 cB, .bool dB, .int .i64 0] 34)
        have hsame : decide ((⟨tA, nA, eA, aA, bA, cA, dA, 0⟩ : GotZ) = ⟨tB, nB, eB, aB, bB, cB, dB, 0⟩) = true := decide_eq_true HAB.out.symm
        have CS := lsame_calls ⟨tA, nA, eA, aA, bA, cA, dA, 0⟩ ⟨tB, nB, eB, aB, bB, cB, dB, 0⟩ _ _ _ _ _ hra5 hrb5 (Nat.le_trans HLA.out (by omega)) (Nat.le_trans HLB.out (by omega))
        rw [hsame] at CS
        have ht5 : Touch [w2.heap.size] w4 ((w4.setCell ⟨w2.heap.size, 7, none⟩ (.int .i64 0)).alloc (.cells #[.string tB, .slice nb nB.length ncb, .int .i64 eB, .int .i64 aB, .int .i64 bB, .int .i64 cB, .bool dB, .int .i64 0] 34)) :=
          ((Touch.refl _ _).setCell (p := ⟨w2.heap.size, 7, none⟩) (.inl (by simp)) _).alloc _
        have HT5 := Lib.hid (HCL.out [w2.heap.size] _ (fun k hk => by simp at hk; subst hk; left; simp) ht5)
        have HB5 := Lib.hid (HB4.out.trans (ht5.toBelow (B := W.heap.size) HB4.out.size (fun x hx => by simp at hx; subst hx; exact HB2.out.size)))
        simp only [gotV, gotA] at CS
        have HCS := Lib.hid CS
        clear hra5 hrb5 hsame CS ht5
        (with_reducible refine HCS.out.mono ?_); rintro e w6 ⟨rfl, hb6⟩
        have HT6' := Lib.hid (HT5.out.keep hb6).top
        have HB6' := Lib.hid (HB5.out.trans (hb6.mono HB5.out.size))
        clear hb6
        go_wp2
        exact ⟨⟨k + 1, by omega, by go_num, Lib.hid ⟨x', a', HT6'.out, HFx.out, HFy.out⟩, HB6'⟩, by simp [intOf]; omega⟩
      · obtain rfl : k = n := by omega
        have HT := Lib.hid hx1
        have HFx := Lib.hid hx2
        have HFy := Lib.hid hx3
        obtain ⟨im2, him2⟩ : ∃ im : ByteArray, ⟨(imageL x.dur).toArray⟩ = im := ⟨_, rfl⟩
        have CG := Lib.hid (show Calls Try.prog 22 #[.pointer (some ⟨g, 0, none⟩)] wr fun e w' => e = .returned (.string im2) ∧ Below wr.heap.size wr w' from him2 ▸ image_g (K := 0 + l.length + 1 + k) (by omega) HT.out HFx.out)
        have CH := Lib.hid (fun w (hb : Below wr.heap.size wr w) => (show Calls Try.prog 22 #[.pointer (some ⟨h, 0, none⟩)] w fun e w' => e = .returned (.string im2) ∧ Below w.heap.size w w' by
          have q := image_h (K := 0 + l.length + 1 + k) (by omega) (HT.out.keep hb) HFy.out
          rw [show (x.aged a).dur = x.dur from rfl, him2] at q
          exact q))
        clear hx1 hx2 hx3 him2 hlt hk
        go_wp2_with fail
        (with_reducible refine CG.out.mono ?_); rintro e w9 ⟨rfl, hb9⟩
        have HB9 := Lib.hid hb9
        clear hb9
        go_wp2_with fail
        (with_reducible refine (CH.out _ HB9.out).mono ?_); rintro e w10 ⟨rfl, hb10⟩
        have HB10 := Lib.hid ((HB.out.trans (HB9.out.mono hzB)).trans (hb10.mono (Nat.le_trans hzB HB9.out.size)))
        clear hb10
        go_wp2
        go_ret
        exact ⟨rfl, HB10.out⟩
end Go.Proofs.Ytpddnbkmiogheaa
