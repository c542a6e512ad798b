import Derived.Test.YtpddnbkmiogheaaRs15
set_option linter.unusedVariables false
namespace Go.Proofs.Ytpddnbkmiogheaa
open Go.RowKit Go.WideMaps Go.Maps Go.MapKept
theorem be4_num : ∀ (l : List UInt8), 4 ≤ l.length → be4L (num4 l) = l.take 4
  | a :: b :: c :: d :: r, _ => by
    have ha := a.toNat_lt
    have hb := b.toNat_lt
    have hc := c.toNat_lt
    have hd := d.toNat_lt
    have key : ∀ (n : Nat) (x : UInt8), n % 256 = x.toNat → UInt8.ofNat n = x := fun n x h => UInt8.toNat_inj.1 (by rw [UInt8.toNat_ofNat']; omega)
    simp only [num4, beN4, be4L, List.take_succ_cons, List.take_zero]
    rw [key _ a (by omega), key _ b (by omega), key _ c (by omega), key _ d (by omega)]
  | [], h => by simp at h
  | [_], h => by simp at h
  | [_, _], h => by simp at h
  | [_, _, _], h => by simp at h
theorem one_back {l k d r : List UInt8} (h : oneL l = some (k, d, r)) : recL (bytesB k, bytesB d) ++ r = l := by
  cases l with
  | nil => cases h
  | cons c s =>
    rw [oneL] at h
    split at h
    · cases h
    · rename_i h1
      split at h
      · cases h
      · rename_i h2
        injection h with h
        injection h with e1 h
        injection h with e2 e3
        have hsl : (s.drop c.toNat).length = s.length - c.toNat := List.length_drop
        have k1 : k.length = c.toNat := by rw [← e1, List.length_take]; omega
        have d1 : d.length = num4 (s.drop c.toNat) := by rw [← e2, List.length_take, List.length_drop]; omega
        have hc : UInt8.ofNat c.toNat = c := by simp
        have h4 := be4_num (s.drop c.toNat) (by omega)
        unfold recL
        simp only [list_bytesB, bytesB_size, k1, d1, hc, h4]
        rw [← e1, ← e2, ← e3]
        simp only [List.append_assoc, List.cons_append, List.nil_append]
        rw [List.take_append_drop, List.take_append_drop, List.take_append_drop]
theorem parse_back : ∀ (n : Nat) (l : List UInt8) (acc out : List Rec), parseN n l acc = some out → out.flatMap recL = acc.flatMap recL ++ l
  | 0, l, acc, out, h => by
    unfold parseN at h
    split at h
    · rename_i e; cases h; rw [e]; simp
    · cases h
  | n + 1, l, acc, out, h => by
    unfold parseN at h
    split at h
    · rename_i e; cases h; rw [e]; simp
    · split at h
      · cases h
      · rename_i k d r ho
        split at h
        · have ih := parse_back n r _ out h
          rw [ih, List.flatMap_append]
          have := one_back ho
          simp only [List.flatMap_cons, List.flatMap_nil, List.append_nil, List.append_assoc]
          rw [this]
        · cases h
theorem open_back {image : ByteArray} {l : List Rec} (h : openL image = some l) : (⟨(imageL l).toArray⟩ : ByteArray) = image ∧ Sorted l ∧ (∀ r ∈ l, Fit r) ∧ l.length ≤ image.size := by
  unfold openL at h
  split at h
  · cases h
  · rename_i c r e
    split at h
    · rename_i hc
      have hl : image.data.toList.length = image.size := by simp
      rw [e] at hl
      simp at hl
      obtain ⟨h1, h2, h3⟩ := parse_fine r.length r [] l List.Pairwise.nil (fun r hr => by cases hr) h
      have h4 := parse_back r.length r [] l h
      refine ⟨ByteArray.ext (Array.toList_inj.1 ?_), h1, h2, by simp at h3; omega⟩
      have hc2 : c = 83 := UInt8.toNat_inj.1 hc
      simp only [imageL, h4, List.flatMap_nil, List.nil_append]
      rw [e, hc2]
      simp
    · cases h
/-- What stands behind a tell of both. -/
theorem two_end {W w w2 w3 w4 : World} {g bn bd h : Nat} {v vd vw vv : Value} {x : Fld} (l1 : ∀ k ∈ foot g bn bd v, k < w.heap.size) (l2 : ∀ k ∈ rfoot h vd vw vv, k < w.heap.size) (d : ∀ m ∈ foot g bn bd v, m ∉ rfoot h vd vw vv)
    (k2 : Kept w g bn bd v x w2) (k3 : RKept w2 h vd vw vv x w3) (h4 : Below w3.heap.size w3 w4) (hb : Below W.heap.size W w) (n1 : ∀ m ∈ foot g bn bd v, W.heap.size ≤ m) (n2 : ∀ m ∈ rfoot h vd vw vv, W.heap.size ≤ m) :
    (∃ bn' v', PSF w4 g bn' bd v' x) ∧ (∃ vd' vw' vv', RSF w4 h vd' vw' vv' x) ∧ Below W.heap.size W w4 := by
  obtain ⟨bn', v', q2, t2, f2⟩ := k2
  obtain ⟨vd', vw', vv', q3, t3, f3⟩ := k3
  have ps3 := q2.touch t3 (fun m hm e => by
    rcases f2 m hm with e2 | e2
    · exact d m e2 e
    · have := l2 m e; have e3 : w.heap.size ≤ m := e2; omega)
  have b2 := hb.trans (t2.toBelow hb.size n1)
  have b3 := b2.trans (t3.toBelow b2.size n2)
  exact ⟨⟨bn', v', ps3.keep h4⟩, ⟨vd', vw', vv', q3.keep h4⟩, b3.trans (h4.mono b3.size)⟩
set_option maxRecDepth 100000 in
set_option maxHeartbeats 8000000 in
theorem storeNew_walk (c : Int) (image : ByteArray) (W : World) (hi : image.size ≤ 1048576) :
    Calls Try.prog 8 #[.int .i64 c, .string image] W fun e W' => e = .returned (.bool true) ∧ Below W.heap.size W W' := by
  cases hc : goesB c
  · go_enter Try.func8, Try.ntmps8
    go_wp2_with fail
    (with_reducible refine (snew_no c hc _).mono ?_); rintro e w2 ⟨rfl, rfl⟩
    go_wp2_with fail
    (with_reducible refine (rnew_no c hc _).mono ?_); rintro e w2 ⟨rfl, rfl⟩
    go_wp2_with fail
    (with_reducible refine (sopen_no image c hc _).mono ?_); rintro e w2 ⟨rfl, rfl⟩
    go_wp2_with fail
    (with_reducible refine (ropen_no image c hc _).mono ?_); rintro e w2 ⟨rfl, rfl⟩
    clear hc
    go_wp2
    go_ret
    exact ⟨rfl, Below.refl _ _⟩
  · have HF0 := Lib.hid (newF_fine hc)
    have HC := Lib.hid hc
    have hi2 : image.size ≤ 4398046511104 := by omega
    have CSO := Lib.hid (fun w => sopen_yes image hi2 c hc w)
    have CRO := Lib.hid (fun w => ropen_yes image hi2 c hc w)
    have HOB := Lib.hid (fun l (h : openL image = some l) => open_back h)
    obtain ⟨o, ho⟩ : ∃ o, openL image = o := ⟨_, rfl⟩
    simp only [ho] at CSO CRO HOB
    clear hc ho
    go_enter Try.func8, Try.ntmps8
    go_wp2_with fail
    (with_reducible refine (snew_yes c HC.out _).mono ?_); rintro e w1 ⟨g, bn, bd, rfl, hp1, hn1, hb1⟩
    have HP1 := Lib.hid hp1
    have HN1 := Lib.hid hn1
    have HB1 := Lib.hid hb1
    clear hp1 hn1 hb1
    go_wp2_with fail
    (with_reducible refine (rnew_yes c HC.out _).mono ?_); rintro e w2 ⟨rfl, hr2, hb2⟩
    have HB2 := Lib.hid (HB1.out.trans (hb2.mono HB1.out.size))
    obtain ⟨h, hh⟩ : ∃ h, w1.heap.size = h := ⟨_, rfl⟩
    rw [hh] at hr2
    rw [hh]
    have HD := Lib.hid (show ∀ m ∈ foot g bn bd (.slice none 0 0), m ∉ rfoot h (.slice none 0 0) (.slice none 0 0) (.slice none 0 0) from fun m hm e => by { have h1 := HP1.out.foot_lt m hm; rcases mem_rfoot.1 e with e | e | e | e; omega; cases e; cases e; cases e })
    have HRB := Lib.hid (show ∀ m ∈ rfoot h (.slice none 0 0) (.slice none 0 0) (.slice none 0 0), W.heap.size ≤ m from fun m e => by { have h1 := HB1.out.size; rcases mem_rfoot.1 e with e | e | e | e; omega; cases e; cases e; cases e })
    have HX2 := Lib.hid (HP1.out.keep hb2)
    have HY2 := Lib.hid hr2
    clear hr2 hb2 hh
    have HGO := Lib.hid (newF_fine HC.out)
    have CD := Lib.hid (fun w (hh : PSF w g bn bd (.slice none 0 0) (newF c)) => ldo_calls 0 (by omega) ⟨9, ⟨#[]⟩, ⟨#[]⟩, 0⟩ ⟨by decide, by decide, by decide⟩ w g bn bd (.slice none 0 0) (newF c) hh HGO.out)
    have CT := Lib.hid (fun w (hh : RSF w h (.slice none 0 0) (.slice none 0 0) (.slice none 0 0) (newF c)) => ltold_calls 0 (by omega) ⟨9, ⟨#[]⟩, ⟨#[]⟩, 0⟩ ⟨by decide, by decide, by decide⟩ w h (.slice none 0 0) (.slice none 0 0) (.slice none 0 0) (newF c) hh HGO.out)
    have hd2 : (doZ (newF c) ⟨9, ⟨#[]⟩, ⟨#[]⟩, 0⟩).2 = newF c := rfl
    have hkey := keysLenB HGO.out ⟨9, ⟨#[]⟩, ⟨#[]⟩, 0⟩
    obtain ⟨gA, hgA⟩ : ∃ gz, (doZ (newF c) ⟨9, ⟨#[]⟩, ⟨#[]⟩, 0⟩).1 = gz := ⟨_, rfl⟩
    simp only [hgA, hd2] at CD CT
    rw [hgA] at hkey
    have HLN := Lib.hid (show gA.names.length ≤ 4194304 by omega)
    simp only [opV] at CD CT
    clear hgA hkey hd2
    have hks0 : (keysZ (newF c) ⟨#[]⟩) = [] := rfl
    go_wp2_with
      (first
        | (go_at_call 16; (with_reducible refine (CD.out _ HX2.out).mono ?_); rintro e w3 ⟨nvA, rfl, hrA, hk2⟩
           have HK2 := Lib.hid hk2
           have HRA := Lib.hid hrA
           have HR3 := Lib.hid (show RSF w3 h (.slice none 0 0) (.slice none 0 0) (.slice none 0 0) (newF c) by { obtain ⟨_, _, _, t, _⟩ := hk2; exact HY2.out.touch t (fun m hm e => HD.out m e hm) })
           have HZ3 := Lib.hid (kept_size hk2)
           clear hrA hk2)
        | (go_at_call 33; (with_reducible refine (CT.out _ HR3.out).mono ?_); rintro e w4 ⟨nvB, rfl, hrB, hk3⟩
           have HK3 := Lib.hid hk3
           have HRB2 := Lib.hid hrB
           have HRA4 := Lib.hid (show Row w4 0 1 nvA gA.names.length (strV gA.names) by {
             obtain ⟨_, _, _, _, t, _⟩ := hk3
             exact (HRA.out.touch t (fun m hm e => by { have h1 : w2.heap.size ≤ m := (HRA.out.lt m hm).1; have h2 := HY2.out.foot_lt _ e; omega })).mono (Nat.zero_le _) })
           clear hrB hk3)
        | (go_at_call 32; (with_reducible refine (lsame_calls gA gA _ nvA nvB _ _ HRA4.out HRB2.out HLN.out HLN.out).mono ?_); rintro e w5 ⟨rfl, hb4⟩
           have hend := two_end HX2.out.foot_lt HY2.out.foot_lt HD.out HK2.out HK3.out hb4 HB2.out HN1.out HRB.out
           obtain ⟨⟨bn5, v5, q5⟩, ⟨vd5, vw5, vv5, r5⟩, hb5⟩ := hend
           have HX5 := Lib.hid q5
           have HY5 := Lib.hid r5
           have HB5 := Lib.hid hb5
           clear hb4 q5 r5 hb5)
        | (go_at_call 22; (with_reducible refine (simage_calls 0 (by omega) _ g _ _ _ (newF c) HX5.out HGO.out).mono ?_); rintro e w6 ⟨rfl, hb6⟩
           have HB6 := Lib.hid (HB5.out.trans (hb6.mono HB5.out.size))
           have HX6 := Lib.hid (HX5.out.keep hb6)
           have HY6 := Lib.hid (HY5.out.keep hb6)
           clear hb6)
        | (go_at_call 34; (with_reducible refine (rimage_calls 0 (by omega) _ h _ _ _ (newF c) HY6.out HGO.out).mono ?_); rintro e w7 ⟨rfl, hb7⟩
           have HB7 := Lib.hid (HB6.out.trans (hb7.mono HB6.out.size))
           have HX7 := Lib.hid (HX6.out.keep hb7)
           clear hb7)
        | (go_at_call 23; (with_reducible refine (skeys_calls 0 (by omega) ⟨#[]⟩ _ g _ _ _ (newF c) HX7.out HGO.out).mono ?_); rintro e w8 ⟨ka, rfl, hka, hb8⟩
           have HB8 := Lib.hid (HB7.out.trans (hb8.mono HB7.out.size))
           rw [hks0] at hka
           obtain ⟨kaa, kac, hkv⟩ := hka.slice
           simp only [List.length_nil] at hkv
           subst hkv
           clear hb8 hka))
    go_wp2_with fail
    (refine (CSO.out _).mono ?_); rintro e w9 ⟨hb9, hor⟩
    have HB9 := Lib.hid (HB8.out.trans (hb9.mono HB8.out.size))
    rcases hor with ⟨rfl, rfl⟩ | ⟨l, g2, bn2, bd2, rfl, rfl, hp9, hf9⟩
    · clear hb9
      go_wp2_with fail
      (refine (CRO.out _).mono ?_); rintro e w10 ⟨hb10, hor2⟩
      have HB10 := Lib.hid (HB9.out.trans (hb10.mono HB9.out.size))
      rcases hor2 with ⟨_, rfl⟩ | ⟨_, _, _, _, _, hx, _⟩
      · clear hb10
        go_wp2
        go_ret
        exact ⟨rfl, HB10.out⟩
      · cases hx
    · obtain ⟨o1, o2, o3, o4⟩ := HOB.out l rfl
      have HP9 := Lib.hid hp9
      have HFF := Lib.hid (fieldsOf_fine HC.out o2 o3 (show l.length ≤ 1048576 by omega))
      have HIM := Lib.hid o1
      have HN9 := Lib.hid (show ∀ m ∈ foot g2 bn2 bd2 (.slice none 0 0), W.heap.size ≤ m from fun m hm => Nat.le_trans HB8.out.size (hf9 m hm))
      clear hb9 hp9 hf9 o1 o2 o3 o4
      go_wp2_with fail
      (refine (CRO.out _).mono ?_); rintro e w10 ⟨hb10, hor2⟩
      rcases hor2 with ⟨hx, _⟩ | ⟨l', h2, vd2, vw2, vv2, hx, rfl, hr10, hf10⟩
      · cases hx
      · injection hx with hx
        subst hx
        have HB10 := Lib.hid (HB9.out.trans (hb10.mono HB9.out.size))
        obtain ⟨y, hy⟩ : ∃ y, fieldsOf c l = y := ⟨_, rfl⟩
        have HYD := Lib.hid (show (⟨(imageL y.dur).toArray⟩ : ByteArray) = image by rw [← hy]; exact HIM.out)
        rw [hy] at HP9 HFF hr10
        have HX2 := Lib.hid (HP9.out.keep hb10)
        have HY2 := Lib.hid hr10
        have HD := Lib.hid (show ∀ m ∈ foot g2 bn2 bd2 (.slice none 0 0), m ∉ rfoot h2 vd2 vw2 vv2 from fun m hm e => by { have h1 := HP9.out.foot_lt m hm; have h2 := hf10 m e; omega })
        have HRB := Lib.hid (show ∀ m ∈ rfoot h2 vd2 vw2 vv2, W.heap.size ≤ m from fun m e => Nat.le_trans HB9.out.size (hf10 m e))
        have HN1 := HN9
        have HB2 := HB10
        clear hb10 hr10 hf10 hy
        have CD := Lib.hid (fun w (hh : PSF w g2 bn2 bd2 (.slice none 0 0) (y)) => ldo_calls 1048576 (by omega) ⟨9, ⟨#[]⟩, ⟨#[]⟩, 0⟩ ⟨by decide, by decide, by decide⟩ w g2 bn2 bd2 (.slice none 0 0) (y) hh HFF.out)
        have CT := Lib.hid (fun w (hh : RSF w h2 vd2 vw2 vv2 (y)) => ltold_calls 1048576 (by omega) ⟨9, ⟨#[]⟩, ⟨#[]⟩, 0⟩ ⟨by decide, by decide, by decide⟩ w h2 vd2 vw2 vv2 (y) hh HFF.out)
        have hd2 : (doZ (y) ⟨9, ⟨#[]⟩, ⟨#[]⟩, 0⟩).2 = y := rfl
        have hkey := keysLenB HFF.out ⟨9, ⟨#[]⟩, ⟨#[]⟩, 0⟩
        obtain ⟨gA, hgA⟩ : ∃ gz, (doZ (y) ⟨9, ⟨#[]⟩, ⟨#[]⟩, 0⟩).1 = gz := ⟨_, rfl⟩
        simp only [hgA, hd2] at CD CT
        rw [hgA] at hkey
        have HLN := Lib.hid (show gA.names.length ≤ 4194304 by omega)
        simp only [opV] at CD CT
        clear hgA hkey hd2
        obtain ⟨ks, hks⟩ : ∃ ks, keysZ y ⟨#[]⟩ = ks := ⟨_, rfl⟩
        have hky := keysLenB HFF.out ⟨7, ⟨#[]⟩, ⟨#[]⟩, 0⟩
        have HKY := Lib.hid (show ks.length ≤ 4194304 by rw [← hks]; exact Nat.le_trans hky (by omega))
        have CK := Lib.hid (fun w bn bd v (h : PSF w g2 bn bd v y) => skeys_calls 1048576 (by omega) ⟨#[]⟩ w g2 bn bd v y h HFF.out)
        have CL := Lib.hid (fun w vd vw vv (hh : RSF w h2 vd vw vv y) => rkeys_calls 1048576 (by omega) ⟨#[]⟩ (by decide) w h2 vd vw vv y hh HFF.out)
        simp only [hks] at CK CL
        have CI := Lib.hid (fun w bn bd v (h : PSF w g2 bn bd v y) => simage_calls 1048576 (by omega) w g2 bn bd v y h HFF.out)
        simp only [HYD.out] at CI
        clear hky hks
        go_wp2_with
          (first
            | (go_at_call 16; (with_reducible refine (CD.out _ HX2.out).mono ?_); rintro e w13 ⟨nvA, rfl, hrA, hk2⟩
               have HK2 := Lib.hid hk2
               have HRA := Lib.hid hrA
               have HR3 := Lib.hid (show RSF w13 h2 vd2 vw2 vv2 (y) by { obtain ⟨_, _, _, t, _⟩ := hk2; exact HY2.out.touch t (fun m hm e => HD.out m e hm) })
               have HZ3 := Lib.hid (kept_size hk2)
               clear hrA hk2)
            | (go_at_call 33; (with_reducible refine (CT.out _ HR3.out).mono ?_); rintro e w14 ⟨nvB, rfl, hrB, hk3⟩
               have HK3 := Lib.hid hk3
               have HRB2 := Lib.hid hrB
               have HRA4 := Lib.hid (show Row w14 0 1 nvA gA.names.length (strV gA.names) by {
                 obtain ⟨_, _, _, _, t, _⟩ := hk3
                 exact (HRA.out.touch t (fun m hm e => by { have h1 : w10.heap.size ≤ m := (HRA.out.lt m hm).1; have h2 := HY2.out.foot_lt _ e; omega })).mono (Nat.zero_le _) })
               clear hrB hk3)
            | (go_at_call 32; (with_reducible refine (lsame_calls gA gA _ nvA nvB _ _ HRA4.out HRB2.out HLN.out HLN.out).mono ?_); rintro e w15 ⟨rfl, hb4⟩
               have hend := two_end HX2.out.foot_lt HY2.out.foot_lt HD.out HK2.out HK3.out hb4 HB2.out HN1.out HRB.out
               obtain ⟨⟨bn5, v5, q5⟩, ⟨vd5, vw5, vv5, r5⟩, hb5⟩ := hend
               have HX5 := Lib.hid q5
               have HY5 := Lib.hid r5
               have HB5 := Lib.hid hb5
               clear hb4 q5 r5 hb5)
            | (go_at_call 22; (with_reducible refine (CI.out _ _ _ _ HX5.out).mono ?_); rintro e w16 ⟨rfl, hb6⟩
               have HB6 := Lib.hid (HB5.out.trans (hb6.mono HB5.out.size))
               have HX6 := Lib.hid (HX5.out.keep hb6)
               have HY6 := Lib.hid (HY5.out.keep hb6)
               clear hb6)
            | (go_at_call 23; (with_reducible refine (CK.out _ _ _ _ HX6.out).mono ?_); rintro e w17 ⟨ka, rfl, hka, hb8⟩
               have HKA := Lib.hid hka
               have HY7 := Lib.hid (HY6.out.keep hb8)
               have HB8 := Lib.hid (HB6.out.trans (hb8.mono HB6.out.size))
               clear hb8 hka)
            | (go_at_call 37; (with_reducible refine (CL.out _ _ _ _ HY7.out).mono ?_); rintro e w18 ⟨kb, rfl, hkb, hb9⟩
               have HKB := Lib.hid hkb
               have HKA9 := Lib.hid (HKA.out.keep hb9)
               have HB9 := Lib.hid (HB8.out.trans (hb9.mono HB8.out.size))
               clear hb9 hkb)
            | (go_at_call 26; (with_reducible refine (lnames_calls ks ks ka kb _ _ _ HKA9.out HKB.out HKY.out HKY.out).mono ?_); rintro e w19 ⟨rfl, nd, rfl⟩))
        go_wp2
        go_ret
        exact ⟨rfl, below_drewN HB9.out _⟩
end Go.Proofs.Ytpddnbkmiogheaa
