import Derived.Test.YtpddnbkmiogheaaLd6
set_option linter.unusedVariables false
namespace Go.Proofs.Ytpddnbkmiogheaa
open Go.RowKit Go.WideMaps Go.Maps Go.MapKept
theorem goes_not {c : Int} (h : goesB c = false) : c < 0 ∨ 1073741824 < c := by
  unfold goesB at h
  simp only [decide_eq_false_iff_not] at h
  omega
theorem crash_nil (x : Fld) (h : x.pend = []) (keep : ByteArray) : (crashZ x keep).dur = x.dur := by
  unfold crashZ
  simp only [h, crashL]
theorem crash_quiet (x : Fld) (one two : ByteArray) : (crashZ (crashZ x one) two).dur = (crashZ x one).dur ∧ (crashZ (crashZ x one) two).used = (crashZ x one).used ∧ keysZ (crashZ (crashZ x one) two) ⟨#[]⟩ = keysZ (crashZ x one) ⟨#[]⟩ ∧ (crashZ (crashZ x one) two).age = (crashZ x one).age + 1 ∧ (crashZ (crashZ x one) two).off = false ∧ (crashZ (crashZ x one) two).pend = [] :=
  ⟨rfl, rfl, rfl, rfl, rfl, rfl⟩
theorem keys_len {K : Nat} {x : Fld} (h : Fine K x) (p : ByteArray) : (keysZ x p).length ≤ K := by
  unfold keysZ
  split
  · exact Nat.zero_le _
  · exact Nat.le_trans (List.length_filter_le _ _) (by rw [List.length_map]; exact h.ln)
set_option maxRecDepth 100000 in
set_option maxHeartbeats 4000000 in
theorem storeTwice_walk (c : Int) (l : List OpZ) (one two : ByteArray) (sv : Value) (W : World) (ho : OpsIn W.heap.size W sv l) (hl : l.length ≤ 1048576) (h1 : one.size ≤ 1048576) (h2 : two.size ≤ 1048576) :
    Calls Try.prog 5 #[.int .i64 c, sv, .string one, .string two] W fun e W' => e = .returned (.bool true) ∧ Below W.heap.size W W' := by
  cases hc : goesB c
  · have hcc := goes_not hc
    go_enter Try.func5, Try.ntmps5
    go_wp2_with fail
    (with_reducible refine (lbegun_calls _).mono ?_); rintro e w1 ⟨rfl, hb1⟩
    have HB1 := Lib.hid hb1
    clear hb1
    go_wp2_with fail
    (with_reducible refine (snew_no c hc _).mono ?_); rintro e w2 ⟨rfl, rfl⟩
    by_cases hneg : c < 0
    · clear hcc
      go_wp2
      go_ret
      exact ⟨rfl, HB1.out⟩
    · have hbig : 1073741824 < c := by omega
      clear hcc
      go_wp2
      go_ret
      exact ⟨rfl, HB1.out⟩
  · have HO := Lib.hid ho
    have hf0 := newF_fine hc
    have hf1 := play_fine l hf0 ho.ok
    have hf2 := crash_fine hf1 one
    have hf3 := crash_fine hf2 two
    have HF0 := Lib.hid hf0
    have HF1 := Lib.hid hf1
    have HF2 := Lib.hid hf2
    have HF3 := Lib.hid hf3
    have hq := crash_quiet (playZ (newF c) l) one two
    have HKL := Lib.hid (keys_len hf2 ⟨#[]⟩)
    have hage := hf2.age
    have HC := Lib.hid hc
    obtain ⟨x1, hx1⟩ : ∃ x, playZ (newF c) l = x := ⟨_, rfl⟩
    have HX1 := Lib.hid hx1
    rw [hx1] at HF1 HF2 HF3 HKL hq hage
    obtain ⟨x2, hx2⟩ : ∃ x, crashZ x1 one = x := ⟨_, rfl⟩
    have HX2 := Lib.hid hx2
    rw [hx2] at HF2 HF3 HKL hq hage
    obtain ⟨x3, hx3⟩ : ∃ x, crashZ x2 two = x := ⟨_, rfl⟩
    have HX3 := Lib.hid hx3
    rw [hx3] at HF3 hq
    obtain ⟨q1, q2, q3, q4, q5, q6⟩ := hq
    obtain ⟨im, him⟩ : ∃ im : ByteArray, ⟨(imageL x2.dur).toArray⟩ = im := ⟨_, rfl⟩
    have HIM := Lib.hid him
    have Q1 := Lib.hid (show (⟨(imageL x3.dur).toArray⟩ : ByteArray) = im by rw [q1]; exact him)
    clear him
    have Q3 := Lib.hid q3
    have Q6 := Lib.hid (show x3.pend.length = 0 by rw [q6]; rfl)
    have hage2 : x2.age ≤ 1048577 := by omega
    have hage1 := hage.1
    clear ho hc hf0 hf1 hf2 hf3 hx1 hx2 hx3 q1 q3 q6 hage
    go_enter Try.func5, Try.ntmps5
    go_wp2_with fail
    (with_reducible refine (lbegun_calls _).mono ?_); rintro e w1 ⟨rfl, hb1⟩
    have HB1 := Lib.hid hb1
    clear hb1
    go_wp2_with fail
    (with_reducible refine (new_lives c HC.out _).mono ?_); rintro e w2 ⟨g, rfl, hl2, hb2⟩
    have HL2 := Lib.hid (hl2.down HB1.out.size)
    have HB2 := Lib.hid (HB1.out.trans (hb2.mono HB1.out.size))
    clear hl2 hb2
    go_wp2_with fail
    (with_reducible refine (lplay_calls W.heap.size 0 l (by omega) sv w2 g (newF c) HB2.out.size (HO.out.below HB2.out) HL2.out HF0.out).mono ?_); rintro e w3 ⟨rfl, hl3, hb3⟩
    have HL3 := Lib.hid (show Lives W.heap.size w3 g x1 from HX1.out ▸ hl3)
    have HB3 := Lib.hid (HB2.out.trans hb3)
    clear hl3 hb3
    go_wp2_with fail
    (with_reducible refine (crash_lives (by omega) one (by omega) w3 g x1 HB3.out.size HL3.out HF1.out).mono ?_); rintro e w4 ⟨rfl, hl4, hb4⟩
    have HL4 := Lib.hid (show Lives W.heap.size w4 g x2 from HX2.out ▸ hl4)
    have HB4 := Lib.hid (HB3.out.trans hb4)
    clear hl4 hb4
    go_wp2_with fail
    (with_reducible refine (image_lives (by omega) w4 g x2 HL4.out HF2.out).mono ?_); rintro e w5 ⟨he5, hb5⟩
    rw [HIM.out] at he5
    subst he5
    have HL5 := Lib.hid (HL4.out.keep hb5)
    have HB5 := Lib.hid (HB4.out.trans (hb5.mono HB4.out.size))
    clear hb5
    go_wp2_with fail
    (with_reducible refine (keys_lives (by omega) ⟨#[]⟩ w5 g x2 HL5.out HF2.out).mono ?_); rintro e w6 ⟨ks, rfl, hr6, hb6⟩
    have HL6 := Lib.hid (HL5.out.keep hb6)
    have HR6 := Lib.hid hr6
    have HBK := Lib.hid hb6
    have HB6 := Lib.hid (HB5.out.trans (hb6.mono HB5.out.size))
    clear hr6 hb6
    go_wp2_with (first
      | (go_at_call 24; (with_reducible refine (used_lives w6 g x2 HL6.out).mono ?_); rintro e w7 ⟨rfl, rfl⟩)
      | (go_at_call 25; (with_reducible refine (age_lives w6 g x2 HL6.out).mono ?_); rintro e w7 ⟨rfl, rfl⟩))
    (with_reducible refine (crash_rows (by omega) two (by omega) w5 w6 g x2 HB5.out.size HL5.out HF2.out ks _ _ HBK.out HR6.out).mono ?_); rintro e w7 ⟨rfl, hl7, hb7, hr7⟩
    have HL7 := Lib.hid (show Lives W.heap.size w7 g x3 from HX3.out ▸ hl7)
    have HR7 := Lib.hid hr7
    have HB7 := Lib.hid (HB6.out.trans hb7)
    clear hl7 hr7 hb7
    go_wp2_with fail
    (with_reducible refine (keys_lives (by omega) ⟨#[]⟩ w7 g x3 HL7.out HF3.out).mono ?_); rintro e w8 ⟨ks2, rfl, hr8, hb8⟩
    have HL8 := Lib.hid (HL7.out.keep hb8)
    have HR8 := Lib.hid hr8
    have HR9 := Lib.hid (HR7.out.keep hb8)
    have HB8 := Lib.hid (HB7.out.trans (hb8.mono HB7.out.size))
    clear hr8 hb8
    go_wp2_with fail
    (with_reducible refine (lnames_calls (keysZ x3 ⟨#[]⟩) (keysZ x2 ⟨#[]⟩) ks2 ks _ _ w8 HR8.out HR9.out (by rw [Q3.out]; exact Nat.le_trans HKL.out (by omega)) (Nat.le_trans HKL.out (by omega))).mono ?_); rintro e w9 ⟨he9, nq, rfl⟩
    rw [decide_eq_true Q3.out] at he9
    subst he9
    have HL9 := Lib.hid (show Lives W.heap.size (w8.drewN nq) g x3 from (by obtain ⟨bn, bd, v, hp, hn⟩ := HL8.out; exact ⟨bn, bd, v, hp.drewN nq, hn⟩))
    have HB9 := Lib.hid (below_drewQ HB8.out nq)
    go_wp2_with fail
    (with_reducible refine (image_lives (by omega) _ g x3 HL9.out HF3.out).mono ?_); rintro e w10 ⟨he10, hb10⟩
    rw [Q1.out] at he10
    subst he10
    have HL10 := Lib.hid (HL9.out.keep hb10)
    have HB10 := Lib.hid (HB9.out.trans (hb10.mono HB9.out.size))
    clear hb10
    have C1 := Lib.hid (show Calls Try.prog 24 #[.pointer (some ⟨g, 0, none⟩)] w10 fun e w' => e = .returned (.int .i64 x2.used) ∧ w10 = w' from q2 ▸ used_lives w10 g x3 HL10.out)
    have C2 := Lib.hid (show Calls Try.prog 25 #[.pointer (some ⟨g, 0, none⟩)] w10 fun e w' => e = .returned (.int .i64 (x2.age + 1)) ∧ w10 = w' from q4 ▸ age_lives w10 g x3 HL10.out)
    have C3 := Lib.hid (show Calls Try.prog 15 #[.pointer (some ⟨g, 0, none⟩)] w10 fun e w' => e = .returned (.bool false) ∧ w10 = w' from q5 ▸ down_lives w10 g x3 HL10.out)
    have C4 := Lib.hid (show Calls Try.prog 20 #[.pointer (some ⟨g, 0, none⟩)] w10 fun e w' => e = .returned (.int .i64 (0 : Nat)) ∧ w10 = w' from Q6.out ▸ pending_lives w10 g x3 HL10.out)
    clear q2 q4 q5
    go_wp2_with (first
      | (go_at_call 24; (with_reducible refine C1.out.mono ?_); rintro e w11 ⟨rfl, rfl⟩)
      | (go_at_call 25; (with_reducible refine C2.out.mono ?_); rintro e w11 ⟨rfl, rfl⟩)
      | (go_at_call 15; (with_reducible refine C3.out.mono ?_); rintro e w11 ⟨rfl, rfl⟩)
      | (go_at_call 20; (with_reducible refine C4.out.mono ?_); rintro e w11 ⟨rfl, rfl⟩))
    go_ret
    exact ⟨rfl, HB10.out⟩
end Go.Proofs.Ytpddnbkmiogheaa
