import Derived.Test.YtcicdgajhheipaaGreatRg8
import Derived.Test.YtcicdgajhheipaaGreatMgBookRecords10
set_option linter.unusedVariables false
set_option linter.unusedSimpArgs false
namespace Go.Proofs.YtcicdgajhheipaaGreat
open Go.RowKit Go.WideMaps Go.Maps Go.MapKept
/-- A script that came in. -/
structure StepsIn (B : Nat) (w : World) (v : Value) (l : List StepZ) : Prop where
  form : ∃ a c, v = .slice a l.length c
  ok : ∀ o ∈ l, o.Ok
  cells : ∀ i (h : i < l.length), ∃ g off c, v = .slice (some ⟨g, off, none⟩) l.length c ∧ g < B ∧ w.cell? ⟨g, off + i * 7, none⟩ = some (.int .i64 l[i].what) ∧ w.cell? ⟨g, off + i * 7 + 1, none⟩ = some (.int .i64 l[i].sp) ∧
    w.cell? ⟨g, off + i * 7 + 2, none⟩ = some (.int .i64 l[i].kd) ∧ w.cell? ⟨g, off + i * 7 + 3, none⟩ = some (.int .i64 l[i].nm) ∧ w.cell? ⟨g, off + i * 7 + 4, none⟩ = some (.int .i64 l[i].n) ∧
    w.cell? ⟨g, off + i * 7 + 5, none⟩ = some (.string l[i].key) ∧ w.cell? ⟨g, off + i * 7 + 6, none⟩ = some (.string l[i].text)
theorem StepsIn.below {B : Nat} {w w' : World} {v : Value} {l : List StepZ} (h : StepsIn B w v l) (hb : Below B w w') : StepsIn B w' v l := by
  refine ⟨h.form, h.ok, fun i hi => ?_⟩
  obtain ⟨g, off, c, hv, hg, c0, c1, c2, c3, c4, c5, c6⟩ := h.cells i hi
  have k : ∀ j, w'.cell? ⟨g, j, none⟩ = w.cell? ⟨g, j, none⟩ := fun j => hb.cell (p := ⟨g, j, none⟩) hg
  exact ⟨g, off, c, hv, hg, (k _).trans c0, (k _).trans c1, (k _).trans c2, (k _).trans c3, (k _).trans c4, (k _).trans c5, (k _).trans c6⟩
theorem two_new {B g bn bd : Nat} {v : Value} {w1 w2 : World} {x y : Fld} (p : PSF w1 g bn bd v x) (f : ∀ m ∈ foot g bn bd v, B ≤ m) (hb : Below w1.heap.size w1 w2) (r : RSF w2 w1.heap.size (.slice none 0 0) (.slice none 0 0) (.slice none 0 0) y) (hB : B ≤ w1.heap.size) :
    TwoG B w2 g w1.heap.size x y := by
  have e : ∀ m ∈ rfoot w1.heap.size (.slice none 0 0) (.slice none 0 0) (.slice none 0 0), m = w1.heap.size := by
    intro m hm
    rcases mem_rfoot.1 hm with e | e | e | e
    · exact e
    · cases e
    · cases e
    · cases e
  exact ⟨bn, bd, v, _, _, _, p.keep hb, r, fun m hm => ⟨f m hm, fun h2 => by have := p.foot_lt m hm; have := e m h2; omega⟩, fun m hm => by have := e m hm; omega⟩
section
variable {B : Nat} {w w' : World} {g h : Nat} {x y : Fld}
theorem TwoG.drewN (t : TwoG B w g h x y) (n : Nat) : TwoG B (w.drewN n) g h x y := by
  obtain ⟨bn, bd, v, vd, vw, vv, p, r, f1, f2⟩ := t
  exact ⟨bn, bd, v, vd, vw, vv, p.drewN n, r.drewN n, f1, f2⟩
theorem g_used (t : TwoG B w g h x y) : Calls Tryz.prog 17 #[.pointer (some ⟨g, 0, none⟩)] w fun e w' => e = .returned (.int .i64 x.used) ∧ w = w' := by
  obtain ⟨bn, bd, v, vd, vw, vv, p, r, f1, f2⟩ := t
  exact sused_calls w g bn bd v x p
theorem g_rused {K : Nat} (hK : K ≤ 2097152) (hf : Fine K y) (t : TwoG B w g h x y) : Calls Tryz.prog 18 #[.pointer (some ⟨h, 0, none⟩)] w fun e w' => e = .returned (.int .i64 y.used) ∧ ∃ n, w.drewN n = w' := by
  obtain ⟨bn, bd, v, vd, vw, vv, p, r, f1, f2⟩ := t
  exact rused_calls K hK w h vd vw vv y r hf
theorem g_pend (t : TwoG B w g h x y) : Calls Tryz.prog 19 #[.pointer (some ⟨g, 0, none⟩)] w fun e w' => e = .returned (.int .i64 x.pend.length) ∧ w = w' := by
  obtain ⟨bn, bd, v, vd, vw, vv, p, r, f1, f2⟩ := t
  exact spending_calls w g bn bd v x p
theorem g_rpend (t : TwoG B w g h x y) : Calls Tryz.prog 20 #[.pointer (some ⟨h, 0, none⟩)] w fun e w' => e = .returned (.int .i64 y.pend.length) ∧ w = w' := by
  obtain ⟨bn, bd, v, vd, vw, vv, p, r, f1, f2⟩ := t
  exact rpending_calls w h vd vw vv y r
theorem g_down (t : TwoG B w g h x y) : Calls Tryz.prog 21 #[.pointer (some ⟨g, 0, none⟩)] w fun e w' => e = .returned (.bool x.off) ∧ w = w' := by
  obtain ⟨bn, bd, v, vd, vw, vv, p, r, f1, f2⟩ := t
  exact sdown_calls w g bn bd v x p
theorem g_rdown (t : TwoG B w g h x y) : Calls Tryz.prog 22 #[.pointer (some ⟨h, 0, none⟩)] w fun e w' => e = .returned (.bool y.off) ∧ w = w' := by
  obtain ⟨bn, bd, v, vd, vw, vv, p, r, f1, f2⟩ := t
  exact rdown_calls w h vd vw vv y r
theorem g_image {K : Nat} (hK : K ≤ 2097152) (hf : Fine K x) (t : TwoG B w g h x y) : Calls Tryz.prog 23 #[.pointer (some ⟨g, 0, none⟩)] w fun e w' => e = .returned (.string ⟨(imageL x.dur).toArray⟩) ∧ Below w.heap.size w w' := by
  obtain ⟨bn, bd, v, vd, vw, vv, p, r, f1, f2⟩ := t
  exact simage_calls K hK w g bn bd v x p hf
theorem g_rimage {K : Nat} (hK : K ≤ 2097152) (hf : Fine K y) (t : TwoG B w g h x y) : Calls Tryz.prog 24 #[.pointer (some ⟨h, 0, none⟩)] w fun e w' => e = .returned (.string ⟨(imageL y.dur).toArray⟩) ∧ Below w.heap.size w w' := by
  obtain ⟨bn, bd, v, vd, vw, vv, p, r, f1, f2⟩ := t
  exact rimage_calls K hK w h vd vw vv y r hf
end
end Go.Proofs.YtcicdgajhheipaaGreat

set_option linter.unusedVariables false
set_option linter.unusedSimpArgs false
namespace Go.Proofs.YtcicdgajhheipaaGreat
open Go.RowKit Go.WideMaps Go.Maps Go.MapKept
set_option maxRecDepth 100000 in
set_option maxHeartbeats 8000000 in
theorem bookRecords_walk (c : Int) (sv : Value) (l : List StepZ) (W : World) (ho : StepsIn W.heap.size W sv l) (hl : l.length ≤ 150000) :
    Calls Tryz.prog 4 #[.int .i64 c, sv] W fun e W' => e = .returned (.bool true) ∧ Below W.heap.size W W' := by
  cases hc : goesB c
  · go_enter Tryz.func4, Tryz.ntmps4
    go_wp2_with fail
    (with_reducible refine (snew_no c hc _).mono ?_); rintro e w2 ⟨rfl, rfl⟩
    go_wp2_with fail
    (with_reducible refine (rnew_no c hc _).mono ?_); rintro e w2 ⟨rfl, rfl⟩
    clear hc
    go_wp2
    go_ret
    exact ⟨rfl, Below.refl _ _⟩
  · have HO := Lib.hid ho
    obtain ⟨pa, pc, hsv⟩ := ho.form
    subst hsv
    have HF0 := Lib.hid (tidy_new hc)
    have HC := Lib.hid hc
    obtain ⟨n, hn⟩ : ∃ n, l.length = n := ⟨_, rfl⟩
    rw [hn] at hl HO
    have HN := Lib.hid hn
    rw [hn]
    clear ho hc hn
    go_enter Tryz.func4, Tryz.ntmps4
    go_wp2_with fail
    (with_reducible refine (snew_yes c HC.out _).mono ?_); rintro e w1 ⟨g, bn0, bd0, rfl, hp1, hn1, hb1⟩
    have HP1 := Lib.hid hp1
    have HN1 := Lib.hid hn1
    have HB1 := Lib.hid hb1
    clear hp1 hn1 hb1
    go_wp2_with fail
    (with_reducible refine (rnew_yes c HC.out _).mono ?_); rintro e w2 ⟨rfl, hr2, hb2⟩
    have HT := Lib.hid (two_new HP1.out HN1.out hb2 hr2 HB1.out.size)
    have HB2 := Lib.hid (HB1.out.trans (hb2.mono HB1.out.size))
    obtain ⟨h, hh⟩ : ∃ h, w1.heap.size = h := ⟨_, rfl⟩
    rw [hh] at HT
    rw [hh]
    clear hr2 hb2 hh
    go_wp2_with fail
    go_loopw [7] (fun iv wr => ∃ (k : Nat), k ≤ n ∧ iv = .int .i64 k ∧ Hid (∃ x, TwoG W.heap.size wr g h x x ∧ Tidy (2 * k) x) ∧ Hid (Below W.heap.size W wr)) (fun iv _ => n - (intOf iv).toNat)
    case atStart => exact ⟨0, by omega, rfl, Lib.hid ⟨_, HT.out, HF0.out⟩, HB2⟩
    case round =>
      obtain ⟨k, hk, rfl, HX, HB⟩ := hrel
      obtain ⟨x, hx1, hx2⟩ := HX.out
      have hzB := HB.out.size
      by_cases hlt : k < n
      · have hkl : k < l.length := by rw [HN.out]; exact hlt
        obtain ⟨gg, off, cc, hv, hg, r0, r1, r2, r3, r4, r5, r6⟩ := (HO.out.below HB.out).cells k hkl
        injection hv with q1 q2 q3
        subst q1
        have hbk : (k : Int) < n := by omega
        have hok := HO.out.ok _ (List.getElem_mem hkl)
        obtain ⟨s, hss⟩ : ∃ s, l[k] = s := ⟨_, rfl⟩
        rw [hss] at r0 r1 r2 r3 r4 r5 r6 hok
        have hx3 := rec_tidy hx2 s
        have hx4 := oth_tidy hx3 s hok
        have CR := Lib.hid (lrec_all (by omega) s hok wr x hzB hx1 hx2.fine)
        have CO := Lib.hid (fun (w : World) (hz : W.heap.size ≤ w.heap.size) (t : TwoG W.heap.size w g h (recZ x s) (recZ x s)) => loth_all (by omega) s hok w (recZ x s) hz t hx3.fine)
        have HX4 := Lib.hid hx4
        obtain ⟨x1, hx1e⟩ : ∃ z, recZ x s = z := ⟨_, rfl⟩
        simp only [hx1e] at CR CO HX4
        obtain ⟨x2, hx2e⟩ : ∃ z, othZ x1 s = z := ⟨_, rfl⟩
        simp only [hx2e] at CO HX4
        obtain ⟨what, sp, kd, nm, sn, key, text⟩ := s
        simp only at r0 r1 r2 r3 r4 r5 r6
        simp only [StepZ.agg] at CR CO
        have hkb : k ≤ 150000 := by omega
        clear q2 q3 hss hx1 hx2 hx3 hx4 hok HX hx1e hx2e
        go_wp2_with (go_at_call 7; (with_reducible refine CR.out.mono ?_); rintro e w3 ⟨rfl, ht, hb⟩; have HT3 := Lib.hid ht; have HB3 := Lib.hid (HB.out.trans hb)
                     have s0 := (hb.cell (p := ⟨gg, off + k * 7, none⟩) hg).trans r0; have s1 := (hb.cell (p := ⟨gg, off + k * 7 + 1, none⟩) hg).trans r1; have s2 := (hb.cell (p := ⟨gg, off + k * 7 + 2, none⟩) hg).trans r2; have s3 := (hb.cell (p := ⟨gg, off + k * 7 + 3, none⟩) hg).trans r3
                     have s4 := (hb.cell (p := ⟨gg, off + k * 7 + 4, none⟩) hg).trans r4; have s5 := (hb.cell (p := ⟨gg, off + k * 7 + 5, none⟩) hg).trans r5; have s6 := (hb.cell (p := ⟨gg, off + k * 7 + 6, none⟩) hg).trans r6
                     clear ht hb)
        (with_reducible refine (CO.out _ HB3.out.size HT3.out).mono ?_); rintro e w4 ⟨rfl, ht, hb⟩
        have HT4 := Lib.hid ht
        have HB4 := Lib.hid (HB3.out.trans hb)
        have C1 := Lib.hid (fun (w : World) (t : TwoG W.heap.size w g h x2 x2) => g_used t)
        have C2 := Lib.hid (fun (w : World) (t : TwoG W.heap.size w g h x2 x2) => g_rused (by omega) HX4.out.fine t)
        have C3 := Lib.hid (fun (w : World) (t : TwoG W.heap.size w g h x2 x2) => g_pend t)
        have C4 := Lib.hid (fun (w : World) (t : TwoG W.heap.size w g h x2 x2) => g_rpend t)
        have C5 := Lib.hid (fun (w : World) (t : TwoG W.heap.size w g h x2 x2) => g_down t)
        have C6 := Lib.hid (fun (w : World) (t : TwoG W.heap.size w g h x2 x2) => g_rdown t)
        clear ht hb
        go_wp2_with (first
          | (go_at_call 17; (with_reducible refine (C1.out _ HT4.out).mono ?_); rintro e w5 ⟨rfl, rfl⟩)
          | (go_at_call 18; (with_reducible refine (C2.out _ HT4.out).mono ?_); rintro e w5 ⟨rfl, q, rfl⟩; have HT5 := Lib.hid (HT4.out.drewN q))
          | (go_at_call 19; (with_reducible refine (C3.out _ HT5.out).mono ?_); rintro e w5 ⟨rfl, rfl⟩)
          | (go_at_call 20; (with_reducible refine (C4.out _ HT5.out).mono ?_); rintro e w5 ⟨rfl, rfl⟩)
          | (go_at_call 21; (with_reducible refine (C5.out _ HT5.out).mono ?_); rintro e w5 ⟨rfl, rfl⟩)
          | (go_at_call 22; (with_reducible refine (C6.out _ HT5.out).mono ?_); rintro e w5 ⟨rfl, rfl⟩))
        go_roundw
        case rel => exact ⟨k + 1, by omega, by go_num, Lib.hid ⟨x2, HT5.out, HX4.out⟩, Lib.hid (belowDrewN HB4.out q)⟩
        case measure => simp [intOf]; omega
      · obtain rfl : k = n := by omega
        have HT5 := Lib.hid hx1
        have HX5 := Lib.hid hx2.fine
        have C1 := Lib.hid (fun (w : World) (t : TwoG W.heap.size w g h x x) => g_image (by omega) HX5.out t)
        have C2 := Lib.hid (fun (w : World) (t : TwoG W.heap.size w g h x x) => g_rimage (by omega) HX5.out t)
        obtain ⟨im, him⟩ : ∃ im : ByteArray, ⟨(imageL x.dur).toArray⟩ = im := ⟨_, rfl⟩
        simp only [him] at C1 C2
        clear him hx1 hx2 HX hlt
        go_wp2_with (first
          | (go_at_call 23; (with_reducible refine (C1.out _ HT5.out).mono ?_); rintro e w5 ⟨rfl, hb⟩; have HT6 := Lib.hid (HT5.out.keep hb); have HB6 := Lib.hid (HB.out.trans (hb.mono hzB)); clear hb)
          | (go_at_call 24; (with_reducible refine (C2.out _ HT6.out).mono ?_); rintro e w6 ⟨rfl, hb⟩; have HB7 := Lib.hid (HB6.out.trans (hb.mono HB6.out.size)); clear hb))
        go_ret
        exact ⟨rfl, HB7.out⟩
end Go.Proofs.YtcicdgajhheipaaGreat
