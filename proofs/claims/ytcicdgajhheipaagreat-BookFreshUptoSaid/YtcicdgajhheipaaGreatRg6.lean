import Derived.Test.YtcicdgajhheipaaGreatMgBookFresh20
set_option linter.unusedVariables false
set_option linter.unusedSimpArgs false
namespace Go.Proofs.YtcicdgajhheipaaGreat
open Go.RowKit Go.WideMaps Go.Maps Go.MapKept
/-! A step of a book's own: both answer the same. -/
/-- Both stores, and the step's box at block b. -/
def TXs (B b g h : Nat) (s : StepZ) (w : World) (x y : Fld) : Prop := TwoX B w g h x y b (.cells s.cells 29)
theorem TXs.at {B b g h : Nat} {what sp kd nm n : Int} {key text : ByteArray} {w : World} {x y : Fld} (t : TXs B b g h ⟨what, sp, kd, nm, n, key, text⟩ w x y) :
    w.cell? ⟨b, 0, none⟩ = some (.int .i64 what) ∧ w.cell? ⟨b, 1, none⟩ = some (.int .i64 sp) ∧ w.cell? ⟨b, 2, none⟩ = some (.int .i64 kd) ∧ w.cell? ⟨b, 3, none⟩ = some (.int .i64 nm) ∧ w.cell? ⟨b, 4, none⟩ = some (.int .i64 n) ∧
      w.cell? ⟨b, 5, none⟩ = some (.string key) ∧ w.cell? ⟨b, 6, none⟩ = some (.string text) := TwoX.at (s := ⟨what, sp, kd, nm, n, key, text⟩) t
theorem numsP_len {K : Nat} {x : Fld} (hf : Fine K x) (hK : K ≤ 4194304) (s k : Int) (s1 : s ≤ 9223372036854775807) : (numsP x s k).length ≤ 4194304 := by
  rw [nums_same x s k s1]
  exact Nat.le_trans (numsG_len _ _ _) (Nat.le_trans (keys_len2 hf _) hK)
theorem TXs.keep {B b g h : Nat} {s : StepZ} {w w' : World} {x y : Fld} (t : TXs B b g h s w x y) (hb : Below w.heap.size w w') : TXs B b g h s w' x y := TwoX.keep t hb
set_option maxRecDepth 100000 in
set_option maxHeartbeats 2000000 in
theorem lrec_put {B K g h : Nat} (hK : K ≤ 1048575) (what sp kd nm n : Int) (key text : ByteArray) (ho : (StepZ.mk what sp kd nm n key text).Ok) (hw : what = 1) (w : World) (x : Fld) (hB : B ≤ w.heap.size) (t : TwoG B w g h x x) (hf : Fine K x) :
    Calls Tryz.prog 7 #[.pointer (some ⟨g, 0, none⟩), .pointer (some ⟨h, 0, none⟩), .agg #[.int .i64 what, .int .i64 sp, .int .i64 kd, .int .i64 nm, .int .i64 n, .string key, .string text]] w fun e w' => e = .returned (.bool true) ∧ TwoG B w' g h (bputG x sp kd nm text).2 (bputG x sp kd nm text).2 ∧ Below B w w' := by
  have o1 : sp ≤ 9223372036854775807 := ho.s1
  have o2 : nm ≤ 9223372036854775807 := ho.n1
  have o3 : n ≤ 9223372036854775807 := ho.n2
  have o4 : key.size ≤ 1048576 := ho.key
  have o5 : text.size ≤ 1048576 := ho.text
  have HX0 : Hid (TXs B w.heap.size g h ⟨what, sp, kd, nm, n, key, text⟩ (w.alloc (.cells #[.int .i64 what, .int .i64 sp, .int .i64 kd, .int .i64 nm, .int .i64 n, .string key, .string text] 29)) x x) := Lib.hid (t.box _)
  have HB0 := Lib.hid ((Below.refl B w).alloc hB (.cells #[.int .i64 what, .int .i64 sp, .int .i64 kd, .int .i64 nm, .int .i64 n, .string key, .string text] 29))
  have HZ := Lib.hid hB
  have CP := Lib.hid (fun (W : World) (t : TXs B w.heap.size g h ⟨what, sp, kd, nm, n, key, text⟩ W x x) (hz : B ≤ W.heap.size) => two_p hz t (fun bn bd v p => pput_any K (by omega) sp kd nm text o1 o2 (by omega) W g bn bd v x p hf))
  have CR := Lib.hid (fun (W : World) (t : TXs B w.heap.size g h ⟨what, sp, kd, nm, n, key, text⟩ W (bputG x sp kd nm text).2 x) (hz : B ≤ W.heap.size) => two_r hz t (fun vd vw vv p => rbput_any K (by omega) sp kd nm text o1 o2 (by omega) W h vd vw vv x p hf))
  obtain ⟨r, hr⟩ : ∃ r, bputG x sp kd nm text = r := ⟨_, rfl⟩
  simp only [hr] at CP CR ⊢
  obtain ⟨re, rx⟩ := r
  simp only at CP CR ⊢
  subst hw
  clear hr o1 o2 o3 o4 o5
  clear ho t hf hB
  go_enter Tryz.func7, Tryz.ntmps7
  go_wp2_with (first
    | (go_at_call 27; (with_reducible refine (CP.out _ HX0.out (Nat.le_trans HZ.out HB0.out.size)).mono ?_); rintro e w1 ⟨rfl, ht, hb⟩; have HX1 : Hid (TXs B w.heap.size g h _ w1 _ _) := Lib.hid ht; have HB1 := Lib.hid (HB0.out.trans hb); obtain ⟨a1, b1, c1, d1, e1, f1, g1⟩ := HX1.out.at; clear ht hb)
    | (go_at_call 28; (with_reducible refine (CR.out _ HX1.out (Nat.le_trans HZ.out HB1.out.size)).mono ?_); rintro e w2 ⟨rfl, ht, hb⟩; have HX2 : Hid (TXs B w.heap.size g h _ w2 _ _) := Lib.hid ht; have HB2 := Lib.hid (HB1.out.trans hb); obtain ⟨a2, b2, c2, d2, e2, f2, g2⟩ := HX2.out.at; clear ht hb))
  go_ret
  exact ⟨rfl, TwoX.drop HX2.out, HB2.out⟩
set_option maxRecDepth 100000 in
set_option maxHeartbeats 2000000 in
theorem lrec_drop {B K g h : Nat} (hK : K ≤ 1048575) (what sp kd nm n : Int) (key text : ByteArray) (ho : (StepZ.mk what sp kd nm n key text).Ok) (hw : what = 3) (w : World) (x : Fld) (hB : B ≤ w.heap.size) (t : TwoG B w g h x x) (hf : Fine K x) :
    Calls Tryz.prog 7 #[.pointer (some ⟨g, 0, none⟩), .pointer (some ⟨h, 0, none⟩), .agg #[.int .i64 what, .int .i64 sp, .int .i64 kd, .int .i64 nm, .int .i64 n, .string key, .string text]] w fun e w' => e = .returned (.bool true) ∧ TwoG B w' g h (bdropG x sp kd nm).2 (bdropG x sp kd nm).2 ∧ Below B w w' := by
  have o1 : sp ≤ 9223372036854775807 := ho.s1
  have o2 : nm ≤ 9223372036854775807 := ho.n1
  have o3 : n ≤ 9223372036854775807 := ho.n2
  have o4 : key.size ≤ 1048576 := ho.key
  have o5 : text.size ≤ 1048576 := ho.text
  have HX0 : Hid (TXs B w.heap.size g h ⟨what, sp, kd, nm, n, key, text⟩ (w.alloc (.cells #[.int .i64 what, .int .i64 sp, .int .i64 kd, .int .i64 nm, .int .i64 n, .string key, .string text] 29)) x x) := Lib.hid (t.box _)
  have HB0 := Lib.hid ((Below.refl B w).alloc hB (.cells #[.int .i64 what, .int .i64 sp, .int .i64 kd, .int .i64 nm, .int .i64 n, .string key, .string text] 29))
  have HZ := Lib.hid hB
  have CP := Lib.hid (fun (W : World) (t : TXs B w.heap.size g h ⟨what, sp, kd, nm, n, key, text⟩ W x x) (hz : B ≤ W.heap.size) => two_p hz t (fun bn bd v p => pdrop_any K (by omega) sp kd nm o1 o2 W g bn bd v x p hf))
  have CR := Lib.hid (fun (W : World) (t : TXs B w.heap.size g h ⟨what, sp, kd, nm, n, key, text⟩ W (bdropG x sp kd nm).2 x) (hz : B ≤ W.heap.size) => two_r hz t (fun vd vw vv p => rbdrop_any K (by omega) sp kd nm o1 o2 W h vd vw vv x p hf))
  obtain ⟨r, hr⟩ : ∃ r, bdropG x sp kd nm = r := ⟨_, rfl⟩
  simp only [hr] at CP CR ⊢
  obtain ⟨re, rx⟩ := r
  simp only at CP CR ⊢
  subst hw
  clear hr o1 o2 o3 o4 o5
  clear ho t hf hB
  go_enter Tryz.func7, Tryz.ntmps7
  go_wp2_with (first
    | (go_at_call 31; (with_reducible refine (CP.out _ HX0.out (Nat.le_trans HZ.out HB0.out.size)).mono ?_); rintro e w1 ⟨rfl, ht, hb⟩; have HX1 : Hid (TXs B w.heap.size g h _ w1 _ _) := Lib.hid ht; have HB1 := Lib.hid (HB0.out.trans hb); obtain ⟨a1, b1, c1, d1, e1, f1, g1⟩ := HX1.out.at; clear ht hb)
    | (go_at_call 32; (with_reducible refine (CR.out _ HX1.out (Nat.le_trans HZ.out HB1.out.size)).mono ?_); rintro e w2 ⟨rfl, ht, hb⟩; have HX2 : Hid (TXs B w.heap.size g h _ w2 _ _) := Lib.hid ht; have HB2 := Lib.hid (HB1.out.trans hb); obtain ⟨a2, b2, c2, d2, e2, f2, g2⟩ := HX2.out.at; clear ht hb))
  go_ret
  exact ⟨rfl, TwoX.drop HX2.out, HB2.out⟩
set_option maxRecDepth 100000 in
set_option maxHeartbeats 2000000 in
theorem lrec_wipe {B K g h : Nat} (hK : K ≤ 1048575) (what sp kd nm n : Int) (key text : ByteArray) (ho : (StepZ.mk what sp kd nm n key text).Ok) (hw : what = 6) (w : World) (x : Fld) (hB : B ≤ w.heap.size) (t : TwoG B w g h x x) (hf : Fine K x) :
    Calls Tryz.prog 7 #[.pointer (some ⟨g, 0, none⟩), .pointer (some ⟨h, 0, none⟩), .agg #[.int .i64 what, .int .i64 sp, .int .i64 kd, .int .i64 nm, .int .i64 n, .string key, .string text]] w fun e w' => e = .returned (.bool true) ∧ TwoG B w' g h (wipeG x sp).2.2 (wipeG x sp).2.2 ∧ Below B w w' := by
  have o1 : sp ≤ 9223372036854775807 := ho.s1
  have o2 : nm ≤ 9223372036854775807 := ho.n1
  have o3 : n ≤ 9223372036854775807 := ho.n2
  have o4 : key.size ≤ 1048576 := ho.key
  have o5 : text.size ≤ 1048576 := ho.text
  have HX0 : Hid (TXs B w.heap.size g h ⟨what, sp, kd, nm, n, key, text⟩ (w.alloc (.cells #[.int .i64 what, .int .i64 sp, .int .i64 kd, .int .i64 nm, .int .i64 n, .string key, .string text] 29)) x x) := Lib.hid (t.box _)
  have HB0 := Lib.hid ((Below.refl B w).alloc hB (.cells #[.int .i64 what, .int .i64 sp, .int .i64 kd, .int .i64 nm, .int .i64 n, .string key, .string text] 29))
  have HZ := Lib.hid hB
  have CP := Lib.hid (fun (W : World) (t : TXs B w.heap.size g h ⟨what, sp, kd, nm, n, key, text⟩ W x x) (hz : B ≤ W.heap.size) => two_p hz t (fun bn bd v p => pwipe_any hK sp o1 W x p hf))
  have CR := Lib.hid (fun (W : World) (t : TXs B w.heap.size g h ⟨what, sp, kd, nm, n, key, text⟩ W (wipeG x sp).2.2 x) (hz : B ≤ W.heap.size) => two_r hz t (fun vd vw vv p => rwipe_any hK sp o1 W x p hf))
  obtain ⟨r, hr⟩ : ∃ r, wipeG x sp = r := ⟨_, rfl⟩
  simp only [hr] at CP CR ⊢
  obtain ⟨re, rf, rx⟩ := r
  simp only at CP CR ⊢
  subst hw
  clear hr o1 o2 o3 o4 o5
  clear ho t hf hB
  go_enter Tryz.func7, Tryz.ntmps7
  go_wp2_with (first
    | (go_at_call 33; (with_reducible refine (CP.out _ HX0.out (Nat.le_trans HZ.out HB0.out.size)).mono ?_); rintro e w1 ⟨rfl, ht, hb⟩; have HX1 : Hid (TXs B w.heap.size g h _ w1 _ _) := Lib.hid ht; have HB1 := Lib.hid (HB0.out.trans hb); obtain ⟨a1, b1, c1, d1, e1, f1, g1⟩ := HX1.out.at; clear ht hb)
    | (go_at_call 34; (with_reducible refine (CR.out _ HX1.out (Nat.le_trans HZ.out HB1.out.size)).mono ?_); rintro e w2 ⟨rfl, ht, hb⟩; have HX2 : Hid (TXs B w.heap.size g h _ w2 _ _) := Lib.hid ht; have HB2 := Lib.hid (HB1.out.trans hb); obtain ⟨a2, b2, c2, d2, e2, f2, g2⟩ := HX2.out.at; clear ht hb))
  go_ret
  exact ⟨rfl, TwoX.drop HX2.out, HB2.out⟩
set_option maxRecDepth 100000 in
set_option maxHeartbeats 2000000 in
theorem lrec_get {B K g h : Nat} (hK : K ≤ 1048575) (what sp kd nm n : Int) (key text : ByteArray) (ho : (StepZ.mk what sp kd nm n key text).Ok) (hw : what = 2) (w : World) (x : Fld) (hB : B ≤ w.heap.size) (t : TwoG B w g h x x) (hf : Fine K x) :
    Calls Tryz.prog 7 #[.pointer (some ⟨g, 0, none⟩), .pointer (some ⟨h, 0, none⟩), .agg #[.int .i64 what, .int .i64 sp, .int .i64 kd, .int .i64 nm, .int .i64 n, .string key, .string text]] w fun e w' => e = .returned (.bool true) ∧ TwoG B w' g h x x ∧ Below B w w' := by
  have o1 : sp ≤ 9223372036854775807 := ho.s1
  have o2 : nm ≤ 9223372036854775807 := ho.n1
  have o3 : n ≤ 9223372036854775807 := ho.n2
  have o4 : key.size ≤ 1048576 := ho.key
  have o5 : text.size ≤ 1048576 := ho.text
  have HX0 : Hid (TXs B w.heap.size g h ⟨what, sp, kd, nm, n, key, text⟩ (w.alloc (.cells #[.int .i64 what, .int .i64 sp, .int .i64 kd, .int .i64 nm, .int .i64 n, .string key, .string text] 29)) x x) := Lib.hid (t.box _)
  have HB0 := Lib.hid ((Below.refl B w).alloc hB (.cells #[.int .i64 what, .int .i64 sp, .int .i64 kd, .int .i64 nm, .int .i64 n, .string key, .string text] 29))
  have HZ := Lib.hid hB
  have CP := Lib.hid (fun (W : World) (t : TXs B w.heap.size g h ⟨what, sp, kd, nm, n, key, text⟩ W x x) (hz : B ≤ W.heap.size) => two_pn (R := fun e _ => e = .returned (.tuple #[.string (bgetG x sp kd nm).1, .int .i64 (bgetG x sp kd nm).2])) t (fun q => by
    obtain ⟨bn, bd, v, p, _⟩ := q
    exact pget_any K (by omega) sp kd nm o1 o2 W g bn bd v x p hf))
  have CR := Lib.hid (fun (W : World) (t : TXs B w.heap.size g h ⟨what, sp, kd, nm, n, key, text⟩ W x x) (hz : B ≤ W.heap.size) => two_rn (R := fun e _ => e = .returned (.tuple #[.string (bgetG x sp kd nm).1, .int .i64 (bgetG x sp kd nm).2])) t (fun vd vw vv q => rbget_any K (by omega) sp kd nm o1 o2 W h vd vw vv x q hf))
  obtain ⟨r, hr⟩ : ∃ r, bgetG x sp kd nm = r := ⟨_, rfl⟩
  simp only [hr] at CP CR
  obtain ⟨re, rf⟩ := r
  simp only at CP CR
  subst hw
  clear hr o1 o2 o3 o4 o5
  clear ho t hf hB
  go_enter Tryz.func7, Tryz.ntmps7
  go_wp2_with (first
    | (go_at_call 29; (with_reducible refine (CP.out _ HX0.out (Nat.le_trans HZ.out HB0.out.size)).mono ?_); rintro e w1 ⟨rfl, ht, hb⟩; have HX1 : Hid (TXs B w.heap.size g h _ w1 _ _) := Lib.hid ht; have HB1 := Lib.hid (HB0.out.trans (hb.mono (Nat.le_trans HZ.out HB0.out.size))); obtain ⟨a1, b1, c1, d1, e1, f1, g1⟩ := HX1.out.at; clear ht hb)
    | (go_at_call 30; (with_reducible refine (CR.out _ HX1.out (Nat.le_trans HZ.out HB1.out.size)).mono ?_); rintro e w2 ⟨rfl, ht, hb⟩; have HX2 : Hid (TXs B w.heap.size g h _ w2 _ _) := Lib.hid ht; have HB2 := Lib.hid (HB1.out.trans (hb.mono (Nat.le_trans HZ.out HB1.out.size))); obtain ⟨a2, b2, c2, d2, e2, f2, g2⟩ := HX2.out.at; clear ht hb))
  go_ret
  exact ⟨rfl, TwoX.drop HX2.out, HB2.out⟩
set_option maxRecDepth 100000 in
set_option maxHeartbeats 2000000 in
theorem lrec_numbers {B K g h : Nat} (hK : K ≤ 1048575) (what sp kd nm n : Int) (key text : ByteArray) (ho : (StepZ.mk what sp kd nm n key text).Ok) (hw : what = 4) (w : World) (x : Fld) (hB : B ≤ w.heap.size) (t : TwoG B w g h x x) (hf : Fine K x) :
    Calls Tryz.prog 7 #[.pointer (some ⟨g, 0, none⟩), .pointer (some ⟨h, 0, none⟩), .agg #[.int .i64 what, .int .i64 sp, .int .i64 kd, .int .i64 nm, .int .i64 n, .string key, .string text]] w fun e w' => e = .returned (.bool true) ∧ TwoG B w' g h x x ∧ Below B w w' := by
  have o1 : sp ≤ 9223372036854775807 := ho.s1
  have o2 : nm ≤ 9223372036854775807 := ho.n1
  have o3 : n ≤ 9223372036854775807 := ho.n2
  have o4 : key.size ≤ 1048576 := ho.key
  have o5 : text.size ≤ 1048576 := ho.text
  have HX0 : Hid (TXs B w.heap.size g h ⟨what, sp, kd, nm, n, key, text⟩ (w.alloc (.cells #[.int .i64 what, .int .i64 sp, .int .i64 kd, .int .i64 nm, .int .i64 n, .string key, .string text] 29)) x x) := Lib.hid (t.box _)
  have HB0 := Lib.hid ((Below.refl B w).alloc hB (.cells #[.int .i64 what, .int .i64 sp, .int .i64 kd, .int .i64 nm, .int .i64 n, .string key, .string text] 29))
  have HZ := Lib.hid hB
  have CP := Lib.hid (fun (W : World) (t : TXs B w.heap.size g h ⟨what, sp, kd, nm, n, key, text⟩ W x x) (hz : B ≤ W.heap.size) => two_pn (R := fun e W' => ∃ v, e = .returned v ∧ Row W' W.heap.size 1 v (numsP x sp kd).length (iV (numsP x sp kd))) t (fun q => (pnums_any (by omega) sp kd o1 W x q hf).mono fun e W' ⟨v, h1, h2, h3⟩ => ⟨⟨v, h1, h2⟩, h3⟩))
  have CR := Lib.hid (fun (W : World) (t : TXs B w.heap.size g h ⟨what, sp, kd, nm, n, key, text⟩ W x x) (hz : B ≤ W.heap.size) => two_rn (R := fun e W' => ∃ v, e = .returned v ∧ Row W' W.heap.size 1 v (numsP x sp kd).length (iV (numsP x sp kd))) t (fun vd vw vv q => (rbnums_calls K (by omega) sp kd W h vd vw vv x q hf).mono fun e W' ⟨v, h1, h2, h3⟩ => ⟨⟨v, h1, by rw [nums_same x sp kd o1]; exact h2⟩, h3⟩))
  have hlen : (numsP x sp kd).length ≤ 4194304 := numsP_len hf (by omega) sp kd o1
  obtain ⟨L, hL⟩ : ∃ L, numsP x sp kd = L := ⟨_, rfl⟩
  simp only [hL] at CP CR
  rw [hL] at hlen
  subst hw
  clear hL o1 o2 o3 o4 o5
  clear ho t hf hB
  go_enter Tryz.func7, Tryz.ntmps7
  go_wp2_with (first
    | (go_at_call 13; (with_reducible refine (CP.out _ HX0.out (Nat.le_trans HZ.out HB0.out.size)).mono ?_); rintro e w1 ⟨⟨va, rfl, hra⟩, ht, hb⟩; have HX1 : Hid (TXs B w.heap.size g h _ w1 _ _) := Lib.hid ht; have HB1 := Lib.hid (HB0.out.trans (hb.mono (Nat.le_trans HZ.out HB0.out.size))); obtain ⟨a1, b1, c1, d1, e1, f1, g1⟩ := HX1.out.at; have HRA := Lib.hid hra; clear hra; clear ht hb)
    | (go_at_call 11; (with_reducible refine (CR.out _ HX1.out (Nat.le_trans HZ.out HB1.out.size)).mono ?_); rintro e w2 ⟨⟨vb, rfl, hrb⟩, ht, hb⟩; have HX2 : Hid (TXs B w.heap.size g h _ w2 _ _) := Lib.hid ht; have HB2 := Lib.hid (HB1.out.trans (hb.mono (Nat.le_trans HZ.out HB1.out.size))); obtain ⟨a2, b2, c2, d2, e2, f2, g2⟩ := HX2.out.at; have HRB := Lib.hid hrb; have HRC := Lib.hid (HRA.out.keep hb); clear hrb; clear ht hb)
    | (go_at_call 14; (with_reducible refine (sameInts_calls va vb L _ (HRC.out.mono (Nat.zero_le _)) (HRB.out.mono (Nat.zero_le _)) hlen).mono ?_); rintro e w3 ⟨rfl, q, rfl⟩))
  go_ret
  exact ⟨rfl, (TwoX.drop HX2.out).keep (belowDrewN (Below.refl _ _) q), belowDrewN HB2.out q⟩
set_option maxRecDepth 100000 in
set_option maxHeartbeats 2000000 in
theorem lrec_spaces {B K g h : Nat} (hK : K ≤ 1048575) (what sp kd nm n : Int) (key text : ByteArray) (ho : (StepZ.mk what sp kd nm n key text).Ok) (hw : what = 5) (w : World) (x : Fld) (hB : B ≤ w.heap.size) (t : TwoG B w g h x x) (hf : Fine K x) :
    Calls Tryz.prog 7 #[.pointer (some ⟨g, 0, none⟩), .pointer (some ⟨h, 0, none⟩), .agg #[.int .i64 what, .int .i64 sp, .int .i64 kd, .int .i64 nm, .int .i64 n, .string key, .string text]] w fun e w' => e = .returned (.bool true) ∧ TwoG B w' g h x x ∧ Below B w w' := by
  have o1 : sp ≤ 9223372036854775807 := ho.s1
  have o2 : nm ≤ 9223372036854775807 := ho.n1
  have o3 : n ≤ 9223372036854775807 := ho.n2
  have o4 : key.size ≤ 1048576 := ho.key
  have o5 : text.size ≤ 1048576 := ho.text
  have HX0 : Hid (TXs B w.heap.size g h ⟨what, sp, kd, nm, n, key, text⟩ (w.alloc (.cells #[.int .i64 what, .int .i64 sp, .int .i64 kd, .int .i64 nm, .int .i64 n, .string key, .string text] 29)) x x) := Lib.hid (t.box _)
  have HB0 := Lib.hid ((Below.refl B w).alloc hB (.cells #[.int .i64 what, .int .i64 sp, .int .i64 kd, .int .i64 nm, .int .i64 n, .string key, .string text] 29))
  have HZ := Lib.hid hB
  have CP := Lib.hid (fun (W : World) (t : TXs B w.heap.size g h ⟨what, sp, kd, nm, n, key, text⟩ W x x) (hz : B ≤ W.heap.size) => two_pn (R := fun e W' => ∃ v, e = .returned v ∧ Row W' W.heap.size 1 v (spacesZ (keysZ x letB)).length (iV (spacesZ (keysZ x letB)))) t (fun q => (bspaces_calls (by omega) W x q hf).mono fun e W' ⟨v, h1, h2, h3⟩ => ⟨⟨v, h1, h2⟩, h3⟩))
  have CR := Lib.hid (fun (W : World) (t : TXs B w.heap.size g h ⟨what, sp, kd, nm, n, key, text⟩ W x x) (hz : B ≤ W.heap.size) => two_rn (R := fun e W' => ∃ v, e = .returned v ∧ Row W' W.heap.size 1 v (spacesZ (keysZ x letB)).length (iV (spacesZ (keysZ x letB)))) t (fun vd vw vv q => (rbspaces_calls K (by omega) W h vd vw vv x q hf).mono fun e W' ⟨v, h1, h2, h3⟩ => ⟨⟨v, h1, h2⟩, h3⟩))
  have hlen : (spacesZ (keysZ x letB)).length ≤ 4194304 := Nat.le_trans (spaces_len _) (Nat.le_trans (keys_len2 hf _) (by omega))
  obtain ⟨L, hL⟩ : ∃ L, spacesZ (keysZ x letB) = L := ⟨_, rfl⟩
  simp only [hL] at CP CR
  rw [hL] at hlen
  subst hw
  clear hL o1 o2 o3 o4 o5
  clear ho t hf hB
  go_enter Tryz.func7, Tryz.ntmps7
  go_wp2_with (first
    | (go_at_call 15; (with_reducible refine (CP.out _ HX0.out (Nat.le_trans HZ.out HB0.out.size)).mono ?_); rintro e w1 ⟨⟨va, rfl, hra⟩, ht, hb⟩; have HX1 : Hid (TXs B w.heap.size g h _ w1 _ _) := Lib.hid ht; have HB1 := Lib.hid (HB0.out.trans (hb.mono (Nat.le_trans HZ.out HB0.out.size))); obtain ⟨a1, b1, c1, d1, e1, f1, g1⟩ := HX1.out.at; have HRA := Lib.hid hra; clear hra; clear ht hb)
    | (go_at_call 12; (with_reducible refine (CR.out _ HX1.out (Nat.le_trans HZ.out HB1.out.size)).mono ?_); rintro e w2 ⟨⟨vb, rfl, hrb⟩, ht, hb⟩; have HX2 : Hid (TXs B w.heap.size g h _ w2 _ _) := Lib.hid ht; have HB2 := Lib.hid (HB1.out.trans (hb.mono (Nat.le_trans HZ.out HB1.out.size))); obtain ⟨a2, b2, c2, d2, e2, f2, g2⟩ := HX2.out.at; have HRB := Lib.hid hrb; have HRC := Lib.hid (HRA.out.keep hb); clear hrb; clear ht hb)
    | (go_at_call 14; (with_reducible refine (sameInts_calls va vb L _ (HRC.out.mono (Nat.zero_le _)) (HRB.out.mono (Nat.zero_le _)) hlen).mono ?_); rintro e w3 ⟨rfl, q, rfl⟩))
  go_ret
  exact ⟨rfl, (TwoX.drop HX2.out).keep (belowDrewN (Below.refl _ _) q), belowDrewN HB2.out q⟩
set_option maxRecDepth 100000 in
set_option maxHeartbeats 2000000 in
theorem lrec_none {B K g h : Nat} (hK : K ≤ 1048575) (what sp kd nm n : Int) (key text : ByteArray) (ho : (StepZ.mk what sp kd nm n key text).Ok) (hw : what ≠ 1 ∧ what ≠ 2 ∧ what ≠ 3 ∧ what ≠ 4 ∧ what ≠ 5 ∧ what ≠ 6) (w : World) (x : Fld) (hB : B ≤ w.heap.size) (t : TwoG B w g h x x) (hf : Fine K x) :
    Calls Tryz.prog 7 #[.pointer (some ⟨g, 0, none⟩), .pointer (some ⟨h, 0, none⟩), .agg #[.int .i64 what, .int .i64 sp, .int .i64 kd, .int .i64 nm, .int .i64 n, .string key, .string text]] w fun e w' => e = .returned (.bool true) ∧ TwoG B w' g h x x ∧ Below B w w' := by
  have o1 : sp ≤ 9223372036854775807 := ho.s1
  have o2 : nm ≤ 9223372036854775807 := ho.n1
  have o3 : n ≤ 9223372036854775807 := ho.n2
  have o4 : key.size ≤ 1048576 := ho.key
  have o5 : text.size ≤ 1048576 := ho.text
  have HX0 : Hid (TXs B w.heap.size g h ⟨what, sp, kd, nm, n, key, text⟩ (w.alloc (.cells #[.int .i64 what, .int .i64 sp, .int .i64 kd, .int .i64 nm, .int .i64 n, .string key, .string text] 29)) x x) := Lib.hid (t.box _)
  have HB0 := Lib.hid ((Below.refl B w).alloc hB (.cells #[.int .i64 what, .int .i64 sp, .int .i64 kd, .int .i64 nm, .int .i64 n, .string key, .string text] 29))
  have HZ := Lib.hid hB
  obtain ⟨n1, n2, n3, n4, n5, n6⟩ := hw
  have q1 : (what == 1) = false := by rw [beq_eq_false_iff_ne]; exact n1
  have q2 : (what == 2) = false := by rw [beq_eq_false_iff_ne]; exact n2
  have q3 : (what == 3) = false := by rw [beq_eq_false_iff_ne]; exact n3
  have q4 : (what == 4) = false := by rw [beq_eq_false_iff_ne]; exact n4
  have q5 : (what == 5) = false := by rw [beq_eq_false_iff_ne]; exact n5
  have q6 : (what == 6) = false := by rw [beq_eq_false_iff_ne]; exact n6
  clear n1 n2 n3 n4 n5 n6 o1 o2 o3 o4 o5
  clear ho t hf hB
  go_enter Tryz.func7, Tryz.ntmps7
  go_wp2
  go_ret
  exact ⟨rfl, TwoX.drop HX0.out, HB0.out⟩
end Go.Proofs.YtcicdgajhheipaaGreat
