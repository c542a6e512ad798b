import Derived.Test.YtcicdgajhheipaaGreatRg7
set_option linter.unusedVariables false
set_option linter.unusedSimpArgs false
namespace Go.Proofs.YtcicdgajhheipaaGreat
open Go.RowKit Go.WideMaps Go.Maps Go.MapKept
/-! A step of the store's own. -/
def StepZ.agg (s : StepZ) : Value := .agg #[.int .i64 s.what, .int .i64 s.sp, .int .i64 s.kd, .int .i64 s.nm, .int .i64 s.n, .string s.key, .string s.text]
theorem misFrame_calls (sp kd nm n : Int) (key text : ByteArray) (n1 : nm ≤ 9223372036854775807) (w : World) : Calls Tryz.prog 37 #[.int .i64 kd, .int .i64 nm, .string text] w fun e w' => ∃ c, e = .returned (.tuple #[.string (misFrame ⟨8, sp, kd, nm, n, key, text⟩), .int .i64 c]) ∧ Below w.heap.size w w' := by
  unfold misFrame
  simp only
  cases hk : keyG 0 kd nm
  · rw [if_pos rfl]
    have hb : ¬ (1 ≤ kd ∧ kd ≤ 255 ∧ 0 ≤ nm) := fun h => (of_decide_eq_false (p := 0 ≤ (0 : Int) ∧ 1 ≤ kd ∧ kd ≤ 255 ∧ 0 ≤ nm) hk) ⟨by omega, h.1, h.2.1, h.2.2⟩
    exact (refFrame_bad kd nm text hb w).mono fun e w' ⟨h1, h2⟩ => ⟨_, h1, h2 ▸ Below.refl _ _⟩
  · rw [if_neg (by simp)]
    obtain ⟨_, k1, k2, n0⟩ := keyG_ok hk
    by_cases hb : 524288 < text.size
    · rw [if_pos hb]
      exact (refFrame_big kd nm text k1 k2 n0 (by omega) w).mono fun e w' ⟨h1, h2⟩ => ⟨_, h1, h2 ▸ Below.refl _ _⟩
    · rw [if_neg hb]
      exact (refFrame_calls kd nm text k1 k2 n0 n1 (by omega) w).mono fun e w' ⟨h1, h2⟩ => ⟨_, h1, h2⟩
theorem misKey_calls (sp kd nm n : Int) (key text : ByteArray) (s1 : sp ≤ 9223372036854775807) (n2 : n ≤ 9223372036854775807) (w : World) : Calls Tryz.prog 38 #[.int .i64 sp, .int .i64 kd, .int .i64 n] w fun e w' => ∃ c, e = .returned (.tuple #[.string (misKey ⟨8, sp, kd, nm, n, key, text⟩), .int .i64 c]) ∧ Below w.heap.size w w' := by
  unfold misKey
  simp only
  cases hk : keyG sp kd n
  · rw [if_pos rfl]
    exact (refKey_bad sp kd n (keyG_bad hk) w).mono fun e w' ⟨h1, h2⟩ => ⟨_, h1, h2 ▸ Below.refl _ _⟩
  · rw [if_neg (by simp)]
    obtain ⟨s0, k1, k2, n0⟩ := keyG_ok hk
    exact (refKey_calls sp kd n s0 s1 k1 k2 n0 n2 w).mono fun e w' ⟨h1, h2⟩ => ⟨_, h1, h2⟩
theorem misKey_size (s : StepZ) : (misKey s).size ≤ 4194304 := by
  unfold misKey
  split
  · exact Nat.zero_le _
  · rw [keyz_size]; omega
theorem misFrame_size (s : StepZ) : (misFrame s).size ≤ 4194304 := by
  unfold misFrame
  split
  · exact Nat.zero_le _
  · split
    · exact Nat.zero_le _
    · rw [frame_size]; omega
set_option maxRecDepth 100000 in
set_option maxHeartbeats 2000000 in
theorem loth_raw {B K g h : Nat} (hK : K ≤ 1048575) (what sp kd nm n : Int) (key text : ByteArray) (ho : (StepZ.mk what sp kd nm n key text).Ok) (hw : what = 7) (w : World) (x : Fld) (hB : B ≤ w.heap.size) (t : TwoG B w g h x x) (hf : Fine K x) :
    Calls Tryz.prog 8 #[.pointer (some ⟨g, 0, none⟩), .pointer (some ⟨h, 0, none⟩), .agg #[.int .i64 what, .int .i64 sp, .int .i64 kd, .int .i64 nm, .int .i64 n, .string key, .string text]] w fun e w' => e = .returned (.tuple #[]) ∧ TwoG B w' g h (putZ x key text).2 (putZ x key text).2 ∧ Below B w w' := by
  have o1 : sp ≤ 9223372036854775807 := ho.s1
  have o2 : nm ≤ 9223372036854775807 := ho.n1
  have o3 : n ≤ 9223372036854775807 := ho.n2
  have o4 : key.size ≤ 1048576 := ho.key
  have o5 : text.size ≤ 1048576 := ho.text
  have HX0 : Hid (TXs B w.heap.size g h ⟨what, sp, kd, nm, n, key, text⟩ (w.alloc (.cells #[.int .i64 what, .int .i64 sp, .int .i64 kd, .int .i64 nm, .int .i64 n, .string key, .string text] 29)) x x) := Lib.hid (t.box _)
  have HB0 := Lib.hid ((Below.refl B w).alloc hB (.cells #[.int .i64 what, .int .i64 sp, .int .i64 kd, .int .i64 nm, .int .i64 n, .string key, .string text] 29))
  have HZ := Lib.hid hB
  have CP := Lib.hid (fun (W : World) (t : TXs B w.heap.size g h ⟨what, sp, kd, nm, n, key, text⟩ W x x) (hz : B ≤ W.heap.size) => two_p hz t (fun bn bd v p => sput_calls K (by omega) key text (by omega) (by omega) W g bn bd v x p hf))
  have CR := Lib.hid (fun (W : World) (t : TXs B w.heap.size g h ⟨what, sp, kd, nm, n, key, text⟩ W (putZ x key text).2 x) (hz : B ≤ W.heap.size) => two_r hz t (fun vd vw vv p => rput_calls K (by omega) key text (by omega) (by omega) W h vd vw vv x p hf))
  obtain ⟨r, hr⟩ : ∃ r, putZ x key text = r := ⟨_, rfl⟩
  simp only [hr] at CP CR ⊢
  obtain ⟨re, rx⟩ := r
  simp only at CP CR ⊢
  clear hr
  subst hw
  clear o1 o2 o3 o4 o5
  clear ho t hf hB
  go_enter Tryz.func8, Tryz.ntmps8
  go_wp2_with (first
    | (go_at_call 35; (with_reducible refine (CP.out _ HX0.out (Nat.le_trans HZ.out HB0.out.size)).mono ?_); rintro e w1 ⟨rfl, ht, hb⟩; have HX1 : Hid (TXs B w.heap.size g h _ w1 _ _) := Lib.hid ht; have HB1 := Lib.hid (HB0.out.trans hb); obtain ⟨a1, b1, c1, d1, e1, f1, g1⟩ := HX1.out.at; clear ht hb)
    | (go_at_call 36; (with_reducible refine (CR.out _ HX1.out (Nat.le_trans HZ.out HB1.out.size)).mono ?_); rintro e w2 ⟨rfl, ht, hb⟩; have HX2 : Hid (TXs B w.heap.size g h _ w2 _ _) := Lib.hid ht; have HB2 := Lib.hid (HB1.out.trans hb); obtain ⟨a2, b2, c2, d2, e2, f2, g2⟩ := HX2.out.at; clear ht hb))
  (try simp only [Exit.inBlock, Exit.then])
  first
    | (refine bodyPost_end (results_none rfl _ _ _) rfl ?_)
    | (refine bodyPost_ret (results_none rfl _ _ _) rfl ?_)
  exact ⟨rfl, TwoX.drop HX2.out, HB2.out⟩
set_option maxRecDepth 100000 in
set_option maxHeartbeats 2000000 in
theorem loth_sync {B K g h : Nat} (hK : K ≤ 1048575) (what sp kd nm n : Int) (key text : ByteArray) (ho : (StepZ.mk what sp kd nm n key text).Ok) (hw : what = 9) (w : World) (x : Fld) (hB : B ≤ w.heap.size) (t : TwoG B w g h x x) (hf : Fine K x) :
    Calls Tryz.prog 8 #[.pointer (some ⟨g, 0, none⟩), .pointer (some ⟨h, 0, none⟩), .agg #[.int .i64 what, .int .i64 sp, .int .i64 kd, .int .i64 nm, .int .i64 n, .string key, .string text]] w fun e w' => e = .returned (.tuple #[]) ∧ TwoG B w' g h (syncZ x).2 (syncZ x).2 ∧ Below B w w' := by
  have o1 : sp ≤ 9223372036854775807 := ho.s1
  have o2 : nm ≤ 9223372036854775807 := ho.n1
  have o3 : n ≤ 9223372036854775807 := ho.n2
  have o4 : key.size ≤ 1048576 := ho.key
  have o5 : text.size ≤ 1048576 := ho.text
  have HX0 : Hid (TXs B w.heap.size g h ⟨what, sp, kd, nm, n, key, text⟩ (w.alloc (.cells #[.int .i64 what, .int .i64 sp, .int .i64 kd, .int .i64 nm, .int .i64 n, .string key, .string text] 29)) x x) := Lib.hid (t.box _)
  have HB0 := Lib.hid ((Below.refl B w).alloc hB (.cells #[.int .i64 what, .int .i64 sp, .int .i64 kd, .int .i64 nm, .int .i64 n, .string key, .string text] 29))
  have HZ := Lib.hid hB
  have CP := Lib.hid (fun (W : World) (t : TXs B w.heap.size g h ⟨what, sp, kd, nm, n, key, text⟩ W x x) (hz : B ≤ W.heap.size) => two_p hz t (fun bn bd v p => ssync_calls K (by omega) W g bn bd v x p hf))
  have CR := Lib.hid (fun (W : World) (t : TXs B w.heap.size g h ⟨what, sp, kd, nm, n, key, text⟩ W (syncZ x).2 x) (hz : B ≤ W.heap.size) => two_r hz t (fun vd vw vv p => rsync_calls K (by omega) W h vd vw vv x p hf))
  obtain ⟨r, hr⟩ : ∃ r, syncZ x = r := ⟨_, rfl⟩
  simp only [hr] at CP CR ⊢
  obtain ⟨re, rx⟩ := r
  simp only at CP CR ⊢
  clear hr
  subst hw
  clear o1 o2 o3 o4 o5
  clear ho t hf hB
  go_enter Tryz.func8, Tryz.ntmps8
  go_wp2_with (first
    | (go_at_call 39; (with_reducible refine (CP.out _ HX0.out (Nat.le_trans HZ.out HB0.out.size)).mono ?_); rintro e w1 ⟨rfl, ht, hb⟩; have HX1 : Hid (TXs B w.heap.size g h _ w1 _ _) := Lib.hid ht; have HB1 := Lib.hid (HB0.out.trans hb); obtain ⟨a1, b1, c1, d1, e1, f1, g1⟩ := HX1.out.at; clear ht hb)
    | (go_at_call 40; (with_reducible refine (CR.out _ HX1.out (Nat.le_trans HZ.out HB1.out.size)).mono ?_); rintro e w2 ⟨rfl, ht, hb⟩; have HX2 : Hid (TXs B w.heap.size g h _ w2 _ _) := Lib.hid ht; have HB2 := Lib.hid (HB1.out.trans hb); obtain ⟨a2, b2, c2, d2, e2, f2, g2⟩ := HX2.out.at; clear ht hb))
  (try simp only [Exit.inBlock, Exit.then])
  first
    | (refine bodyPost_end (results_none rfl _ _ _) rfl ?_)
    | (refine bodyPost_ret (results_none rfl _ _ _) rfl ?_)
  exact ⟨rfl, TwoX.drop HX2.out, HB2.out⟩
set_option maxRecDepth 100000 in
set_option maxHeartbeats 2000000 in
theorem loth_arm {B K g h : Nat} (hK : K ≤ 1048575) (what sp kd nm n : Int) (key text : ByteArray) (ho : (StepZ.mk what sp kd nm n key text).Ok) (hw : what = 10) (w : World) (x : Fld) (hB : B ≤ w.heap.size) (t : TwoG B w g h x x) (hf : Fine K x) :
    Calls Tryz.prog 8 #[.pointer (some ⟨g, 0, none⟩), .pointer (some ⟨h, 0, none⟩), .agg #[.int .i64 what, .int .i64 sp, .int .i64 kd, .int .i64 nm, .int .i64 n, .string key, .string text]] w fun e w' => e = .returned (.tuple #[]) ∧ TwoG B w' g h (armZ x n) (armZ x n) ∧ Below B w w' := by
  have o1 : sp ≤ 9223372036854775807 := ho.s1
  have o2 : nm ≤ 9223372036854775807 := ho.n1
  have o3 : n ≤ 9223372036854775807 := ho.n2
  have o4 : key.size ≤ 1048576 := ho.key
  have o5 : text.size ≤ 1048576 := ho.text
  have HX0 : Hid (TXs B w.heap.size g h ⟨what, sp, kd, nm, n, key, text⟩ (w.alloc (.cells #[.int .i64 what, .int .i64 sp, .int .i64 kd, .int .i64 nm, .int .i64 n, .string key, .string text] 29)) x x) := Lib.hid (t.box _)
  have HB0 := Lib.hid ((Below.refl B w).alloc hB (.cells #[.int .i64 what, .int .i64 sp, .int .i64 kd, .int .i64 nm, .int .i64 n, .string key, .string text] 29))
  have HZ := Lib.hid hB
  have CP := Lib.hid (fun (W : World) (t : TXs B w.heap.size g h ⟨what, sp, kd, nm, n, key, text⟩ W x x) (hz : B ≤ W.heap.size) => two_p hz t (fun bn bd v p => sarm_calls n W g bn bd v x p))
  have CR := Lib.hid (fun (W : World) (t : TXs B w.heap.size g h ⟨what, sp, kd, nm, n, key, text⟩ W (armZ x n) x) (hz : B ≤ W.heap.size) => two_r hz t (fun vd vw vv p => rarm_calls n W h vd vw vv x p))
  obtain ⟨rx, hr⟩ : ∃ r, armZ x n = r := ⟨_, rfl⟩
  simp only [hr] at CP CR ⊢
  clear hr
  subst hw
  clear o1 o2 o3 o4 o5
  clear ho t hf hB
  go_enter Tryz.func8, Tryz.ntmps8
  go_wp2_with (first
    | (go_at_call 41; (with_reducible refine (CP.out _ HX0.out (Nat.le_trans HZ.out HB0.out.size)).mono ?_); rintro e w1 ⟨rfl, ht, hb⟩; have HX1 : Hid (TXs B w.heap.size g h _ w1 _ _) := Lib.hid ht; have HB1 := Lib.hid (HB0.out.trans hb); obtain ⟨a1, b1, c1, d1, e1, f1, g1⟩ := HX1.out.at; clear ht hb)
    | (go_at_call 42; (with_reducible refine (CR.out _ HX1.out (Nat.le_trans HZ.out HB1.out.size)).mono ?_); rintro e w2 ⟨rfl, ht, hb⟩; have HX2 : Hid (TXs B w.heap.size g h _ w2 _ _) := Lib.hid ht; have HB2 := Lib.hid (HB1.out.trans hb); obtain ⟨a2, b2, c2, d2, e2, f2, g2⟩ := HX2.out.at; clear ht hb))
  (try simp only [Exit.inBlock, Exit.then])
  first
    | (refine bodyPost_end (results_none rfl _ _ _) rfl ?_)
    | (refine bodyPost_ret (results_none rfl _ _ _) rfl ?_)
  exact ⟨rfl, TwoX.drop HX2.out, HB2.out⟩
set_option maxRecDepth 100000 in
set_option maxHeartbeats 2000000 in
theorem loth_crash {B K g h : Nat} (hK : K ≤ 1048575) (what sp kd nm n : Int) (key text : ByteArray) (ho : (StepZ.mk what sp kd nm n key text).Ok) (hw : what = 11) (w : World) (x : Fld) (hB : B ≤ w.heap.size) (t : TwoG B w g h x x) (hf : Fine K x) :
    Calls Tryz.prog 8 #[.pointer (some ⟨g, 0, none⟩), .pointer (some ⟨h, 0, none⟩), .agg #[.int .i64 what, .int .i64 sp, .int .i64 kd, .int .i64 nm, .int .i64 n, .string key, .string text]] w fun e w' => e = .returned (.tuple #[]) ∧ TwoG B w' g h (crashZ x text) (crashZ x text) ∧ Below B w w' := by
  have o1 : sp ≤ 9223372036854775807 := ho.s1
  have o2 : nm ≤ 9223372036854775807 := ho.n1
  have o3 : n ≤ 9223372036854775807 := ho.n2
  have o4 : key.size ≤ 1048576 := ho.key
  have o5 : text.size ≤ 1048576 := ho.text
  have HX0 : Hid (TXs B w.heap.size g h ⟨what, sp, kd, nm, n, key, text⟩ (w.alloc (.cells #[.int .i64 what, .int .i64 sp, .int .i64 kd, .int .i64 nm, .int .i64 n, .string key, .string text] 29)) x x) := Lib.hid (t.box _)
  have HB0 := Lib.hid ((Below.refl B w).alloc hB (.cells #[.int .i64 what, .int .i64 sp, .int .i64 kd, .int .i64 nm, .int .i64 n, .string key, .string text] 29))
  have HZ := Lib.hid hB
  have CP := Lib.hid (fun (W : World) (t : TXs B w.heap.size g h ⟨what, sp, kd, nm, n, key, text⟩ W x x) (hz : B ≤ W.heap.size) => two_p hz t (fun bn bd v p => scrash_calls K (by omega) text (by omega) W g bn bd v x p hf))
  have CR := Lib.hid (fun (W : World) (t : TXs B w.heap.size g h ⟨what, sp, kd, nm, n, key, text⟩ W (crashZ x text) x) (hz : B ≤ W.heap.size) => two_r hz t (fun vd vw vv p => rcrash_calls K (by omega) text (by omega) W h vd vw vv x p hf))
  obtain ⟨rx, hr⟩ : ∃ r, crashZ x text = r := ⟨_, rfl⟩
  simp only [hr] at CP CR ⊢
  clear hr
  subst hw
  clear o1 o2 o3 o4 o5
  clear ho t hf hB
  go_enter Tryz.func8, Tryz.ntmps8
  go_wp2_with (first
    | (go_at_call 9; (with_reducible refine (CP.out _ HX0.out (Nat.le_trans HZ.out HB0.out.size)).mono ?_); rintro e w1 ⟨rfl, ht, hb⟩; have HX1 : Hid (TXs B w.heap.size g h _ w1 _ _) := Lib.hid ht; have HB1 := Lib.hid (HB0.out.trans hb); obtain ⟨a1, b1, c1, d1, e1, f1, g1⟩ := HX1.out.at; clear ht hb)
    | (go_at_call 10; (with_reducible refine (CR.out _ HX1.out (Nat.le_trans HZ.out HB1.out.size)).mono ?_); rintro e w2 ⟨rfl, ht, hb⟩; have HX2 : Hid (TXs B w.heap.size g h _ w2 _ _) := Lib.hid ht; have HB2 := Lib.hid (HB1.out.trans hb); obtain ⟨a2, b2, c2, d2, e2, f2, g2⟩ := HX2.out.at; clear ht hb))
  (try simp only [Exit.inBlock, Exit.then])
  first
    | (refine bodyPost_end (results_none rfl _ _ _) rfl ?_)
    | (refine bodyPost_ret (results_none rfl _ _ _) rfl ?_)
  exact ⟨rfl, TwoX.drop HX2.out, HB2.out⟩
set_option maxRecDepth 100000 in
set_option maxHeartbeats 2000000 in
theorem loth_mis {B K g h : Nat} (hK : K ≤ 1048575) (what sp kd nm n : Int) (key text : ByteArray) (ho : (StepZ.mk what sp kd nm n key text).Ok) (hw : what = 8) (w : World) (x : Fld) (hB : B ≤ w.heap.size) (t : TwoG B w g h x x) (hf : Fine K x) :
    Calls Tryz.prog 8 #[.pointer (some ⟨g, 0, none⟩), .pointer (some ⟨h, 0, none⟩), .agg #[.int .i64 what, .int .i64 sp, .int .i64 kd, .int .i64 nm, .int .i64 n, .string key, .string text]] w fun e w' => e = .returned (.tuple #[]) ∧ TwoG B w' g h (putZ x (misKey ⟨8, sp, kd, nm, n, key, text⟩) (misFrame ⟨8, sp, kd, nm, n, key, text⟩)).2 (putZ x (misKey ⟨8, sp, kd, nm, n, key, text⟩) (misFrame ⟨8, sp, kd, nm, n, key, text⟩)).2 ∧ Below B w w' := by
  have o1 : sp ≤ 9223372036854775807 := ho.s1
  have o2 : nm ≤ 9223372036854775807 := ho.n1
  have o3 : n ≤ 9223372036854775807 := ho.n2
  have o4 : key.size ≤ 1048576 := ho.key
  have o5 : text.size ≤ 1048576 := ho.text
  have HX0 : Hid (TXs B w.heap.size g h ⟨what, sp, kd, nm, n, key, text⟩ (w.alloc (.cells #[.int .i64 what, .int .i64 sp, .int .i64 kd, .int .i64 nm, .int .i64 n, .string key, .string text] 29)) x x) := Lib.hid (t.box _)
  have HB0 := Lib.hid ((Below.refl B w).alloc hB (.cells #[.int .i64 what, .int .i64 sp, .int .i64 kd, .int .i64 nm, .int .i64 n, .string key, .string text] 29))
  have HZ := Lib.hid hB
  have CF := Lib.hid (fun w => misFrame_calls sp kd nm n key text o2 w)
  have CK := Lib.hid (fun w => misKey_calls sp kd nm n key text o1 o3 w)
  have hks := misKey_size ⟨8, sp, kd, nm, n, key, text⟩
  have hfs := misFrame_size ⟨8, sp, kd, nm, n, key, text⟩
  obtain ⟨mk, hmk⟩ : ∃ z, misKey ⟨8, sp, kd, nm, n, key, text⟩ = z := ⟨_, rfl⟩
  obtain ⟨mf, hmf⟩ : ∃ z, misFrame ⟨8, sp, kd, nm, n, key, text⟩ = z := ⟨_, rfl⟩
  rw [hmk] at hks
  rw [hmf] at hfs
  simp only [hmk, hmf] at CF CK ⊢
  have CP := Lib.hid (fun (W : World) (t : TXs B w.heap.size g h ⟨what, sp, kd, nm, n, key, text⟩ W x x) (hz : B ≤ W.heap.size) => two_p hz t (fun bn bd v p => sput_calls K (by omega) mk mf hks hfs W g bn bd v x p hf))
  have CR := Lib.hid (fun (W : World) (t : TXs B w.heap.size g h ⟨what, sp, kd, nm, n, key, text⟩ W (putZ x mk mf).2 x) (hz : B ≤ W.heap.size) => two_r hz t (fun vd vw vv p => rput_calls K (by omega) mk mf hks hfs W h vd vw vv x p hf))
  obtain ⟨r, hr⟩ : ∃ r, putZ x mk mf = r := ⟨_, rfl⟩
  simp only [hr] at CP CR ⊢
  obtain ⟨re, rx⟩ := r
  simp only at CP CR ⊢
  clear hr hmk hmf hks hfs
  subst hw
  clear o1 o2 o3 o4 o5
  clear ho t hf hB
  go_enter Tryz.func8, Tryz.ntmps8
  go_wp2_with (first
    | (go_at_call 37; (with_reducible refine (CF.out _).mono ?_); rintro e w1 ⟨z1, rfl, hb⟩; have HX1 : Hid (TXs B w.heap.size g h _ w1 _ _) := Lib.hid (HX0.out.keep hb); have HB1 := Lib.hid (HB0.out.trans (hb.mono (Nat.le_trans HZ.out HB0.out.size))); obtain ⟨a1, b1, c1, d1, e1, f1, g1⟩ := HX1.out.at; clear hb)
    | (go_at_call 38; (with_reducible refine (CK.out _).mono ?_); rintro e w2 ⟨z2, rfl, hb⟩; have HX2 : Hid (TXs B w.heap.size g h _ w2 _ _) := Lib.hid (HX1.out.keep hb); have HB2 := Lib.hid (HB1.out.trans (hb.mono (Nat.le_trans HZ.out HB1.out.size))); obtain ⟨a2, b2, c2, d2, e2, f2, g2⟩ := HX2.out.at; clear hb)
    | (go_at_call 35; (with_reducible refine (CP.out _ HX2.out (Nat.le_trans HZ.out HB2.out.size)).mono ?_); rintro e w3 ⟨rfl, ht, hb⟩; have HX3 : Hid (TXs B w.heap.size g h _ w3 _ _) := Lib.hid ht; have HB3 := Lib.hid (HB2.out.trans hb); obtain ⟨a3, b3, c3, d3, e3, f3, g3⟩ := HX3.out.at; clear ht hb)
    | (go_at_call 36; (with_reducible refine (CR.out _ HX3.out (Nat.le_trans HZ.out HB3.out.size)).mono ?_); rintro e w4 ⟨rfl, ht, hb⟩; have HX4 : Hid (TXs B w.heap.size g h _ w4 _ _) := Lib.hid ht; have HB4 := Lib.hid (HB3.out.trans hb); obtain ⟨a4, b4, c4, d4, e4, f4, g4⟩ := HX4.out.at; clear ht hb))
  (try simp only [Exit.inBlock, Exit.then])
  first
    | (refine bodyPost_end (results_none rfl _ _ _) rfl ?_)
    | (refine bodyPost_ret (results_none rfl _ _ _) rfl ?_)
  exact ⟨rfl, TwoX.drop HX4.out, HB4.out⟩
set_option maxRecDepth 100000 in
set_option maxHeartbeats 2000000 in
theorem loth_none {B K g h : Nat} (hK : K ≤ 1048575) (what sp kd nm n : Int) (key text : ByteArray) (ho : (StepZ.mk what sp kd nm n key text).Ok) (hw : what ≠ 7 ∧ what ≠ 8 ∧ what ≠ 9 ∧ what ≠ 10 ∧ what ≠ 11) (w : World) (x : Fld) (hB : B ≤ w.heap.size) (t : TwoG B w g h x x) (hf : Fine K x) :
    Calls Tryz.prog 8 #[.pointer (some ⟨g, 0, none⟩), .pointer (some ⟨h, 0, none⟩), .agg #[.int .i64 what, .int .i64 sp, .int .i64 kd, .int .i64 nm, .int .i64 n, .string key, .string text]] w fun e w' => e = .returned (.tuple #[]) ∧ TwoG B w' g h x x ∧ Below B w w' := by
  have o1 : sp ≤ 9223372036854775807 := ho.s1
  have o2 : nm ≤ 9223372036854775807 := ho.n1
  have o3 : n ≤ 9223372036854775807 := ho.n2
  have o4 : key.size ≤ 1048576 := ho.key
  have o5 : text.size ≤ 1048576 := ho.text
  have HX0 : Hid (TXs B w.heap.size g h ⟨what, sp, kd, nm, n, key, text⟩ (w.alloc (.cells #[.int .i64 what, .int .i64 sp, .int .i64 kd, .int .i64 nm, .int .i64 n, .string key, .string text] 29)) x x) := Lib.hid (t.box _)
  have HB0 := Lib.hid ((Below.refl B w).alloc hB (.cells #[.int .i64 what, .int .i64 sp, .int .i64 kd, .int .i64 nm, .int .i64 n, .string key, .string text] 29))
  have HZ := Lib.hid hB
  obtain ⟨n1, n2, n3, n4, n5⟩ := hw
  have q1 : (what == 7) = false := by rw [beq_eq_false_iff_ne]; exact n1
  have q2 : (what == 8) = false := by rw [beq_eq_false_iff_ne]; exact n2
  have q3 : (what == 9) = false := by rw [beq_eq_false_iff_ne]; exact n3
  have q4 : (what == 10) = false := by rw [beq_eq_false_iff_ne]; exact n4
  have q5 : (what == 11) = false := by rw [beq_eq_false_iff_ne]; exact n5
  clear n1 n2 n3 n4 n5 o1 o2 o3 o4 o5
  clear ho t hf hB
  go_enter Tryz.func8, Tryz.ntmps8
  go_wp2
  (try simp only [Exit.inBlock, Exit.then])
  first
    | (refine bodyPost_end (results_none rfl _ _ _) rfl ?_)
    | (refine bodyPost_ret (results_none rfl _ _ _) rfl ?_)
  exact ⟨rfl, TwoX.drop HX0.out, HB0.out⟩
theorem lrec_all {B K g h : Nat} (hK : K ≤ 1048575) (s : StepZ) (ho : s.Ok) (w : World) (x : Fld) (hB : B ≤ w.heap.size) (t : TwoG B w g h x x) (hf : Fine K x) :
    Calls Tryz.prog 7 #[.pointer (some ⟨g, 0, none⟩), .pointer (some ⟨h, 0, none⟩), s.agg] w fun e w' => e = .returned (.bool true) ∧ TwoG B w' g h (recZ x s) (recZ x s) ∧ Below B w w' := by
  obtain ⟨what, sp, kd, nm, n, key, text⟩ := s
  unfold recZ
  simp only
  by_cases h1 : what = 1
  · rw [if_pos h1]; exact lrec_put hK what sp kd nm n key text ho h1 w x hB t hf
  rw [if_neg h1]
  by_cases h3 : what = 3
  · rw [if_pos h3]; exact lrec_drop hK what sp kd nm n key text ho h3 w x hB t hf
  rw [if_neg h3]
  by_cases h6 : what = 6
  · rw [if_pos h6]; exact lrec_wipe hK what sp kd nm n key text ho h6 w x hB t hf
  rw [if_neg h6]
  by_cases h2 : what = 2
  · exact lrec_get hK what sp kd nm n key text ho h2 w x hB t hf
  by_cases h4 : what = 4
  · exact lrec_numbers hK what sp kd nm n key text ho h4 w x hB t hf
  by_cases h5 : what = 5
  · exact lrec_spaces hK what sp kd nm n key text ho h5 w x hB t hf
  exact lrec_none hK what sp kd nm n key text ho ⟨h1, h2, h3, h4, h5, h6⟩ w x hB t hf
theorem loth_all {B K g h : Nat} (hK : K ≤ 1048575) (s : StepZ) (ho : s.Ok) (w : World) (x : Fld) (hB : B ≤ w.heap.size) (t : TwoG B w g h x x) (hf : Fine K x) :
    Calls Tryz.prog 8 #[.pointer (some ⟨g, 0, none⟩), .pointer (some ⟨h, 0, none⟩), s.agg] w fun e w' => e = .returned (.tuple #[]) ∧ TwoG B w' g h (othZ x s) (othZ x s) ∧ Below B w w' := by
  obtain ⟨what, sp, kd, nm, n, key, text⟩ := s
  unfold othZ
  simp only
  by_cases h1 : what = 7
  · rw [if_pos h1]; exact loth_raw hK what sp kd nm n key text ho h1 w x hB t hf
  rw [if_neg h1]
  by_cases h2 : what = 8
  · subst h2; rw [if_pos rfl]; exact loth_mis hK 8 sp kd nm n key text ho rfl w x hB t hf
  rw [if_neg h2]
  by_cases h3 : what = 9
  · rw [if_pos h3]; exact loth_sync hK what sp kd nm n key text ho h3 w x hB t hf
  rw [if_neg h3]
  by_cases h4 : what = 10
  · rw [if_pos h4]; exact loth_arm hK what sp kd nm n key text ho h4 w x hB t hf
  rw [if_neg h4]
  by_cases h5 : what = 11
  · rw [if_pos h5]; exact loth_crash hK what sp kd nm n key text ho h5 w x hB t hf
  rw [if_neg h5]
  exact loth_none hK what sp kd nm n key text ho ⟨h1, h2, h3, h4, h5⟩ w x hB t hf
end Go.Proofs.YtcicdgajhheipaaGreat
