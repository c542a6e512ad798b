import Derived.Test.YtkpfbjlbllpahaaDoorMk11
set_option linter.unusedVariables false
namespace Go.Proofs.YtkpfbjlbllpahaaDoor
open Go.RowKit
theorem Lent.slice {w : World} {base : Nat} {v m : Value} {xs : List Value} (h : Lent w base v xs m) : ∃ a n c, v = .slice a n c := by
  obtain ⟨g, cap, rfl, _⟩ := h
  exact ⟨_, _, _, rfl⟩
set_option maxRecDepth 100000 in
set_option maxHeartbeats 4000000 in
theorem mapChecks_walk (root key : ByteArray) (W : Int) (f b : Bool) (o v : ByteArray) (fs : List Bool) (hs : List ByteArray) (F H : Value) (w : World) (hL : Laid w) (hF : Held w F (bV fs)) (hH : Held w H (tV hs)) (hfl : fs.length ≤ 1048576) (hhl : hs.length ≤ 1048576) (hk : key.size ≤ 1048576) (ho : o.size ≤ 1048576) (hv : v.size ≤ 1048576) (hr : root.size ≤ 1048576) :
    Calls Tryd.prog 3 #[.string root, .string key, .agg #[.int .i64 W, .bool f, .bool b, .string o, .string v, F, H]] w fun e w' => e = .returned (.bool true) ∧ Below w.heap.size w w' := by
  have h4 := hL.size
  have HL := Lib.hid hL
  have HF := Lib.hid hF
  have HH := Lib.hid hH
  have C1 := Lib.hid (fun w h1 h2 => mlent_calls W f b o v fs hs F H w h1 h2 hfl hhl)
  have C2 := Lib.hid (fun F H w hL hF hH => mcheck_calls root key W f b o v fs hs F H w hL hF hH hfl hhl hk ho hv hr)
  have C3 := Lib.hid (fun F H w hL hF hH => mrefcheck_calls root key W f b o v fs hs F H w hL hF hH hfl hhl hk ho hv hr)
  have C4 := Lib.hid (fun F' H' w hF hH h1 h2 => mback_calls W f b o v fs hs F H F' H' (w.heap.size) w hF hH h1 h2 hfl hhl)
  obtain ⟨z, hz⟩ : ∃ z, checkZ root key W f b o v fs hs = z := ⟨_, rfl⟩
  simp only [hz] at C2 C3
  have HB0 : Hid (Below (w.heap.size + 1) (w.alloc (.cells #[.int .i64 W, .bool f, .bool b, .string o, .string v, F, H] 25)) (w.alloc (.cells #[.int .i64 W, .bool f, .bool b, .string o, .string v, F, H] 25))) := Lib.hid (Below.refl _ _)
  clear hL hF hH hz C4
  go_enter Tryd.func3, Tryd.ntmps3
  go_wp2_with fail
  (with_reducible refine (C1.out _ (HF.out.keep (boxed HB0.out).1) (HH.out.keep (boxed HB0.out).1)).mono ?_); rintro e w1 ⟨F', H', rfl, hb1, hf1, hh1⟩
  obtain ⟨aF, nF, cF, rfl⟩ := hf1.slice
  obtain ⟨aH, nH, cH, rfl⟩ := hh1.slice
  have HB1 := Lib.hid (belowStep HB0.out (boxed HB0.out).2.1 hb1)
  have HB2 := Lib.hid (HB1.out.alloc (Nat.succ_le_of_lt (boxed HB1.out).2.1) (.cells #[.int .i64 W, .bool f, .bool b, .string o, .string v, (.slice aF nF cF), (.slice aH nH cH)] 25))
  have HF2 := Lib.hid (hf1.keep ((Below.refl w1.heap.size w1).alloc (Nat.le_refl _) (.cells #[.int .i64 W, .bool f, .bool b, .string o, .string v, (.slice aF nF cF), (.slice aH nH cH)] 25)))
  have HH2 := Lib.hid (hh1.keep ((Below.refl w1.heap.size w1).alloc (Nat.le_refl _) (.cells #[.int .i64 W, .bool f, .bool b, .string o, .string v, (.slice aF nF cF), (.slice aH nH cH)] 25)))
  have HC0 : Hid (Below (w1.heap.size + 1) (w1.alloc (.cells #[.int .i64 W, .bool f, .bool b, .string o, .string v, (.slice aF nF cF), (.slice aH nH cH)] 25)) (w1.alloc (.cells #[.int .i64 W, .bool f, .bool b, .string o, .string v, (.slice aF nF cF), (.slice aH nH cH)] 25))) := Lib.hid (Below.refl _ _)
  have hs1 := (boxed HB1.out).2.1
  clear hb1 hf1 hh1
  obtain ⟨x0, x1, x2, x3, x4, x5, x6⟩ := boxed7 HB1.out
  go_wp2_with fail
  (with_reducible refine (C2.out (.slice aF nF cF) (.slice aH nH cH) _ (HL.out.below (boxed HB2.out).1 h4) HF2.out.held HH2.out.held).mono ?_); rintro e w2 ⟨rfl, hb2⟩
  have HB3 := Lib.hid (belowStep HB2.out (boxed HB2.out).2.1 hb2)
  have HC3 := Lib.hid (belowStep HC0.out (boxed HC0.out).2.1 hb2)
  have HF3 := Lib.hid (HF2.out.keep hb2)
  have HH3 := Lib.hid (HH2.out.keep hb2)
  have hs2 := (boxed HB3.out).2.1
  have ht2 := (boxed HC3.out).2.1
  clear hb2
  obtain ⟨y0, y1, y2, y3, y4, y5, y6⟩ := boxed7 HB3.out
  obtain ⟨u0, u1, u2, u3, u4, u5, u6⟩ := boxed7 HC3.out
  go_wp2_with fail
  (with_reducible refine (C3.out F H _ (HL.out.below (boxed HB3.out).1 h4) (HF.out.keep (boxed HB3.out).1) (HH.out.keep (boxed HB3.out).1)).mono ?_); rintro e w3 ⟨rfl, hb3⟩
  have HB4 := Lib.hid (belowStep HB3.out (boxed HB3.out).2.1 hb3)
  have HC4 := Lib.hid (belowStep HC3.out (boxed HC3.out).2.1 hb3)
  have HF4 := Lib.hid (HF3.out.keep hb3)
  have HH4 := Lib.hid (HH3.out.keep hb3)
  have hs3 := (boxed HB4.out).2.1
  have ht3 := (boxed HC4.out).2.1
  clear hb3
  obtain ⟨v0, v1, v2, v3, v4, v5, v6⟩ := boxed7 HB4.out
  obtain ⟨t0, t1, t2, t3, t4, t5, t6⟩ := boxed7 HC4.out
  have C4 := Lib.hid (mback_calls W f b o v fs hs F H (.slice aF nF cF) (.slice aH nH cH) _ w3 (HF.out.keep (boxed HB4.out).1) (HH.out.keep (boxed HB4.out).1) HF4.out HH4.out hfl hhl)
  go_wp2_with fail
  (with_reducible refine C4.out.mono ?_); rintro e w4 ⟨rfl, hb4⟩
  have HB5 := Lib.hid (belowStep HB4.out (boxed HB4.out).2.1 hb4)
  clear hb4
  go_wp2
  go_ret
  exact ⟨rfl, (boxed HB5.out).1⟩
end Go.Proofs.YtkpfbjlbllpahaaDoor
