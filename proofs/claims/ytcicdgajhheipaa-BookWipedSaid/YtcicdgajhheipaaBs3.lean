import Derived.Test.YtcicdgajhheipaaBs2
set_option linter.unusedVariables false
namespace Go.Proofs.Ytcicdgajhheipaa
open Go.RowKit Go.WideMaps Go.Maps Go.MapKept
set_option maxRecDepth 100000 in
set_option maxHeartbeats 1000000 in
theorem bput_aprt {B K g : Nat} {v : Value} {l : List ByteArray} (hK : K ≤ 2097152) (s k n : Int) (p : ByteArray) (hb : InB s k n) (hp : p.size ≤ 524288) (w : World) (x : Fld) (hB : B ≤ w.heap.size) (h : AprtS B w g x v l) (hf : Fine K x) :
    Calls Try.prog 20 #[.pointer (some ⟨g, 0, none⟩), .int .i64 s, .int .i64 k, .int .i64 n, .string p] w fun e w' => e = .returned (.int .i64 (putZ x (keyZ s k n) (frameZ k n p)).1) ∧ AprtS B w' g (putZ x (keyZ s k n) (frameZ k n p)).2 v l ∧ Below B w w' := by
  have CK := Lib.hid (fun w => key_calls s k n hb.s0 hb.s1 hb.k0 hb.k1 hb.n0 hb.n1 w)
  have CF := Lib.hid (fun w => frame_calls k n p hb.k0 hb.k1 hb.n0 hb.n1 hp w)
  have hks := keyz_size s k n
  have hfs := frame_size k n p
  have CP := Lib.hid (fun w (hz : B ≤ w.heap.size) (h : AprtS B w g x v l) => aprt_put hK (keyZ s k n) (frameZ k n p) (by omega) (by omega) hz h hf)
  have HL := Lib.hid h
  have HB0 := Lib.hid hB
  obtain ⟨kz, hkz⟩ : ∃ z, keyZ s k n = z := ⟨_, rfl⟩
  obtain ⟨fz, hfz⟩ : ∃ z, frameZ k n p = z := ⟨_, rfl⟩
  obtain ⟨y, hy⟩ : ∃ y, putZ x kz fz = y := ⟨_, rfl⟩
  simp only [hkz, hfz, hy] at CK CF CP ⊢
  obtain ⟨ye, yx⟩ := y
  simp only at CP ⊢
  clear hb hp h hf hks hfs hkz hfz hy hB
  go_enter Try.func20, Try.ntmps20
  go_wp2_with (first
    | (go_at_call 10; (with_reducible refine (CK.out _).mono ?_); rintro e w1 ⟨rfl, hb1⟩; have HL1 := Lib.hid (HL.out.keep hb1); have HB1 := Lib.hid hb1; clear hb1)
    | (go_at_call 14; (with_reducible refine (CF.out _).mono ?_); rintro e w2 ⟨rfl, hb2⟩; have HL2 := Lib.hid (HL1.out.keep hb2); have HB2 := Lib.hid (belowThen HB1.out hb2); clear hb2)
    | (go_at_call 38; (with_reducible refine (CP.out _ (Nat.le_trans HB0.out HB2.out.size) HL2.out).mono ?_); rintro e w3 ⟨rfl, hl3, hb3⟩; have HL3 := Lib.hid hl3; have HB3 := Lib.hid ((HB2.out.mono HB0.out).trans hb3); clear hl3 hb3))
  go_ret
  exact ⟨rfl, HL3.out, HB3.out⟩
theorem key_ne {s k n m : Int} (hb : InB s k n) (hb2 : InB s k m) (h : n ≠ m) : keyZ s k n ≠ keyZ s k m := by
  intro e
  exact h ((key_law s k n s k m hb.s0 hb.s1 hb.n0 hb.n1 hb.s0 hb.s1 hb2.n0 hb2.n1 hb.k0 hb.k1 hb.k0 hb.k1).1.1 (by rw [e])).2.2
def besideZ (n : Int) : Int := if n = 0 then 1 else n - 1
theorem beside_calls (n : Int) (h0 : 0 ≤ n) (h1 : n ≤ 9223372036854775807) (w : World) : Calls Try.prog 21 #[.int .i64 n] w fun e w' => e = .returned (.int .i64 (besideZ n)) ∧ w = w' := by
  unfold besideZ
  by_cases h : n = 0
  · subst h
    rw [if_pos rfl]
    go_enter Try.func21, Try.ntmps21
    go_wp2
    go_ret
    exact ⟨rfl, rfl⟩
  · rw [if_neg h]
    have hq : (n == 0) = false := by rw [beq_eq_false_iff_ne]; exact h
    have hw : wrap64 (n - 1) = n - 1 := IntWalk.wrap64_in _ (by omega)
    clear h
    go_enter Try.func21, Try.ntmps21
    go_wp2
    go_ret
    exact ⟨rfl, rfl⟩
end Go.Proofs.Ytcicdgajhheipaa
