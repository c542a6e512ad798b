import Derived.Test.YtcicdgajhheipaaLv1
import Derived.Test.YtcicdgajhheipaaBk15
set_option linter.unusedVariables false
namespace Go.Proofs.Ytcicdgajhheipaa
open Go.RowKit Go.WideMaps Go.Maps Go.MapKept
/-! Records of a book in a store. -/
theorem keyz_size (s k n : Int) : (keyZ s k n).size = 18 := by
  unfold keyZ
  rw [ByteArray.size_append, ByteArray.size_append, pref_size, one_size, be8_size]
theorem keyz_keyed (s k n : Int) : keyedB (keyZ s k n) = true := decide_eq_true (by rw [keyz_size]; omega)
/-- A record in its bounds. -/
structure InB (s k n : Int) : Prop where
  s0 : 0 ≤ s
  s1 : s ≤ 9223372036854775807
  k0 : 1 ≤ k
  k1 : k ≤ 255
  n0 : 0 ≤ n
  n1 : n ≤ 9223372036854775807
set_option maxRecDepth 100000 in
set_option maxHeartbeats 1000000 in
theorem bput_calls {B K g : Nat} (hK : K ≤ 2097152) (s k n : Int) (p : ByteArray) (hb : InB s k n) (hp : p.size ≤ 524288) (w : World) (x : Fld) (hB : B ≤ w.heap.size) (h : Lives B w g x) (hf : Fine K x) :
    Calls Try.prog 20 #[.pointer (some ⟨g, 0, none⟩), .int .i64 s, .int .i64 k, .int .i64 n, .string p] w fun e w' => e = .returned (.int .i64 (putZ x (keyZ s k n) (frameZ k n p)).1) ∧ Lives B w' g (putZ x (keyZ s k n) (frameZ k n p)).2 ∧ Below B w w' := by
  have CK := Lib.hid (fun w => key_calls s k n hb.s0 hb.s1 hb.k0 hb.k1 hb.n0 hb.n1 w)
  have CF := Lib.hid (fun w => frame_calls k n p hb.k0 hb.k1 hb.n0 hb.n1 hp w)
  have hks := keyz_size s k n
  have hfs := frame_size k n p
  have CP := Lib.hid (fun w (hz : B ≤ w.heap.size) (h : Lives B w g x) => put_lives hK (keyZ s k n) (frameZ k n p) (by omega) (by omega) hz h hf)
  have HL := Lib.hid h
  have HB0 := Lib.hid hB
  obtain ⟨kz, hkz⟩ : ∃ z, keyZ s k n = z := ⟨_, rfl⟩
  obtain ⟨fz, hfz⟩ : ∃ z, frameZ k n p = z := ⟨_, rfl⟩
  obtain ⟨y, hy⟩ : ∃ y, putZ x kz fz = y := ⟨_, rfl⟩
  simp only [hkz, hfz, hy] at CK CF CP ⊢
  obtain ⟨ye, yx⟩ := y
  simp only at CP ⊢
  clear hb hp h hf hks hfs hkz hfz hy hB
  go_enter Try.func20, Try.ntmps20
  go_wp2_with (first
    | (go_at_call 10; (with_reducible refine (CK.out _).mono ?_); rintro e w1 ⟨rfl, hb1⟩; have HL1 := Lib.hid (HL.out.keep hb1); have HB1 := Lib.hid hb1; clear hb1)
    | (go_at_call 14; (with_reducible refine (CF.out _).mono ?_); rintro e w2 ⟨rfl, hb2⟩; have HL2 := Lib.hid (HL1.out.keep hb2); have HB2 := Lib.hid (belowThen HB1.out hb2); clear hb2)
    | (go_at_call 38; (with_reducible refine (CP.out _ (Nat.le_trans HB0.out HB2.out.size) HL2.out).mono ?_); rintro e w3 ⟨rfl, hl3, hb3⟩; have HL3 := Lib.hid hl3; have HB3 := Lib.hid ((HB2.out.mono HB0.out).trans hb3); clear hl3 hb3))
  go_ret
  exact ⟨rfl, HL3.out, HB3.out⟩
/-- What a Get of a book answers. -/
def bgetZ (x : Fld) (s k n : Int) : ByteArray × Int :=
  if (getZ x (keyZ s k n)).2 ≠ 0 then (⟨#[]⟩, (getZ x (keyZ s k n)).2) else
    match parseZ (getZ x (keyZ s k n)).1 with
    | .tuple #[.int .i64 j, .int .i64 m, .string p, .int .i64 e] => if e ≠ 0 ∨ j ≠ k ∨ m ≠ n then (⟨#[]⟩, 132) else (p, 0)
    | _ => (⟨#[]⟩, 132)
set_option maxRecDepth 100000 in
set_option maxHeartbeats 1000000 in
/-- A Get that finds a frame. -/
theorem bget_frame {B K g : Nat} (s k n : Int) (p : ByteArray) (hb : InB s k n) (hp : p.size ≤ 524288) (w : World) (x : Fld) (h : Lives B w g x) (hg : getZ x (keyZ s k n) = (frameZ k n p, 0)) :
    Calls Try.prog 23 #[.pointer (some ⟨g, 0, none⟩), .int .i64 s, .int .i64 k, .int .i64 n] w fun e w' => e = .returned (.tuple #[.string p, .int .i64 0]) ∧ Below w.heap.size w w' := by
  have CK := Lib.hid (fun w => key_calls s k n hb.s0 hb.s1 hb.k0 hb.k1 hb.n0 hb.n1 w)
  have hks := keyz_size s k n
  have hfs := frame_size k n p
  have CG := Lib.hid (fun w (h : Lives B w g x) => get_lives (keyZ s k n) (by omega) h)
  simp only [hg] at CG
  have CP := Lib.hid (fun w => parse_any (frameZ k n p) _ (parse_frame k n p hb.k0 hb.k1 hb.n0 hb.n1 hp) (by omega) w)
  have HL := Lib.hid h
  obtain ⟨kz, hkz⟩ : ∃ z, keyZ s k n = z := ⟨_, rfl⟩
  obtain ⟨fz, hfz⟩ : ∃ z, frameZ k n p = z := ⟨_, rfl⟩
  simp only [hkz, hfz] at CK CG CP
  clear hb hp h hks hfs hkz hfz hg
  go_enter Try.func23, Try.ntmps23
  go_wp2_with (first
    | (go_at_call 10; (with_reducible refine (CK.out _).mono ?_); rintro e w1 ⟨rfl, hb1⟩; have HL1 := Lib.hid (HL.out.keep hb1); have HB1 := Lib.hid hb1; clear hb1)
    | (go_at_call 42; (with_reducible refine (CG.out _ HL1.out).mono ?_); rintro e w2 ⟨rfl, rfl⟩)
    | (go_at_call 15; (with_reducible refine (CP.out _).mono ?_); rintro e w3 ⟨rfl, hb3⟩; have HB3 := Lib.hid (belowThen HB1.out hb3); clear hb3))
  go_ret2
  exact ⟨rfl, HB3.out⟩
end Go.Proofs.Ytcicdgajhheipaa
