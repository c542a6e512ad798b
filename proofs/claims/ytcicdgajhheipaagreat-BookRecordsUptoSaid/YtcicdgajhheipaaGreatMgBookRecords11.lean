import Derived.Test.YtcicdgajhheipaaGreatMgBookRecords10
import Derived.Test.YtcicdgajhheipaaGreatMgBookRecords5
import Derived.Test.YtcicdgajhheipaaGreatProg
import Derived.WalkKit
import Derived.Lib.Hide
import Derived.Below
import Derived.Deep.QuietTactic
set_option linter.unusedVariables false
namespace Go.Proofs.YtcicdgajhheipaaGreat
open Go.RowKit Go.WideMaps Go.Maps Go.MapKept
/-! Records of a book in a store. -/
theorem keyz_size (s k n : Int) : (keyZ s k n).size = 18 := by
  unfold keyZ
  rw [ByteArray.size_append, ByteArray.size_append, pref_size, one_size, be8_size]
theorem keyz_keyed (s k n : Int) : keyedB (keyZ s k n) = true := decide_eq_true (by rw [keyz_size]; omega)
/-- A record in its bounds. -/
structure InB (s k n : Int) : Prop where
  s0 : 0 ≤ s
  s1 : s ≤ 9223372036854775807
  k0 : 1 ≤ k
  k1 : k ≤ 255
  n0 : 0 ≤ n
  n1 : n ≤ 9223372036854775807
set_option maxRecDepth 100000 in
set_option maxHeartbeats 1000000 in
theorem bput_calls {B K g : Nat} (hK : K ≤ 2097152) (s k n : Int) (p : ByteArray) (hb : InB s k n) (hp : p.size ≤ 524288) (w : World) (x : Fld) (hB : B ≤ w.heap.size) (h : Lives B w g x) (hf : Fine K x) :
    Calls Tryz.prog 27 #[.pointer (some ⟨g, 0, none⟩), .int .i64 s, .int .i64 k, .int .i64 n, .string p] w fun e w' => e = .returned (.int .i64 (putZ x (keyZ s k n) (frameZ k n p)).1) ∧ Lives B w' g (putZ x (keyZ s k n) (frameZ k n p)).2 ∧ Below B w w' := by
  have CK := Lib.hid (fun w => key_calls s k n hb.s0 hb.s1 hb.k0 hb.k1 hb.n0 hb.n1 w)
  have CF := Lib.hid (fun w => frame_calls k n p hb.k0 hb.k1 hb.n0 hb.n1 hp w)
  have hks := keyz_size s k n
  have hfs := frame_size k n p
  have CP := Lib.hid (fun w (hz : B ≤ w.heap.size) (h : Lives B w g x) => put_lives hK (keyZ s k n) (frameZ k n p) (by omega) (by omega) hz h hf)
  have HL := Lib.hid h
  have HB0 := Lib.hid hB
  obtain ⟨kz, hkz⟩ : ∃ z, keyZ s k n = z := ⟨_, rfl⟩
  obtain ⟨fz, hfz⟩ : ∃ z, frameZ k n p = z := ⟨_, rfl⟩
  obtain ⟨y, hy⟩ : ∃ y, putZ x kz fz = y := ⟨_, rfl⟩
  simp only [hkz, hfz, hy] at CK CF CP ⊢
  obtain ⟨ye, yx⟩ := y
  simp only at CP ⊢
  clear hb hp h hf hks hfs hkz hfz hy hB
  go_enter Tryz.func27, Tryz.ntmps27
  go_wp2_with (first
    | (go_at_call 59; (with_reducible refine (CK.out _).mono ?_); rintro e w1 ⟨rfl, hb1⟩; have HL1 := Lib.hid (HL.out.keep hb1); have HB1 := Lib.hid hb1; clear hb1)
    | (go_at_call 60; (with_reducible refine (CF.out _).mono ?_); rintro e w2 ⟨rfl, hb2⟩; have HL2 := Lib.hid (HL1.out.keep hb2); have HB2 := Lib.hid (belowThen HB1.out hb2); clear hb2)
    | (go_at_call 35; (with_reducible refine (CP.out _ (Nat.le_trans HB0.out HB2.out.size) HL2.out).mono ?_); rintro e w3 ⟨rfl, hl3, hb3⟩; have HL3 := Lib.hid hl3; have HB3 := Lib.hid ((HB2.out.mono HB0.out).trans hb3); clear hl3 hb3))
  go_ret
  exact ⟨rfl, HL3.out, HB3.out⟩
/-- What a Get of a book answers. -/
def bgetZ (x : Fld) (s k n : Int) : ByteArray × Int :=
  if (getZ x (keyZ s k n)).2 ≠ 0 then (⟨#[]⟩, (getZ x (keyZ s k n)).2) else
    match parseZ (getZ x (keyZ s k n)).1 with
    | .tuple #[.int .i64 j, .int .i64 m, .string p, .int .i64 e] => if e ≠ 0 ∨ j ≠ k ∨ m ≠ n then (⟨#[]⟩, 132) else (p, 0)
    | _ => (⟨#[]⟩, 132)
set_option maxRecDepth 100000 in
set_option maxHeartbeats 1000000 in
/-- A Get that finds a frame. -/
theorem bget_frame {B K g : Nat} (s k n : Int) (p : ByteArray) (hb : InB s k n) (hp : p.size ≤ 524288) (w : World) (x : Fld) (h : Lives B w g x) (hg : getZ x (keyZ s k n) = (frameZ k n p, 0)) :
    Calls Tryz.prog 29 #[.pointer (some ⟨g, 0, none⟩), .int .i64 s, .int .i64 k, .int .i64 n] w fun e w' => e = .returned (.tuple #[.string p, .int .i64 0]) ∧ Below w.heap.size w w' := by
  have CK := Lib.hid (fun w => key_calls s k n hb.s0 hb.s1 hb.k0 hb.k1 hb.n0 hb.n1 w)
  have hks := keyz_size s k n
  have hfs := frame_size k n p
  have CG := Lib.hid (fun w (h : Lives B w g x) => get_lives (keyZ s k n) (by omega) h)
  simp only [hg] at CG
  have CP := Lib.hid (fun w => parse_any (frameZ k n p) _ (parse_frame k n p hb.k0 hb.k1 hb.n0 hb.n1 hp) (by omega) w)
  have HL := Lib.hid h
  obtain ⟨kz, hkz⟩ : ∃ z, keyZ s k n = z := ⟨_, rfl⟩
  obtain ⟨fz, hfz⟩ : ∃ z, frameZ k n p = z := ⟨_, rfl⟩
  simp only [hkz, hfz] at CK CG CP
  clear hb hp h hks hfs hkz hfz hg
  go_enter Tryz.func29, Tryz.ntmps29
  go_wp2_with (first
    | (go_at_call 59; (with_reducible refine (CK.out _).mono ?_); rintro e w1 ⟨rfl, hb1⟩; have HL1 := Lib.hid (HL.out.keep hb1); have HB1 := Lib.hid hb1; clear hb1)
    | (go_at_call 61; (with_reducible refine (CG.out _ HL1.out).mono ?_); rintro e w2 ⟨rfl, rfl⟩)
    | (go_at_call 62; (with_reducible refine (CP.out _).mono ?_); rintro e w3 ⟨rfl, hb3⟩; have HB3 := Lib.hid (belowThen HB1.out hb3); clear hb3))
  go_ret2
  exact ⟨rfl, HB3.out⟩
end Go.Proofs.YtcicdgajhheipaaGreat

set_option linter.unusedVariables false
namespace Go.Proofs.YtcicdgajhheipaaGreat
open Go.RowKit
/-- A list of one-cell elements that came in: a slice whose cells are xs. -/
def Held (w : World) (v : Value) (xs : List Value) : Prop :=
  ∃ a cap, v = .slice a xs.length cap ∧ xs.length ≤ cap ∧ (xs ≠ [] → ∃ g o, a = some ⟨g, o, none⟩ ∧ g < w.heap.size ∧ ∀ j (h : j < xs.length), w.cell? ⟨g, o + j, none⟩ = some xs[j])
theorem Held.nil (w : World) : Held w (.slice none 0 0) [] := ⟨none, 0, rfl, Nat.le_refl _, fun h => absurd rfl h⟩
theorem Held.keep {w w' : World} {v : Value} {xs : List Value} (h : Held w v xs) (hb : Below w.heap.size w w') : Held w' v xs := by
  obtain ⟨a, cap, rfl, hc, hx⟩ := h
  refine ⟨a, cap, rfl, hc, fun hne => ?_⟩
  obtain ⟨g, o, rfl, hg, hcs⟩ := hx hne
  exact ⟨g, o, rfl, Nat.lt_of_lt_of_le hg hb.size, fun j hj => (hb.cell (p := ⟨g, o + j, none⟩) hg).trans (hcs j hj)⟩
theorem Held.alloc {w : World} {v : Value} {xs : List Value} (h : Held w v xs) (o : Obj) : Held (w.alloc o) v xs := h.keep ((Below.refl _ _).alloc (Nat.le_refl _) o)
theorem Held.below {w w' : World} {B : Nat} {v : Value} {xs : List Value} (h : Held w v xs) (hs : w.heap.size ≤ B) (hb : Below B w w') : Held w' v xs := h.keep (hb.mono hs)
def bV (l : List Bool) : List Value := l.map Value.bool
def tV (l : List ByteArray) : List Value := l.map Value.string
def iV (l : List Int) : List Value := l.map (Value.int .i64)
theorem bV_len (l : List Bool) : (bV l).length = l.length := by simp [bV]
theorem tV_len (l : List ByteArray) : (tV l).length = l.length := by simp [tV]
theorem iV_len (l : List Int) : (iV l).length = l.length := by simp [iV]
theorem bV_ne {l : List Bool} (j : Nat) (h : j < l.length) : bV l ≠ [] := by intro e; have := bV_len l; rw [e] at this; simp at this; omega
theorem tV_ne {l : List ByteArray} (j : Nat) (h : j < l.length) : tV l ≠ [] := by intro e; have := tV_len l; rw [e] at this; simp at this; omega
theorem iV_ne {l : List Int} (j : Nat) (h : j < l.length) : iV l ≠ [] := by intro e; have := iV_len l; rw [e] at this; simp at this; omega
theorem Held.bool {w : World} {v : Value} {l : List Bool} (h : Held w v (bV l)) : ∃ a cap, v = .slice a l.length cap ∧ l.length ≤ cap ∧ ∀ j (hj : j < l.length), ∃ g o, a = some ⟨g, o, none⟩ ∧ g < w.heap.size ∧ w.cell? ⟨g, o + j, none⟩ = some (.bool l[j]) := by
  obtain ⟨a, cap, rfl, hc, hx⟩ := h
  rw [bV_len] at hc ⊢
  refine ⟨a, cap, rfl, hc, fun j hj => ?_⟩
  obtain ⟨g, o, ha, hg, hcs⟩ := hx (bV_ne j hj)
  exact ⟨g, o, ha, hg, by rw [hcs j (by rw [bV_len]; exact hj)]; simp [bV]⟩
theorem Held.text {w : World} {v : Value} {l : List ByteArray} (h : Held w v (tV l)) : ∃ a cap, v = .slice a l.length cap ∧ l.length ≤ cap ∧ ∀ j (hj : j < l.length), ∃ g o, a = some ⟨g, o, none⟩ ∧ g < w.heap.size ∧ w.cell? ⟨g, o + j, none⟩ = some (.string l[j]) := by
  obtain ⟨a, cap, rfl, hc, hx⟩ := h
  rw [tV_len] at hc ⊢
  refine ⟨a, cap, rfl, hc, fun j hj => ?_⟩
  obtain ⟨g, o, ha, hg, hcs⟩ := hx (tV_ne j hj)
  exact ⟨g, o, ha, hg, by rw [hcs j (by rw [tV_len]; exact hj)]; simp [tV]⟩
theorem Held.int {w : World} {v : Value} {l : List Int} (h : Held w v (iV l)) : ∃ a cap, v = .slice a l.length cap ∧ l.length ≤ cap ∧ ∀ j (hj : j < l.length), ∃ g o, a = some ⟨g, o, none⟩ ∧ g < w.heap.size ∧ w.cell? ⟨g, o + j, none⟩ = some (.int .i64 l[j]) := by
  obtain ⟨a, cap, rfl, hc, hx⟩ := h
  rw [iV_len] at hc ⊢
  refine ⟨a, cap, rfl, hc, fun j hj => ?_⟩
  obtain ⟨g, o, ha, hg, hcs⟩ := hx (iV_ne j hj)
  exact ⟨g, o, ha, hg, by rw [hcs j (by rw [iV_len]; exact hj)]; simp [iV]⟩
theorem belowDrewN {B : Nat} {w W : World} (h : Below B w W) (n : Nat) : Below B w (W.drewN n) := ⟨h.os, h.tape, h.output, h.size, h.block⟩
end Go.Proofs.YtcicdgajhheipaaGreat
