import Derived.Test.YtcicdgajhheipaaBookRef2
import Derived.Test.YtcicdgajhheipaaBookRef3
set_option linter.unusedVariables false
namespace Go.Proofs.Ytcicdgajhheipaa
open Go.RowKit
attribute [local irreducible] parseZ frameZ keyZ
theorem parse_shape (b : ByteArray) : ∃ (x n c : Int) (p : ByteArray), parseZ b = .tuple #[.int .i64 x, .int .i64 n, .string p, .int .i64 c] := by
  unfold parseZ; split <;> exact ⟨_, _, _, _, rfl⟩
/-- Both programs' answer, whatever is asked: the same. -/
theorem key_both (s k n : Int) (hs : s ≤ 9223372036854775807) (hn : n ≤ 9223372036854775807) : ∃ (y : ByteArray) (c : Int), (∀ w, Calls Try.prog 10 #[.int .i64 s, .int .i64 k, .int .i64 n] w fun e w' => e = .returned (.tuple #[.string y, .int .i64 c]) ∧ Below w.heap.size w w') ∧
    (∀ w, Calls Try.prog 16 #[.int .i64 s, .int .i64 k, .int .i64 n] w fun e w' => e = .returned (.tuple #[.string y, .int .i64 c]) ∧ Below w.heap.size w w') := by
  by_cases h : keyOk s k n
  · obtain ⟨a, b, c, d⟩ := h
    exact ⟨_, _, fun w => key_calls s k n a hs b c d hn w, fun w => refKey_calls s k n a hs b c d hn w⟩
  · exact ⟨_, _, fun w => (key_bad s k n h w).mono fun e w' ⟨he, hw⟩ => ⟨he, hw ▸ Below.refl _ _⟩, fun w => (refKey_bad s k n h w).mono fun e w' ⟨he, hw⟩ => ⟨he, hw ▸ Below.refl _ _⟩⟩
theorem frame_both (k n : Int) (p : ByteArray) (hn : n ≤ 9223372036854775807) : ∃ (y : ByteArray) (c : Int), (∀ w, Calls Try.prog 14 #[.int .i64 k, .int .i64 n, .string p] w fun e w' => e = .returned (.tuple #[.string y, .int .i64 c]) ∧ Below w.heap.size w w') ∧
    (∀ w, Calls Try.prog 17 #[.int .i64 k, .int .i64 n, .string p] w fun e w' => e = .returned (.tuple #[.string y, .int .i64 c]) ∧ Below w.heap.size w w') := by
  by_cases h : 1 ≤ k ∧ k ≤ 255 ∧ 0 ≤ n
  · obtain ⟨b, c, d⟩ := h
    rcases Nat.lt_or_ge 524288 p.size with hp | hp
    · exact ⟨_, _, fun w => (frame_big k n p b c d (by omega) w).mono fun e w' ⟨he, hw⟩ => ⟨he, hw ▸ Below.refl _ _⟩, fun w => (refFrame_big k n p b c d (by omega) w).mono fun e w' ⟨he, hw⟩ => ⟨he, hw ▸ Below.refl _ _⟩⟩
    · exact ⟨_, _, fun w => frame_calls k n p b c d hn hp w, fun w => refFrame_calls k n p b c d hn hp w⟩
  · exact ⟨_, _, fun w => (frame_bad k n p h w).mono fun e w' ⟨he, hw⟩ => ⟨he, hw ▸ Below.refl _ _⟩, fun w => (refFrame_bad k n p h w).mono fun e w' ⟨he, hw⟩ => ⟨he, hw ▸ Below.refl _ _⟩⟩
set_option maxRecDepth 100000 in
set_option maxHeartbeats 1000000 in
theorem frames_core (s k n : Int) (p b y1 y2 p3 : ByteArray) (d1 d2 x3 n3 c3 : Int) (w : World)
    (c10 : ∀ w, Calls Try.prog 10 #[.int .i64 s, .int .i64 k, .int .i64 n] w fun e w' => e = .returned (.tuple #[.string y1, .int .i64 d1]) ∧ Below w.heap.size w w')
    (c16 : ∀ w, Calls Try.prog 16 #[.int .i64 s, .int .i64 k, .int .i64 n] w fun e w' => e = .returned (.tuple #[.string y1, .int .i64 d1]) ∧ Below w.heap.size w w')
    (c14 : ∀ w, Calls Try.prog 14 #[.int .i64 k, .int .i64 n, .string p] w fun e w' => e = .returned (.tuple #[.string y2, .int .i64 d2]) ∧ Below w.heap.size w w')
    (c17 : ∀ w, Calls Try.prog 17 #[.int .i64 k, .int .i64 n, .string p] w fun e w' => e = .returned (.tuple #[.string y2, .int .i64 d2]) ∧ Below w.heap.size w w')
    (c15 : ∀ w, Calls Try.prog 15 #[.string b] w fun e w' => e = .returned (.tuple #[.int .i64 x3, .int .i64 n3, .string p3, .int .i64 c3]) ∧ Below w.heap.size w w')
    (c18 : ∀ w, Calls Try.prog 18 #[.string b] w fun e w' => e = .returned (.tuple #[.int .i64 x3, .int .i64 n3, .string p3, .int .i64 c3]) ∧ Below w.heap.size w w') :
    Calls Try.prog 7 #[.int .i64 s, .int .i64 k, .int .i64 n, .string p, .string b] w fun e w' => e = .returned (.bool true) ∧ Below w.heap.size w w' := by
  go_enter Try.func7, Try.ntmps7
  go_wp2_with (first
    | (go_at_call 10; refine (c10 _).mono ?_; rintro e w1 ⟨rfl, hb1⟩)
    | (go_at_call 16; refine (c16 _).mono ?_; rintro e w2 ⟨rfl, hb2⟩)
    | (go_at_call 14; refine (c14 _).mono ?_; rintro e w3 ⟨rfl, hb3⟩)
    | (go_at_call 17; refine (c17 _).mono ?_; rintro e w4 ⟨rfl, hb4⟩)
    | (go_at_call 15; refine (c15 _).mono ?_; rintro e w5 ⟨rfl, hb5⟩)
    | (go_at_call 18; refine (c18 _).mono ?_; rintro e w6 ⟨rfl, hb6⟩))
  go_ret
  exact ⟨rfl, belowThen hb1 (belowThen hb2 (belowThen hb3 (belowThen hb4 (belowThen hb5 hb6))))⟩
theorem bookFrames_walk (s k n : Int) (p b : ByteArray) (h0 : -9223372036854775808 ≤ s ∧ s ≤ 9223372036854775807) (h1 : -9223372036854775808 ≤ k ∧ k ≤ 9223372036854775807) (h2 : -9223372036854775808 ≤ n ∧ n ≤ 9223372036854775807)
    (hp : p.size ≤ 140737488351232) (hb : b.size ≤ 140737488351232) (w : World) :
    Calls Try.prog 7 #[.int .i64 s, .int .i64 k, .int .i64 n, .string p, .string b] w fun e w' => e = .returned (.bool true) ∧ Below w.heap.size w w' := by
  obtain ⟨y1, d1, c10, c16⟩ := key_both s k n h0.2 h2.2
  obtain ⟨y2, d2, c14, c17⟩ := frame_both k n p h2.2
  obtain ⟨x3, n3, c3, p3, hq⟩ := parse_shape b
  have c15 := fun w => parse_calls b (by omega) w
  have c18 := fun w => refParse_calls b (by omega) w
  rw [hq] at c15 c18
  exact frames_core s k n p b y1 y2 p3 d1 d2 x3 n3 c3 w c10 c16 c14 c17 c15 c18
end Go.Proofs.Ytcicdgajhheipaa
