import Derived.Test.YtcicdgajhheipaaBk4
set_option linter.unusedVariables false
namespace Go.Proofs.Ytcicdgajhheipaa
open Go.RowKit
/-- A number in eight bytes or in four. -/
def beZ (size v : Int) : ByteArray := if size = 8 then be8Z v else be4Z v
theorem be_size8 (v : Int) : (beZ 8 v).size = 8 := be8_size v
theorem be_size4 (v : Int) : (beZ 4 v).size = 4 := be4_size v
theorem putbe_both (v z : Int) (h : (z = 8 ∧ 0 ≤ v) ∨ (z = 4 ∧ 0 ≤ v ∧ v ≤ 4294967295)) (w : World) : Calls Try.prog 28 #[.int .u64 v, .int .i64 z] w fun e w' => e = .returned (.tuple #[.string (beZ z v), .int .i64 0]) ∧ Below w.heap.size w w' := by
  rcases h with ⟨rfl, h⟩ | ⟨rfl, h, h'⟩
  · exact putbe_calls v h w
  · exact putbe4_calls v h h' w
/-- A frame ahead of its sum. -/
def bodyZ (k n : Int) (p : ByteArray) : ByteArray := strOfNums [165, k] ++ beZ 8 n ++ beZ 4 p.size ++ p
def frameZ (k n : Int) (p : ByteArray) : ByteArray := bodyZ k n p ++ beZ 4 (crcZ (bodyZ k n p) : Nat)
theorem two_size (k : Int) : (strOfNums [165, k]).size = 2 := by rw [strOfNums_size]; rfl
theorem body_size (k n : Int) (p : ByteArray) : (bodyZ k n p).size = 14 + p.size := by
  unfold bodyZ; rw [ByteArray.size_append, ByteArray.size_append, ByteArray.size_append, two_size, be_size8, be_size4]
theorem frame_size (k n : Int) (p : ByteArray) : (frameZ k n p).size = 18 + p.size := by
  unfold frameZ; rw [ByteArray.size_append, body_size, be_size4]; omega
set_option maxRecDepth 100000 in
set_option maxHeartbeats 1000000 in
theorem frame_calls (k n : Int) (p : ByteArray) (k1 : 1 ≤ k) (k2 : k ≤ 255) (n0 : 0 ≤ n) (n1 : n ≤ 9223372036854775807) (hp : p.size ≤ 524288) (w : World) : Calls Try.prog 14 #[.int .i64 k, .int .i64 n, .string p] w fun e w' => e = .returned (.tuple #[.string (frameZ k n p), .int .i64 0]) ∧ Below w.heap.size w w' := by
  have hk : IntKind.u8.wrap k = k := by rw [IntKind.wrap_u8]; omega
  have hcv : ∀ (w : World) (x0 x1 : Int), (convert 34 9 (.slice (some ⟨w.heap.size, 0, none⟩) 2 2)).run Try.prog (w.alloc (.cells #[.int .u8 x0, .int .u8 x1] 5)) = .ok (.string (strOfNums [x0, x1])) (w.alloc (.cells #[.int .u8 x0, .int .u8 x1] 5)) :=
    fun w x0 x1 => conv_row w [x0, x1] 2 rfl 2
  have s2 := two_size k
  have s8 := be_size8 n
  have s4 := be_size4 p.size
  have hbd : (strOfNums [165, k] ++ beZ 8 n ++ beZ 4 p.size ++ p).size = 14 + p.size := body_size k n p
  have hcr := crcZ_lt (strOfNums [165, k] ++ beZ 8 n ++ beZ 4 p.size ++ p)
  have s4' := be_size4 (crcZ (strOfNums [165, k] ++ beZ 8 n ++ beZ 4 p.size ++ p) : Nat)
  go_enter Try.func14, Try.ntmps14
  go_wp2_with (first
    | (go_at_call 28; refine (putbe_both _ _ ?_ _).mono ?_ <;> first | omega | (rintro e w1 ⟨rfl, hb⟩))
    | (go_at_call 30; refine (crc_calls _ ?_ _).mono ?_ <;> first | omega | (rintro e w1 ⟨rfl, hb⟩)))
  go_ret2
  refine ⟨rfl, ?_⟩
  rename_i a b c d
  exact belowThen (by assumption) (belowThen (by assumption) (belowThen ((Below.refl _ _).alloc (Nat.le_refl _) _) (belowThen (by assumption) (by assumption))))
end Go.Proofs.Ytcicdgajhheipaa
