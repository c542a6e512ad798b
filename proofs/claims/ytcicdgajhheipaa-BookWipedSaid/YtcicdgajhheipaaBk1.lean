import Derived.Test.YtcicdgajhheipaaProg
import Derived.WalkKit
import Derived.WalkSpells
import Derived.WalkLawsBesides
import Derived.Lib.Hide
import Derived.Handy
import Derived.Deep.RegionWith
import Derived.Laws.BytesArg
set_option linter.unusedVariables false
namespace Go.Proofs.Ytcicdgajhheipaa
open Go.RowKit
theorem fits_calls (a b : Int) (w : World) : Calls Try.prog 50 #[.int .u64 a, .int .u64 b] w fun e w' => e = .returned (.bool (decide (a ≤ b))) ∧ w = w' := by
  go_enter Try.func50, Try.ntmps50
  go_wp2
  go_ret
  exact ⟨rfl, rfl⟩
theorem belowThen {w w1 w2 : World} (h : Below w.heap.size w w1) (k : Below w1.heap.size w1 w2) : Below w.heap.size w w2 := h.trans (k.mono h.size)
theorem make8 (w : World) : (Instr.makeSlice 34 (.int .i64 8) (.int .i64 8)).run Try.prog w = .ok (.slice (some ⟨w.heap.size, 0, none⟩) 8 8) (w.alloc (.cells #[.int .u8 0, .int .u8 0, .int .u8 0, .int .u8 0, .int .u8 0, .int .u8 0, .int .u8 0, .int .u8 0] 5)) := by kernel_rfl
theorem make4 (w : World) : (Instr.makeSlice 34 (.int .i64 4) (.int .i64 4)).run Try.prog w = .ok (.slice (some ⟨w.heap.size, 0, none⟩) 4 4) (w.alloc (.cells #[.int .u8 0, .int .u8 0, .int .u8 0, .int .u8 0] 5)) := by kernel_rfl
/-- A row of bytes that was just laid, as a string. -/
theorem conv_row (w : World) (xs : List Int) (n : Nat) (hn : xs.length = n) (c : Nat) :
    (convert 34 9 (.slice (some ⟨w.heap.size, 0, none⟩) n c)).run Try.prog (w.alloc (.cells (xs.map (Value.int .u8)).toArray 5)) = .ok (.string (strOfNums xs)) (w.alloc (.cells (xs.map (Value.int .u8)).toArray 5)) := by
  refine run_convert_bytes_arg _ 34 5 Try.underlying34 Try.underlying5 w.heap.size 0 n c xs hn (fun i hi => ?_) 9 Try.underlying9
  rw [World.cell?_alloc_new]
  simp [List.getElem?_eq_getElem (show i < xs.length by omega), List.getD_eq_getElem?_getD]
def kbe8L (v : Int) : List Int := [v / 72057594037927936 % 256, v / 281474976710656 % 256, v / 1099511627776 % 256, v / 4294967296 % 256, v / 16777216 % 256, v / 65536 % 256, v / 256 % 256, v % 256]
def kbe4L (v : Int) : List Int := [v / 16777216 % 256, v / 65536 % 256, v / 256 % 256, v % 256]
/-- A number in eight bytes. -/
def be8Z (v : Int) : ByteArray := strOfNums (kbe8L v)
def be4Z (v : Int) : ByteArray := strOfNums (kbe4L v)
set_option maxRecDepth 100000 in
set_option maxHeartbeats 4000000 in
theorem putbe_calls (v : Int) (h0 : 0 ≤ v) (w : World) : Calls Try.prog 28 #[.int .u64 v, .int .i64 8] w fun e w' => e = .returned (.tuple #[.string (be8Z v), .int .i64 0]) ∧ Below w.heap.size w w' := by
  have hm := make8
  have hcv : ∀ (w : World) (x0 x1 x2 x3 x4 x5 x6 x7 : Int), (convert 34 9 (.slice (some ⟨w.heap.size, 0, none⟩) 8 8)).run Try.prog (w.alloc (.cells #[.int .u8 x0, .int .u8 x1, .int .u8 x2, .int .u8 x3, .int .u8 x4, .int .u8 x5, .int .u8 x6, .int .u8 x7] 5)) = .ok (.string (strOfNums [x0, x1, x2, x3, x4, x5, x6, x7])) (w.alloc (.cells #[.int .u8 x0, .int .u8 x1, .int .u8 x2, .int .u8 x3, .int .u8 x4, .int .u8 x5, .int .u8 x6, .int .u8 x7] 5)) :=
    fun w x0 x1 x2 x3 x4 x5 x6 x7 => conv_row w [x0, x1, x2, x3, x4, x5, x6, x7] 8 rfl 8
  go_enter Try.func28, Try.ntmps28
  go_wp2
  go_rounds 9
  go_ret2
  exact ⟨rfl, (Below.refl _ _).alloc (Nat.le_refl _) _⟩
set_option maxRecDepth 100000 in
set_option maxHeartbeats 4000000 in
theorem putbe4_calls (v : Int) (h0 : 0 ≤ v) (h1 : v ≤ 4294967295) (w : World) : Calls Try.prog 28 #[.int .u64 v, .int .i64 4] w fun e w' => e = .returned (.tuple #[.string (be4Z v), .int .i64 0]) ∧ Below w.heap.size w w' := by
  have hm := make4
  have hcv : ∀ (w : World) (x0 x1 x2 x3 : Int), (convert 34 9 (.slice (some ⟨w.heap.size, 0, none⟩) 4 4)).run Try.prog (w.alloc (.cells #[.int .u8 x0, .int .u8 x1, .int .u8 x2, .int .u8 x3] 5)) = .ok (.string (strOfNums [x0, x1, x2, x3])) (w.alloc (.cells #[.int .u8 x0, .int .u8 x1, .int .u8 x2, .int .u8 x3] 5)) :=
    fun w x0 x1 x2 x3 => conv_row w [x0, x1, x2, x3] 4 rfl 4
  go_enter Try.func28, Try.ntmps28
  have he : be4Z v = strOfNums [v / 16777216, v / 65536 % 256, v / 256 % 256, v % 256] := by
    unfold be4Z kbe4L; rw [Int.emod_eq_of_lt (show 0 ≤ v / 16777216 by omega) (by omega)]
  have HE := Lib.hid he
  clear he
  go_wp2_with (go_at_call 50; refine (fits_calls _ _ _).mono ?_; rintro e w1 ⟨rfl, rfl⟩)
  go_rounds 9
  go_ret2
  exact ⟨show Ending.returned (.tuple #[.string (strOfNums [v / 16777216, v / 65536 % 256, v / 256 % 256, v % 256]), .int .i64 0]) = _ from by rw [HE.out], (Below.refl _ _).alloc (Nat.le_refl _) _⟩
theorem bcell {W w1 : World} (hb : Below W.heap.size W w1) : (∀ b o, b < W.heap.size → w1.cell? ⟨b, o, none⟩ = W.cell? ⟨b, o, none⟩) ∧ (∀ b o, b < W.heap.size → w1.frozen? ⟨b, o, none⟩ = W.frozen? ⟨b, o, none⟩) :=
  ⟨fun b o h => hb.cell (p := ⟨b, o, none⟩) h, fun b o h => hb.frozen (p := ⟨b, o, none⟩) h⟩
theorem be8_size (v : Int) : (be8Z v).size = 8 := by unfold be8Z; rw [strOfNums_size]; rfl
theorem be4_size (v : Int) : (be4Z v).size = 4 := by unfold be4Z; rw [strOfNums_size]; rfl
/-- How the keys of a space begin. -/
def prefZ (s : Int) : ByteArray := (⟨#[66]⟩ : ByteArray) ++ be8Z s
theorem pref_size (s : Int) : (prefZ s).size = 9 := by
  unfold prefZ; rw [ByteArray.size_append, be8_size]; rfl
/-- A byte as a string. -/
def oneZ (k : Int) : ByteArray := strOfNums [k]
theorem one_size (k : Int) : (oneZ k).size = 1 := by unfold oneZ; rw [strOfNums_size]; rfl
/-- The key of a record. -/
def keyZ (s k n : Int) : ByteArray := prefZ s ++ oneZ k ++ be8Z n
set_option maxRecDepth 100000 in
set_option maxHeartbeats 400000 in
theorem prefix_calls (s : Int) (h0 : 0 ≤ s) (h1 : s ≤ 9223372036854775807) (w : World) : Calls Try.prog 29 #[.int .i64 s] w fun e w' => e = .returned (.string (prefZ s)) ∧ Below w.heap.size w w' := by
  have hs := be8_size s
  go_enter Try.func29, Try.ntmps29
  go_wp2_with (go_at_call 28; refine (putbe_calls _ h0 _).mono ?_; rintro e w1 ⟨rfl, hb1⟩)
  go_ret
  exact ⟨rfl, hb1⟩
set_option maxRecDepth 100000 in
set_option maxHeartbeats 1000000 in
theorem key_calls (s k n : Int) (h0 : 0 ≤ s) (h1 : s ≤ 9223372036854775807) (k1 : 1 ≤ k) (k2 : k ≤ 255) (n0 : 0 ≤ n) (n1 : n ≤ 9223372036854775807) (w : World) :
    Calls Try.prog 10 #[.int .i64 s, .int .i64 k, .int .i64 n] w fun e w' => e = .returned (.tuple #[.string (keyZ s k n), .int .i64 0]) ∧ Below w.heap.size w w' := by
  have hs := be8_size n
  have hp := pref_size s
  have ho := one_size k
  have hk : IntKind.u8.wrap k = k := by rw [IntKind.wrap_u8]; omega
  have hcv : ∀ (w : World) (b : Nat), w.cell? ⟨b, 0, none⟩ = some (.int .u8 k) → (convert 34 9 (.slice (some ⟨b, 0, none⟩) 1 1)).run Try.prog w = .ok (.string (oneZ k)) w :=
    fun w b hc => run_convert_bytes_arg w 34 5 Try.underlying34 Try.underlying5 b 0 1 1 [k] rfl (fun i hi => by
      obtain rfl : i = 0 := by omega
      exact hc) 9 Try.underlying9
  go_enter Try.func10, Try.ntmps10
  go_wp2_with (go_at_call 28; refine (putbe_calls _ n0 _).mono ?_; rintro e w1 ⟨rfl, hb1⟩)
  go_region_with (go_at_call 29; refine (prefix_calls _ h0 h1 _).mono ?_; rintro e w2 ⟨rfl, hb2⟩; obtain ⟨hc2, hf2⟩ := bcell hb2)
  all_goals go_wp2
  all_goals go_ret2
  all_goals refine ⟨rfl, ?_⟩
  all_goals first
    | exact belowThen hb1 (belowThen ((((Below.refl _ _).alloc (Nat.le_refl _) _)).drew) hb2)
    | exact ((belowThen hb1 hb2).alloc (Nat.le_trans hb1.size hb2.size) _)
    | exact ((belowThen (hb1.drew) hb2).alloc (Nat.le_trans hb1.size hb2.size) _)
end Go.Proofs.Ytcicdgajhheipaa
