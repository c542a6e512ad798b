import Derived.Test.YtkpfbjlbllpahaaDoorMk4
import Derived.Test.YtkpfbjlbllpahaaDoorMl2
import Derived.Handy
import Derived.Laws.BytesArg
set_option linter.unusedVariables false
namespace Go.Proofs.YtkpfbjlbllpahaaDoor
open Go.RowKit
theorem make8 (w : World) : (Instr.makeSlice 77 (.int .i64 8) (.int .i64 8)).run Tryd.prog w = .ok (.slice (some ⟨w.heap.size, 0, none⟩) 8 8) (w.alloc (.cells #[.int .u8 0, .int .u8 0, .int .u8 0, .int .u8 0, .int .u8 0, .int .u8 0, .int .u8 0, .int .u8 0] 5)) := by kernel_rfl
theorem conv_nums (w : World) (xs : List Int) (n : Nat) (hn : xs.length = n) (c : Nat) :
    (convert 77 9 (.slice (some ⟨w.heap.size, 0, none⟩) n c)).run Tryd.prog (w.alloc (.cells (xs.map (Value.int .u8)).toArray 5)) = .ok (.string (strOfNums xs)) (w.alloc (.cells (xs.map (Value.int .u8)).toArray 5)) := by
  refine run_convert_bytes_arg _ 77 5 Tryd.underlying77 Tryd.underlying5 w.heap.size 0 n c xs hn (fun i hi => ?_) 9 Tryd.underlying9
  rw [World.cell?_alloc_new]
  simp [List.getElem?_eq_getElem (show i < xs.length by omega), List.getD_eq_getElem?_getD]
def be8L (v : Int) : List Int := [v / 72057594037927936 % 256, v / 281474976710656 % 256, v / 1099511627776 % 256, v / 4294967296 % 256, v / 16777216 % 256, v / 65536 % 256, v / 256 % 256, v % 256]
/-- A number in eight bytes. -/
def be8Z (v : Int) : ByteArray := strOfNums (be8L v)
theorem be8_size (v : Int) : (be8Z v).size = 8 := by unfold be8Z; rw [strOfNums_size]; rfl
set_option maxRecDepth 100000 in
set_option maxHeartbeats 4000000 in
theorem putbe_calls (v : Int) (h0 : 0 ≤ v) (w : World) : Calls Tryd.prog 121 #[.int .u64 v, .int .i64 8] w fun e w' => e = .returned (.tuple #[.string (be8Z v), .int .i64 0]) ∧ Below w.heap.size w w' := by
  have hm := make8
  have hcv : ∀ (w : World) (x0 x1 x2 x3 x4 x5 x6 x7 : Int), (convert 77 9 (.slice (some ⟨w.heap.size, 0, none⟩) 8 8)).run Tryd.prog (w.alloc (.cells #[.int .u8 x0, .int .u8 x1, .int .u8 x2, .int .u8 x3, .int .u8 x4, .int .u8 x5, .int .u8 x6, .int .u8 x7] 5)) = .ok (.string (strOfNums [x0, x1, x2, x3, x4, x5, x6, x7])) (w.alloc (.cells #[.int .u8 x0, .int .u8 x1, .int .u8 x2, .int .u8 x3, .int .u8 x4, .int .u8 x5, .int .u8 x6, .int .u8 x7] 5)) :=
    fun w x0 x1 x2 x3 x4 x5 x6 x7 => conv_nums w [x0, x1, x2, x3, x4, x5, x6, x7] 8 rfl 8
  go_enter Tryd.func121, Tryd.ntmps121
  go_wp2
  go_rounds 9
  go_ret2
  exact ⟨rfl, (Below.refl _ _).alloc (Nat.le_refl _) _⟩
def twoB : ByteArray := ⟨#[2]⟩
/-- What is hashed of a pair at its place. -/
def saidB (k v : ByteArray) : ByteArray := twoB ++ be8Z k.size ++ k ++ v
theorem said_size (k v : ByteArray) : (saidB k v).size = 9 + k.size + v.size := by
  have h1 : twoB.size = 1 := rfl
  have h2 := be8_size k.size
  unfold saidB; simp only [ByteArray.size_append]; omega
set_option maxRecDepth 100000 in
set_option maxHeartbeats 2000000 in
theorem msaid_calls (k v : ByteArray) (hk : k.size ≤ 1048576) (hv : v.size ≤ 1048576) (w : World) : Calls Tryd.prog 105 #[.agg #[.string k, .string v]] w fun e w' => e = .returned (.string (saidB k v)) ∧ Below w.heap.size w w' := by
  have CP := Lib.hid (fun w => putbe_calls k.size (by omega) w)
  have hbs := be8_size k.size
  have HB0 := Lib.hid ((Below.refl w.heap.size w).alloc (Nat.le_refl _) (.cells #[.string k, .string v] 42))
  unfold saidB twoB
  generalize be8Z k.size = x at *
  have q1 : ¬ 9223372036854775807 < 1 + x.size := by omega
  have q2 : ¬ 9223372036854775807 < 1 + x.size + k.size := by omega
  have q3 : ¬ 9223372036854775807 < 1 + x.size + k.size + v.size := by omega
  clear hbs
  go_enter Tryd.func105, Tryd.ntmps105
  go_wp2_with (go_at_call 121; (with_reducible refine (CP.out _).mono ?_); rintro e w1 ⟨rfl, hb1⟩; obtain ⟨hc1, hf1⟩ := bcell hb1; have hz1 : w.heap.size < w1.heap.size := (by have := hb1.size; simp at this; omega); have HB1 := Lib.hid (HB0.out.trans (hb1.mono (by simp))); clear hb1)
  go_ret
  exact ⟨rfl, HB1.out⟩
end Go.Proofs.YtkpfbjlbllpahaaDoor
