import Derived.Test.YtegplajddhiejaaGreatProg
import Derived.WalkKit
import Derived.WalkSpells
import Derived.WalkLawsBesides
import Derived.Lib.Hide
import Derived.Handy
import Derived.Deep.RegionWith
import Derived.Laws.BytesArg
import Derived.Laws.BitsAllLaws
import Derived.Deep.WholeRow
set_option linter.unusedVariables false
namespace Go.Proofs.YtegplajddhiejaaGreat
open Go.RowKit
theorem fits_calls (a b : Int) (w : World) : Calls Tryz.prog 71 #[.int .u64 a, .int .u64 b] w fun e w' => e = .returned (.bool (decide (a ≤ b))) ∧ w = w' := by
  go_enter Tryz.func71, Tryz.ntmps71
  go_wp2
  go_ret
  exact ⟨rfl, rfl⟩
theorem belowThen {w w1 w2 : World} (h : Below w.heap.size w w1) (k : Below w1.heap.size w1 w2) : Below w.heap.size w w2 := h.trans (k.mono h.size)
theorem make8 (w : World) : (Instr.makeSlice 112 (.int .i64 8) (.int .i64 8)).run Tryz.prog w = .ok (.slice (some ⟨w.heap.size, 0, none⟩) 8 8) (w.alloc (.cells #[.int .u8 0, .int .u8 0, .int .u8 0, .int .u8 0, .int .u8 0, .int .u8 0, .int .u8 0, .int .u8 0] 5)) := by kernel_rfl
theorem make4 (w : World) : (Instr.makeSlice 112 (.int .i64 4) (.int .i64 4)).run Tryz.prog w = .ok (.slice (some ⟨w.heap.size, 0, none⟩) 4 4) (w.alloc (.cells #[.int .u8 0, .int .u8 0, .int .u8 0, .int .u8 0] 5)) := by kernel_rfl
/-- A row of bytes that was just laid, as a string. -/
theorem conv_row (w : World) (xs : List Int) (n : Nat) (hn : xs.length = n) (c : Nat) :
    (convert 112 9 (.slice (some ⟨w.heap.size, 0, none⟩) n c)).run Tryz.prog (w.alloc (.cells (xs.map (Value.int .u8)).toArray 5)) = .ok (.string (strOfNums xs)) (w.alloc (.cells (xs.map (Value.int .u8)).toArray 5)) := by
  refine run_convert_bytes_arg _ 112 5 Tryz.underlying112 Tryz.underlying5 w.heap.size 0 n c xs hn (fun i hi => ?_) 9 Tryz.underlying9
  rw [World.cell?_alloc_new]
  simp [List.getElem?_eq_getElem (show i < xs.length by omega), List.getD_eq_getElem?_getD]
def kbe8L (v : Int) : List Int := [v / 72057594037927936 % 256, v / 281474976710656 % 256, v / 1099511627776 % 256, v / 4294967296 % 256, v / 16777216 % 256, v / 65536 % 256, v / 256 % 256, v % 256]
def kbe4L (v : Int) : List Int := [v / 16777216 % 256, v / 65536 % 256, v / 256 % 256, v % 256]
/-- A number in eight bytes. -/
def be8Z (v : Int) : ByteArray := strOfNums (kbe8L v)
def be4Z (v : Int) : ByteArray := strOfNums (kbe4L v)
set_option maxRecDepth 100000 in
set_option maxHeartbeats 4000000 in
theorem putbe_calls (v : Int) (h0 : 0 ≤ v) (w : World) : Calls Tryz.prog 52 #[.int .u64 v, .int .i64 8] w fun e w' => e = .returned (.tuple #[.string (be8Z v), .int .i64 0]) ∧ Below w.heap.size w w' := by
  have hm := make8
  have hcv : ∀ (w : World) (x0 x1 x2 x3 x4 x5 x6 x7 : Int), (convert 112 9 (.slice (some ⟨w.heap.size, 0, none⟩) 8 8)).run Tryz.prog (w.alloc (.cells #[.int .u8 x0, .int .u8 x1, .int .u8 x2, .int .u8 x3, .int .u8 x4, .int .u8 x5, .int .u8 x6, .int .u8 x7] 5)) = .ok (.string (strOfNums [x0, x1, x2, x3, x4, x5, x6, x7])) (w.alloc (.cells #[.int .u8 x0, .int .u8 x1, .int .u8 x2, .int .u8 x3, .int .u8 x4, .int .u8 x5, .int .u8 x6, .int .u8 x7] 5)) :=
    fun w x0 x1 x2 x3 x4 x5 x6 x7 => conv_row w [x0, x1, x2, x3, x4, x5, x6, x7] 8 rfl 8
  go_enter Tryz.func52, Tryz.ntmps52
  go_wp2
  go_rounds 9
  go_ret2
  exact ⟨rfl, (Below.refl _ _).alloc (Nat.le_refl _) _⟩
set_option maxRecDepth 100000 in
set_option maxHeartbeats 4000000 in
theorem putbe4_calls (v : Int) (h0 : 0 ≤ v) (h1 : v ≤ 4294967295) (w : World) : Calls Tryz.prog 52 #[.int .u64 v, .int .i64 4] w fun e w' => e = .returned (.tuple #[.string (be4Z v), .int .i64 0]) ∧ Below w.heap.size w w' := by
  have hm := make4
  have hcv : ∀ (w : World) (x0 x1 x2 x3 : Int), (convert 112 9 (.slice (some ⟨w.heap.size, 0, none⟩) 4 4)).run Tryz.prog (w.alloc (.cells #[.int .u8 x0, .int .u8 x1, .int .u8 x2, .int .u8 x3] 5)) = .ok (.string (strOfNums [x0, x1, x2, x3])) (w.alloc (.cells #[.int .u8 x0, .int .u8 x1, .int .u8 x2, .int .u8 x3] 5)) :=
    fun w x0 x1 x2 x3 => conv_row w [x0, x1, x2, x3] 4 rfl 4
  go_enter Tryz.func52, Tryz.ntmps52
  have he : be4Z v = strOfNums [v / 16777216, v / 65536 % 256, v / 256 % 256, v % 256] := by
    unfold be4Z kbe4L; rw [Int.emod_eq_of_lt (show 0 ≤ v / 16777216 by omega) (by omega)]
  have HE := Lib.hid he
  clear he
  go_wp2_with (go_at_call 71; refine (fits_calls _ _ _).mono ?_; rintro e w1 ⟨rfl, rfl⟩)
  go_rounds 9
  go_ret2
  exact ⟨show Ending.returned (.tuple #[.string (strOfNums [v / 16777216, v / 65536 % 256, v / 256 % 256, v % 256]), .int .i64 0]) = _ from by rw [HE.out], (Below.refl _ _).alloc (Nat.le_refl _) _⟩
theorem bcell {W w1 : World} (hb : Below W.heap.size W w1) : (∀ b o, b < W.heap.size → w1.cell? ⟨b, o, none⟩ = W.cell? ⟨b, o, none⟩) ∧ (∀ b o, b < W.heap.size → w1.frozen? ⟨b, o, none⟩ = W.frozen? ⟨b, o, none⟩) :=
  ⟨fun b o h => hb.cell (p := ⟨b, o, none⟩) h, fun b o h => hb.frozen (p := ⟨b, o, none⟩) h⟩
theorem be8_size (v : Int) : (be8Z v).size = 8 := by unfold be8Z; rw [strOfNums_size]; rfl
theorem be4_size (v : Int) : (be4Z v).size = 4 := by unfold be4Z; rw [strOfNums_size]; rfl
/-- How the keys of a space begin. -/
def prefZ (s : Int) : ByteArray := (⟨#[66]⟩ : ByteArray) ++ be8Z s
theorem pref_size (s : Int) : (prefZ s).size = 9 := by
  unfold prefZ; rw [ByteArray.size_append, be8_size]; rfl
/-- A byte as a string. -/
def oneZ (k : Int) : ByteArray := strOfNums [k]
theorem one_size (k : Int) : (oneZ k).size = 1 := by unfold oneZ; rw [strOfNums_size]; rfl
/-- The key of a record. -/
def keyZ (s k n : Int) : ByteArray := prefZ s ++ oneZ k ++ be8Z n
set_option maxRecDepth 100000 in
set_option maxHeartbeats 400000 in
theorem prefix_calls (s : Int) (h0 : 0 ≤ s) (h1 : s ≤ 9223372036854775807) (w : World) : Calls Tryz.prog 38 #[.int .i64 s] w fun e w' => e = .returned (.string (prefZ s)) ∧ Below w.heap.size w w' := by
  have hs := be8_size s
  go_enter Tryz.func38, Tryz.ntmps38
  go_wp2_with (go_at_call 52; refine (putbe_calls _ h0 _).mono ?_; rintro e w1 ⟨rfl, hb1⟩)
  go_ret
  exact ⟨rfl, hb1⟩
set_option maxRecDepth 100000 in
set_option maxHeartbeats 1000000 in
theorem key_calls (s k n : Int) (h0 : 0 ≤ s) (h1 : s ≤ 9223372036854775807) (k1 : 1 ≤ k) (k2 : k ≤ 255) (n0 : 0 ≤ n) (n1 : n ≤ 9223372036854775807) (w : World) :
    Calls Tryz.prog 60 #[.int .i64 s, .int .i64 k, .int .i64 n] w fun e w' => e = .returned (.tuple #[.string (keyZ s k n), .int .i64 0]) ∧ Below w.heap.size w w' := by
  have hs := be8_size n
  have hp := pref_size s
  have ho := one_size k
  have hk : IntKind.u8.wrap k = k := by rw [IntKind.wrap_u8]; omega
  have hcv : ∀ (w : World) (b : Nat), w.cell? ⟨b, 0, none⟩ = some (.int .u8 k) → (convert 112 9 (.slice (some ⟨b, 0, none⟩) 1 1)).run Tryz.prog w = .ok (.string (oneZ k)) w :=
    fun w b hc => run_convert_bytes_arg w 112 5 Tryz.underlying112 Tryz.underlying5 b 0 1 1 [k] rfl (fun i hi => by
      obtain rfl : i = 0 := by omega
      exact hc) 9 Tryz.underlying9
  go_enter Tryz.func60, Tryz.ntmps60
  go_wp2_with (go_at_call 52; refine (putbe_calls _ n0 _).mono ?_; rintro e w1 ⟨rfl, hb1⟩)
  go_region_with (go_at_call 38; refine (prefix_calls _ h0 h1 _).mono ?_; rintro e w2 ⟨rfl, hb2⟩; obtain ⟨hc2, hf2⟩ := bcell hb2)
  all_goals go_wp2
  all_goals go_ret2
  all_goals refine ⟨rfl, ?_⟩
  all_goals first
    | exact belowThen hb1 (belowThen ((((Below.refl _ _).alloc (Nat.le_refl _) _)).drew) hb2)
    | exact ((belowThen hb1 hb2).alloc (Nat.le_trans hb1.size hb2.size) _)
    | exact ((belowThen (hb1.drew) hb2).alloc (Nat.le_trans hb1.size hb2.size) _)
end Go.Proofs.YtegplajddhiejaaGreat

set_option linter.unusedVariables false
namespace Go.Proofs.YtegplajddhiejaaGreat
open Go.RowKit
/-- What one bit does to the register. -/
def crcBit (v : Nat) : Nat := if v % 2 = 1 then (v / 2) ^^^ 3988292384 else v / 2
def crcBits : Nat → Nat → Nat
  | 0, v => v
  | n+1, v => crcBit (crcBits n v)
theorem crcBit_lt (v : Nat) (h : v < 4294967296) : crcBit v < 4294967296 := by
  unfold crcBit; split
  · exact Nat.xor_lt_two_pow (n := 32) (by omega) (by omega)
  · omega
theorem crcBits_lt (n v : Nat) (h : v < 4294967296) : crcBits n v < 4294967296 := by
  induction n with
  | zero => exact h
  | succ n ih => exact crcBit_lt _ ih
theorem u32_low (v : Nat) (h : v < 4294967296) : bits BinOp.and IntKind.u32 (v : Int) 1 = ((v % 2 : Nat) : Int) := by
  rw [show (1 : Int) = ((1 : Nat) : Int) from rfl, u32_and_nat v 1 h (by omega), Nat.and_one_is_mod]
theorem u32_poly (v : Nat) (h : v < 4294967296) : bits BinOp.xor IntKind.u32 ((v : Int) / 2) 3988292384 = (((v / 2) ^^^ 3988292384 : Nat) : Int) := by
  rw [show (v : Int) / 2 = ((v / 2 : Nat) : Int) by omega, show (3988292384 : Int) = ((3988292384 : Nat) : Int) from rfl, u32_xor_nat _ _ (by omega) (by omega)]
def crcTab (i : Nat) : Array Value := ((List.range 256).map fun j => if j < i then Value.int .u32 (crcBits 8 j : Nat) else Value.int .u32 0).toArray
theorem crcTab_zero : crcTab 0 = Tryz.zeroCells160 := by kernel_rfl
theorem crcTab_size (i : Nat) : (crcTab i).size = 256 := by simp [crcTab]
theorem tab_step (k : Nat) (h : k < 256) : (crcTab k).setIfInBounds k (.int .u32 (crcBits 8 k : Nat)) = crcTab (k + 1) := by
  apply Array.ext_getElem?
  intro i
  rw [Array.getElem?_setIfInBounds, crcTab_size]
  by_cases e : k = i
  · subst e; simp [h, crcTab]
  · rw [if_neg e]
    by_cases hi : i < 256
    · simp only [crcTab, List.getElem?_toArray, List.getElem?_map, List.getElem?_range hi, Option.map_some]
      by_cases h1 : i < k
      · rw [if_pos h1, if_pos (by omega)]
      · rw [if_neg h1, if_neg (by omega)]
    · rw [Array.getElem?_eq_none (by rw [crcTab_size]; omega), Array.getElem?_eq_none (by rw [crcTab_size]; omega)]
theorem tab_one (i : Nat) : (crcTab i).all (·.oneCell') = true := by
  rw [Array.all_eq_true_iff_forall_mem]
  intro x hx
  simp [crcTab] at hx
  obtain ⟨j, _, rfl⟩ := hx
  split <;> rfl
theorem tab_info : (Tryz.prog.info? 160).map (·.size) = some 256 := by kernel_rfl
theorem heap_tab1 (w : World) : ((w.alloc (.cells (crcTab 0) 160)).alloc (.cells (crcTab 256) 160)).heap[w.heap.size + 1]? = some (.cells (crcTab 256) 160) := by
  show ((w.heap.push _).push _)[w.heap.size + 1]? = _
  rw [Array.getElem?_push, if_pos (by simp)]
theorem heap_tab2 (w : World) : ((w.alloc (.cells (crcTab 0) 160)).alloc (.cells (crcTab 256) 160)).heap[w.heap.size]? = some (.cells (crcTab 0) 160) := by
  show ((w.heap.push _).push _)[w.heap.size]? = _
  rw [Array.getElem?_push, if_neg (by simp)]
  simp
theorem tab_end (w : World) : (((w.alloc (.cells (crcTab 0) 160)).alloc (.cells (crcTab 256) 160)).setRow w.heap.size (crcTab 256)).heap[w.heap.size]? = some (.cells (crcTab 256) 160) ∧ Below w.heap.size w (((w.alloc (.cells (crcTab 0) 160)).alloc (.cells (crcTab 256) 160)).setRow w.heap.size (crcTab 256)) := by
  constructor
  · simp only [World.setRow]
    rw [Array.getElem?_modify, heap_tab2]
    simp
  · have b := ((Below.refl w.heap.size w).alloc (Nat.le_refl _) (.cells (crcTab 0) 160)).alloc (by show w.heap.size ≤ (w.heap.push _).size; simp) (.cells (crcTab 256) 160)
    refine ⟨b.os, b.tape, b.output, ?_, fun k hk => ?_⟩
    · simp only [World.setRow, Array.size_modify]; exact b.size
    · simp only [World.setRow]
      rw [Array.getElem?_modify, if_neg (by omega)]
      exact b.block k hk
set_option maxRecDepth 100000 in
set_option maxHeartbeats 1000000 in
theorem table_calls (w : World) : Calls Tryz.prog 111 #[] w fun e w' => e = .returned (.agg (crcTab 256)) ∧ Below w.heap.size w w' := by
  have hsz := crcTab_size
  go_enter Tryz.func111, Tryz.ntmps111
  go_wp2
  rw [← crcTab_zero]
  go_loopw [2, 3, 4, 5] (fun a v l i wr => ∃ k : Nat, k ≤ 256 ∧ i = .int .i64 k ∧ wr = (w.alloc (Obj.cells (crcTab 0) 160)).alloc (Obj.cells (crcTab k) 160)) (fun _ _ _ i _ => 256 - (intOf i).toNat)
  case atStart => exact ⟨0, by omega, rfl, rfl⟩
  case round =>
    obtain ⟨k, hk, rfl, rfl⟩ := hrel
    by_cases hlt : k < 256
    · go_wp2
      go_loop [3, 4, 10] (fun v l j => ∃ m : Nat, m ≤ 8 ∧ j = .int .i64 m ∧ v = .int .u32 (crcBits m k : Nat)) (fun _ _ j => 8 - (intOf j).toNat)
      case atStart => exact ⟨0, by omega, rfl, rfl⟩
      case round =>
        obtain ⟨m, hm, rfl, rfl⟩ := hrel
        have hv := crcBits_lt m k (by omega)
        generalize hV : crcBits m k = v at *
        have HV := Lib.hid hV
        clear hV
        have ha := u32_low v hv
        have hx := u32_poly v hv
        rcases Nat.mod_two_eq_zero_or_one v with hp | hp
        · have ht : (((v % 2 : Nat) : Int) == 1) = false := by rw [hp]; rfl
          by_cases hlm : m < 8
          · go_wp2
            go_round
            case rel => exact ⟨m + 1, by omega, by go_num, by rw [crcBits, HV.out, crcBit, if_neg (by omega)]; go_num⟩
            case measure => simp [intOf]; omega
          · obtain rfl : m = 8 := by omega
            go_wp2
            go_roundw
            case rel =>
              refine ⟨k + 1, by omega, by go_num, ?_⟩
              rw [← HV.out, tab_step k (by omega)]
            case measure => simp [intOf]; omega
        · have ht : (((v % 2 : Nat) : Int) == 1) = true := by rw [hp]; rfl
          by_cases hlm : m < 8
          · go_wp2
            go_round
            case rel => exact ⟨m + 1, by omega, by go_num, by rw [crcBits, HV.out, crcBit, if_pos (by omega)]⟩
            case measure => simp [intOf]; omega
          · obtain rfl : m = 8 := by omega
            go_wp2
            go_roundw
            case rel =>
              refine ⟨k + 1, by omega, by go_num, ?_⟩
              rw [← HV.out, tab_step k (by omega)]
            case measure => simp [intOf]; omega
    · obtain rfl : k = 256 := by omega
      have g1 := heap_tab1 w
      have ti : (Tryz.prog.info? 160).map (·.size) = some (crcTab 256).size := by rw [crcTab_size]; exact tab_info
      have ts : (crcTab 0).size = (crcTab 256).size := by rw [crcTab_size, crcTab_size]
      have g2 := heap_tab2 w
      go_wp2_with (first
        | (refine wpList_load_row rfl 160 _ rfl (w.heap.size + 1) rfl 160 (crcTab 256) (0, 0) _ g1 Tryz.underlying160 rfl ti ?_)
        | (refine wpList_store_row rfl 160 _ _ rfl w.heap.size (crcTab 256) rfl rfl 160 (crcTab 0) g2 ti ts (tab_one _) ?_))
      refine bodyPost_ret (v := .agg (crcTab 256)) (results_cell_row rfl _ _ w.heap.size 160 (crcTab 256) (0, 0) _ rfl (tab_end w).1 Tryz.underlying160 rfl ti) rfl ⟨rfl, (tab_end w).2⟩
end Go.Proofs.YtegplajddhiejaaGreat
