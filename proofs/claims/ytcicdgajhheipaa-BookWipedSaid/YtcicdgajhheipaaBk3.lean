import Derived.Test.YtcicdgajhheipaaBk1
import Derived.Laws.BitsAllLaws
import Derived.Deep.WholeRow
set_option linter.unusedVariables false
namespace Go.Proofs.Ytcicdgajhheipaa
open Go.RowKit
/-- What one bit does to the register. -/
def crcBit (v : Nat) : Nat := if v % 2 = 1 then (v / 2) ^^^ 3988292384 else v / 2
def crcBits : Nat → Nat → Nat
  | 0, v => v
  | n+1, v => crcBit (crcBits n v)
theorem crcBit_lt (v : Nat) (h : v < 4294967296) : crcBit v < 4294967296 := by
  unfold crcBit; split
  · exact Nat.xor_lt_two_pow (n := 32) (by omega) (by omega)
  · omega
theorem crcBits_lt (n v : Nat) (h : v < 4294967296) : crcBits n v < 4294967296 := by
  induction n with
  | zero => exact h
  | succ n ih => exact crcBit_lt _ ih
theorem u32_low (v : Nat) (h : v < 4294967296) : bits BinOp.and IntKind.u32 (v : Int) 1 = ((v % 2 : Nat) : Int) := by
  rw [show (1 : Int) = ((1 : Nat) : Int) from rfl, u32_and_nat v 1 h (by omega), Nat.and_one_is_mod]
theorem u32_poly (v : Nat) (h : v < 4294967296) : bits BinOp.xor IntKind.u32 ((v : Int) / 2) 3988292384 = (((v / 2) ^^^ 3988292384 : Nat) : Int) := by
  rw [show (v : Int) / 2 = ((v / 2 : Nat) : Int) by omega, show (3988292384 : Int) = ((3988292384 : Nat) : Int) from rfl, u32_xor_nat _ _ (by omega) (by omega)]
def crcTab (i : Nat) : Array Value := ((List.range 256).map fun j => if j < i then Value.int .u32 (crcBits 8 j : Nat) else Value.int .u32 0).toArray
theorem crcTab_zero : crcTab 0 = Try.zeroCells103 := by kernel_rfl
theorem crcTab_size (i : Nat) : (crcTab i).size = 256 := by simp [crcTab]
theorem tab_step (k : Nat) (h : k < 256) : (crcTab k).setIfInBounds k (.int .u32 (crcBits 8 k : Nat)) = crcTab (k + 1) := by
  apply Array.ext_getElem?
  intro i
  rw [Array.getElem?_setIfInBounds, crcTab_size]
  by_cases e : k = i
  · subst e; simp [h, crcTab]
  · rw [if_neg e]
    by_cases hi : i < 256
    · simp only [crcTab, List.getElem?_toArray, List.getElem?_map, List.getElem?_range hi, Option.map_some]
      by_cases h1 : i < k
      · rw [if_pos h1, if_pos (by omega)]
      · rw [if_neg h1, if_neg (by omega)]
    · rw [Array.getElem?_eq_none (by rw [crcTab_size]; omega), Array.getElem?_eq_none (by rw [crcTab_size]; omega)]
theorem tab_one (i : Nat) : (crcTab i).all (·.oneCell') = true := by
  rw [Array.all_eq_true_iff_forall_mem]
  intro x hx
  simp [crcTab] at hx
  obtain ⟨j, _, rfl⟩ := hx
  split <;> rfl
theorem tab_info : (Try.prog.info? 103).map (·.size) = some 256 := by kernel_rfl
theorem heap_tab1 (w : World) : ((w.alloc (.cells (crcTab 0) 103)).alloc (.cells (crcTab 256) 103)).heap[w.heap.size + 1]? = some (.cells (crcTab 256) 103) := by
  show ((w.heap.push _).push _)[w.heap.size + 1]? = _
  rw [Array.getElem?_push, if_pos (by simp)]
theorem heap_tab2 (w : World) : ((w.alloc (.cells (crcTab 0) 103)).alloc (.cells (crcTab 256) 103)).heap[w.heap.size]? = some (.cells (crcTab 0) 103) := by
  show ((w.heap.push _).push _)[w.heap.size]? = _
  rw [Array.getElem?_push, if_neg (by simp)]
  simp
theorem tab_end (w : World) : (((w.alloc (.cells (crcTab 0) 103)).alloc (.cells (crcTab 256) 103)).setRow w.heap.size (crcTab 256)).heap[w.heap.size]? = some (.cells (crcTab 256) 103) ∧ Below w.heap.size w (((w.alloc (.cells (crcTab 0) 103)).alloc (.cells (crcTab 256) 103)).setRow w.heap.size (crcTab 256)) := by
  constructor
  · simp only [World.setRow]
    rw [Array.getElem?_modify, heap_tab2]
    simp
  · have b := ((Below.refl w.heap.size w).alloc (Nat.le_refl _) (.cells (crcTab 0) 103)).alloc (by show w.heap.size ≤ (w.heap.push _).size; simp) (.cells (crcTab 256) 103)
    refine ⟨b.os, b.tape, b.output, ?_, fun k hk => ?_⟩
    · simp only [World.setRow, Array.size_modify]; exact b.size
    · simp only [World.setRow]
      rw [Array.getElem?_modify, if_neg (by omega)]
      exact b.block k hk
set_option maxRecDepth 100000 in
set_option maxHeartbeats 1000000 in
theorem table_calls (w : World) : Calls Try.prog 73 #[] w fun e w' => e = .returned (.agg (crcTab 256)) ∧ Below w.heap.size w w' := by
  have hsz := crcTab_size
  go_enter Try.func73, Try.ntmps73
  go_wp2
  rw [← crcTab_zero]
  go_loopw [2, 3, 4, 5] (fun a v l i wr => ∃ k : Nat, k ≤ 256 ∧ i = .int .i64 k ∧ wr = (w.alloc (Obj.cells (crcTab 0) 103)).alloc (Obj.cells (crcTab k) 103)) (fun _ _ _ i _ => 256 - (intOf i).toNat)
  case atStart => exact ⟨0, by omega, rfl, rfl⟩
  case round =>
    obtain ⟨k, hk, rfl, rfl⟩ := hrel
    by_cases hlt : k < 256
    · go_wp2
      go_loop [3, 4, 10] (fun v l j => ∃ m : Nat, m ≤ 8 ∧ j = .int .i64 m ∧ v = .int .u32 (crcBits m k : Nat)) (fun _ _ j => 8 - (intOf j).toNat)
      case atStart => exact ⟨0, by omega, rfl, rfl⟩
      case round =>
        obtain ⟨m, hm, rfl, rfl⟩ := hrel
        have hv := crcBits_lt m k (by omega)
        generalize hV : crcBits m k = v at *
        have HV := Lib.hid hV
        clear hV
        have ha := u32_low v hv
        have hx := u32_poly v hv
        rcases Nat.mod_two_eq_zero_or_one v with hp | hp
        · have ht : (((v % 2 : Nat) : Int) == 1) = false := by rw [hp]; rfl
          by_cases hlm : m < 8
          · go_wp2
            go_round
            case rel => exact ⟨m + 1, by omega, by go_num, by rw [crcBits, HV.out, crcBit, if_neg (by omega)]; go_num⟩
            case measure => simp [intOf]; omega
          · obtain rfl : m = 8 := by omega
            go_wp2
            go_roundw
            case rel =>
              refine ⟨k + 1, by omega, by go_num, ?_⟩
              rw [← HV.out, tab_step k (by omega)]
            case measure => simp [intOf]; omega
        · have ht : (((v % 2 : Nat) : Int) == 1) = true := by rw [hp]; rfl
          by_cases hlm : m < 8
          · go_wp2
            go_round
            case rel => exact ⟨m + 1, by omega, by go_num, by rw [crcBits, HV.out, crcBit, if_pos (by omega)]⟩
            case measure => simp [intOf]; omega
          · obtain rfl : m = 8 := by omega
            go_wp2
            go_roundw
            case rel =>
              refine ⟨k + 1, by omega, by go_num, ?_⟩
              rw [← HV.out, tab_step k (by omega)]
            case measure => simp [intOf]; omega
    · obtain rfl : k = 256 := by omega
      have g1 := heap_tab1 w
      have ti : (Try.prog.info? 103).map (·.size) = some (crcTab 256).size := by rw [crcTab_size]; exact tab_info
      have ts : (crcTab 0).size = (crcTab 256).size := by rw [crcTab_size, crcTab_size]
      have g2 := heap_tab2 w
      go_wp2_with (first
        | (refine wpList_load_row rfl 103 _ rfl (w.heap.size + 1) rfl 103 (crcTab 256) (0, 0) _ g1 Try.underlying103 rfl ti ?_)
        | (refine wpList_store_row rfl 103 _ _ rfl w.heap.size (crcTab 256) rfl rfl 103 (crcTab 0) g2 ti ts (tab_one _) ?_))
      refine bodyPost_ret (v := .agg (crcTab 256)) (results_cell_row rfl _ _ w.heap.size 103 (crcTab 256) (0, 0) _ rfl (tab_end w).1 Try.underlying103 rfl ti) rfl ⟨rfl, (tab_end w).2⟩
end Go.Proofs.Ytcicdgajhheipaa
