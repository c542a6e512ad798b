import Derived.Test.YtkpfbjlbllpahaaDoorSha2
import Derived.Deep.RegionWith
import Derived.Below
set_option linter.unusedVariables false
namespace Go.Proofs.YtkpfbjlbllpahaaDoor
open Go.RowKit
/-- 64 words of an array: these, noughts behind them. -/
def a64 (l : List Int) : Array Value := ((List.range 64).map fun j => Value.int .u32 (l.getD j 0)).toArray
theorem a64_size (l : List Int) : (a64 l).size = 64 := by simp [a64]
theorem a64_at (l : List Int) (j : Nat) (h : j < 64) : (a64 l)[j]? = some (.int .u32 (l.getD j 0)) := by
  simp only [a64, List.getElem?_toArray, List.getElem?_map, List.getElem?_range h, Option.map_some]
theorem a64_step (l : List Int) (v : Int) (h : l.length < 64) : (a64 l).setIfInBounds l.length (.int .u32 v) = a64 (l ++ [v]) := by
  apply Array.ext_getElem?
  intro i
  rw [Array.getElem?_setIfInBounds, a64_size]
  by_cases hi : i < 64
  · rw [a64_at _ _ hi]
    by_cases e : l.length = i
    · subst e; rw [if_pos rfl, if_pos h, a64_at _ _ hi, List.getD_eq_getElem?_getD, List.getElem?_append_right (Nat.le_refl _), Nat.sub_self]; rfl
    · rw [if_neg e, a64_at _ _ hi]
      congr 2
      simp only [List.getD_eq_getElem?_getD]
      by_cases h1 : i < l.length
      · rw [List.getElem?_append_left h1]
      · rw [List.getElem?_eq_none (by omega), List.getElem?_eq_none (by rw [List.length_append]; simp; omega)]
  · rw [Array.getElem?_eq_none (by rw [a64_size]; omega)]
    by_cases e : l.length = i
    · omega
    · rw [if_neg e, Array.getElem?_eq_none (by rw [a64_size]; omega)]
theorem a64_one (l : List Int) : (a64 l).all (·.oneCell') = true := by
  rw [Array.all_eq_true_iff_forall_mem]
  intro x hx
  simp [a64] at hx
  obtain ⟨j, _, rfl⟩ := hx
  rfl
theorem a64_info (l : List Int) : (Tryd.prog.info? 163).map (·.size) = some (a64 l).size := by rw [a64_size]; kernel_rfl
/-- Where words stands: the result's array, untouched, and the array under way. -/
def WT (w wr : World) (l : List Int) : Prop := wr.heap[w.heap.size]? = some (.cells (a64 []) 163 (0, 0)) ∧ wr.heap[w.heap.size + 1]? = some (.cells (a64 l) 163 (0, 0)) ∧ Below w.heap.size w wr
theorem WT.cell {w wr : World} {l : List Int} (h : WT w wr l) (j : Nat) (hj : j < 64) : wr.cell? ⟨w.heap.size + 1, j, none⟩ = some (.int .u32 (l.getD j 0)) := by
  simp only [World.cell?, h.2.1]
  simpa using a64_at l j hj
theorem WT.frozen {w wr : World} {l : List Int} (h : WT w wr l) (j : Nat) : wr.frozen? ⟨w.heap.size + 1, j, none⟩ = false := by
  simp [World.frozen?, h.2.1]
theorem WT.store {w wr : World} {l : List Int} (h : WT w wr l) (v : Int) (hl : l.length < 64) : WT w (wr.setCell ⟨w.heap.size + 1, l.length, none⟩ (.int .u32 v)) (l ++ [v]) := by
  refine ⟨?_, ?_, h.2.2.setCell (by simp) _⟩
  · rw [Below.heap_setCell _ _ _ _ (by simp)]; exact h.1
  · simp only [World.setCell, Array.getElem?_modify, h.2.1]
    simp [a64_step l v hl]
theorem WT.drew {w wr : World} {l : List Int} (h : WT w wr l) (n : Nat) : WT w (wr.drewN n) l := ⟨h.1, h.2.1, ⟨h.2.2.os, h.2.2.tape, h.2.2.output, h.2.2.size, h.2.2.block⟩⟩
theorem WT.new (w : World) : WT w ((w.alloc (.cells (a64 []) 163)).alloc (.cells (a64 []) 163)) [] := by
  refine ⟨?_, ?_, ((Below.refl _ _).alloc (Nat.le_refl _) _).alloc (by show w.heap.size ≤ (w.heap.push _).size; simp) _⟩
  · show ((w.heap.push _).push _)[w.heap.size]? = _
    rw [Array.getElem?_push, if_neg (by simp)]; simp
  · show ((w.heap.push _).push _)[w.heap.size + 1]? = _
    rw [Array.getElem?_push, if_pos (by simp)]
/-- The next word. -/
def nextW (l : List Int) (t : Nat) : Int :=
  let x := l.getD (t - 15) 0
  let y := l.getD (t - 2) 0
  let s0 := bits BinOp.xor IntKind.u32 (bits BinOp.xor IntKind.u32 (rotI x 7) (rotI x 18)) (x / 8)
  let s1 := bits BinOp.xor IntKind.u32 (bits BinOp.xor IntKind.u32 (rotI y 17) (rotI y 19)) (y / 1024)
  IntKind.u32.wrap (IntKind.u32.wrap (IntKind.u32.wrap (s1 + l.getD (t - 7) 0) + s0) + l.getD (t - 16) 0)
/-- The first words of a block. -/
def firstW (b : List UInt8) : Nat → List Int
  | 0 => []
  | k + 1 => firstW b k ++ [((beL ((b.drop (4 * k)).take 4) : Nat) : Int)]
def moreW (l : List Int) : Nat → List Int
  | 0 => l
  | k + 1 => moreW l k ++ [nextW (moreW l k) (16 + k)]
/-- All 64 words of a block. -/
def wordsZ (b : List UInt8) : List Int := moreW (firstW b 16) 48
theorem firstW_len (b : List UInt8) (k : Nat) : (firstW b k).length = k := by
  induction k with
  | zero => rfl
  | succ k ih => rw [firstW, List.length_append, ih]; rfl
theorem moreW_len (l : List Int) (k : Nat) : (moreW l k).length = l.length + k := by
  induction k with
  | zero => rfl
  | succ k ih => rw [moreW, List.length_append, ih]; rfl
end Go.Proofs.YtkpfbjlbllpahaaDoor
