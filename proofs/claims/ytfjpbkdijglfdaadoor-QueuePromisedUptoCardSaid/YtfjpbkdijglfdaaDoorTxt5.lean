import Derived.Test.YtfjpbkdijglfdaaDoorTxt4
set_option linter.unusedVariables false
namespace Go.Proofs.YtfjpbkdijglfdaaDoor
open Go.RowKit
/-- Where Dec stands: its array of 20 bytes. -/
def DT (w wr : World) (l : List UInt8) : Prop := wr.heap[w.heap.size]? = some (.cells (aB l) 52 (0, 0)) ∧ l.length = 20 ∧ Below w.heap.size w wr
theorem DT.cell {w wr : World} {l : List UInt8} (h : DT w wr l) (j : Nat) (hj : j < l.length) : wr.cell? ⟨w.heap.size, j, none⟩ = some (.int .u8 l[j].toNat) := by
  simp only [World.cell?, h.1]
  simpa using aB_at l j hj
theorem DT.there {w wr : World} {l : List UInt8} (h : DT w wr l) (j : Nat) (hj : j < 20) : ∃ v, wr.cell? ⟨w.heap.size, j, none⟩ = some v := ⟨_, h.cell j (by rw [h.2.1]; exact hj)⟩
theorem DT.frozen {w wr : World} {l : List UInt8} (h : DT w wr l) (j : Nat) : wr.frozen? ⟨w.heap.size, j, none⟩ = false := by simp [World.frozen?, h.1]
theorem DT.store {w wr : World} {l : List UInt8} (h : DT w wr l) (k : Nat) (y : UInt8) : DT w (wr.setCell ⟨w.heap.size, k, none⟩ (.int .u8 y.toNat)) (l.set k y) := by
  refine ⟨?_, by rw [List.length_set]; exact h.2.1, h.2.2.setCell (Nat.le_refl _) _⟩
  simp only [World.setCell, Array.getElem?_modify, h.1, if_true, Option.map_some, ← aB_set]
  rfl
theorem DT.str {w wr : World} {l : List UInt8} (h : DT w wr l) (a : Nat) (ha : a < 20) (cp : Nat) : (convert 34 9 (.slice (some ⟨w.heap.size, a, none⟩) (20 - a) cp)).run Tryd.prog wr = .ok (.string ⟨(l.drop a).toArray⟩) wr := by
  have := run_convert_bytes_back (P := Tryd.prog) wr 34 9 5 ⟨w.heap.size, a, none⟩ cp (l.drop a) Tryd.underlying34 Tryd.underlying5 Tryd.underlying9 (fun j hj => by
    rw [show (⟨w.heap.size, a, none⟩ : Addr).add j = ⟨w.heap.size, a + j, none⟩ by first | (simp [Addr.add]; done) | (simp [Addr.add]; omega)]
    rw [List.length_drop] at hj
    rw [h.cell (a + j) (by omega)]
    simp)
  rw [List.length_drop, h.2.1] at this
  exact this
theorem set_drop (l : List UInt8) (a : Nat) (y : UInt8) (h : a < l.length) : (l.set a y).drop a = y :: l.drop (a + 1) := by
  rw [List.drop_eq_getElem_cons (by rw [List.length_set]; exact h), List.getElem_set_self, List.drop_set]
  rw [if_pos (by omega)]
theorem b20_len : Tryd.prog.arrayLen 52 = 20 := by kernel_rfl
theorem b20_und : Tryd.prog.underlying 52 = some (.array (Tryd.prog.arrayLen 52) (Tryd.prog.elem 52)) := by kernel_rfl
theorem b20_elem (w : World) : (sizeOf (Tryd.prog.elem 52)).run Tryd.prog w = .ok 1 w := by kernel_rfl
theorem slice_b20 (hb a : Nat) (h : a < 20) (w : World) : (Instr.sliceAt 52 (.pointer (some ⟨hb, 0, none⟩)) (some (.int .i64 a)) none none).run Tryd.prog w = .ok (.slice (some ⟨hb, a, none⟩) (20 - a) (20 - a)) w := by
  rw [run_sliceAt_array_l w 52 ⟨hb, 0, none⟩ b20_und .i64 a (by omega) (by rw [b20_len]; omega), b20_elem]
  simp only [Result.andThen_ok, slicedAt, b20_len, Int.toNat_natCast]
  rw [if_neg (by omega), Nat.mul_one]
  first
    | (simp [Addr.add]; done)
    | (simp [Addr.add]; omega)
theorem decL_pos (n : Nat) : 0 < (decL n).length := by
  by_cases h : n < 10
  · rw [decL_small n h]; simp
  · rw [decL_big n (by omega), List.length_append]; simp
theorem dig_val (y : Int) (h0 : 0 ≤ y) : (48 + y % 10) = (((UInt8.ofNat (48 + y.toNat % 10)).toNat : Nat) : Int) := by
  rw [u8_val]; omega
/-- How the loop goes on. -/
theorem dec_more (Y y : Nat) (l : List UInt8) (a : Nat) (hl : l.length = 20) (h : decL Y = decL y ++ l.drop a) (hY : (decL Y).length ≤ 20) (ha : a ≤ 20) :
    0 < a ∧ (y < 10 → (l.set (a - 1) (UInt8.ofNat (48 + y % 10))).drop (a - 1) = decL Y) ∧ (10 ≤ y → decL Y = decL (y / 10) ++ (l.set (a - 1) (UInt8.ofNat (48 + y % 10))).drop (a - 1)) := by
  have hp := decL_pos y
  have hlen := congrArg List.length h
  rw [List.length_append, List.length_drop] at hlen
  have ha0 : 0 < a := by omega
  refine ⟨ha0, fun hy => ?_, fun hy => ?_⟩
  · rw [set_drop _ _ _ (by omega), h, decL_small y hy, show a - 1 + 1 = a by omega, Nat.mod_eq_of_lt hy]; rfl
  · rw [set_drop _ _ _ (by omega), h, decL_big y hy, show a - 1 + 1 = a by omega, List.append_assoc]; rfl
end Go.Proofs.YtfjpbkdijglfdaaDoor
