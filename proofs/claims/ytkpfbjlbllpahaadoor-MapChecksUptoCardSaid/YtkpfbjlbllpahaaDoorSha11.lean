import Derived.Test.YtkpfbjlbllpahaaDoorSha10
set_option linter.unusedVariables false
namespace Go.Proofs.YtkpfbjlbllpahaaDoor
open Go.RowKit
/-- The state behind the first k blocks of a text. -/
def feedN (st : List Int) (l : List UInt8) : Nat → List Int
  | 0 => st
  | k + 1 => takeZ (feedN st l k) ((l.drop (64 * k)).take 64)
/-- .. behind all whole blocks. -/
def feedZ (st : List Int) (l : List UInt8) : List Int := feedN st l (l.length / 64)
/-- What is left over. -/
def leftZ (l : List UInt8) : List UInt8 := l.drop (64 * (l.length / 64))
theorem feedN_ok {st : List Int} (h : stOk st) (l : List UInt8) (k : Nat) : stOk (feedN st l k) := by
  induction k with
  | zero => exact h
  | succ k ih => exact takeZ_ok ih _
theorem feedN_pre (st : List Int) (l m : List UInt8) (k : Nat) (h : 64 * k ≤ l.length) : feedN st (l ++ m) k = feedN st l k := by
  induction k with
  | zero => rfl
  | succ k ih =>
    rw [feedN, feedN, ih (by omega)]
    congr 1
    rw [List.drop_append_of_le_length (by omega), List.take_append_of_le_length (by rw [List.length_drop]; omega)]
theorem feedN_more (st : List Int) (l : List UInt8) (c k : Nat) : feedN st l (c + k) = feedN (feedN st l c) (l.drop (64 * c)) k := by
  induction k with
  | zero => rfl
  | succ k ih =>
    rw [show c + (k + 1) = (c + k) + 1 by omega, feedN, feedN, ih, List.drop_drop]
    congr 3
    omega
theorem leftZ_len (l : List UInt8) : (leftZ l).length = l.length % 64 := by unfold leftZ; rw [List.length_drop]; omega
/-- A state as bytes. -/
def textN (st : List Int) : Nat → List UInt8
  | 0 => []
  | k + 1 => textN st k ++ putZ (st.getD k 0).toNat 4
def textZ (st : List Int) : List UInt8 := textN st 8
theorem textN_len (st : List Int) (k : Nat) : (textN st k).length = 4 * k := by
  induction k with
  | zero => rfl
  | succ k ih => rw [textN, List.length_append, ih, putZ_len]; omega
/-- SHA-256. -/
def shaZ (s : List UInt8) : List UInt8 := textZ (feedZ beginZ (s ++ padZ s.length))
theorem shaZ_len (s : List UInt8) : (shaZ s).length = 32 := textN_len _ 8
theorem make32 (w : World) : (Instr.makeSlice 77 (.int .i64 0) (.int .i64 32)).run Tryd.prog w = .ok (.slice (some ⟨w.heap.size, 0, none⟩) 0 32) (w.alloc (.cells (Array.replicate 32 (.int .u8 0)) 5)) := by kernel_rfl
theorem row_empty (w : World) (cs : Array Value) (e : TypeId) (cap size : Nat) (hn : cap ≤ maxLen) (hs : cs.size = cap * size) : Row (w.alloc (.cells cs e)) w.heap.size size (.slice (some ⟨w.heap.size, 0, none⟩) 0 cap) 0 [] := by
  refine ⟨by simp, .inr ⟨w.heap.size, cap, rfl, Nat.le_refl _, by simp, Nat.zero_le _, hn, fun j u hu => (by cases hu), fun j hj => ⟨?_, World.frozen?_alloc_new w _ _ j⟩⟩⟩
  have e1 : (w.alloc (.cells cs e)).cell? ⟨w.heap.size, j, none⟩ = _ := World.cell?_alloc_new w _ _ j
  rw [e1, Array.getElem?_eq_getElem (by omega)]; rfl
set_option maxRecDepth 100000 in
set_option maxHeartbeats 1000000 in
theorem text_calls (hb : Nat) (st : List Int) (hst : stOk st) (w : World) (hhb : hb < w.heap.size) (hc : ∀ j, j < 8 → w.cell? ⟨hb, j, none⟩ = some (.int .u32 (st.getD j 0))) :
    Calls Tryd.prog 127 #[.pointer (some ⟨hb, 0, none⟩)] w fun e w' => e = .returned (.string ⟨(textZ st).toArray⟩) ∧ Below w.heap.size w w' := by
  have hmk := make32
  have h0 : RowB (w.alloc (.cells (Array.replicate 32 (.int .u8 0)) 5)) w.heap.size (.slice (some ⟨w.heap.size, 0, none⟩) 0 32) [] := row_empty w _ 5 32 1 (by unfold maxLen; omega) (by simp)
  have H0 := Lib.hid h0
  have HC := Lib.hid hc
  have HST := Lib.hid hst
  clear h0 hc hst
  go_enter Tryd.func127, Tryd.ntmps127
  go_wp2
  go_loopw [3, 5, 8] (fun lv _ iv wr => ∃ k : Nat, k ≤ 8 ∧ iv = .int .i64 k ∧ Hid (RowB wr w.heap.size lv (textN st k)) ∧ Hid (Below w.heap.size w wr)) (fun _ _ iv _ => (8 - (intOf iv)).toNat)
  case atStart => exact ⟨0, by omega, rfl, H0, Lib.hid ((Below.refl _ _).alloc (Nat.le_refl _) _)⟩
  case round =>
    obtain ⟨k, hk, rfl, HO, HB⟩ := hrel
    by_cases hlt : k < 8
    · have hki : (k : Int) < 8 := by omega
      have hcell : wr.cell? ⟨hb, k, none⟩ = some (.int .u32 (st.getD k 0)) := (HB.out.cell (p := ⟨hb, k, none⟩) hhb).trans (HC.out k hlt)
      obtain ⟨x0, x1⟩ := HST.out.at k
      have hsz : w.heap.size ≤ wr.heap.size := HB.out.size
      have hstep : textN st (k + 1) = textN st k ++ putZ (st.getD k 0).toNat 4 := rfl
      have HS := Lib.hid hstep
      have hll : (textN st k).length + 8 < 140737488355328 := by rw [textN_len]; omega
      have HLL := Lib.hid hll
      clear hstep hll
      generalize st.getD k 0 = x at *
      have C := Lib.hid (fun v (hr : RowB wr w.heap.size v (textN st k)) => put4_calls w.heap.size v (textN st k) x x0 x1 wr hr HLL.out hsz)
      go_wp2_with (go_at_call 144; (with_reducible refine (C.out _ HO.out).mono ?_); rintro e w1 ⟨v1, rfl, hr1, hb1, -⟩; have HR1 := Lib.hid hr1; have HB1 := Lib.hid hb1; clear hr1 hb1)
      go_roundw
      case rel => exact ⟨k + 1, by omega, by go_num, by rw [HS.out]; exact HR1, Lib.hid (HB.out.trans HB1.out)⟩
      case measure => simp [intOf]; omega
    · obtain rfl : k = 8 := by omega
      rw [show (((8 : Nat)) : Int) = 8 from rfl]
      have hstr := HO.out.str
      rw [show textN st 8 = textZ st from rfl] at hstr
      go_wp2
      go_ret
      exact ⟨rfl, HB.out⟩
end Go.Proofs.YtkpfbjlbllpahaaDoor
