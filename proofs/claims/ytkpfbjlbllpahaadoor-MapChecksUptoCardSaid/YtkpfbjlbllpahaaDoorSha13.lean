import Derived.Test.YtkpfbjlbllpahaaDoorSha12
import Derived.Lib.SlBuf
import Derived.Lib.BufferWrite
set_option linter.unusedVariables false
namespace Go.Proofs.YtkpfbjlbllpahaaDoor
open Go.RowKit
theorem feed_even (B : List Int) (t p : List UInt8) (h : t.length % 64 = 0) : feedZ B (t ++ p) = feedZ (feedZ B t) p ∧ leftZ (t ++ p) = leftZ p := by
  have e : (t ++ p).length / 64 = t.length / 64 + p.length / 64 := by rw [List.length_append]; omega
  have e2 : 64 * (t.length / 64) = t.length := by omega
  constructor
  · unfold feedZ
    rw [e, feedN_more, feedN_pre B t p _ (by omega), e2, List.drop_left]
  · unfold leftZ
    rw [e, Nat.mul_add, ← List.drop_drop, e2, List.drop_left]
theorem feed_full (B : List Int) (t p : List UInt8) (h : 64 ≤ t.length % 64 + p.length) (h0 : 0 < t.length % 64) : feedZ B (t ++ p) = feedZ (takeZ (feedZ B t) (leftZ t ++ p.take (64 - t.length % 64))) (p.drop (64 - t.length % 64)) ∧ leftZ (t ++ p) = leftZ (p.drop (64 - t.length % 64)) := by
  have hl := leftZ_len t
  have e : (t ++ p).length / 64 = (t.length / 64 + 1) + (p.drop (64 - t.length % 64)).length / 64 := by rw [List.length_append, List.length_drop]; omega
  have hd : (t ++ p).drop (64 * (t.length / 64)) = leftZ t ++ p := by unfold leftZ; rw [List.drop_append_of_le_length (by omega)]
  have hd1 : (t ++ p).drop (64 * (t.length / 64 + 1)) = p.drop (64 - t.length % 64) := by
    rw [Nat.mul_add, ← List.drop_drop, hd, List.drop_append, List.drop_of_length_le (by omega), List.nil_append]
    congr 1; omega
  constructor
  · unfold feedZ
    rw [e, feedN_more, hd1]
    congr 1
    rw [feedN, feedN_pre B t p _ (by omega), hd]
    congr 1
    rw [List.take_append, List.take_of_length_le (by omega)]
    congr 2; omega
  · show (t ++ p).drop (64 * ((t ++ p).length / 64)) = _
    rw [e, Nat.mul_add, ← List.drop_drop, hd1]; rfl
theorem feed_short (B : List Int) (t p : List UInt8) (h : t.length % 64 + p.length < 64) : feedZ B (t ++ p) = feedZ B t ∧ leftZ (t ++ p) = leftZ t ++ p := by
  have e : (t ++ p).length / 64 = t.length / 64 := by rw [List.length_append]; omega
  constructor
  · unfold feedZ; rw [e, feedN_pre B t p _ (by omega)]
  · unfold leftZ; rw [e, List.drop_append_of_le_length (by omega)]
theorem feed_nil (B : List Int) : feedZ B [] = B := rfl
theorem left_nil : leftZ [] = [] := rfl
/-- What stands behind a hash's state: the bytes of the block that is not full, how many were taken. -/
def hT (R : List UInt8) (n : Nat) : Array Value := (bC R ++ [Value.int .i64 n]).toArray
/-- A hash that has taken n bytes. -/
def HashAt (w : World) (hb : Nat) (st : List Int) (R : List UInt8) (n : Nat) : Prop := R.length = 64 ∧ w.heap[hb]? = some (.cells (hcells st (hT R n)) 159 (0, 0))
/-- Bytes laid over others. -/
def over (R : List UInt8) (o : Nat) (l : List UInt8) : List UInt8 := R.take o ++ l ++ R.drop (o + l.length)
theorem over_len (R : List UInt8) (o : Nat) (l : List UInt8) (h : o + l.length ≤ R.length) : (over R o l).length = R.length := by simp [over]; omega
theorem hcells_over (st : List Int) (R : List UInt8) (n o : Nat) (l : List UInt8) (h : o + l.length ≤ R.length) :
    ((hcells st (hT R n)).toList.take (8 + o) ++ bC l ++ (hcells st (hT R n)).toList.drop (8 + o + l.length)).toArray = hcells st (hT (over R o l) n) := by
  have e8 : (a8 st).toList.length = 8 := by rw [Array.length_toList, a8_size]
  apply Array.ext'
  simp only [hcells, hT, Array.toList_append]
  have h1 : ((a8 st).toList ++ (bC R ++ [Value.int .i64 n])).take (8 + o) = (a8 st).toList ++ bC (R.take o) := by
    rw [List.take_append, List.take_of_length_le (by omega), e8]
    congr 1
    rw [show 8 + o - 8 = o by omega, List.take_append_of_le_length (by rw [bC_len]; omega)]
    simp [bC, List.map_take]
  have h2 : ((a8 st).toList ++ (bC R ++ [Value.int .i64 n])).drop (8 + o + l.length) = bC (R.drop (o + l.length)) ++ [Value.int .i64 n] := by
    rw [List.drop_append, List.drop_of_length_le (by omega), List.nil_append, e8, show 8 + o + l.length - 8 = o + l.length by omega, List.drop_append_of_le_length (by rw [bC_len]; omega)]
    simp [bC, List.map_drop]
  rw [h1, h2, over, bC_app, bC_app]
  simp [List.append_assoc]
/-- 'copy(dst, s)', dst a part of a block, s a string. -/
theorem run_copy_part {P : Program} (w : World) (dT sT ty elem : TypeId) (g o dLen dCap : Nat) (s : ByteArray) (k : Nat) (cur : Array Value) (t : TypeId)
    (hu : P.underlying dT = some (.slice elem)) (hs : (P.info? elem).map (·.size) = some 1) (hg : w.heap[g]? = some (.cells cur t (0, 0))) (hk : k = Nat.min s.size dLen) (hfit : o + k ≤ cur.size) :
    (Builtin.copy_ #[dT, sT] ty #[.slice (some ⟨g, o, none⟩) dLen dCap, .string s]).run P w =
      .ok (.int .i64 k) (w.setRow g (cur.toList.take o ++ bC (s.data.toList.take k) ++ cur.toList.drop (o + k)).toArray) := by
  have hlen : (bC (s.data.toList.take k)).length = k := by
    rw [bC_len, List.length_take]
    have : s.data.toList.length = s.size := by simp
    have : k ≤ s.size := by rw [hk]; exact Nat.min_le_left _ _
    omega
  have hst := run_storeCells_at P g o t (bC (s.data.toList.take k)) 0 cur w hg (by rw [hlen]; simpa using hfit) (bC_one _)
  have htk : List.take k (List.map (fun b : UInt8 => Value.int IntKind.u8 (b.toNat : Int)) s.data.toList) = bC (s.data.toList.take k) := by
    simp [bC, List.map_take]
  rw [hlen] at hst
  simp only [Nat.add_zero] at hst
  cases hq : P.info? elem with
  | none => simp [hq] at hs
  | some i =>
    simp [Builtin.copy_, run_underlying hu, Builtin.lenOf, Builtin.firstCells, sizeOf, typeInfo, hq, ← hk]
    rw [htk, hst]
    simp [Result.andThen, goInt]
theorem HashAt.cells {w : World} {hb n : Nat} {st : List Int} {R : List UInt8} (h : HashAt w hb st R n) : (∀ j, j < 8 → w.cell? ⟨hb, j, none⟩ = some (.int .u32 (st.getD j 0))) ∧
    (∀ j (hj : j < R.length), w.cell? ⟨hb, 8 + j, none⟩ = some (.int .u8 R[j].toNat)) ∧ w.cell? ⟨hb, 72, none⟩ = some (.int .i64 n) ∧ ∀ j, w.frozen? ⟨hb, j, none⟩ = false := by
  obtain ⟨hR, hh⟩ := h
  have key : ∀ j, w.cell? ⟨hb, j, none⟩ = (hcells st (hT R n))[j]? := fun j => by simp [World.cell?, hh]
  refine ⟨fun j hj => by rw [key]; exact hcells_at _ _ _ hj, fun j hj => ?_, ?_, fun j => by simp [World.frozen?, hh]⟩
  · rw [key, hcells, Array.getElem?_append_right (by rw [a8_size]; omega), a8_size, show 8 + j - 8 = j by omega, hT, List.getElem?_toArray, List.getElem?_append_left (by rw [bC_len]; exact hj), bC_at _ _ hj]
  · rw [key, hcells, Array.getElem?_append_right (by rw [a8_size]; omega), a8_size, hT, List.getElem?_toArray, List.getElem?_append_right (by rw [bC_len]; omega), bC_len, hR]; rfl
theorem HashAt.lt {w : World} {hb n : Nat} {st : List Int} {R : List UInt8} (h : HashAt w hb st R n) : hb < w.heap.size := (Array.getElem?_eq_some_iff.1 h.2).1
theorem HashAt.setN {w : World} {hb n : Nat} {st : List Int} {R : List UInt8} (h : HashAt w hb st R n) (m : Nat) : HashAt (w.setCell ⟨hb, 72, none⟩ (.int .i64 m)) hb st R m := by
  obtain ⟨hR, hh⟩ := h
  refine ⟨hR, ?_⟩
  simp only [World.setCell, Array.getElem?_modify, hh, if_true, Option.map_some]
  have : (hcells st (hT R n)).setIfInBounds 72 (.int .i64 m) = hcells st (hT R m) := by
    apply Array.ext_getElem?
    intro i
    have hs : ∀ n, (hcells st (hT R n)).size = 73 := fun n => by rw [hcells, Array.size_append, a8_size, hT]; simp [bC_len, hR]
    rw [Array.getElem?_setIfInBounds, hs]
    by_cases e : 72 = i
    · subst e
      rw [if_pos rfl, if_pos (by omega), hcells, Array.getElem?_append_right (by rw [a8_size]; omega), a8_size, hT, List.getElem?_toArray, List.getElem?_append_right (by rw [bC_len]; omega), bC_len, hR]; rfl
    · rw [if_neg e]
      by_cases h8 : i < 8
      · rw [hcells_at _ _ _ h8, hcells_at _ _ _ h8]
      · by_cases h72 : i < 72
        · rw [hcells, hcells, Array.getElem?_append_right (by rw [a8_size]; omega), Array.getElem?_append_right (by rw [a8_size]; omega), a8_size, hT, hT, List.getElem?_toArray, List.getElem?_toArray, List.getElem?_append_left (by rw [bC_len]; omega), List.getElem?_append_left (by rw [bC_len]; omega)]
        · rw [Array.getElem?_eq_none (by rw [hs]; omega), Array.getElem?_eq_none (by rw [hs]; omega)]
  rw [this]; rfl
set_option maxHeartbeats 400000 in
theorem held_calls (hb : Nat) (n : Nat) (w : World) (hc : w.cell? ⟨hb, 72, none⟩ = some (.int .i64 n)) : Calls Tryd.prog 122 #[.pointer (some ⟨hb, 0, none⟩)] w fun e w' => e = .returned (.int .i64 ((n % 64 : Nat) : Int)) ∧ w = w' := by
  go_enter Tryd.func122, Tryd.ntmps122
  go_wp2
  go_ret
  exact ⟨rfl, rfl⟩
end Go.Proofs.YtkpfbjlbllpahaaDoor
