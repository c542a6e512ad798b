import Derived.Test.YtfjpbkdijglfdaaDoorMac3
set_option linter.unusedVariables false
namespace Go.Proofs.YtfjpbkdijglfdaaDoor
open Go.RowKit
def aB (l : List UInt8) : Array Value := (bC l).toArray
theorem aB_size (l : List UInt8) : (aB l).size = l.length := by simp [aB, bC_len]
theorem aB_at (l : List UInt8) (j : Nat) (h : j < l.length) : (aB l)[j]? = some (.int .u8 l[j].toNat) := by rw [aB, List.getElem?_toArray, bC_at l j h]
theorem aB_one (l : List UInt8) : (aB l).all (·.oneCell') = true := by
  rw [Array.all_eq_true_iff_forall_mem]
  intro x hx
  rw [aB, List.mem_toArray] at hx
  exact bC_one l x hx
theorem rest_info (l : List UInt8) (h : l.length = 64) : (Tryd.prog.info? 43).map (·.size) = some (aB l).size := by rw [aB_size, h]; kernel_rfl
theorem aB_set (l : List UInt8) (k : Nat) (y : UInt8) : (aB l).setIfInBounds k (.int .u8 y.toNat) = aB (l.set k y) := by
  apply Array.ext_getElem?
  intro i
  rw [Array.getElem?_setIfInBounds, aB_size]
  by_cases hi : i < l.length
  · rw [aB_at (l.set k y) _ (by rw [List.length_set]; exact hi), List.getElem_set]
    by_cases e : k = i
    · subst e; rw [if_pos rfl, if_pos hi, if_pos rfl]
    · rw [if_neg e, if_neg e, aB_at _ _ hi]
  · rw [Array.getElem?_eq_none (xs := aB (l.set k y)) (by rw [aB_size, List.length_set]; omega)]
    by_cases e : k = i
    · rw [if_pos e, if_neg (by omega)]
    · rw [if_neg e, Array.getElem?_eq_none (by rw [aB_size]; omega)]
/-- The first k bytes turned. -/
def xorK (B : List UInt8) (x : UInt8) (k : Nat) : List UInt8 := xorZ (B.take k) x ++ B.drop k
theorem xorK_len (B : List UInt8) (x : UInt8) (k : Nat) : (xorK B x k).length = B.length := by simp [xorK, xorZ]; omega
theorem xorK_at (B : List UInt8) (x : UInt8) (k : Nat) (h : k < B.length) (h' : k < (xorK B x k).length) : (xorK B x k)[k] = B[k] := by
  simp only [xorK]
  rw [List.getElem_append_right (by rw [xorZ_len, List.length_take]; omega)]
  simp [xorZ_len, Nat.min_eq_left (Nat.le_of_lt h)]
theorem xorK_step (B : List UInt8) (x : UInt8) (k : Nat) (h : k < B.length) : (xorK B x k).set k (B[k] ^^^ x) = xorK B x (k + 1) := by
  have hl : (xorZ (B.take k) x).length = k := by rw [xorZ_len, List.length_take]; omega
  have e1 : B.drop k = B[k] :: B.drop (k + 1) := List.drop_eq_getElem_cons h
  have e2 : B.take (k + 1) = B.take k ++ [B[k]] := List.take_succ_eq_append_getElem h
  unfold xorK
  rw [List.set_append_right _ _ (by omega), hl, Nat.sub_self, e1, e2]
  simp only [List.set_cons_zero, xorZ, List.map_append, List.map_cons, List.map_nil, List.append_assoc, List.singleton_append]
theorem xorK_end (B : List UInt8) (x : UInt8) : xorK B x B.length = xorZ B x := by simp [xorK]
/-- Where mixed stands. -/
def MT (w wr : World) (l : List UInt8) : Prop := wr.heap[w.heap.size]? = some (.cells (aB l) 43 (0, 0)) ∧ Below w.heap.size w wr
theorem MT.cell {w wr : World} {l : List UInt8} (h : MT w wr l) (j : Nat) (hj : j < l.length) : wr.cell? ⟨w.heap.size, j, none⟩ = some (.int .u8 l[j].toNat) := by
  simp only [World.cell?, h.1]
  simpa using aB_at l j hj
theorem MT.frozen {w wr : World} {l : List UInt8} (h : MT w wr l) (j : Nat) : wr.frozen? ⟨w.heap.size, j, none⟩ = false := by simp [World.frozen?, h.1]
theorem MT.store {w wr : World} {l : List UInt8} (h : MT w wr l) (k : Nat) (y : UInt8) : MT w (wr.setCell ⟨w.heap.size, k, none⟩ (.int .u8 y.toNat)) (l.set k y) := by
  refine ⟨?_, h.2.setCell (Nat.le_refl _) _⟩
  simp only [World.setCell, Array.getElem?_modify, h.1, if_true, Option.map_some, ← aB_set]
  rfl
theorem MT.str {w wr : World} {l : List UInt8} (h : MT w wr l) (hl : l.length = 64) : (convert 34 9 (.slice (some ⟨w.heap.size, 0, none⟩) 64 64)).run Tryd.prog wr = .ok (.string ⟨l.toArray⟩) wr := by
  have := run_convert_bytes_back (P := Tryd.prog) wr 34 9 5 ⟨w.heap.size, 0, none⟩ 64 l Tryd.underlying34 Tryd.underlying5 Tryd.underlying9 (fun j hj => by
    rw [show (⟨w.heap.size, 0, none⟩ : Addr).add j = ⟨w.heap.size, j, none⟩ by simp [Addr.add]; omega]
    exact h.cell j hj)
  rw [hl] at this
  exact this
set_option maxRecDepth 100000 in
set_option maxHeartbeats 1000000 in
theorem mixed_calls (kb : Nat) (B : List UInt8) (hB : B.length = 64) (x : UInt8) (X : Int) (hX : X = (x.toNat : Int)) (w : World) (hk : w.heap[kb]? = some (.cells (aB B) 43 (0, 0))) :
    Calls Tryd.prog 30 #[.int .u8 X, .pointer (some ⟨kb, 0, none⟩)] w fun e w' => e = .returned (.string ⟨(xorZ B x).toArray⟩) ∧ Below w.heap.size w w' := by
  have hin := rest_info B hB
  have hz0 := heap_alloc_last w (.cells (aB (List.replicate 64 0)) 43)
  have HX := Lib.hid hX
  have HBL := Lib.hid hB
  have X0 : 0 ≤ X := by omega
  have X1 : X ≤ 255 := by have := x.toNat_lt; omega
  clear hX hB
  go_enter Tryd.func30, Tryd.ntmps30
  go_wp2_with (first
    | (refine wpList_load_row rfl 43 _ rfl kb rfl 43 (aB B) (0, 0) _ hk Tryd.underlying43 rfl hin ?_)
    | (with_reducible refine wpList_store_row (o := ⟨none, .store 43 (.tmp 4) (.tmp 6), _, _, _, _⟩) ?_ 43 (.tmp 4) (.tmp 6) ?_ w.heap.size (aB B) ?_ ?_ 43 (aB (List.replicate 64 0)) ?_ hin ?_ (aB_one _) ?_
       · exact rfl
       · exact rfl
       · exact rfl
       · exact rfl
       · exact hz0
       · rw [aB_size, aB_size, HBL.out]; rfl))
  have h0 : MT w ((w.alloc (.cells (aB (List.replicate 64 0)) 43)).setRow w.heap.size (aB B)) (xorK B x 0) := by
    have e : xorK B x 0 = B := by simp [xorK, xorZ]
    rw [e]
    exact ⟨setRow_same (heap_alloc_last w _) _, below_setRow ((Below.refl _ _).alloc (Nat.le_refl _) _) (Nat.le_refl _) _⟩
  have H0 := Lib.hid h0
  clear h0
  go_loopw [5, 7] (fun _ iv wr => ∃ k : Nat, k ≤ 64 ∧ iv = .int .i64 k ∧ Hid (MT w wr (xorK B x k))) (fun _ iv _ => (64 - (intOf iv)).toNat)
  case atStart => exact ⟨0, by omega, rfl, H0⟩
  case round =>
    obtain ⟨k, hk', rfl, HM⟩ := hrel
    by_cases hlt : k < 64
    · have hki : (k : Int) < 64 := by omega
      have hkB : k < B.length := by rw [HBL.out]; exact hlt
      have hc := HM.out.cell k (by rw [xorK_len]; exact hkB)
      rw [xorK_at B x k hkB] at hc
      have hf := HM.out.frozen k
      have hst := HM.out.store k (B[k] ^^^ x)
      rw [xorK_step B x k hkB, ← xor8, ← HX.out] at hst
      have HST := Lib.hid hst
      clear hst
      go_wp2
      go_roundw
      case rel => exact ⟨k + 1, by omega, by go_num, HST⟩
      case measure => simp [intOf]; omega
    · obtain rfl : k = 64 := by omega
      rw [show (((64 : Nat)) : Int) = 64 from rfl]
      have hm := HM.out
      rw [show (64 : Nat) = B.length from HBL.out.symm, xorK_end] at hm
      have hstr := hm.str (by rw [xorZ_len, HBL.out])
      have HB := Lib.hid hm.2
      clear hm
      go_wp2
      go_ret
      exact ⟨rfl, HB.out⟩
end Go.Proofs.YtfjpbkdijglfdaaDoor
