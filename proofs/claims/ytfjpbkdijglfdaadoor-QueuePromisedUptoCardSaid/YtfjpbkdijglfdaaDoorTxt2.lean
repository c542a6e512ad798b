import Derived.Test.YtfjpbkdijglfdaaDoorTxt1
import Derived.Laws.MakeOwn
set_option linter.unusedVariables false
namespace Go.Proofs.YtfjpbkdijglfdaaDoor
open Go.RowKit
def hexZ (l : List UInt8) : List UInt8 := l.flatMap fun c => [hexD (c.toNat / 16), hexD (c.toNat % 16)]
theorem hexZ_step (l : List UInt8) (k : Nat) (h : k < l.length) : hexZ (l.take (k + 1)) = hexZ (l.take k) ++ [hexD (l[k].toNat / 16), hexD (l[k].toNat % 16)] := by
  rw [List.take_succ_eq_append_getElem h, hexZ, List.flatMap_append]; rfl
theorem hexZ_len (l : List UInt8) : (hexZ l).length = 2 * l.length := by
  induction l with
  | nil => rfl
  | cons a r ih => rw [hexZ, List.flatMap_cons, List.length_append]; rw [hexZ] at ih; rw [ih]; simp; omega
set_option maxRecDepth 100000 in
set_option maxHeartbeats 1000000 in
theorem each_hex (w0 wa : World) (ob : Nat) (s : ByteArray) (hs : 2 * s.size ≤ 140737488355328) (h : HX w0 wa ob []) :
    Calls Tryd.prog 31 #[.string s, .func (.func 32) #[] #[.pointer (some ⟨ob, 0, none⟩)]] wa fun e w' => e = .returned (.bool true) ∧ HX w0 w' ob (hexZ s.data.toList) := by
  have hl : s.data.toList.length = s.size := by simp
  have HL := Lib.hid hl
  have H0 := Lib.hid h
  have hsz : s.size ≤ 140737488355328 := by omega
  clear hl h
  go_enter Tryd.func31, Tryd.ntmps31
  go_wp2
  go_loopw [5] (fun iv wy => ∃ k : Nat, k ≤ s.size ∧ iv = .int .i64 k ∧ Hid (HX w0 wy ob (hexZ (s.data.toList.take k)))) (fun iv _ => (s.size - (intOf iv)).toNat)
  case atStart => exact ⟨0, by omega, rfl, H0⟩
  case round =>
    obtain ⟨k, hk, rfl, HH⟩ := hrel
    by_cases hlt : k < s.size
    · have hki : (k : Int) < s.size := by omega
      have hkl : k < s.data.toList.length := by rw [HL.out]; exact hlt
      have hst := hexZ_step s.data.toList k hkl
      have hx : s[k] = s.data.toList[k] := by simp [ByteArray.getElem_eq_getElem_data]
      have cC := Lib.hid (hexclo_calls w0 wr ob (hexZ (s.data.toList.take k)) s[k] (s[k].toNat : Int) rfl HH.out (by rw [hexZ_len, List.length_take]; omega))
      have HST := Lib.hid hst
      have HXX := Lib.hid hx
      clear hst hx
      go_wp2_with (go_at_call 32; (with_reducible refine cC.out.mono ?_); rintro e w1 ⟨rfl, hh1⟩; have HH1 := Lib.hid hh1; clear hh1)
      go_roundw
      case rel => exact ⟨k + 1, by omega, by go_num, Lib.hid (by rw [HST.out, ← HXX.out]; exact HH1.out)⟩
      case measure => simp [intOf]; omega
    · obtain rfl : k = s.size := by omega
      have hend := HH.out
      rw [List.take_of_length_le (by rw [HL.out]; exact Nat.le_refl _)] at hend
      have HE := Lib.hid hend
      clear hend
      go_wp2
      go_ret
      exact ⟨rfl, HE.out⟩
set_option maxRecDepth 100000 in
set_option maxHeartbeats 1000000 in
theorem hex_calls (s : ByteArray) (hs : 2 * s.size ≤ 140737488355328) (w : World) : Calls Tryd.prog 18 #[.string s] w fun e w' => e = .returned (.string ⟨(hexZ s.data.toList).toArray⟩) ∧ Below w.heap.size w w' := by
  obtain ⟨i0, hi, hz0, hz1, hz2⟩ := info_parts infoU8
  have hmk : ∀ W : World, (Instr.makeSlice 34 (.int .i64 0) (.int .i64 (2 * (s.size : Int)))).run Tryd.prog W = .ok (.slice (some ⟨W.heap.size, 0, none⟩) 0 (2 * s.size)) (W.alloc (.cells (madeCells #[.int .u8 0] (2 * s.size)) 5)) := by
    intro W
    have h := run_make (P := Tryd.prog) W 34 5 i0 (.int .u8 0) Tryd.underlying34 hi hz0 .i64 .i64 0 (2 * (s.size : Int)) (by omega) (by omega) (by rw [hz2]; omega) (by omega)
    rw [h, hz1]
    simp only [Int.toNat_zero, Nat.mul_one, show (2 * (s.size : Int)).toNat = 2 * s.size by omega]
    rfl
  have h0 : HX w (((w.alloc (.cells (madeCells #[.int .u8 0] (2 * s.size)) 5)).alloc (.cells #[.slice (some ⟨w.heap.size, 0, none⟩) 0 (2 * s.size)] 34))) (w.heap.size + 1) [] := by
    have hr : RowB (w.alloc (.cells (madeCells #[.int .u8 0] (2 * s.size)) 5)) w.heap.size (.slice (some ⟨w.heap.size, 0, none⟩) 0 (2 * s.size)) [] := row_empty w _ 5 (2 * s.size) 1 (by unfold maxLen; omega) (by simp [size_madeCells])
    have e1 : (w.alloc (.cells (madeCells #[.int .u8 0] (2 * s.size)) 5)).heap.size = w.heap.size + 1 := by show (w.heap.push _).size = _; simp
    refine ⟨_, ?_, hr.alloc _, by simp [Value.ownBlock], by omega, ((Below.refl _ _).alloc (Nat.le_refl _) _).alloc (by omega) _⟩
    have := heap_alloc_last (w.alloc (.cells (madeCells #[.int .u8 0] (2 * s.size)) 5)) (.cells #[.slice (some ⟨w.heap.size, 0, none⟩) 0 (2 * s.size)] 34)
    rw [e1] at this
    exact this
  have cE := Lib.hid (each_hex w _ (w.heap.size + 1) s hs h0)
  clear h0
  go_enter Tryd.func18, Tryd.ntmps18
  go_wp2_with (go_at_call 31; (with_reducible refine cE.out.mono ?_); rintro e w1 ⟨rfl, v, hv, hr, hne, hob, hb⟩; have hcell : w1.cell? ⟨w.heap.size + 1, 0, none⟩ = some v := by simp [World.cell?, hv]
               have hstr := hr.str
               have HB := Lib.hid hb
               clear hv hr hne hob hb)
  go_ret
  exact ⟨rfl, HB.out⟩
end Go.Proofs.YtfjpbkdijglfdaaDoor
