import Derived.Test.YtfjpbkdijglfdaaDoorTxt2
set_option linter.unusedVariables false
namespace Go.Proofs.YtfjpbkdijglfdaaDoor
open Go.RowKit
theorem sign_lit (v : Int) (h0 : 0 ≤ v) (h1 : v < 16) (w : World) : Calls Tryd.prog 22 #[.string ⟨#[48, 49, 50, 51, 52, 53, 54, 55, 56, 57, 97, 98, 99, 100, 101, 102]⟩, .int .i64 v] w fun e w' => e = .returned (.string ⟨#[hexD v.toNat]⟩) ∧ w = w' := sign_calls v h0 h1 w
set_option maxRecDepth 100000 in
set_option maxHeartbeats 1000000 in
theorem refhex_calls (s : ByteArray) (hs : 2 * s.size ≤ 140737488355328) (w : World) : Calls Tryd.prog 11 #[.string s] w fun e w' => e = .returned (.string ⟨(hexZ s.data.toList).toArray⟩) ∧ Below w.heap.size w w' := by
  have hl : s.data.toList.length = s.size := by simp
  have HL := Lib.hid hl
  have hsz : s.size ≤ 140737488355328 := by omega
  clear hl
  go_enter Tryd.func11, Tryd.ntmps11
  go_wp2
  go_loopw [3, 4] (fun xv iv wr => ∃ (k : Nat) (x : ByteArray), k ≤ s.size ∧ iv = .int .i64 k ∧ xv = .string x ∧ Hid (x.data.toList = hexZ (s.data.toList.take k)) ∧ Hid (Below w.heap.size w wr)) (fun _ iv _ => (s.size - (intOf iv)).toNat)
  case atStart => exact ⟨0, ⟨#[]⟩, by omega, rfl, rfl, Lib.hid rfl, Lib.hid (Below.refl _ _)⟩
  case round =>
    obtain ⟨k, x, hk, rfl, rfl, HX, HB⟩ := hrel
    by_cases hlt : k < s.size
    · have hki : (k : Int) < s.size := by omega
      have hkl : k < s.data.toList.length := by rw [HL.out]; exact hlt
      have hst := hexZ_step s.data.toList k hkl
      have hx : s[k] = s.data.toList[k] := by simp [ByteArray.getElem_eq_getElem_data]
      have hc := s[k].toNat_lt
      have hxs : x.size ≤ 140737488355328 := by
        have h1 := congrArg List.length HX.out
        rw [hexZ_len, List.length_take] at h1
        have h2 : x.data.toList.length = x.size := by simp
        have h3 := HL.out
        omega
      obtain ⟨C, hC⟩ : ∃ C : Int, C = (s[k].toNat : Int) := ⟨_, rfl⟩
      have C0 : 0 ≤ C := by omega
      have C1 : C ≤ 255 := by omega
      have S1 := Lib.hid (fun w => sign_lit (C / 16) (by omega) (by omega) w)
      have S2 := Lib.hid (fun w => sign_lit (C % 16) (by omega) (by omega) w)
      rw [hC] at S1 S2
      have HC := Lib.hid hC
      have HST := Lib.hid hst
      have HXX := Lib.hid hx
      clear hst hx hC
      go_wp2
      go_quiet ((go_at_call 22; first | with_reducible exact quiet_left (S1.out _) | with_reducible exact quiet_left (S2.out _)))
      go_wp2
      go_roundw
      case rel =>
        refine ⟨k + 1, _, by omega, by go_num, rfl, Lib.hid ?_, Lib.hid ⟨HB.out.os, HB.out.tape, HB.out.output, HB.out.size, HB.out.block⟩⟩
        rw [HST.out, app_toList, app_toList, HX.out, ← HXX.out]
        rw [List.append_assoc]; rfl
      case measure => simp [intOf]; omega
    · obtain rfl : k = s.size := by omega
      have hend := HX.out
      rw [List.take_of_length_le (by rw [HL.out]; exact Nat.le_refl _)] at hend
      have hx := toList_eq x _ hend
      have HE := Lib.hid hx
      clear hend hx
      go_wp2
      go_ret
      exact ⟨congrArg (fun s => Ending.returned (.string s)) HE.out, HB.out⟩
end Go.Proofs.YtfjpbkdijglfdaaDoor
