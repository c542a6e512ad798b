import Derived.Test.YtfjpbkdijglfdaaDoorTxt6
set_option linter.unusedVariables false
namespace Go.Proofs.YtfjpbkdijglfdaaDoor
open Go.RowKit
theorem or8 (a b : UInt8) : bits BinOp.or IntKind.u8 (a.toNat : Int) (b.toNat : Int) = ((a ||| b).toNat : Int) := by
  rw [u8_or_nat _ _ a.toNat_lt b.toNat_lt, UInt8.toNat_or]
theorem xor_zero (a b : UInt8) : a ^^^ b = 0 ↔ a = b := by
  constructor
  · intro h
    have : (a ^^^ b) ^^^ b = 0 ^^^ b := by rw [h]
    rwa [UInt8.xor_assoc, UInt8.xor_self, UInt8.xor_zero, UInt8.zero_xor] at this
  · rintro rfl; exact UInt8.xor_self
theorem or_zero (a b : UInt8) : a ||| b = 0 ↔ a = 0 ∧ b = 0 := by
  constructor
  · intro h
    have h' := congrArg UInt8.toNat h
    rw [UInt8.toNat_or] at h'
    have h0 : (0 : UInt8).toNat = 0 := rfl
    rw [h0] at h'
    have h1 := Nat.or_eq_zero_iff.1 h'
    exact ⟨UInt8.toNat_inj.1 h1.1, UInt8.toNat_inj.1 h1.2⟩
  · rintro ⟨rfl, rfl⟩; rfl
theorem take_eq_step (a b : List UInt8) (k : Nat) (ha : k < a.length) (hb : k < b.length) : a.take (k + 1) = b.take (k + 1) ↔ a.take k = b.take k ∧ a[k] = b[k] := by
  rw [List.take_succ_eq_append_getElem ha, List.take_succ_eq_append_getElem hb]
  constructor
  · intro h
    have := List.append_inj h (by rw [List.length_take, List.length_take]; omega)
    exact ⟨this.1, by simpa using this.2⟩
  · rintro ⟨h1, h2⟩; rw [h1, h2]
def sameZ (a b : ByteArray) : Bool := decide (a.data.toList = b.data.toList)
set_option maxRecDepth 100000 in
set_option maxHeartbeats 1000000 in
theorem same_calls (a b : ByteArray) (ha : a.size ≤ 140737488355328) (hb : b.size ≤ 140737488355328) (w : World) : Calls Tryd.prog 8 #[.string a, .string b] w fun e w' => e = .returned (.bool (sameZ a b)) ∧ Below w.heap.size w w' := by
  have hal : a.data.toList.length = a.size := by simp
  have hbl : b.data.toList.length = b.size := by simp
  by_cases hne : a.size = b.size
  · have HAL := Lib.hid hal
    have HBL := Lib.hid hbl
    have HNE := Lib.hid hne
    have hz : ((a.size : Int) != b.size) = false := by rw [bne_eq_false_iff_eq]; omega
    have hle : (a.size : Int) ≤ b.size := by omega
    clear hal hbl hne
    go_enter Tryd.func8, Tryd.ntmps8
    go_wp2
    go_loopw [5, 6, 14] (fun uv _ iv wr => ∃ (k : Nat) (u : UInt8) (U : Int), k ≤ a.size ∧ iv = .int .i64 k ∧ uv = .int .u8 U ∧ Hid (U = (u.toNat : Int)) ∧ Hid (u = 0 ↔ a.data.toList.take k = b.data.toList.take k) ∧ Hid (Below w.heap.size w wr)) (fun _ _ iv _ => (a.size - (intOf iv)).toNat)
    case atStart => exact ⟨0, 0, 0, by omega, rfl, rfl, Lib.hid rfl, Lib.hid (by simp), Lib.hid (Below.refl _ _)⟩
    case round =>
      obtain ⟨k, u, U, hk, rfl, rfl, HU, HE, HB⟩ := hrel
      by_cases hlt : k < a.size
      · have hki : (k : Int) < a.size := by omega
        have hkb : (k : Int) < b.size := by omega
        have hka : k < a.data.toList.length := by rw [HAL.out]; exact hlt
        have hkb' : k < b.data.toList.length := by rw [HBL.out]; omega
        have hkb2 : k < b.size := by omega
        have hxa : a[k] = a.data.toList[k] := by simp [ByteArray.getElem_eq_getElem_data]
        have hxb : b[k] = b.data.toList[k] := by simp [ByteArray.getElem_eq_getElem_data]
        have hx : bits BinOp.or IntKind.u8 U (bits BinOp.xor IntKind.u8 (a[k].toNat : Int) (b[k].toNat : Int)) = ((u ||| (a[k] ^^^ b[k])).toNat : Int) := by rw [HU.out, xor8, or8]
        have hs := take_eq_step a.data.toList b.data.toList k hka hkb'
        have HX := Lib.hid hx
        have HS := Lib.hid (And.intro hs (And.intro hxa hxb))
        clear hx hs hxa hxb
        go_wp2
        go_quiet (fail)
        go_wp2
        go_roundw
        case rel =>
          refine ⟨k + 1, _, _, by omega, by go_num, rfl, Lib.hid HX.out, Lib.hid ?_, Lib.hid ⟨HB.out.os, HB.out.tape, HB.out.output, HB.out.size, HB.out.block⟩⟩
          obtain ⟨hs, hxa, hxb⟩ := HS.out
          rw [or_zero, xor_zero, hs, HE.out, hxa, hxb]
        case measure => simp [intOf] <;> omega
      · obtain rfl : k = a.size := by omega
        have hend := HE.out
        rw [List.take_of_length_le (by rw [HAL.out]; exact Nat.le_refl _), List.take_of_length_le (by rw [HBL.out, HNE.out]; exact Nat.le_refl _)] at hend
        have hu : (U == 0) = sameZ a b := by
          unfold sameZ
          have h1 : U = 0 ↔ u = 0 := by
            rw [HU.out]
            constructor
            · intro h; exact UInt8.toNat_inj.1 (by show u.toNat = 0; omega)
            · rintro rfl; rfl
          rw [Bool.eq_iff_iff, beq_iff_eq, decide_eq_true_iff, h1, hend]
        have HUU := Lib.hid hu
        clear hend hu
        go_wp2
        go_ret
        exact ⟨congrArg (fun x => Ending.returned (.bool x)) HUU.out, HB.out⟩
  · have hz : ((a.size : Int) != b.size) = true := by rw [bne_iff_ne]; omega
    have hs : sameZ a b = false := by
      unfold sameZ; rw [decide_eq_false_iff_not]
      intro h; exact hne (by rw [← hal, ← hbl, h])
    have HS := Lib.hid hs
    clear hne hal hbl hs
    go_enter Tryd.func8, Tryd.ntmps8
    go_wp2
    go_ret
    exact ⟨congrArg (fun x => Ending.returned (.bool x)) HS.out.symm, Below.refl _ _⟩
end Go.Proofs.YtfjpbkdijglfdaaDoor
