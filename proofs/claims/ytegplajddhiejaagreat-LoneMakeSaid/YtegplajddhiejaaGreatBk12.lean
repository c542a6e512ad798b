import Derived.Test.YtegplajddhiejaaGreatBk11
import Derived.Test.YtegplajddhiejaaGreatBk4b
set_option linter.unusedVariables false
namespace Go.Proofs.YtegplajddhiejaaGreat
open Go.RowKit
theorem dig_zero (v : Int) : dig 0 v = [] := rfl
theorem one_list (x : Int) : (strOfNums [x]).data.toList = toB [x] := rfl
theorem div_pow_succ (v : Int) (k : Nat) : v / 256 ^ k / 256 = v / 256 ^ (k + 1) := by
  rw [Int.pow_succ, Int.ediv_ediv_of_nonneg]; exact Int.pow_nonneg (by omega)
set_option maxRecDepth 100000 in
set_option maxHeartbeats 1000000 in
theorem refPut_calls (V : Int) (z : Nat) (hz : (z = 8 ∧ 0 ≤ V ∧ V < 18446744073709551616) ∨ (z = 4 ∧ 0 ≤ V ∧ V < 4294967296)) (w : World) :
    Calls Tryz.prog 56 #[.int .u64 V, .int .i64 z] w fun e w' => e = .returned (.tuple #[.string (beZ z V), .int .i64 0]) ∧ Below w.heap.size w w' := by
  have hend : V / 256 ^ z = 0 := by
    rcases hz with ⟨rfl, h0, h1⟩ | ⟨rfl, h0, h1⟩
    · rw [show (256 : Int) ^ 8 = 18446744073709551616 by decide]; exact Int.ediv_eq_zero_of_lt h0 h1
    · rw [show (256 : Int) ^ 4 = 4294967296 by decide]; exact Int.ediv_eq_zero_of_lt h0 h1
  have hl : (beZ z V).data.toList = toB (dig z V) := by
    rcases hz with ⟨rfl, h0, h1⟩ | ⟨rfl, h0, h1⟩
    · exact be8_list V
    · exact be4_list V
  have hV0 : 0 ≤ V := by omega
  have hV1 : V ≤ 18446744073709551615 := by omega
  have hz1 : (1 : Int) ≤ z := by omega
  have hz8 : (z : Int) ≤ 8 := by omega
  have HE := Lib.hid (And.intro hend hl)
  clear hend hl hz
  have hcv : ∀ (w : World) (x : Int), (convert 112 9 (.slice (some ⟨w.heap.size, 0, none⟩) 1 1)).run Tryz.prog (w.alloc (.cells #[.int .u8 x] 5)) = .ok (.string (strOfNums [x])) (w.alloc (.cells #[.int .u8 x] 5)) :=
    fun w x => conv_row w [x] 1 rfl 1
  have hs1 : ∀ x : Int, (strOfNums [x]).size = 1 := fun x => one_size x
  go_enter Tryz.func56, Tryz.ntmps56
  go_wp2
  go_loopw [0, 6, 7] (fun v s i wr => ∃ (k : Nat) (y : Int) (x : ByteArray), k ≤ z ∧ i = .int .i64 k ∧ v = .int .u64 y ∧ 0 ≤ y ∧ y ≤ 18446744073709551615 ∧ s = .string x ∧ x.size ≤ k ∧ Hid (y = V / 256 ^ k) ∧ Hid (x.data.toList = toB (dig k V)) ∧ Hid (Below w.heap.size w wr)) (fun _ _ i _ => z - (intOf i).toNat)
  case atStart => exact ⟨0, V, ⟨#[]⟩, by omega, rfl, rfl, hV0, hV1, rfl, Nat.le_refl _, Lib.hid (by simp), Lib.hid rfl, Lib.hid (Below.refl _ _)⟩
  case round =>
    obtain ⟨k, y, x, hk, rfl, rfl, hy, hy1, rfl, hx, HY, HX, HB⟩ := hrel
    by_cases hlt : k < z
    · go_wp2
      go_roundw
      case rel =>
        refine ⟨k + 1, y / 256, strOfNums [y % 256] ++ x, by omega, by go_num, by go_num, by omega, by omega, rfl, ?_, Lib.hid ?_, Lib.hid ?_, Lib.hid ?_⟩
        · rw [ByteArray.size_append, hs1]; omega
        · rw [HY.out, div_pow_succ]
        · rw [ByteArray.data_append, Array.toList_append, HX.out, one_list, HY.out]; rfl
        · exact HB.out.alloc HB.out.size _
      case measure => simp [intOf]; omega
    · obtain rfl : k = z := by omega
      obtain rfl : y = 0 := by rw [HY.out, HE.out.1]
      obtain rfl : x = beZ k V := ba_ext _ _ (by rw [HX.out, HE.out.2])
      go_wp2
      go_ret2
      exact ⟨rfl, HB.out⟩
theorem refBig_calls (V : Int) (z : Nat) (hz : (z = 8 ∧ 0 ≤ V ∧ V ≤ 9223372036854775807) ∨ (z = 4 ∧ 0 ≤ V ∧ V < 4294967296)) (w : World) :
    Calls Tryz.prog 42 #[.int .i64 V, .int .i64 z] w fun e w' => e = .returned (.string (beZ z V)) ∧ Below w.heap.size w w' := by
  have hV0 : 0 ≤ V := by omega
  have hV1 : V ≤ 9223372036854775807 := by omega
  have hp := fun w => refPut_calls V z (by omega) w
  have HZ := Lib.hid hz
  clear hz
  go_enter Tryz.func42, Tryz.ntmps42
  go_wp2_with (go_at_call 56; refine (hp _).mono ?_; rintro e w1 ⟨rfl, hb1⟩)
  go_ret
  exact ⟨rfl, hb1⟩
set_option maxRecDepth 100000 in
set_option maxHeartbeats 1000000 in
theorem refCrcOn_calls (b : ByteArray) (hbs : b.size < 9223372036854775807) (w : World) : Calls Tryz.prog 109 #[.int .u32 0, .string b] w fun e w' => e = .returned (.int .u32 (crcZ b : Nat)) ∧ w = w' := by
  go_enter Tryz.func109, Tryz.ntmps109
  go_wp2
  go_loop [5, 6, 7, 8] (fun v i _ _ => ∃ (k r : Nat), k ≤ b.size ∧ i = .int .i64 k ∧ r < 4294967296 ∧ v = .int .u32 r ∧ Hid (r = crcRun 4294967295 (b.data.toList.take k))) (fun _ i _ _ => b.size - (intOf i).toNat)
  case atStart => exact ⟨0, 4294967295, by omega, rfl, by omega, rfl, Lib.hid rfl⟩
  case round =>
    obtain ⟨k, r, hk, rfl, hr, rfl, HR⟩ := hrel
    by_cases hlt : k < b.size
    · have hy : b[k].toNat < 256 := b[k].toNat_lt
      have hxe : bits BinOp.xor IntKind.u32 (r : Int) (b[k].toNat : Int) = ((r ^^^ b[k].toNat : Nat) : Int) := u32_xor_nat _ _ hr (by omega)
      have hx0 := u32_xor_lt r b[k].toNat hr (by omega)
      obtain ⟨q, hq⟩ : ∃ q, q = r ^^^ b[k].toNat := ⟨_, rfl⟩
      rw [← hq] at hxe hx0
      have HQ := Lib.hid hq
      clear hq
      go_wp2
      go_loop [5, 7, 8] (fun v j _ => ∃ m : Nat, m ≤ 8 ∧ j = .int .i64 m ∧ v = .int .u32 (crcBits m q : Nat)) (fun _ j _ => 8 - (intOf j).toNat)
      case atStart => exact ⟨0, by omega, rfl, rfl⟩
      case round =>
        obtain ⟨m, hm, rfl, rfl⟩ := hrel
        have hv := crcBits_lt m q hx0
        generalize hV : crcBits m q = v at *
        have HV := Lib.hid hV
        clear hV
        have ha := u32_low v hv
        have hx := u32_poly v hv
        rcases Nat.mod_two_eq_zero_or_one v with hp | hp
        · have ht : (((v % 2 : Nat) : Int) == 1) = false := by rw [hp]; rfl
          by_cases hlm : m < 8
          · go_wp2
            go_round
            case rel => exact ⟨m + 1, by omega, by go_num, by rw [crcBits, HV.out, crcBit, if_neg (by omega)]; go_num⟩
            case measure => simp [intOf]; omega
          · obtain rfl : m = 8 := by omega
            go_wp2
            go_round
            case rel => exact ⟨k + 1, v, by omega, by go_num, hv, rfl, Lib.hid (by rw [crcRun_take _ _ _ (by simpa using hlt), ← HR.out, crcIn_bits, ← HV.out, HQ.out]; rfl)⟩
            case measure => simp [intOf]; omega
        · have ht : (((v % 2 : Nat) : Int) == 1) = true := by rw [hp]; rfl
          by_cases hlm : m < 8
          · go_wp2
            go_round
            case rel => exact ⟨m + 1, by omega, by go_num, by rw [crcBits, HV.out, crcBit, if_pos (by omega)]⟩
            case measure => simp [intOf]; omega
          · obtain rfl : m = 8 := by omega
            go_wp2
            go_round
            case rel => exact ⟨k + 1, v, by omega, by go_num, hv, rfl, Lib.hid (by rw [crcRun_take _ _ _ (by simpa using hlt), ← HR.out, crcIn_bits, ← HV.out, HQ.out]; rfl)⟩
            case measure => simp [intOf]; omega
    · obtain rfl : k = b.size := by omega
      have hf2 : bits BinOp.xor IntKind.u32 (r : Int) 4294967295 = ((4294967295 ^^^ r : Nat) : Int) := by
        rw [show (4294967295 : Int) = ((4294967295 : Nat) : Int) from rfl, u32_xor_nat _ _ hr (by omega), Nat.xor_comm]
      go_wp2
      go_ret
      rw [HR.out, List.take_of_length_le (by simp)]
      exact ⟨rfl, rfl⟩
theorem refCrc_calls (b : ByteArray) (hbs : b.size < 9223372036854775807) (w : World) : Calls Tryz.prog 101 #[.string b] w fun e w' => e = .returned (.int .u32 (crcZ b : Nat)) ∧ w = w' := by
  go_enter Tryz.func101, Tryz.ntmps101
  go_wp2_with (go_at_call 109; refine (refCrcOn_calls b hbs _).mono ?_; rintro e w1 ⟨rfl, rfl⟩)
  go_ret
  exact ⟨rfl, rfl⟩
theorem refSum_calls (b : ByteArray) (hbs : b.size < 9223372036854775807) (w : World) : Calls Tryz.prog 77 #[.string b] w fun e w' => e = .returned (.string (beZ 4 (crcZ b : Nat))) ∧ Below w.heap.size w w' := by
  have hc := crcZ_lt b
  go_enter Tryz.func77, Tryz.ntmps77
  go_wp2_with (first
    | (go_at_call 101; refine (refCrc_calls b hbs _).mono ?_; rintro e w1 ⟨rfl, rfl⟩)
    | (go_at_call 42; refine (refBig_calls _ 4 ?_ _).mono ?_ <;> first | omega | (rintro e w1 ⟨rfl, hb1⟩)))
  go_ret
  exact ⟨rfl, hb1⟩
set_option maxRecDepth 100000 in
set_option maxHeartbeats 1000000 in
theorem refBE_calls (b : ByteArray) (o z : Nat) (hz : 1 ≤ z) (hz8 : z ≤ 8) (hb : o + z ≤ b.size) (hbs : b.size < 9223372036854775807) (w : World) : Calls Tryz.prog 76 #[.string b, .int .i64 o, .int .i64 z] w fun e w' => e = .returned (.tuple #[.int .u64 (rdN b o z : Nat), .int .i64 0]) ∧ w = w' := by
  have hz0 : (z : Int) ≤ 8 := by omega
  have hbi : ¬ (b.size < z) := by omega
  have hbo : (o : Int) ≤ b.size - z := by omega
  go_enter Tryz.func76, Tryz.ntmps76
  go_wp2
  go_loop [8, 9] (fun v i => ∃ (k r : Nat), k ≤ z ∧ i = .int .i64 k ∧ v = .int .u64 r ∧ r = rdN b o k) (fun _ i => z - (intOf i).toNat)
  case atStart => exact ⟨0, 0, by omega, rfl, rfl, rfl⟩
  case round =>
    obtain ⟨k, r, hk, rfl, rfl, hR⟩ := hrel
    have HR := Lib.hid hR
    by_cases hlt : k < z
    · have hr : r < 72057594037927936 := by
        have h1 := rdN_lt b o k
        have h2 : 256 ^ k ≤ 256 ^ 7 := Nat.pow_le_pow_right (by omega) (by omega)
        rw [show (256 : Nat) ^ 7 = 72057594037927936 by decide] at h2
        omega
      clear hR
      have hin : o + k < b.size := by omega
      have hy : b[o + k].toNat < 256 := b[o + k].toNat_lt
      have hnat : ((o : Int) + k).toNat = o + k := by omega
      go_wp2
      go_round
      case rel =>
        refine ⟨k + 1, r * 256 + b[o + k].toNat, by omega, by go_num, by go_num, ?_⟩
        rw [rdN, ← HR.out, List.getD_eq_getElem?_getD, List.getElem?_eq_getElem (by simpa using hin)]
        rfl
      case measure => simp [intOf]; omega
    · obtain rfl : k = z := by omega
      clear hR
      go_wp2
      go_ret2
      rw [HR.out]
      exact ⟨rfl, rfl⟩
end Go.Proofs.YtegplajddhiejaaGreat
