/- The walk of meter.Whole. -/
import Derived.Test.YtpgflnjpohmldaaMeterAdd2
import Derived.Test.YtpgflnjpohmldaaFloatE
namespace Go.Proofs.Ytpgflnjpohmldaa
open Go.RowKit FloatMath
/-- What both say of a float as an int. -/
def wholeOut (b : Nat) : Int × Int :=
  if finB b = true then
    (if oNeg b = true then (if 9223372036854775808 < wholeN b then (0, 11) else (-(wholeN b : Int), 0))
     else (if 9223372036854775808 ≤ wholeN b then (0, 11) else ((wholeN b : Int), 0)))
  else (0, 251)
theorem and_sign (b : Nat) (h : b < 18446744073709551616) : bits BinOp.and IntKind.u64 (b : Int) 9223372036854775808 = ((b / 9223372036854775808 % 2 * 9223372036854775808 : Nat) : Int) := by
  have e := u64_and_nat b 9223372036854775808 h (by omega)
  have e2 : b &&& 9223372036854775808 = b / 9223372036854775808 % 2 * 9223372036854775808 := nat_bit 63 b
  rw [e2] at e
  exact e
theorem or_one (s : Nat) (h : s < 2) : bits BinOp.or IntKind.u64 ((s * 9223372036854775808 : Nat) : Int) 4607182418800017408 = ((s * 9223372036854775808 + 4607182418800017408 : Nat) : Int) := by
  have e := bits_or_u64_nat (s * 9223372036854775808) 4607182418800017408 (by omega) (by omega)
  have e2 := nat_join 63 (s * 9223372036854775808) 4607182418800017408 (by omega) (by omega)
  rw [e2] at e
  exact e
theorem andNot_low (y k : Nat) (hy : y < 18446744073709551616) (hk : k ≤ 63) : bits BinOp.andNot IntKind.u64 (y : Int) ((2 ^ k - 1 : Nat) : Int) = ((y / 2 ^ k * 2 ^ k : Nat) : Int) := by
  have hp : 2 ^ k ≤ 2 ^ 63 := Nat.pow_le_pow_right (by omega) hk
  have e63 : (2 : Nat) ^ 63 = 9223372036854775808 := by decide
  have e64 : (2 : Nat) ^ 64 = 18446744073709551616 := by decide
  have h1 : 1 ≤ 2 ^ k := Nat.one_le_two_pow
  have e := u64_andNot_nat y (2 ^ k - 1) hy (by omega)
  have e2 := nat_midmask 64 k y (by omega)
  rw [e64, Nat.mod_eq_of_lt hy] at e2
  rw [show 18446744073709551615 - (2 ^ k - 1) = 18446744073709551616 - 2 ^ k by omega, e2] at e
  exact e
theorem mask_shift (E : Nat) (h : E ≤ 51) : (4503599627370495 : Int) / 2 ^ E = ((2 ^ (52 - E) - 1 : Nat) : Int) ∧ (2251799813685248 : Int) / 2 ^ E = ((2 ^ (51 - E) : Nat) : Int) := by
  have hp : 0 < 2 ^ E := Nat.pow_pos (by omega)
  have e52 : (4503599627370496 : Nat) = 2 ^ (52 - E) * 2 ^ E := by rw [← Nat.pow_add, show 52 - E + E = 52 by omega]
  have e51 : (2251799813685248 : Nat) = 2 ^ (51 - E) * 2 ^ E := by rw [← Nat.pow_add, show 51 - E + E = 51 by omega]
  have h1 : 4503599627370495 / 2 ^ E = 2 ^ (52 - E) - 1 := by
    have hq : 1 ≤ 2 ^ (52 - E) := Nat.one_le_two_pow
    rw [Nat.div_eq_iff hp]
    generalize 2 ^ (52 - E) = q at *
    have : (q - 1) * 2 ^ E = q * 2 ^ E - 2 ^ E := by rw [Nat.sub_mul, Nat.one_mul]
    omega
  have h2 : 2251799813685248 / 2 ^ E = 2 ^ (51 - E) := by rw [e51, Nat.mul_div_cancel _ hp]
  refine ⟨?_, ?_⟩
  · rw [← h1, Int.natCast_ediv, Int.natCast_pow]; rfl
  · rw [← h2, Int.natCast_ediv, Int.natCast_pow]; rfl
set_option maxRecDepth 100000 in
set_option maxHeartbeats 1000000 in
theorem mround_calls (b : Nat) (hb : b < 18446744073709551616) (hf : oE b < 2047) (w : World) :
    Calls Try.prog 44 #[.float .f64 b] w fun e w' => e = .returned (.float .f64 (roundW b)) ∧ w = w' := by
  have h1 := f64bits
  have h2 := f64frombitsZ
  have h3 := oE_bits b hb
  have H4 := Lib.hid (and_sign b hb)
  have hE := oE_le b
  by_cases c1 : oE b < 1022
  · have HW := Lib.hid (show roundW b = b / 9223372036854775808 % 2 * 9223372036854775808 by unfold roundW; rw [if_pos c1])
    have hn : (((oE b : Nat) : Int) == 1022) = false := by rw [beq_eq_false_iff_ne]; omega
    clear hb
    go_enter Try.func44, Try.ntmps44
    go_wp2
    go_ret
    refine ⟨?_, rfl⟩
    show Ending.returned (.float .f64 (bits BinOp.and IntKind.u64 (b : Int) 9223372036854775808).toNat) = _
    rw [H4.out, HW.out, Int.toNat_natCast]
  · by_cases c2 : oE b = 1022
    · have HW := Lib.hid (show roundW b = b / 9223372036854775808 % 2 * 9223372036854775808 + 4607182418800017408 by unfold roundW; rw [if_neg c1, if_pos c2])
      have hn : (((oE b : Nat) : Int) == 1022) = true := by rw [c2]; rfl
      have c3 : oE b < 1023 := by omega
      clear hb c2 c1
      go_enter Try.func44, Try.ntmps44
      go_wp2
      go_ret
      refine ⟨?_, rfl⟩
      show Ending.returned (.float .f64 (bits BinOp.or IntKind.u64 (bits BinOp.and IntKind.u64 (b : Int) 9223372036854775808) 4607182418800017408).toNat) = _
      rw [H4.out, or_one _ (by omega), HW.out, Int.toNat_natCast]
    · by_cases c3 : oE b < 1075
      · obtain ⟨E, hEE⟩ : ∃ E, oE b = E + 1023 := ⟨oE b - 1023, by omega⟩
        have hE51 : E ≤ 51 := by omega
        obtain ⟨m1, m2⟩ := mask_shift E hE51
        have hy : b + 2 ^ (51 - E) < 18446744073709551616 := by
          have hp : 2 ^ (51 - E) ≤ 2 ^ 51 := Nat.pow_le_pow_right (by omega) (by omega)
          have e51 : (2 : Nat) ^ 51 = 2251799813685248 := by decide
          unfold oE at c3; omega
        have hw1 : IntKind.u64.wrap ((b : Int) + ((2 ^ (51 - E) : Nat) : Int)) = ((b + 2 ^ (51 - E) : Nat) : Int) := by
          generalize 2 ^ (51 - E) = q at *
          rw [IntKind.wrap_u64]; omega
        have hz := andNot_low (b + 2 ^ (51 - E)) (52 - E) hy (by omega)
        have HW := Lib.hid (show roundW b = (b + 2 ^ (51 - E)) / 2 ^ (52 - E) * 2 ^ (52 - E) by
          unfold roundW; rw [if_neg c1, if_neg c2, if_pos c3, show 1075 - oE b - 1 = 51 - E by omega, show 1075 - oE b = 52 - E by omega])
        have HZ := Lib.hid (And.intro m1 (And.intro m2 (And.intro hw1 hz)))
        have h3' : bits BinOp.and IntKind.u64 ((b : Int) / 4503599627370496) 2047 = (E : Int) + 1023 := by rw [h3]; omega
        clear hb hf h3 H4 hE c1 c2 c3 hEE m1 m2 hy hw1 hz
        go_enter Try.func44, Try.ntmps44
        go_wp2
        go_ret
        refine ⟨?_, rfl⟩
        obtain ⟨m1, m2, hw1, hz⟩ := HZ.out
        show Ending.returned (.float .f64 (bits BinOp.andNot IntKind.u64 (IntKind.u64.wrap ((b : Int) + 2251799813685248 / 2 ^ E)) (4503599627370495 / 2 ^ E)).toNat) = _
        rw [m2, hw1, m1, hz, HW.out, Int.toNat_natCast]
      · have HW := Lib.hid (show roundW b = b by unfold roundW; rw [if_neg c1, if_neg c2, if_neg c3])
        clear hb
        go_enter Try.func44, Try.ntmps44
        go_wp2
        go_ret
        exact ⟨show Ending.returned (.float .f64 b) = _ from by rw [HW.out], rfl⟩
theorem run_toInt (src dst : TypeId) (hs : Try.prog.underlying src = some (.float .f64)) (hd : Try.prog.underlying dst = some (.int .i64)) (z : Nat) (n : Int) (h : (Ieee.double.read z).toInt .zero = some n) (h1 : -9223372036854775808 ≤ n) (h2 : n ≤ 9223372036854775807) (w : World) :
    (convert src dst (.float .f64 z)).run Try.prog w = .ok (.int .i64 n) w := by
  have h' : (FloatKind.f64.decode z).toInt .zero = some n := h
  have hm : IntKind.i64.min = -9223372036854775808 := by decide
  have hM : IntKind.i64.max = 9223372036854775807 := by decide
  simp [convert, run_underlying hs, run_underlying hd, Conv.floatToInt, h', hm, hM, h1, h2]
set_option maxRecDepth 100000 in
set_option maxHeartbeats 1000000 in
theorem mwhole_calls (b : Nat) (hb : b < 18446744073709551616) (w : World) :
    Calls Try.prog 20 #[.int .u64 b] w fun e w' => e = .returned (.tuple #[.int .i64 (wholeOut b).1, .int .i64 (wholeOut b).2]) ∧ w = w' := by
  have H := Lib.hid hb
  cases hf : finB b
  · have HO := Lib.hid (show wholeOut b = (0, 251) by unfold wholeOut; rw [hf, if_neg (by simp)])
    clear hb
    go_enter Try.func20, Try.ntmps20
    go_wp2_with (go_at_call 40; refine (mfinite_calls b H.out _).mono ?_; rintro e w1 ⟨rfl, rfl⟩; rw [hf])
    go_ret2
    exact ⟨show Ending.returned (.tuple #[.int .i64 0, .int .i64 251]) = _ from by rw [HO.out], rfl⟩
  · have hE := finB_lt b hf
    have hW := roundW_whole b hb hE
    have hlo := whole_below _ _ _ hW
    have hhi := whole_beyond _ _ _ hW
    have hti := whole_toInt _ _ _ hW
    have HT := Lib.hid hti
    have HE := Lib.hid hE
    clear hW hti
    cases hs : oNeg b
    · rw [hs] at hlo hhi
      by_cases hN : 9223372036854775808 ≤ wholeN b
      · have HO := Lib.hid (show wholeOut b = (0, 11) by unfold wholeOut; rw [if_pos hf, hs, if_neg (by simp), if_pos hN])
        have hlo' : (FloatKind.f64.format.order (roundW b) 14114281232179134464 == some .lt) = false := hlo
        have hhi' : (FloatKind.f64.format.order (roundW b) 4890909195324358656 == some .gt || FloatKind.f64.format.order (roundW b) 4890909195324358656 == some .eq) = true := by rw [decide_eq_true hN] at hhi; exact hhi
        clear hb hE hN hlo hhi
        go_enter Try.func20, Try.ntmps20
        go_wp2_with (first | (go_at_call 40; refine (mfinite_calls b H.out _).mono ?_; rintro e w1 ⟨rfl, rfl⟩; rw [hf]) | (go_at_call 44; refine (mround_calls b H.out HE.out _).mono ?_; rintro e w1 ⟨rfl, rfl⟩))
        go_ret2
        exact ⟨show Ending.returned (.tuple #[.int .i64 0, .int .i64 11]) = _ from by rw [HO.out], rfl⟩
      · have HO := Lib.hid (show wholeOut b = ((wholeN b : Int), 0) by unfold wholeOut; rw [if_pos hf, hs, if_neg (by simp), if_neg hN])
        have hlo' : (FloatKind.f64.format.order (roundW b) 14114281232179134464 == some .lt) = false := hlo
        have hhi' : (FloatKind.f64.format.order (roundW b) 4890909195324358656 == some .gt || FloatKind.f64.format.order (roundW b) 4890909195324358656 == some .eq) = false := by rw [decide_eq_false hN] at hhi; exact hhi
        have hcv := run_toInt 58 3 Try.underlying58 Try.underlying3 (roundW b) (wholeN b) (by rw [HT.out, hs]; rfl) (by omega) (by omega)
        clear hb hE hN hlo hhi
        go_enter Try.func20, Try.ntmps20
        go_wp2_with (first | (go_at_call 40; refine (mfinite_calls b H.out _).mono ?_; rintro e w1 ⟨rfl, rfl⟩; rw [hf]) | (go_at_call 44; refine (mround_calls b H.out HE.out _).mono ?_; rintro e w1 ⟨rfl, rfl⟩))
        go_ret2
        exact ⟨show Ending.returned (.tuple #[.int .i64 (wholeN b), .int .i64 0]) = _ from by rw [HO.out], rfl⟩
    · rw [hs] at hlo hhi
      by_cases hN : 9223372036854775808 < wholeN b
      · have HO := Lib.hid (show wholeOut b = (0, 11) by unfold wholeOut; rw [if_pos hf, hs, if_pos rfl, if_pos hN])
        have hlo' : (FloatKind.f64.format.order (roundW b) 14114281232179134464 == some .lt) = true := by rw [decide_eq_true hN] at hlo; exact hlo
        clear hb hE hN hlo hhi
        go_enter Try.func20, Try.ntmps20
        go_wp2_with (first | (go_at_call 40; refine (mfinite_calls b H.out _).mono ?_; rintro e w1 ⟨rfl, rfl⟩; rw [hf]) | (go_at_call 44; refine (mround_calls b H.out HE.out _).mono ?_; rintro e w1 ⟨rfl, rfl⟩))
        go_ret2
        exact ⟨show Ending.returned (.tuple #[.int .i64 0, .int .i64 11]) = _ from by rw [HO.out], rfl⟩
      · have HO := Lib.hid (show wholeOut b = (-(wholeN b : Int), 0) by unfold wholeOut; rw [if_pos hf, hs, if_pos rfl, if_neg hN])
        have hlo' : (FloatKind.f64.format.order (roundW b) 14114281232179134464 == some .lt) = false := by rw [decide_eq_false hN] at hlo; exact hlo
        have hhi' : (FloatKind.f64.format.order (roundW b) 4890909195324358656 == some .gt || FloatKind.f64.format.order (roundW b) 4890909195324358656 == some .eq) = false := hhi
        have hcv := run_toInt 58 3 Try.underlying58 Try.underlying3 (roundW b) (-(wholeN b : Int)) (by rw [HT.out, hs]; rfl) (by omega) (by omega)
        clear hb hE hN hlo hhi
        go_enter Try.func20, Try.ntmps20
        go_wp2_with (first | (go_at_call 40; refine (mfinite_calls b H.out _).mono ?_; rintro e w1 ⟨rfl, rfl⟩; rw [hf]) | (go_at_call 44; refine (mround_calls b H.out HE.out _).mono ?_; rintro e w1 ⟨rfl, rfl⟩))
        go_ret2
        exact ⟨show Ending.returned (.tuple #[.int .i64 (-(wholeN b : Int)), .int .i64 0]) = _ from by rw [HO.out], rfl⟩
end Go.Proofs.Ytpgflnjpohmldaa
