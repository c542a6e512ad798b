/- The walks of meter.finite and meter.Add. -/
import Derived.Test.YtpgflnjpohmldaaMeterAdd
import Derived.Test.YtpgflnjpohmldaaFloatD
namespace Go.Proofs.Ytpgflnjpohmldaa
open Go.RowKit FloatMath
theorem f64frombits (b : Nat) (w : World) : (callFunc 56 #[.int .u64 (b : Int)]).run Try.prog w = .ok (.value (.float .f64 b)) w := by kernel_rfl
theorem f64frombitsZ (b : Int) (w : World) : (callFunc 56 #[.int .u64 b]).run Try.prog w = .ok (.value (.float .f64 b.toNat)) w := by kernel_rfl
theorem isnan_calls (b : Nat) (w : World) : Calls Try.prog 57 #[.float .f64 b] w fun e w' => e = .returned (.bool (Ieee.double.order b b != some .eq)) ∧ w = w' := by
  go_enter Try.func57, Try.ntmps57
  go_wp2
  go_ret
  exact ⟨rfl, rfl⟩
theorem andNot_sign (b : Nat) (h : b < 18446744073709551616) : bits BinOp.andNot IntKind.u64 (b : Int) 9223372036854775808 = ((b % 9223372036854775808 : Nat) : Int) := by
  have e := u64_andNot_nat b 9223372036854775808 h (by omega)
  have e2 : b &&& (18446744073709551615 - 9223372036854775808) = b % 9223372036854775808 := Nat.and_two_pow_sub_one_eq_mod b 63
  rw [e2] at e
  exact e
theorem abs_calls (b : Nat) (h : b < 18446744073709551616) (w : World) : Calls Try.prog 58 #[.float .f64 b] w fun e w' => e = .returned (.float .f64 (b % 9223372036854775808)) ∧ w = w' := by
  have h1 := f64bits
  have h2 := f64frombitsZ
  have H3 := Lib.hid (andNot_sign b h)
  clear h
  go_enter Try.func58, Try.ntmps58
  go_wp2
  go_ret
  refine ⟨?_, rfl⟩
  show Ending.returned (.float .f64 (bits BinOp.andNot IntKind.u64 (b : Int) 9223372036854775808).toNat) = _
  rw [H3.out, Int.toNat_natCast]
theorem isinf_calls (b : Nat) (h : b < 18446744073709551616) (w : World) : Calls Try.prog 41 #[.float .f64 b, .int .i64 0] w fun e w' => e = .returned (.bool (Ieee.double.order (b % 9223372036854775808) 9218868437227405311 == some .gt)) ∧ w = w' := by
  have H := Lib.hid h
  clear h
  go_enter Try.func41, Try.ntmps41
  go_wp2_with (go_at_call 58; refine (abs_calls b H.out _).mono ?_; rintro e w1 ⟨rfl, rfl⟩)
  go_ret
  exact ⟨rfl, rfl⟩
theorem mfinite_calls (b : Nat) (h : b < 18446744073709551616) (w : World) : Calls Try.prog 40 #[.int .u64 b] w fun e w' => e = .returned (.tuple #[.float .f64 b, .bool (finB b)]) ∧ w = w' := by
  have h2 := f64frombits
  have H := Lib.hid h
  have hE := oE_le b
  clear h
  cases hf : finB b
  · have hE2 := finB_ge b hf
    rcases order_self_special b hE2 with ⟨hr, ho⟩ | ho
    · have hn : (Ieee.double.order b b != some .eq) = false := by rw [ho]; rfl
      have hi : (Ieee.double.order (b % 9223372036854775808) 9218868437227405311 == some .gt) = true := by rw [abs_inf b hr]; rfl
      clear hr ho hE hE2
      go_enter Try.func40, Try.ntmps40
      go_wp2_with (first | (go_at_call 57; refine (isnan_calls b _).mono ?_; rintro e w1 ⟨rfl, rfl⟩; rw [hn]) | (go_at_call 41; refine (isinf_calls b H.out _).mono ?_; rintro e w1 ⟨rfl, rfl⟩; rw [hi]))
      go_ret2
      exact ⟨rfl, rfl⟩
    · have hn : (Ieee.double.order b b != some .eq) = true := by rw [ho]; rfl
      clear ho hE hE2
      go_enter Try.func40, Try.ntmps40
      go_wp2_with (first | (go_at_call 57; refine (isnan_calls b _).mono ?_; rintro e w1 ⟨rfl, rfl⟩; rw [hn]))
      go_ret2
      exact ⟨rfl, rfl⟩
  · have hE2 := finB_lt b hf
    have hn : (Ieee.double.order b b != some .eq) = false := by rw [order_self_fin b hE2]; rfl
    have hi := abs_fin b hE2
    clear hE hE2
    go_enter Try.func40, Try.ntmps40
    go_wp2_with (first | (go_at_call 57; refine (isnan_calls b _).mono ?_; rintro e w1 ⟨rfl, rfl⟩; rw [hn]) | (go_at_call 41; refine (isinf_calls b H.out _).mono ?_; rintro e w1 ⟨rfl, rfl⟩; rw [hi]))
    go_ret2
    exact ⟨rfl, rfl⟩
theorem nearest_le (s : Bool) (m : Nat) (p : Int) : Ieee.double.nearest s m p % 9223372036854775808 ≤ 9218868437227405312 := by
  have hw : Ieee.double.signWeight = 9223372036854775808 := by decide
  have key : ∀ r : Nat, r ≤ 9218868437227405312 → Ieee.double.word s r % 9223372036854775808 ≤ 9218868437227405312 := fun r hr => by
    unfold Ieee.Format.word; rw [hw]; cases s <;> simp <;> omega
  rcases Nat.eq_zero_or_pos m with rfl | h
  · rw [nearest_zero]; exact key 0 (by omega)
  · rw [nearest_rung _ _ _ h]; exact key _ (by unfold rung rungAt; omega)
theorem add_le (x y R : Nat) (hx : oE x < 2047) (hy : oE y < 2047) (h : Ieee.double.add x y = some R) : R % 9223372036854775808 ≤ 9218868437227405312 := by
  unfold Ieee.Format.add at h
  rw [read_finite x hx, read_finite y hy] at h
  simp only [Ieee.Datum.sum, Option.map_some, Ieee.Format.write, Option.some.injEq] at h
  rw [← h]; exact nearest_le _ _ _
theorem inf_of (R : Nat) (h : R % 9223372036854775808 ≤ 9218868437227405312) (hE : oE R = 2047) : Ieee.double.read R = .infinity (oNeg R) := by
  have e1 : Ieee.double.signWeight = 9223372036854775808 := by decide
  have e2 : Ieee.double.binade = 4503599627370496 := by decide
  have e3 : Ieee.double.infRung = 9218868437227405312 := by decide
  have e5 : oE R = R % 9223372036854775808 / 4503599627370496 := by unfold oE; omega
  unfold Ieee.Format.read
  simp only [e1, e2, e3]
  rw [if_neg (by omega), if_neg (by omega), if_pos (by omega)]
  rfl
theorem isinf_word (R : Nat) (h : R % 9223372036854775808 ≤ 9218868437227405312) : (Ieee.double.order (R % 9223372036854775808) 9218868437227405311 == some .gt) = !finB R := by
  cases hf : finB R
  · rw [abs_inf R (inf_of R h (finB_ge R hf))]; rfl
  · rw [abs_fin R (finB_lt R hf)]; rfl
theorem run_add (T : TypeId) (x y r : Nat) (h : Ieee.double.add x y = some r) (w : World) : (binOp .add T (.float .f64 x) (.float .f64 y)).run Try.prog w = .ok (.float .f64 r) w := by
  have h' : FloatKind.f64.format.add x y = some r := h
  simp [binOp, Op.floatArith, h']
theorem add_some (x y : Nat) (e1 : oE x < 2047) (e2 : oE y < 2047) : ∃ R, Ieee.double.add x y = some R := by
  unfold Ieee.Format.add
  rw [read_finite x e1, read_finite y e2]
  exact ⟨_, rfl⟩
set_option maxHeartbeats 1000000 in
theorem madd_calls (x y : Nat) (hx : x < 18446744073709551616) (hy : y < 18446744073709551616) (w : World) :
    Calls Try.prog 18 #[.int .u64 x, .int .u64 y] w fun e w' => e = .returned (.tuple #[.int .u64 (addOut x y).1, .int .i64 (addOut x y).2]) ∧ w = w' := by
  have HX := Lib.hid hx
  have HY := Lib.hid hy
  clear hx hy
  by_cases hf : finB x = true ∧ finB y = true
  · obtain ⟨h1, h2⟩ := hf
    have e1 := finB_lt x h1
    have e2 := finB_lt y h2
    obtain ⟨R, hR⟩ := add_some x y e1 e2
    have HR : Hid (R < 18446744073709551616) := Lib.hid (by have := add_word_lt x y; rw [hR] at this; exact this)
    have HO := Lib.hid (And.intro (addOut_yes x y R ⟨h1, h2⟩ hR) (addOut_no x y R ⟨h1, h2⟩ hR))
    have hi := isinf_word R (add_le x y R e1 e2 hR)
    have ha := run_add 58 x y R hR
    have hb := f64bits
    clear hR e1 e2
    cases hfr : finB R
    all_goals
      rw [hfr] at hi
      go_enter Try.func18, Try.ntmps18
      go_wp2_with (first | (go_at_call 40; refine (mfinite_calls _ (by first | exact HX.out | exact HY.out) _).mono ?_; rintro e w1 ⟨rfl, rfl⟩; first | rw [h1] | rw [h2]) | (go_at_call 41; refine (isinf_calls R HR.out _).mono ?_; rintro e w1 ⟨rfl, rfl⟩; rw [hi]))
      go_ret2
    · exact ⟨show Ending.returned (.tuple #[.int .u64 0, .int .i64 11]) = _ from by rw [HO.out.2 hfr], rfl⟩
    · exact ⟨show Ending.returned (.tuple #[.int .u64 (R : Int), .int .i64 0]) = _ from by rw [HO.out.1 hfr], rfl⟩
  · have HO := Lib.hid (addOut_bad x y hf)
    cases h1 : finB x
    · cases h2 : finB y
      all_goals
        clear hf
        go_enter Try.func18, Try.ntmps18
        go_wp2_with (go_at_call 40; refine (mfinite_calls _ (by first | exact HX.out | exact HY.out) _).mono ?_; rintro e w1 ⟨rfl, rfl⟩; first | rw [h1] | rw [h2])
        go_ret2
        exact ⟨show Ending.returned (.tuple #[.int .u64 0, .int .i64 251]) = _ from by rw [HO.out], rfl⟩
    · have h2 : finB y = false := by
        cases h2 : finB y
        · rfl
        · exact absurd ⟨h1, h2⟩ hf
      clear hf
      go_enter Try.func18, Try.ntmps18
      go_wp2_with (go_at_call 40; refine (mfinite_calls _ (by first | exact HX.out | exact HY.out) _).mono ?_; rintro e w1 ⟨rfl, rfl⟩; first | rw [h1] | rw [h2])
      go_ret2
      exact ⟨show Ending.returned (.tuple #[.int .u64 0, .int .i64 251]) = _ from by rw [HO.out], rfl⟩
end Go.Proofs.Ytpgflnjpohmldaa
