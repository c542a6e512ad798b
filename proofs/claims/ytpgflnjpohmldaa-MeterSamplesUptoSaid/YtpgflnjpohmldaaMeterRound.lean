/- The walks of annalsref25's length, signed, round: round's bits are those of the nearest float (Ieee). -/
import Derived.Test.YtpgflnjpohmldaaMeterBase
import Derived.Deep.Light
import Derived.Deep.DeepCutAuto
import Derived.Deep.CutBlock
namespace Go.Proofs.Ytpgflnjpohmldaa
open Go.RowKit
/-- How many binary digits. -/
def len2 (m : Nat) : Nat := if m = 0 then 0 else m.log2 + 1
theorem len2_le (m : Nat) (h : m < 18446744073709551616) : len2 m ≤ 64 := by
  unfold len2; split
  · omega
  · have := FloatMath.log2_lt64 m (by omega) h; omega
theorem len2_half (m : Nat) (h : 0 < m) : len2 m = len2 (m / 2) + 1 := by
  unfold len2
  rw [if_neg (by omega)]
  by_cases h1 : m / 2 = 0
  · obtain rfl : m = 1 := by omega
    rfl
  · rw [if_neg h1, Nat.log2_def, if_pos (by omega)]
set_option maxHeartbeats 400000 in
theorem rlength_calls (m : Nat) (hm : m < 18446744073709551616) (w : World) : Calls Try.prog 45 #[.int .u64 m] w fun e w' => e = .returned (.int .i64 (len2 m)) ∧ w = w' := by
  have hl := len2_le m hm
  go_enter Try.func45, Try.ntmps45
  go_wp2

  go_loop [0, 3] (fun x n => ∃ k : Nat, k ≤ m ∧ x = .int .u64 k ∧ ∃ j : Nat, n = .int .i64 j ∧ j + len2 k = len2 m) (fun x _ => (intOf x).toNat)
  case atStart => exact ⟨m, Nat.le_refl _, rfl, 0, rfl, by omega⟩
  case round =>
    obtain ⟨k, hk, rfl, j, rfl, hj⟩ := hrel
    by_cases h0 : 0 < k
    · have hh := len2_half k h0
      have H := Lib.hid (And.intro hj hh)
      have hj' : j ≤ 64 := by omega
      clear hj hh
      go_wp2
      go_round
      case rel => obtain ⟨hj, hh⟩ := H.out; exact ⟨k / 2, by omega, by go_num, j + 1, by go_num, by omega⟩
      case measure => simp [intOf]; omega
    · go_wp2
      go_ret
      obtain rfl : k = 0 := by omega
      exact ⟨congrArg (fun x => Ending.returned (.int .i64 x)) (by simp [len2] at hj ⊢; omega), rfl⟩
theorem rsigned_calls (neg : Bool) (b : Int) (w : World) : Calls Try.prog 39 #[.bool neg, .int .u64 b] w fun e w' => e = .returned (.int .u64 (if neg then bits BinOp.or IntKind.u64 b 9223372036854775808 else b)) ∧ w = w' := by
  cases neg
  all_goals
    go_enter Try.func39, Try.ntmps39
    go_wp2
    go_ret
    exact ⟨rfl, rfl⟩



def sgnZ (neg : Bool) (b : Int) : Int := if neg then bits BinOp.or IntKind.u64 b 9223372036854775808 else b
theorem rsigned_calls' (neg : Bool) (b : Int) (w : World) : Calls Try.prog 39 #[.bool neg, .int .u64 b] w fun e w' => e = .returned (.int .u64 (sgnZ neg b)) ∧ w = w' := rsigned_calls neg b w
/-- What is kept of Q and a rest R, half being H. -/
def upZ (Q R H : Int) (more : Bool) : Int := if H < R ∨ (R = H ∧ (more = true ∨ Q % 2 = 1)) then Q + 1 else Q
/-- The rung of M times 2 to the last. -/
def rfinZ (last M : Int) : Int := if (last + 1074) * 4503599627370496 + M < 9218868437227405312 then (last + 1074) * 4503599627370496 + M else 9218868437227405312
theorem sz_R (m : Nat) (s : Nat) (hm : m < 18446744073709551616) : IntKind.u64.wrap ((m : Int) - IntKind.u64.wrap ((m : Int) / 2 ^ s * 2 ^ s)) = ((m % 2 ^ s : Nat) : Int) := by
  have h1 : (m : Int) / 2 ^ s * 2 ^ s = ((m / 2 ^ s * 2 ^ s : Nat) : Int) := by push_cast; rfl
  have h2 : m / 2 ^ s * 2 ^ s ≤ m := Nat.div_mul_le_self _ _
  have h3 := Nat.div_add_mod m (2 ^ s)
  rw [Nat.mul_comm] at h3
  rw [h1]
  generalize m / 2 ^ s * 2 ^ s = q at *
  generalize m % 2 ^ s = r at *
  rw [IntKind.wrap_u64, IntKind.wrap_u64]; omega
theorem sz_H (s : Nat) (hs1 : 1 ≤ s) (hs2 : s < 64) : IntKind.u64.wrap (2 ^ (s - 1)) = ((2 ^ (s - 1) : Nat) : Int) := by
  have h1 : (2 : Nat) ^ (s - 1) ≤ 2 ^ 63 := Nat.pow_le_pow_right (by omega) (by omega)
  have h2 : (2 : Nat) ^ 63 < 18446744073709551616 := by decide
  have h3 : ((2 : Int) ^ (s - 1)) = ((2 ^ (s - 1) : Nat) : Int) := by push_cast; rfl
  rw [h3, IntKind.wrap_u64]
  clear h3
  generalize (2 : Nat) ^ (s - 1) = q at *
  generalize (2 : Nat) ^ 63 = q2 at *
  omega
set_option maxRecDepth 100000 in
set_option maxHeartbeats 4000000 in
theorem rround_down (neg : Bool) (m s : Nat) (e : Int) (more : Bool) (hm : m < 18446744073709551616) (he : -3000 ≤ e) (he2 : e ≤ 3000) (w : World)
    (hL : len2 m = s + 53) (hs1 : 1 ≤ s) (hs2 : s < 64) (hs3 : -1074 ≤ e + s) (hn : 4503599627370496 ≤ (m : Int) / 2 ^ s) (hn2 : (m : Int) / 2 ^ s < 9007199254740992) :
    Calls Try.prog 36 #[.agg #[.bool neg, .int .u64 m, .int .i64 e], .bool more] w fun e1 w' => e1 = .returned (.int .u64 (sgnZ neg (rfinZ (e + s) (upZ ((m : Int) / 2 ^ s) ((m % 2 ^ s : Nat) : Int) ((2 ^ (s - 1) : Nat) : Int) more)))) ∧ Below w.heap.size w w' := by
  have e7 := sz_R m s hm
  have e8 := sz_H s hs1 hs2
  have hR : (0 : Int) ≤ ((m % 2 ^ s : Nat) : Int) := Int.natCast_nonneg _
  have hH : (0 : Int) ≤ ((2 ^ (s - 1) : Nat) : Int) := Int.natCast_nonneg _
  have HM := Lib.hid hm
  have HL := Lib.hid hL
  have E := Lib.hid (And.intro e7 e8)
  clear hm hL e7 e8
  generalize e10 : ((m % 2 ^ s : Nat) : Int) = R at *
  generalize e11 : ((2 ^ (s - 1) : Nat) : Int) = H at *
  generalize e12 : (m : Int) / 2 ^ s = Q at *
  have E2 := Lib.hid (And.intro e10 (And.intro e11 e12))
  clear e10 e11 e12
  go_enter Try.func36, Try.ntmps36
  go_wp2_with fail
  go_at_call 45
  refine (rlength_calls _ HM.out _).mono ?_
  rintro e w' ⟨rfl, rfl⟩
  rw [HL.out, show ((s + 53 : Nat) : Int) = (s : Int) + 53 from by omega]
  go_upto_region 9 with (fail)
  rw [E2.out.2.2, E.out.1, E.out.2]
  clear E E2
  cases more
  all_goals go_wp2_with (first | (go_at_call 39; refine (rsigned_calls' _ _ _).mono ?_; rintro e w' ⟨rfl, rfl⟩))
  all_goals go_ret
  all_goals refine ⟨congrArg (fun x => Ending.returned (.int .u64 x)) ?_, (Below.refl _ _).alloc (Nat.le_refl _) _⟩
  all_goals go_light
  all_goals (refine congrArg (sgnZ neg) ?_; simp only [beq_iff_eq, beq_eq_false_iff_ne, ne_eq] at *; unfold rfinZ upZ; simp only [reduceCtorEq, false_or, true_or, and_true]; (repeat' split) <;> omega)
set_option maxRecDepth 100000 in
set_option maxHeartbeats 4000000 in
theorem rround_sub (neg : Bool) (m s : Nat) (e : Int) (hl1 : -1074 ≤ e + s) (hl2 : e + s ≤ -1074) (more : Bool) (hm : m < 18446744073709551616) (w : World)
    (hL : len2 m < s + 53) (hs1 : 1 ≤ s) (hs2 : s < 64) (hn2 : (m : Int) / 2 ^ s < 9007199254740992) :
    Calls Try.prog 36 #[.agg #[.bool neg, .int .u64 m, .int .i64 e], .bool more] w fun e1 w' => e1 = .returned (.int .u64 (sgnZ neg (rfinZ (e + s) (upZ ((m : Int) / 2 ^ s) ((m % 2 ^ s : Nat) : Int) ((2 ^ (s - 1) : Nat) : Int) more)))) ∧ Below w.heap.size w w' := by
  have e7 := sz_R m s hm
  have e8 := sz_H s hs1 hs2
  have hq0 : 0 ≤ (m : Int) / 2 ^ s := Int.ediv_nonneg (by omega) (Int.le_of_lt (Int.pow_pos (by omega)))
  have hR : (0 : Int) ≤ ((m % 2 ^ s : Nat) : Int) := Int.natCast_nonneg _
  have hH : (0 : Int) ≤ ((2 ^ (s - 1) : Nat) : Int) := Int.natCast_nonneg _
  have HM := Lib.hid hm
  have HL := Lib.hid hL
  have E := Lib.hid (And.intro e7 e8)
  clear hm hL e7 e8
  generalize e10 : ((m % 2 ^ s : Nat) : Int) = R at *
  generalize e11 : ((2 ^ (s - 1) : Nat) : Int) = H at *
  generalize e12 : (m : Int) / 2 ^ s = Q at *
  have E2 := Lib.hid (And.intro e10 (And.intro e11 e12))
  clear e10 e11 e12
  go_enter Try.func36, Try.ntmps36
  go_wp2_with fail
  go_at_call 45
  refine (rlength_calls _ HM.out _).mono ?_
  rintro e w' ⟨rfl, rfl⟩
  generalize hLL : len2 m = L at *
  have HLL := Lib.hid hLL
  have hL' := HL.out
  clear hLL HL
  go_upto_region 4 with (fail)
  rw [show (-1074 - e) = s from by omega]
  go_upto_region 9 with (fail)
  have HL2 := Lib.hid hl2
  have hl3 : e + s ≤ 900 := by omega
  clear hl2
  rw [E2.out.2.2, E.out.1, E.out.2]
  clear E E2
  cases more
  all_goals go_wp2_with (first | (go_at_call 39; refine (rsigned_calls' _ _ _).mono ?_; rintro e w' ⟨rfl, rfl⟩))
  all_goals go_ret
  all_goals refine ⟨congrArg (fun x => Ending.returned (.int .u64 x)) ?_, (Below.refl _ _).alloc (Nat.le_refl _) _⟩
  all_goals have hl4 := HL2.out
  all_goals go_light
  all_goals (refine congrArg (sgnZ neg) ?_; simp only [beq_iff_eq, beq_eq_false_iff_ne, ne_eq] at *; unfold rfinZ upZ; simp only [reduceCtorEq, false_or, true_or, and_true]; (repeat' split) <;> omega)
set_option maxRecDepth 100000 in
set_option maxHeartbeats 4000000 in
theorem rround_up (neg : Bool) (m s : Nat) (e : Int) (more : Bool) (he : -3000 ≤ e) (he2 : e ≤ 3000) (w : World) (hm : m < 18446744073709551616)
    (hL : len2 m + s = 53) (hs0 : 0 < s) (hs3 : -1074 ≤ e - s) (hn : 4503599627370496 ≤ (m : Int) * 2 ^ s) (hn2 : (m : Int) * 2 ^ s < 9007199254740992) :
    Calls Try.prog 36 #[.agg #[.bool neg, .int .u64 m, .int .i64 e], .bool more] w fun e1 w' => e1 = .returned (.int .u64 (sgnZ neg (rfinZ (e - s) ((m : Int) * 2 ^ s)))) ∧ Below w.heap.size w w' := by
  have HM := Lib.hid hm
  have HL := Lib.hid (show ((len2 m : Nat) : Int) = 53 - s by omega)
  have hs4 : -(s : Int) < 0 := by omega
  have hs2 : s ≤ 53 := by omega
  clear hm hL
  generalize e12 : (m : Int) * 2 ^ s = Q at *
  have E2 := Lib.hid e12
  clear e12
  go_enter Try.func36, Try.ntmps36
  go_wp2_with fail
  go_at_call 45
  refine (rlength_calls _ HM.out _).mono ?_
  rintro e w' ⟨rfl, rfl⟩
  rw [HL.out]
  go_upto_region 2 with (fail)
  try rw [show (53 - (s : Int) - 53) = -(s : Int) from by omega]
  go_upto_region 13 with (fail)
  rw [E2.out]
  clear E2
  go_wp2_with (first | (go_at_call 39; refine (rsigned_calls' _ _ _).mono ?_; rintro e w' ⟨rfl, rfl⟩))
  all_goals go_ret
  all_goals refine ⟨congrArg (fun x => Ending.returned (.int .u64 x)) ?_, (Below.refl _ _).alloc (Nat.le_refl _) _⟩
  all_goals go_light
  all_goals (refine congrArg (sgnZ neg) ?_; simp only [beq_eq_false_iff_ne, ne_eq] at *; unfold rfinZ; (repeat' split) <;> omega)

set_option maxRecDepth 100000 in
set_option maxHeartbeats 4000000 in
theorem rround_same (neg : Bool) (m : Nat) (e : Int) (more : Bool) (he : -1074 ≤ e) (he2 : e ≤ 3000) (w : World) (hm : m < 18446744073709551616)
    (hL : len2 m = 53) (hn : 4503599627370496 ≤ (m : Int)) (hn2 : (m : Int) < 9007199254740992) :
    Calls Try.prog 36 #[.agg #[.bool neg, .int .u64 m, .int .i64 e], .bool more] w fun e1 w' => e1 = .returned (.int .u64 (sgnZ neg (rfinZ e m))) ∧ Below w.heap.size w w' := by
  have HM := Lib.hid hm
  have HL := Lib.hid (show ((len2 m : Nat) : Int) = 53 by omega)
  clear hm hL
  go_enter Try.func36, Try.ntmps36
  go_wp2_with fail
  go_at_call 45
  refine (rlength_calls _ HM.out _).mono ?_
  rintro e w' ⟨rfl, rfl⟩
  rw [HL.out]
  obtain ⟨Q, hQ⟩ : ∃ Q : Int, Q = (m : Int) := ⟨_, rfl⟩
  rw [← hQ]
  rw [← hQ] at hn hn2
  have HQ := Lib.hid hQ
  clear hQ
  go_wp2_with (first | (go_at_call 39; refine (rsigned_calls' _ _ _).mono ?_; rintro e w' ⟨rfl, rfl⟩))
  all_goals go_ret
  all_goals refine ⟨congrArg (fun x => Ending.returned (.int .u64 x)) ?_, (Below.refl _ _).alloc (Nat.le_refl _) _⟩
  all_goals go_light
  all_goals (refine congrArg (sgnZ neg) ?_; simp only [beq_eq_false_iff_ne, ne_eq] at *; have hq := HQ.out; rw [← hq]; clear hq; unfold rfinZ; (repeat' split) <;> omega)
set_option maxRecDepth 100000 in
set_option maxHeartbeats 4000000 in
theorem rround_uplim (neg : Bool) (m s : Nat) (e : Int) (more : Bool) (w : World) (hm : m < 18446744073709551616) (hl1 : -1074 ≤ e - s) (hl2 : e - s ≤ -1074)
    (hL : len2 m + s < 53) (hs0 : 0 < s) (h0 : 0 < m) (hn2 : (m : Int) * 2 ^ s < 9007199254740992) :
    Calls Try.prog 36 #[.agg #[.bool neg, .int .u64 m, .int .i64 e], .bool more] w fun e1 w' => e1 = .returned (.int .u64 (sgnZ neg (rfinZ (e - s) ((m : Int) * 2 ^ s)))) ∧ Below w.heap.size w w' := by
  have hq0 : 0 < (m : Int) * 2 ^ s := Int.mul_pos (by omega) (Int.pow_pos (by omega))
  have HM := Lib.hid hm
  have hs4 : -(s : Int) < 0 := by omega
  have hs5 : s ≤ 53 := by omega
  clear hm h0
  generalize e12 : (m : Int) * 2 ^ s = Q at *
  have E2 := Lib.hid e12
  clear e12
  generalize hLL : len2 m = L at *
  have HLL := Lib.hid hLL
  clear hLL
  go_enter Try.func36, Try.ntmps36
  go_wp2_with fail
  go_at_call 45
  refine (rlength_calls _ HM.out _).mono ?_
  rintro e w' ⟨rfl, rfl⟩
  rw [HLL.out]
  go_upto_region 4 with (fail)
  rw [show (-1074 - e) = -(s : Int) from by omega]
  have HL2 := Lib.hid hl2
  have hl3 : e - s ≤ 900 := by omega
  clear hl2
  go_upto_region 13 with (fail)
  rw [E2.out]
  clear E2
  go_wp2_with (first | (go_at_call 39; refine (rsigned_calls' _ _ _).mono ?_; rintro e w' ⟨rfl, rfl⟩))
  all_goals go_ret
  all_goals refine ⟨congrArg (fun x => Ending.returned (.int .u64 x)) ?_, (Below.refl _ _).alloc (Nat.le_refl _) _⟩
  all_goals have hl4 := HL2.out
  all_goals go_light
  all_goals (refine congrArg (sgnZ neg) ?_; simp only [beq_eq_false_iff_ne, ne_eq] at *; unfold rfinZ; (repeat' split) <;> omega)
set_option maxRecDepth 100000 in
set_option maxHeartbeats 4000000 in
theorem rround_samelim (neg : Bool) (m : Nat) (e : Int) (more : Bool) (w : World) (hm : m < 18446744073709551616) (hl1 : -1074 ≤ e) (hl2 : e ≤ -1074)
    (hL : len2 m < 53) (h0 : 0 < (m : Int)) (hn2 : (m : Int) < 9007199254740992) :
    Calls Try.prog 36 #[.agg #[.bool neg, .int .u64 m, .int .i64 e], .bool more] w fun e1 w' => e1 = .returned (.int .u64 (sgnZ neg (rfinZ e m))) ∧ Below w.heap.size w w' := by
  have HM := Lib.hid hm
  clear hm
  generalize hLL : len2 m = L at *
  have HLL := Lib.hid hLL
  clear hLL
  go_enter Try.func36, Try.ntmps36
  go_wp2_with fail
  go_at_call 45
  refine (rlength_calls _ HM.out _).mono ?_
  rintro e w' ⟨rfl, rfl⟩
  rw [HLL.out]
  obtain ⟨Q, hQ⟩ : ∃ Q : Int, Q = (m : Int) := ⟨_, rfl⟩
  rw [← hQ]
  rw [← hQ] at h0 hn2
  have HQ := Lib.hid hQ
  clear hQ
  go_upto_region 4 with (fail)
  rw [show (-1074 - e) = 0 from by omega]
  have HL2 := Lib.hid hl2
  have hl3 : e ≤ 900 := by omega
  clear hl2
  go_wp2_with (first | (go_at_call 39; refine (rsigned_calls' _ _ _).mono ?_; rintro e w' ⟨rfl, rfl⟩))
  all_goals go_ret
  all_goals refine ⟨congrArg (fun x => Ending.returned (.int .u64 x)) ?_, (Below.refl _ _).alloc (Nat.le_refl _) _⟩
  all_goals have hl4 := HL2.out
  all_goals go_light
  all_goals (refine congrArg (sgnZ neg) ?_; simp only [beq_eq_false_iff_ne, ne_eq] at *; have hq := HQ.out; rw [← hq]; clear hq; unfold rfinZ; (repeat' split) <;> omega)
theorem rlength_zero (w : World) : Calls Try.prog 45 #[.int .u64 0] w fun e w' => e = .returned (.int .i64 0) ∧ w = w' := by
  have h := rlength_calls 0 (by omega) w
  exact h
set_option maxRecDepth 100000 in
set_option maxHeartbeats 4000000 in
theorem rround_zero (neg : Bool) (e : Int) (more : Bool) (he : -1074 ≤ e) (he2 : e ≤ 3000) (w : World) :
    Calls Try.prog 36 #[.agg #[.bool neg, .int .u64 0, .int .i64 e], .bool more] w fun e1 w' => e1 = .returned (.int .u64 (sgnZ neg 0)) ∧ Below w.heap.size w w' := by
  rcases Int.lt_trichotomy e (-1074) with h | rfl | h
  · omega
  all_goals
    go_enter Try.func36, Try.ntmps36
    go_wp2_with (first | (go_at_call 45; refine (rlength_zero _).mono ?_; rintro e w' ⟨rfl, rfl⟩) | (go_at_call 39; refine (rsigned_calls' _ _ _).mono ?_; rintro e w' ⟨rfl, rfl⟩))
  all_goals go_ret
  all_goals exact ⟨rfl, (Below.refl _ _).alloc (Nat.le_refl _) _⟩

theorem sgnZ_word (neg : Bool) (x : Nat) (h : x < 9223372036854775808) : sgnZ neg (x : Int) = ((Ieee.double.word neg x : Nat) : Int) := by
  unfold sgnZ Ieee.Format.word
  have hw : Ieee.double.signWeight = 9223372036854775808 := by decide
  cases neg
  · simp
  · rw [if_pos rfl, if_pos rfl, hw]
    have e := bits_or_u64_nat x 9223372036854775808 (by omega) (by omega)
    have e2 : (x ||| 9223372036854775808 : Nat) = x + 9223372036854775808 := by
      rw [Nat.or_comm]
      have := nat_join 63 9223372036854775808 x (by decide) (by simpa using h)
      omega
    rw [show ((9223372036854775808 : Int)) = ((9223372036854775808 : Nat) : Int) from rfl, e, e2]; omega
theorem rfinZ_nat (last : Int) (M : Nat) (h : -1074 ≤ last) : rfinZ last (M : Int) = ((min ((last + 1074).toNat * 4503599627370496 + M) 9218868437227405312 : Nat) : Int) := by
  obtain ⟨k, hk⟩ : ∃ k : Nat, last + 1074 = k := ⟨(last + 1074).toNat, by omega⟩
  unfold rfinZ
  rw [hk, Int.toNat_natCast]
  split <;> omega
/-- What is kept, without a digit more. -/
theorem upZ_rne (m s : Nat) (hs : 1 ≤ s) : upZ ((m : Int) / 2 ^ s) ((m % 2 ^ s : Nat) : Int) ((2 ^ (s - 1) : Nat) : Int) false = ((FloatMath.rne m (2 ^ s) : Nat) : Int) := by
  have h1 : (m : Int) / 2 ^ s = ((m / 2 ^ s : Nat) : Int) := by push_cast; rfl
  have h2 : 2 ^ s = 2 * 2 ^ (s - 1) := by rw [← Nat.pow_succ']; congr 1; omega
  rw [h1]
  unfold upZ FloatMath.rne
  generalize m / 2 ^ s = Q
  rw [h2]
  generalize m % (2 * 2 ^ (s - 1)) = R
  generalize 2 ^ (s - 1) = H
  simp only [reduceCtorEq, false_or]
  split <;> split <;> omega
theorem upZ_rne_more (m s : Nat) (hs : 1 ≤ s) : upZ ((m : Int) / 2 ^ s) ((m % 2 ^ s : Nat) : Int) ((2 ^ (s - 1) : Nat) : Int) true = ((FloatMath.rne (2 * m + 1) (2 ^ (s + 1)) : Nat) : Int) := by
  have h1 : (m : Int) / 2 ^ s = ((m / 2 ^ s : Nat) : Int) := by push_cast; rfl
  have h2 : 2 ^ s = 2 * 2 ^ (s - 1) := by rw [← Nat.pow_succ']; congr 1; omega
  have h3 : 2 ^ (s + 1) = 2 * 2 ^ s := Nat.pow_succ'
  have hp : 0 < 2 ^ (s - 1) := Nat.pow_pos (by omega)
  have hdm := Nat.div_add_mod m (2 ^ s)
  have hlt := Nat.mod_lt m (show 0 < 2 ^ s by omega)
  rw [h1]
  unfold upZ FloatMath.rne
  have d1 : (2 * m + 1) / 2 ^ (s + 1) = m / 2 ^ s := by
    rw [h3, ← Nat.div_div_eq_div_mul]
    congr 1; omega
  have d2 : (2 * m + 1) % 2 ^ (s + 1) = 2 * (m % 2 ^ s) + 1 := by
    have := Nat.div_add_mod (2 * m + 1) (2 ^ (s + 1))
    rw [d1, h3, Nat.mul_assoc] at this
    rw [h3]; omega
  rw [d1, d2, h3, h2]
  rw [h2] at hlt
  generalize m / (2 * 2 ^ (s - 1)) = Q
  generalize m % (2 * 2 ^ (s - 1)) = R at *
  generalize 2 ^ (s - 1) = H at *
  simp only [true_or, and_true]
  split <;> split <;> omega
theorem word_lt63 (last : Int) (M : Nat) : min ((last + 1074).toNat * 4503599627370496 + M) 9218868437227405312 < 9223372036854775808 := by omega
/-- ROUND: the bits of the float next to m times 2 to the e; where more is said, of the middle between 2m and 2m+2 halves. -/
theorem rround_calls (neg : Bool) (m : Nat) (e : Int) (more : Bool) (hm : m < 18446744073709551616) (he : -1100 ≤ e) (he2 : e ≤ 3000) (hmore : more = true → 18014398509481984 ≤ m) (w : World) :
    Calls Try.prog 36 #[.agg #[.bool neg, .int .u64 m, .int .i64 e], .bool more] w fun e1 w' =>
      e1 = .returned (.int .u64 ((Ieee.double.nearest neg (if more then 2 * m + 1 else m) (if more then e - 1 else e) : Nat) : Int)) ∧ Below w.heap.size w w' := by
  rcases Nat.eq_zero_or_pos m with rfl | h0
  · have hmf : more = false := by cases more with
      | false => rfl
      | true => have := hmore rfl; omega
    subst hmf
    rw [if_neg (by simp), FloatMath.nearest_zero, ← sgnZ_word neg 0 (by omega)]
    by_cases hc : -1074 ≤ e
    · exact rround_zero neg e false hc he2 w
    · refine (rround_sub neg 0 (-1074 - e).toNat e (by omega) (by omega) false (by omega) w (by simp [len2]) (by omega) (by omega) (by simp)).mono ?_
      rintro e1 w' ⟨rfl, hb⟩
      refine ⟨?_, hb⟩
      have hup := upZ_rne 0 (-1074 - e).toNat (by omega)
      have hz : FloatMath.rne 0 (2 ^ (-1074 - e).toNat) = 0 := by
        unfold FloatMath.rne; simp
      rw [hz] at hup
      have hup' : upZ (((0 : Nat) : Int) / 2 ^ (-1074 - e).toNat) ((0 % 2 ^ (-1074 - e).toNat : Nat) : Int) ((2 ^ ((-1074 - e).toNat - 1) : Nat) : Int) false = ((0 : Nat) : Int) := hup
      rw [hup', rfinZ_nat _ _ (by omega)]
      have hl : (e + ((-1074 - e).toNat : Int) + 1074).toNat = 0 := by omega
      rw [hl]
      rfl
  · have hlen : len2 m = m.log2 + 1 := by unfold len2; rw [if_neg (by omega)]
    have hl63 := FloatMath.log2_lt64 m h0 hm
    have a1 : 2 ^ m.log2 ≤ m := Nat.log2_self_le (by omega)
    have a2 : m < 2 ^ (m.log2 + 1) := Nat.lt_log2_self
    by_cases hs : 1 ≤ (m.log2 : Int) - 52 ∨ 1 ≤ -1074 - e
    · -- some digits are dropped
      obtain ⟨s, hs0⟩ : ∃ s : Nat, (s : Int) = max ((m.log2 : Int) - 52) (-1074 - e) := ⟨(max ((m.log2 : Int) - 52) (-1074 - e)).toNat, by omega⟩
      have hs1 : 1 ≤ s := by omega
      have hs2 : s < 64 := by omega
      have hres : sgnZ neg (rfinZ (e + s) (upZ ((m : Int) / 2 ^ s) ((m % 2 ^ s : Nat) : Int) ((2 ^ (s - 1) : Nat) : Int) more)) = ((Ieee.double.nearest neg (if more then 2 * m + 1 else m) (if more then e - 1 else e) : Nat) : Int) := by
        cases more with
        | false =>
          rw [upZ_rne m s hs1, rfinZ_nat _ _ (by omega), sgnZ_word _ _ (word_lt63 _ _), if_neg (by simp), if_neg (by simp), FloatMath.nearest_rung _ _ _ h0]
          unfold FloatMath.rung FloatMath.rungAt
          rw [show max (e + (m.log2 : Int) - 52) (-1074) = e + s by omega, show (e - (e + (s : Int))).toNat = 0 by omega, show (e + (s : Int) - e).toNat = s by omega, Nat.pow_zero, Nat.mul_one]
        | true =>
          have hl1 : (2 * m + 1).log2 = m.log2 + 1 := by
            rw [Nat.log2_eq_iff (by omega)]
            rw [Nat.pow_succ 2 (m.log2 + 1)]; rw [Nat.pow_succ] at *; omega
          rw [upZ_rne_more m s hs1, rfinZ_nat _ _ (by omega), sgnZ_word _ _ (word_lt63 _ _), if_pos rfl, if_pos rfl, FloatMath.nearest_rung _ _ _ (by omega)]
          unfold FloatMath.rung FloatMath.rungAt
          rw [hl1, show max (e - 1 + ((m.log2 + 1 : Nat) : Int) - 52) (-1074) = e + s by omega, show (e - 1 - (e + (s : Int))).toNat = 0 by omega, show (e + (s : Int) - (e - 1)).toNat = s + 1 by omega, Nat.pow_zero, Nat.mul_one]
      rw [← hres]
      have hq : (m : Int) / 2 ^ s = ((m / 2 ^ s : Nat) : Int) := by push_cast; rfl
      have hp : 0 < 2 ^ s := Nat.pow_pos (by omega)
      have hq2 : m / 2 ^ s < 9007199254740992 := by
        rw [Nat.div_lt_iff_lt_mul hp, show (9007199254740992 : Nat) = 2 ^ 53 by decide, ← Nat.pow_add]
        exact Nat.lt_of_lt_of_le a2 (Nat.pow_le_pow_right (by omega) (by omega))
      by_cases hn : (s : Int) = (m.log2 : Int) - 52
      · have hq1 : 4503599627370496 ≤ m / 2 ^ s := by
          rw [Nat.le_div_iff_mul_le hp, show (4503599627370496 : Nat) = 2 ^ 52 by decide, ← Nat.pow_add, show 52 + s = m.log2 by omega]; exact a1
        exact rround_down neg m s e more hm (by omega) he2 w (by omega) hs1 hs2 (by omega) (by rw [hq]; omega) (by rw [hq]; omega)
      · exact rround_sub neg m s e (by omega) (by omega) more hm w (by omega) hs1 hs2 (by rw [hq]; omega)
    · have hmf : more = false := by
        cases more with
        | false => rfl
        | true =>
          have h1 := hmore rfl
          have : 54 ≤ m.log2 := (Nat.le_log2 (by omega)).2 (by simpa using h1)
          omega
      subst hmf
      rw [if_neg (by simp), if_neg (by simp), FloatMath.nearest_rung _ _ _ h0]
      obtain ⟨s, hs0⟩ : ∃ s : Nat, (s : Int) = min (52 - (m.log2 : Int)) (e + 1074) := ⟨(min (52 - (m.log2 : Int)) (e + 1074)).toNat, by omega⟩
      have hrg : ((FloatMath.rung m e : Nat) : Int) = rfinZ (e - s) ((m : Int) * 2 ^ s) := by
        have : (m : Int) * 2 ^ s = ((m * 2 ^ s : Nat) : Int) := by push_cast; rfl
        rw [this, rfinZ_nat _ _ (by omega)]
        unfold FloatMath.rung FloatMath.rungAt
        rw [show max (e + (m.log2 : Int) - 52) (-1074) = e - s by omega, show (e - (e - (s : Int))).toNat = s by omega, show (e - (s : Int) - e).toNat = 0 by omega, Nat.pow_zero, FloatMath.rne_one]
      have hlt : FloatMath.rung m e < 9223372036854775808 := by unfold FloatMath.rung FloatMath.rungAt; omega
      rw [← sgnZ_word _ _ hlt, hrg]
      have hp : m * 2 ^ s < 9007199254740992 := by
        rw [show (9007199254740992 : Nat) = 2 ^ (m.log2 + 1 + (52 - m.log2)) by rw [show m.log2 + 1 + (52 - m.log2) = 53 by omega], Nat.pow_add]
        exact Nat.mul_lt_mul_of_lt_of_le a2 (Nat.pow_le_pow_right (by omega) (by omega)) (Nat.pow_pos (by omega))
      have hpi : (m : Int) * 2 ^ s < 9007199254740992 := by
        have : (m : Int) * 2 ^ s = ((m * 2 ^ s : Nat) : Int) := by push_cast; rfl
        rw [this]; omega
      have hlo : e + 1074 ≥ 52 - (m.log2 : Int) → 4503599627370496 ≤ (m : Int) * 2 ^ s := fun h => by
        have h1 : 4503599627370496 ≤ m * 2 ^ s := by
          rw [show (4503599627370496 : Nat) = 2 ^ (m.log2 + s) by rw [show m.log2 + s = 52 by omega], Nat.pow_add]
          exact Nat.mul_le_mul_right _ a1
        have : (m : Int) * 2 ^ s = ((m * 2 ^ s : Nat) : Int) := by push_cast; rfl
        rw [this]; omega
      by_cases hz : s = 0
      · subst hz
        simp only [Int.pow_zero, Int.mul_one, Int.natCast_zero, Int.sub_zero] at hlo hpi ⊢
        by_cases hn : e + 1074 ≥ 52 - (m.log2 : Int)
        · exact rround_same neg m e false (by omega) he2 w hm (by omega) (hlo hn) hpi
        · exact rround_samelim neg m e false w hm (by omega) (by omega) (by omega) (by omega) hpi
      · by_cases hn : e + 1074 ≥ 52 - (m.log2 : Int)
        · exact rround_up neg m s e false (by omega) he2 w hm (by omega) (by omega) (by omega) (hlo hn) hpi
        · exact rround_uplim neg m s e false w hm (by omega) (by omega) (by omega) (by omega) h0 hpi
end Go.Proofs.Ytpgflnjpohmldaa
