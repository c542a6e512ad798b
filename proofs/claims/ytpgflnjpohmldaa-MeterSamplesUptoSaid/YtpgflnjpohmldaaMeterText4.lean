import Derived.Test.YtpgflnjpohmldaaMeterText3
import Derived.Test.YtpgflnjpohmldaaShelf
import Derived.Laws.BitsAllLaws
import Derived.Deep.QuietTactic
import Derived.BigQuiet
set_option linter.unusedVariables false
namespace Go.Proofs.Ytpgflnjpohmldaa
open Go.RowKit
theorem belowDrewN (w : World) (n : Nat) : Below w.heap.size w (w.drewN n) := by
  induction n with
  | zero => exact Below.refl _ _
  | succ n ih => exact ih.drew
/-- What is told by the digit behind, what follows it, and whether it is odd. -/
def upT (q h z o : Int) : Int := if h = 1 ∧ (z ≠ 0 ∨ o = 1) then q + 1 else q
theorem upT_yes {q h z o : Int} (h1 : h = 1) (h2 : z ≠ 0 ∨ o = 1) : q + 1 = upT q h z o := (if_pos ⟨h1, h2⟩).symm
theorem upT_no {q h z o : Int} (h1 : ¬ (h = 1 ∧ (z ≠ 0 ∨ o = 1))) : q = upT q h z o := (if_neg h1).symm
theorem ret_u64 {a b : Int} (h : a = b) : Ending.returned (.int .u64 a) = .returned (.int .u64 b) := by rw [h]
set_option maxHeartbeats 1000000 in
theorem rounded_A (rest ten whole hi lo q h z o : Int) (k a b : Nat) (hk : ((k : Int) - 64) = (a : Int)) (hb : ((k : Int) - 65) = (b : Int)) (h1 : 64 < (k : Int)) (h2 : (k : Int) ≤ 127) (ha64 : a < 64) (hb64 : b < 63)
    (hq : hi / 2 ^ a = q) (hh : bits BinOp.and IntKind.u64 (hi / 2 ^ b) 1 = h) (hz : bits BinOp.or IntKind.u64 (bits BinOp.and IntKind.u64 hi (IntKind.u64.wrap (IntKind.u64.wrap (2 ^ b) - 1))) lo = z)
    (ho : (((ten == 1) = true) ∧ bits BinOp.and IntKind.u64 (IntKind.u64.wrap (q + whole)) 1 = o) ∨ (((ten == 1) = false) ∧ bits BinOp.and IntKind.u64 q 1 = o)) (q0 : 0 ≤ q) (q1 : q ≤ 4611686018427387904)
    (w : World) (cm : ∀ w, Calls Try.prog 76 #[.int .u64 rest, .int .u64 ten] w fun e w' => e = .returned (.tuple #[.int .u64 hi, .int .u64 lo]) ∧ w' = w) :
    Calls Try.prog 63 #[.int .u64 rest, .int .u64 ten, .int .i64 k, .int .u64 whole] w fun e w' => e = .returned (.int .u64 (upT q h z o)) ∧ Below w.heap.size w w' := by
  rcases ho with ⟨ht, ho⟩ | ⟨ht, ho⟩
  all_goals
    go_enter Try.func63, Try.ntmps63
    go_wp2_with (go_at_call 76; refine (cm _).mono ?_; rintro e w1 ⟨rfl, rfl⟩)
    all_goals go_ret
    all_goals refine ⟨ret_u64 ?_, by first | exact Below.refl _ _ | exact belowDrewN _ _⟩
    all_goals first
      | exact upT_yes (by assumption) (.inl (by assumption))
      | exact upT_yes (by assumption) (.inr (by simp_all))
      | exact upT_no (by simp_all)
set_option maxHeartbeats 1000000 in
theorem rounded_B (rest ten whole hi lo h z o : Int)
    (hh : lo / 9223372036854775808 = h) (hz : bits BinOp.and IntKind.u64 lo 9223372036854775807 = z)
    (ho : (((ten == 1) = true) ∧ bits BinOp.and IntKind.u64 (IntKind.u64.wrap (hi + whole)) 1 = o) ∨ (((ten == 1) = false) ∧ bits BinOp.and IntKind.u64 hi 1 = o)) (q0 : 0 ≤ hi) (q1 : hi ≤ 4611686018427387904)
    (w : World) (cm : ∀ w, Calls Try.prog 76 #[.int .u64 rest, .int .u64 ten] w fun e w' => e = .returned (.tuple #[.int .u64 hi, .int .u64 lo]) ∧ w' = w) :
    Calls Try.prog 63 #[.int .u64 rest, .int .u64 ten, .int .i64 64, .int .u64 whole] w fun e w' => e = .returned (.int .u64 (upT hi h z o)) ∧ Below w.heap.size w w' := by
  rcases ho with ⟨ht, ho⟩ | ⟨ht, ho⟩
  all_goals
    go_enter Try.func63, Try.ntmps63
    go_wp2_with (go_at_call 76; refine (cm _).mono ?_; rintro e w1 ⟨rfl, rfl⟩)
    all_goals go_ret
    all_goals refine ⟨ret_u64 ?_, by first | exact Below.refl _ _ | exact belowDrewN _ _⟩
    all_goals first
      | exact upT_yes (by assumption) (.inl (by assumption))
      | exact upT_yes (by assumption) (.inr (by simp_all))
      | exact upT_no (by simp_all)
theorem rounded_D (rest ten whole hi lo : Int) (k : Nat) (h1 : 127 < (k : Int))
    (w : World) (cm : ∀ w, Calls Try.prog 76 #[.int .u64 rest, .int .u64 ten] w fun e w' => e = .returned (.tuple #[.int .u64 hi, .int .u64 lo]) ∧ w' = w) :
    Calls Try.prog 63 #[.int .u64 rest, .int .u64 ten, .int .i64 k, .int .u64 whole] w fun e w' => e = .returned (.int .u64 0) ∧ Below w.heap.size w w' := by
  go_enter Try.func63, Try.ntmps63
  go_wp2_with (go_at_call 76; refine (cm _).mono ?_; rintro e w1 ⟨rfl, rfl⟩)
  go_ret
  exact ⟨rfl, Below.refl _ _⟩
set_option maxHeartbeats 1000000 in
theorem rounded_C (rest ten whole hi lo q h z o : Int) (k a b : Nat) (hk : (64 - (k : Int)) = (a : Int)) (hb : ((k : Int) - 1) = (b : Int)) (h1 : (k : Int) < 64) (h2 : 1 ≤ (k : Int)) (ha64 : a < 64) (hb64 : b < 63) (hk64 : k < 64)
    (hq : bits BinOp.or IntKind.u64 (IntKind.u64.wrap (hi * 2 ^ a)) (lo / 2 ^ k) = q) (hh : bits BinOp.and IntKind.u64 (lo / 2 ^ b) 1 = h) (hz : bits BinOp.and IntKind.u64 lo (IntKind.u64.wrap (IntKind.u64.wrap (2 ^ b) - 1)) = z)
    (ho : (((ten == 1) = true) ∧ bits BinOp.and IntKind.u64 (IntKind.u64.wrap (q + whole)) 1 = o) ∨ (((ten == 1) = false) ∧ bits BinOp.and IntKind.u64 q 1 = o)) (q0 : 0 ≤ q) (q1 : q ≤ 4611686018427387904)
    (w : World) (cm : ∀ w, Calls Try.prog 76 #[.int .u64 rest, .int .u64 ten] w fun e w' => e = .returned (.tuple #[.int .u64 hi, .int .u64 lo]) ∧ w' = w) :
    Calls Try.prog 63 #[.int .u64 rest, .int .u64 ten, .int .i64 k, .int .u64 whole] w fun e w' => e = .returned (.int .u64 (upT q h z o)) ∧ Below w.heap.size w w' := by
  rcases ho with ⟨ht, ho⟩ | ⟨ht, ho⟩
  all_goals
    go_enter Try.func63, Try.ntmps63
    go_wp2_with (go_at_call 76; refine (cm _).mono ?_; rintro e w1 ⟨rfl, rfl⟩)
    go_quiet (fail)
    go_wp2_with (go_at_call 76; refine (cm _).mono ?_; rintro e w1 ⟨rfl, rfl⟩)
    all_goals go_ret
    all_goals refine ⟨ret_u64 ?_, by first | exact Below.refl _ _ | exact belowDrewN _ _⟩
    all_goals first
      | exact upT_yes (by assumption) (.inl (by assumption))
      | exact upT_yes (by assumption) (.inr (by simp_all))
      | exact upT_no (by simp_all)
theorem cast_div_pow (x b : Nat) : ((x : Nat) : Int) / 2 ^ b = ((x / 2 ^ b : Nat) : Int) := by push_cast; rfl
theorem cast_mul_pow (x a : Nat) : ((x : Nat) : Int) * 2 ^ a = ((2 ^ a * x : Nat) : Int) := by push_cast; rw [Int.mul_comm]
theorem cast_div_nat (x y : Nat) : ((x : Nat) : Int) / (y : Int) = ((x / y : Nat) : Int) := (Int.natCast_ediv _ _).symm
/-- rest times ten over 2 to the k, rounded. -/
def rndN (rest ten k whole : Nat) : Nat := (upT (rest * ten / 2 ^ k : Nat) (rest * ten / 2 ^ (k - 1) % 2 : Nat) (rest * ten % 2 ^ (k - 1) : Nat) ((if ten = 1 then (rest * ten / 2 ^ k + whole) % 2 else rest * ten / 2 ^ k % 2 : Nat))).toNat
theorem u64_wrap_nat (x : Nat) (h : x < 18446744073709551616) : IntKind.u64.wrap (x : Int) = x := IntWalk.u64_in _ (by omega)
theorem u64_odd (x : Nat) (h : x < 18446744073709551616) : bits BinOp.and IntKind.u64 (x : Int) 1 = ((x % 2 : Nat) : Int) := by
  rw [show (1 : Int) = ((1 : Nat) : Int) from rfl, u64_and_nat x 1 h (by omega), Nat.and_one_is_mod]
theorem u64_low (x b : Nat) (h : x < 18446744073709551616) (hb : b < 64) : bits BinOp.and IntKind.u64 (x : Int) (IntKind.u64.wrap (IntKind.u64.wrap (2 ^ b) - 1)) = ((x % 2 ^ b : Nat) : Int) := by
  have hp : 2 ^ b ≤ 2 ^ 63 := Nat.pow_le_pow_right (by omega) (by omega)
  have h1 : 1 ≤ 2 ^ b := Nat.one_le_two_pow
  have e : ((2 : Int) ^ b) = ((2 ^ b : Nat) : Int) := by push_cast; rfl
  have e2 : (((2 ^ b : Nat) : Int) - 1) = ((2 ^ b - 1 : Nat) : Int) := by generalize 2 ^ b = z at *; omega
  rw [e, u64_wrap_nat _ (by omega), e2, u64_wrap_nat _ (by omega), u64_and_nat _ _ h (by omega), Nat.and_two_pow_sub_one_eq_mod]
theorem or_ne (x y : Nat) (hx : x < 18446744073709551616) (hy : y < 18446744073709551616) : bits BinOp.or IntKind.u64 (x : Int) (y : Int) = ((x ||| y : Nat) : Int) := u64_or_nat _ _ hx hy
theorem upT_iff {q h z z' o : Int} (hz : z = 0 ↔ z' = 0) : upT q h z o = upT q h z' o := by
  unfold upT; simp only [ne_eq, hz]
theorem odd_split (ten q whole : Nat) (o : Nat) (hq : q < 9223372036854775808) (hw : whole < 9223372036854775808) (h : o = if ten = 1 then (q + whole) % 2 else q % 2) :
    ((((ten : Int) == 1) = true) ∧ bits BinOp.and IntKind.u64 (IntKind.u64.wrap ((q : Int) + (whole : Int))) 1 = (o : Int)) ∨ ((((ten : Int) == 1) = false) ∧ bits BinOp.and IntKind.u64 (q : Int) 1 = (o : Int)) := by
  by_cases ht : ten = 1
  · left
    rw [if_pos ht] at h
    refine ⟨by rw [ht]; rfl, ?_⟩
    rw [show ((q : Int) + (whole : Int)) = ((q + whole : Nat) : Int) by omega, u64_wrap_nat _ (by omega), u64_odd _ (by omega), h]
  · right
    rw [if_neg ht] at h
    refine ⟨by rw [beq_eq_false_iff_ne]; omega, ?_⟩
    rw [u64_odd _ (by omega), h]
theorem upT_nonneg (q h z o : Int) (hq : 0 ≤ q) : 0 ≤ upT q h z o := by unfold upT; split <;> omega
theorem rounded_calls (rest ten k whole : Nat) (hr : rest < 9007199254740992) (ht : ten ≤ 1000000000) (hk1 : 1 ≤ k) (hk2 : k ≤ 1074) (hkr : k < 64 → rest < 2 ^ k) (hw : whole < 9223372036854775808) (w : World) :
    Calls Try.prog 63 #[.int .u64 rest, .int .u64 ten, .int .i64 k, .int .u64 whole] w fun e w' => e = .returned (.int .u64 (rndN rest ten k whole : Nat)) ∧ Below w.heap.size w w' := by
  have cm := fun w => bits_Mul64 rest ten (by omega) (by omega) w
  have hP : rest * ten < 9007199254740992 * 1000000001 := Nat.mul_lt_mul'' hr (by omega)
  unfold rndN
  generalize hP0 : rest * ten = P at *
  rw [show (9007199254740992 * 1000000001 : Nat) = 9007199263748191254740992 by decide] at hP
  have hhi : P / 18446744073709551616 < 1048576 := by omega
  have hlo := Nat.mod_lt P (show 0 < 18446744073709551616 by decide)
  rw [Int.toNat_of_nonneg (upT_nonneg _ _ _ _ (Int.natCast_nonneg _))]
  have hPq : P = 18446744073709551616 * (P / 18446744073709551616) + P % 18446744073709551616 := (Nat.div_add_mod _ _).symm
  rcases Nat.lt_or_ge 127 k with h127 | h127
  · refine (rounded_D rest ten whole _ _ k (by omega) w cm).mono fun e w' ⟨he, hb⟩ => ⟨?_, hb⟩
    rw [he]
    apply ret_u64
    have h1 : 2 ^ 100 ≤ 2 ^ (k - 1) := Nat.pow_le_pow_right (by omega) (by omega)
    have h2 : 2 ^ 100 ≤ 2 ^ k := Nat.pow_le_pow_right (by omega) (by omega)
    rw [show (2 : Nat) ^ 100 = 1267650600228229401496703205376 by decide] at h1 h2
    rw [Nat.div_eq_of_lt (by omega), Nat.div_eq_of_lt (show P < 2 ^ (k - 1) by omega)]
    unfold upT; rw [if_neg (by simp)]; rfl
  · rcases Nat.lt_trichotomy k 64 with h64 | h64 | h64
    · obtain ⟨b, rfl⟩ : ∃ b, k = b + 1 := ⟨k - 1, by omega⟩
      obtain ⟨a, ha⟩ : ∃ a, a + (b + 1) = 64 := ⟨64 - (b + 1), by omega⟩
      rw [Nat.add_sub_cancel]
      have hpow : 2 ^ a * 2 ^ (b + 1) = 18446744073709551616 := by rw [← Nat.pow_add, ha]
      have hpos : 0 < 2 ^ (b + 1) := Nat.two_pow_pos _
      have hposa : 0 < 2 ^ a := Nat.two_pow_pos _
      have hqlt : P / 2 ^ (b + 1) < 1000000001 := by
        apply Nat.div_lt_of_lt_mul
        rw [← hP0]
        exact Nat.mul_lt_mul'' (hkr h64) (by omega)
      have hlk : P % 18446744073709551616 / 2 ^ (b + 1) < 2 ^ a := by
        apply Nat.div_lt_of_lt_mul
        rw [Nat.mul_comm, hpow]; exact hlo
      have hsum : P / 2 ^ (b + 1) = 2 ^ a * (P / 18446744073709551616) + P % 18446744073709551616 / 2 ^ (b + 1) := by
        conv => lhs; rw [hPq]
        rw [← hpow, Nat.mul_comm (2 ^ a), Nat.mul_assoc, Nat.mul_add_div hpos]
      have hpa : 2 ^ a ≤ 18446744073709551616 := by
        have := Nat.pow_le_pow_right (n := 2) (by omega) (show a ≤ 64 by omega)
        simpa using this
      have hh : P / 2 ^ b % 2 = P % 18446744073709551616 / 2 ^ b % 2 := by
        have e : P / 2 ^ b = 2 ^ (a + 1) * (P / 18446744073709551616) + P % 18446744073709551616 / 2 ^ b := by
          conv => lhs; rw [hPq]
          rw [← hpow, Nat.pow_succ 2 b, show 2 ^ a * (2 ^ b * 2) = 2 ^ b * 2 ^ (a + 1) by rw [Nat.pow_succ, Nat.mul_left_comm], Nat.mul_assoc, Nat.mul_add_div (Nat.two_pow_pos _)]
        rw [e, Nat.pow_succ, Nat.mul_assoc, Nat.mul_left_comm, Nat.mul_add_mod]
      have hz : P % 2 ^ b = P % 18446744073709551616 % 2 ^ b := by
        rw [Nat.mod_mod_of_dvd]
        exact ⟨2 ^ (a + 1), by rw [← hpow, ← Nat.pow_add, ← Nat.pow_add]; congr 1; omega⟩
      refine (rounded_C rest ten whole _ _ ((P / 2 ^ (b + 1) : Nat) : Int) ((P / 2 ^ b % 2 : Nat) : Int) ((P % 2 ^ b : Nat) : Int) _ (b + 1) a b (by omega) (by omega) (by omega) (by omega) (by omega) (by omega) h64 ?_ ?_ ?_
        (odd_split ten (P / 2 ^ (b + 1)) whole _ (by omega) hw rfl) (Int.natCast_nonneg _) (by omega) w cm)
      · have hh1 : 2 ^ a * (P / 18446744073709551616) ≤ P / 2 ^ (b + 1) := by rw [hsum]; exact Nat.le_add_right _ _
        rw [cast_mul_pow, cast_div_pow, u64_wrap_nat _ (Nat.lt_of_le_of_lt hh1 (by omega)), or_ne _ _ (Nat.lt_of_le_of_lt hh1 (by omega)) (Nat.lt_of_lt_of_le hlk hpa), hsum, ← Nat.two_pow_add_eq_or_of_lt hlk]
      · rw [cast_div_pow, u64_odd _ (Nat.lt_of_le_of_lt (Nat.div_le_self _ _) hlo), hh]
      · rw [u64_low _ _ hlo (by omega), hz]
    · subst h64
      have e1 : P / 2 ^ (64 - 1) % 2 = P % 18446744073709551616 / 9223372036854775808 := by
        rw [show (2 : Nat) ^ (64 - 1) = 9223372036854775808 by decide]; omega
      have e2 : P % 2 ^ (64 - 1) = P % 18446744073709551616 % 9223372036854775808 := by
        rw [show (2 : Nat) ^ (64 - 1) = 9223372036854775808 by decide]; omega
      rw [e1, e2, show (2 : Nat) ^ 64 = 18446744073709551616 by decide]
      refine rounded_B rest ten whole _ _ _ _ _ ?_ ?_ (odd_split ten (P / 18446744073709551616) whole _ (by omega) hw rfl) (Int.natCast_nonneg _) (by omega) w cm
      · exact cast_div_nat _ 9223372036854775808
      · rw [show (9223372036854775807 : Int) = ((2 ^ 63 - 1 : Nat) : Int) by decide, u64_and_nat _ _ hlo (by decide), Nat.and_two_pow_sub_one_eq_mod]
    · obtain ⟨b, rfl⟩ : ∃ b, k = 65 + b := ⟨k - 65, by omega⟩
      rw [show 65 + b - 1 = 64 + b by omega]
      have e1 : P / 2 ^ (65 + b) = P / 18446744073709551616 / 2 ^ (1 + b) := by
        rw [Nat.div_div_eq_div_mul, show (18446744073709551616 : Nat) = 2 ^ 64 by decide, ← Nat.pow_add]; congr 2; omega
      have e2 : P / 2 ^ (64 + b) = P / 18446744073709551616 / 2 ^ b := by
        rw [Nat.div_div_eq_div_mul, show (18446744073709551616 : Nat) = 2 ^ 64 by decide, ← Nat.pow_add]
      have e3 : P % 2 ^ (64 + b) = P % 18446744073709551616 + 18446744073709551616 * (P / 18446744073709551616 % 2 ^ b) := by
        rw [Nat.pow_add, show (2 : Nat) ^ 64 = 18446744073709551616 by decide, Nat.mod_mul]
      have hle : P / 18446744073709551616 / 2 ^ (1 + b) ≤ P / 18446744073709551616 := Nat.div_le_self _ _
      have hle2 : P / 18446744073709551616 / 2 ^ b ≤ P / 18446744073709551616 := Nat.div_le_self _ _
      have hle3 : P / 18446744073709551616 % 2 ^ b ≤ P / 18446744073709551616 := Nat.mod_le _ _
      rw [e1, e2, e3]
      refine (rounded_A rest ten whole _ _ ((P / 18446744073709551616 / 2 ^ (1 + b) : Nat) : Int) ((P / 18446744073709551616 / 2 ^ b % 2 : Nat) : Int) ((P / 18446744073709551616 % 2 ^ b ||| P % 18446744073709551616 : Nat) : Int) _ (65 + b) (1 + b) b (by omega) (by omega) (by omega) (by omega) (by omega) (by omega) ?_ ?_ ?_
        (odd_split ten (P / 18446744073709551616 / 2 ^ (1 + b)) whole _ (by omega) hw rfl) (Int.natCast_nonneg _) (by omega) w cm).mono fun e w' ⟨he, hb⟩ => ⟨he.trans (ret_u64 (upT_iff ?_)), hb⟩
      · exact cast_div_pow _ _
      · rw [cast_div_pow, u64_odd _ (by omega)]
      · rw [u64_low _ _ (by omega) (by omega), or_ne _ _ (by omega) hlo]
      · have hor : P / 18446744073709551616 % 2 ^ b ||| P % 18446744073709551616 = 0 ↔ P / 18446744073709551616 % 2 ^ b = 0 ∧ P % 18446744073709551616 = 0 := Nat.or_eq_zero_iff
        constructor
        · intro h
          have := hor.mp (by exact_mod_cast h)
          omega
        · intro h
          have := hor.mpr (by omega)
          exact_mod_cast this
end Go.Proofs.Ytpgflnjpohmldaa
