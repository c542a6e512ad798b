/- MeterRises: for all ints a and b the law answers true (the float of the greater int is not less; of ints that floats hold it is greater). -/
import Derived.Test.YtpgflnjpohmldaaMeterBase
namespace Go.Proofs.Ytpgflnjpohmldaa
open Go.RowKit FloatMath
def rankZ (v : Int) : Int := if v / 9223372036854775808 = 1 then bits BinOp.xor IntKind.u64 IntKind.u64.max v else bits BinOp.or IntKind.u64 v 9223372036854775808
theorem rank_calls (v : Int) (w : World) : Calls Try.prog 12 #[.int .u64 v] w fun e w' => e = .returned (.int .u64 (rankZ v)) ∧ w = w' := by
  unfold rankZ
  by_cases h : v / 9223372036854775808 = 1
  · have h1 : (v / 9223372036854775808 == 1) = true := by simpa using h
    rw [if_pos h]
    have H := Lib.hid h; clear h
    go_enter Try.func12, Try.ntmps12
    go_wp2
    go_ret
    exact ⟨rfl, rfl⟩
  · have h1 : (v / 9223372036854775808 == 1) = false := by simpa using h
    rw [if_neg h]
    go_enter Try.func12, Try.ntmps12
    go_wp2
    go_ret
    exact ⟨rfl, rfl⟩
theorem rankZ_low (n : Nat) (h : n < 9223372036854775808) : rankZ (n : Int) = (n : Int) + 9223372036854775808 := by
  unfold rankZ
  rw [if_neg (by omega)]
  have e := bits_or_u64_nat n 9223372036854775808 (by omega) (by omega)
  have e2 : (n ||| 9223372036854775808 : Nat) = n + 9223372036854775808 := by
    rw [Nat.or_comm]
    have := nat_join 63 9223372036854775808 n (by decide) (by simpa using h)
    omega
  rw [show ((9223372036854775808 : Int)) = ((9223372036854775808 : Nat) : Int) from rfl, e, e2]; omega
theorem rankZ_high (n : Nat) (h0 : 9223372036854775808 ≤ n) (h : n < 18446744073709551616) : rankZ (n : Int) = 18446744073709551615 - (n : Int) := by
  unfold rankZ
  rw [if_pos (by omega)]
  have e := bits_xor_u64_nat 18446744073709551615 n (by omega) h
  have e2 : (18446744073709551615 ^^^ n : Nat) = 18446744073709551615 - n := by
    apply Nat.eq_of_testBit_eq
    intro i
    rw [Nat.testBit_xor]
    rw [show (18446744073709551615 - n : Nat) = 2 ^ 64 - (n + 1) by omega, Nat.testBit_two_pow_sub_succ (by simpa using h)]
    rw [show (18446744073709551615 : Nat) = 2 ^ 64 - 1 by decide, Nat.testBit_two_pow_sub_one]
    by_cases hi : i < 64 <;> simp [hi]
    have : n.testBit i = false := Nat.testBit_lt_two_pow (Nat.lt_of_lt_of_le (show n < 2 ^ 64 by simpa using h) (Nat.pow_le_pow_right (by omega) (by omega)))
    simpa using this
  rw [show IntKind.u64.max = ((18446744073709551615 : Nat) : Int) by decide, e, e2]; omega
theorem rank_pos (v : Int) (h : 0 < v) (h2 : v < 9223372036854775808) : rankZ (bitsZ v) = (rungI v.toNat : Nat) + 9223372036854775808 := by
  have := rungI_lt v.toNat (by omega) (by omega)
  rw [bitsZ_eq, ofInt_pos v h h2, rankZ_low _ (by omega)]
theorem rank_zero : rankZ (bitsZ 0) = 9223372036854775808 := by
  rw [bitsZ_eq, ofInt_zero, rankZ_low _ (by omega)]; rfl
theorem rank_neg (v : Int) (h : v < 0) (h2 : -9223372036854775808 ≤ v) : rankZ (bitsZ v) = 9223372036854775807 - (rungI (-v).toNat : Nat) := by
  have := rungI_lt (-v).toNat (by omega) (by omega)
  rw [bitsZ_eq, ofInt_neg v h h2, rankZ_high _ (by omega) (by omega)]; omega
/-- The greater int has the float that is not less. -/
theorem rank_mono (a b : Int) (ha : -9223372036854775808 ≤ a) (hb : b < 9223372036854775808) (h : a < b) : rankZ (bitsZ a) ≤ rankZ (bitsZ b) := by
  rcases Int.lt_trichotomy a 0 with ha0 | rfl | ha0
  · have ea := rank_neg a ha0 ha
    rcases Int.lt_trichotomy b 0 with hb0 | rfl | hb0
    · have eb := rank_neg b hb0 (by omega)
      have := rungI_mono (-b).toNat (-a).toNat (by omega) (by omega)
      omega
    · have := rank_zero; omega
    · have eb := rank_pos b hb0 hb; omega
  · have eb := rank_pos b h hb; have := rank_zero; omega
  · have ea := rank_pos a ha0 (by omega)
    have eb := rank_pos b (by omega) hb
    have := rungI_mono a.toNat b.toNat (by omega) (by omega)
    omega
/-- Of two that floats hold it is greater. -/
theorem rank_strict (a b : Int) (ha : -9007199254740992 ≤ a) (hb : b ≤ 9007199254740992) (h : a < b) : rankZ (bitsZ a) < rankZ (bitsZ b) := by
  rcases Int.lt_trichotomy a 0 with ha0 | rfl | ha0
  · have ea := rank_neg a ha0 (by omega)
    rcases Int.lt_trichotomy b 0 with hb0 | rfl | hb0
    · have eb := rank_neg b hb0 (by omega)
      have := rungI_strict (-b).toNat (-a).toNat (by omega) (by omega) (by omega)
      omega
    · have := rank_zero; omega
    · have eb := rank_pos b hb0 (by omega); omega
  · have eb := rank_pos b h (by omega); have := rank_zero
    have : 0 < rungI b.toNat := by unfold rungI; have := kept_bounds b.toNat (by omega); omega
    omega
  · have ea := rank_pos a ha0 (by omega)
    have eb := rank_pos b (by omega) (by omega)
    have := rungI_strict a.toNat b.toNat (by omega) (by omega) (by omega)
    omega
theorem bits_one : bitsZ 1 = 4607182418800017408 := by rw [bitsZ_eq]; decide +kernel
set_option maxHeartbeats 1000000 in
theorem meterRises_walk (a b : Int) (ha : -9223372036854775808 ≤ a ∧ a ≤ 9223372036854775807) (hb : -9223372036854775808 ≤ b ∧ b ≤ 9223372036854775807) (w : World) :
    Calls Try.prog 4 #[.int .i64 a, .int .i64 b] w fun e w' => e = .returned (.bool true) ∧ Below w.heap.size w w' := by
  have m1 := rank_mono a b (by omega) (by omega)
  have m2 := rank_mono b a (by omega) (by omega)
  have s1 : exactZ a = a → exactZ b = b → a < b → rankZ (bitsZ a) < rankZ (bitsZ b) := fun x y z => by
    have := exactZ_self a x; have := exactZ_self b y; exact rank_strict a b (by omega) (by omega) z
  have s2 : exactZ a = a → exactZ b = b → b < a → rankZ (bitsZ b) < rankZ (bitsZ a) := fun x y z => by
    have := exactZ_self a x; have := exactZ_self b y; exact rank_strict b a (by omega) (by omega) z
  have M := Lib.hid (And.intro (And.intro m1 m2) (And.intro s1 s2))
  clear m1 m2 s1 s2
  have hO := Lib.hid bits_one
  go_enter Try.func4, Try.ntmps4
  go_wp2_with (first | (go_at_call 13; refine (bits_calls _ _).mono ?_; rintro e w' ⟨rfl, rfl⟩) | (go_at_call 12; refine (rank_calls _ _).mono ?_; rintro e w' ⟨rfl, rfl⟩) | (go_at_call 14; refine (exact_calls _ _).mono ?_; rintro e w' ⟨rfl, rfl⟩))
  all_goals go_ret
  all_goals refine ⟨congrArg (fun x => Ending.returned (.bool x)) ?_, Below.refl _ _⟩
  all_goals obtain ⟨⟨m1, m2⟩, s1, s2⟩ := M.out
  all_goals first
    | (show (bitsZ 1 == 4607182418800017408) = true; rw [hO.out]; rfl)
    | (show (rankZ (bitsZ a) != rankZ (bitsZ b)) = true
       have hx : exactZ a = a := by assumption
       have hy : exactZ b = b := by assumption
       rw [bne_iff_ne]
       rcases Int.lt_trichotomy a b with h | h | h
       · have := s1 hx hy h; omega
       · omega
       · have := s2 hx hy h; omega)
    | (exfalso
       rcases Int.lt_trichotomy a b with h | h | h
       · have := m1 h; omega
       · omega
       · have := m2 h; omega)
end Go.Proofs.Ytpgflnjpohmldaa
