/- Plain law: floats and the whole numbers next to them (Ieee; no program here). -/
import Derived.Test.YtpgflnjpohmldaaFloatD
namespace FloatMath
open Ieee
/-- A float is this whole number, with this sign. -/
def IsWhole (z : Nat) (s : Bool) (N : Nat) : Prop := ∃ m p, double.read z = .number s m p ∧ m * 2 ^ p.toNat = N * 2 ^ (-p).toNat
/-- The whole number next to a float, halves away from 0. -/
def wholeN (b : Nat) : Nat := if 0 ≤ oExp b then oMan b * 2 ^ (oExp b).toNat else oMan b / 2 ^ (-oExp b).toNat + oMan b / 2 ^ (-oExp b - 1).toNat % 2
theorem halves (M h : Nat) (hh : 0 < h) : (M + h) / (2 * h) = M / (2 * h) + M / h % 2 := by
  have e1 : M / (2 * h) = M / h / 2 := by rw [Nat.mul_comm, Nat.div_div_eq_div_mul]
  have e2 : (M + h) / (2 * h) = (M / h + 1) / 2 := by
    rw [Nat.mul_comm, ← Nat.div_div_eq_div_mul, Nat.add_div_right _ hh]
  rw [e1, e2]; omega
theorem isWhole_small (b : Nat) (h : oE b < 1022) : IsWhole (b / 9223372036854775808 % 2 * 9223372036854775808) (oNeg b) (wholeN b) := by
  have hN : wholeN b = 0 := by
    unfold wholeN
    have hx : oExp b ≤ -54 := by unfold oExp; split <;> omega
    rw [if_neg (by omega)]
    have hm := oMan_lt b
    have hp : 2 ^ 53 ≤ 2 ^ (-oExp b - 1).toNat := Nat.pow_le_pow_right (by omega) (by omega)
    have hp2 : 2 ^ 53 ≤ 2 ^ (-oExp b).toNat := Nat.pow_le_pow_right (by omega) (by omega)
    have e : (2 : Nat) ^ 53 = 9007199254740992 := by decide
    rw [Nat.div_eq_of_lt (by omega), Nat.div_eq_of_lt (by omega)]
  have hz : oE (b / 9223372036854775808 % 2 * 9223372036854775808) = 0 := by unfold oE; omega
  refine ⟨0, -1074, ?_, by rw [hN, Nat.zero_mul, Nat.zero_mul]⟩
  rw [read_finite _ (by omega)]
  have h1 : oNeg (b / 9223372036854775808 % 2 * 9223372036854775808) = oNeg b := by unfold oNeg; congr 1; omega
  have h2 : oMan (b / 9223372036854775808 % 2 * 9223372036854775808) = 0 := by unfold oMan; rw [hz, if_neg (by omega)]; omega
  have h3 : oExp (b / 9223372036854775808 % 2 * 9223372036854775808) = -1074 := by unfold oExp; rw [hz, if_neg (by omega)]
  rw [h1, h2, h3]
theorem isWhole_one (b : Nat) (h : oE b = 1022) : IsWhole (b / 9223372036854775808 % 2 * 9223372036854775808 + 4607182418800017408) (oNeg b) (wholeN b) := by
  have hN : wholeN b = 1 := by
    unfold wholeN
    have hx : oExp b = -53 := by unfold oExp; rw [if_pos (by omega)]; omega
    have hm := oMan_lt b
    have hm2 : 4503599627370496 ≤ oMan b := by unfold oMan; rw [if_pos (by omega)]; omega
    rw [hx, if_neg (by omega)]
    have e : (2 : Nat) ^ ((53 : Int)).toNat = 9007199254740992 := by decide
    have e2 : (2 : Nat) ^ ((52 : Int)).toNat = 4503599627370496 := by decide
    rw [show (- -53 : Int) = 53 by decide, show (53 - 1 : Int) = 52 by decide, e, e2]
    omega
  have hz : oE (b / 9223372036854775808 % 2 * 9223372036854775808 + 4607182418800017408) = 1023 := by unfold oE; omega
  refine ⟨4503599627370496, -52, ?_, by rw [hN]; decide⟩
  rw [read_finite _ (by omega)]
  have h1 : oNeg (b / 9223372036854775808 % 2 * 9223372036854775808 + 4607182418800017408) = oNeg b := by unfold oNeg; congr 1; omega
  have h2 : oMan (b / 9223372036854775808 % 2 * 9223372036854775808 + 4607182418800017408) = 4503599627370496 := by unfold oMan; rw [hz, if_pos (by omega)]; omega
  have h3 : oExp (b / 9223372036854775808 % 2 * 9223372036854775808 + 4607182418800017408) = -52 := by unfold oExp; rw [hz, if_pos (by omega)]; omega
  rw [h1, h2, h3]
theorem isWhole_great (b : Nat) (h : oE b < 2047) (h2 : 1075 ≤ oE b) : IsWhole b (oNeg b) (wholeN b) := by
  have hx : 0 ≤ oExp b := by unfold oExp; rw [if_pos (by omega)]; omega
  refine ⟨oMan b, oExp b, read_finite b h, ?_⟩
  unfold wholeN
  rw [if_pos hx, show (-oExp b).toNat = 0 by omega, Nat.pow_zero, Nat.mul_one]
theorem isWhole_mid (b k : Nat) (hb : b < 18446744073709551616) (h1 : 1023 ≤ oE b) (hk : oE b + k = 1075) (hk0 : 0 < k) : IsWhole ((b + 2 ^ (k - 1)) / 2 ^ k * 2 ^ k) (oNeg b) (wholeN b) := by
  obtain ⟨j, rfl⟩ : ∃ j, k = j + 1 := ⟨k - 1, by omega⟩
  have hx : oExp b = -((j + 1 : Nat) : Int) := by unfold oExp; rw [if_pos (by omega)]; omega
  have hm := oMan_lt b
  have hme : oMan b = b % 4503599627370496 + 4503599627370496 := by unfold oMan; rw [if_pos (by omega)]
  have hh : 0 < 2 ^ j := Nat.pow_pos (by omega)
  have hj1 : 2 ^ (j + 1) = 2 * 2 ^ j := Nat.pow_succ'
  have hN : wholeN b = (oMan b + 2 ^ j) / 2 ^ (j + 1) := by
    unfold wholeN
    rw [hx, if_neg (by omega), show (- -((j + 1 : Nat) : Int)).toNat = j + 1 by omega, show (- -((j + 1 : Nat) : Int) - 1).toNat = j by omega, hj1, halves _ _ hh]
  -- 2^(j+1) divides 2^52
  obtain ⟨c, hc⟩ : ∃ c, 4503599627370496 = c * 2 ^ (j + 1) := ⟨2 ^ (52 - (j + 1)), by rw [← Nat.pow_add, show 52 - (j + 1) + (j + 1) = 52 by omega]⟩
  have hdec : b = (b / 4503599627370496 - 1) * 4503599627370496 + oMan b := by
    have : 1 ≤ b / 4503599627370496 := by unfold oE at h1; omega
    omega
  have hz : (b + 2 ^ j) / 2 ^ (j + 1) * 2 ^ (j + 1) = (b / 4503599627370496 - 1) * 4503599627370496 + wholeN b * 2 ^ (j + 1) := by
    have e : b + 2 ^ j = (oMan b + 2 ^ j) + (b / 4503599627370496 - 1) * c * 2 ^ (j + 1) := by
      rw [Nat.mul_assoc, ← hc]; omega
    rw [e, Nat.add_mul_div_right _ _ (by omega), ← hN, Nat.add_mul, Nat.mul_assoc (b / 4503599627370496 - 1), ← hc]; omega
  rw [show j + 1 - 1 = j from rfl, hz]
  -- N 2^(j+1) lies between 2^52 and 2^53
  have hlo : 4503599627370496 ≤ wholeN b * 2 ^ (j + 1) := by
    rw [hN]
    have h2 := Nat.mul_le_mul_right (2 ^ (j + 1)) (show c ≤ (oMan b + 2 ^ j) / 2 ^ (j + 1) by
      rw [Nat.le_div_iff_mul_le (by omega), ← hc]; omega)
    omega
  have hhi : wholeN b * 2 ^ (j + 1) ≤ 9007199254740992 := by
    have h3 : wholeN b ≤ 2 * c := by
      rw [hN]
      have h4 : (oMan b + 2 ^ j) / 2 ^ (j + 1) < 2 * c + 1 := by
        rw [Nat.div_lt_iff_lt_mul (by omega), Nat.add_mul, Nat.mul_assoc, ← hc, Nat.one_mul]; omega
      omega
    have := Nat.mul_le_mul_right (2 ^ (j + 1)) h3
    rw [Nat.mul_assoc, ← hc] at this; omega
  generalize hW : wholeN b * 2 ^ (j + 1) = W at *
  have hEb : oE b = b / 4503599627370496 % 2048 := rfl
  have hsame : b / 9223372036854775808 = b / 4503599627370496 / 2048 := by omega
  have hneg : oNeg b = (b / 4503599627370496 / 2048 % 2 == 1) := by unfold oNeg; rw [hsame]
  by_cases hlt : W < 9007199254740992
  · have hE : oE ((b / 4503599627370496 - 1) * 4503599627370496 + W) = oE b := by unfold oE; unfold oE at h1; omega
    refine ⟨W, -((j + 1 : Nat) : Int), ?_, by rw [show (-((j + 1 : Nat) : Int)).toNat = 0 by omega, show (- -((j + 1 : Nat) : Int)).toNat = j + 1 by omega, Nat.pow_zero, Nat.mul_one, hW]⟩
    rw [read_finite _ (by omega)]
    have g1 : oNeg ((b / 4503599627370496 - 1) * 4503599627370496 + W) = oNeg b := by unfold oNeg; unfold oE at h1; congr 1; omega
    have g2 : oMan ((b / 4503599627370496 - 1) * 4503599627370496 + W) = W := by unfold oMan; rw [hE, if_pos (by omega)]; omega
    have g3 : oExp ((b / 4503599627370496 - 1) * 4503599627370496 + W) = -((j + 1 : Nat) : Int) := by rw [← hx]; unfold oExp; rw [hE]
    rw [g1, g2, g3]
  · obtain rfl : W = 9007199254740992 := by omega
    have hE : oE ((b / 4503599627370496 - 1) * 4503599627370496 + 9007199254740992) = oE b + 1 := by unfold oE; unfold oE at h1 hk; omega
    refine ⟨4503599627370496, -(j : Int), ?_, by
      rw [show (-(j : Int)).toNat = 0 by omega, show (- -(j : Int)).toNat = j by omega, Nat.pow_zero, Nat.mul_one]
      rw [hj1, ← Nat.mul_assoc, Nat.mul_comm (wholeN b) 2, Nat.mul_assoc] at hW; omega⟩
    rw [read_finite _ (by omega)]
    have g1 : oNeg ((b / 4503599627370496 - 1) * 4503599627370496 + 9007199254740992) = oNeg b := by unfold oNeg; unfold oE at h1 hk; congr 1; omega
    have g2 : oMan ((b / 4503599627370496 - 1) * 4503599627370496 + 9007199254740992) = 4503599627370496 := by unfold oMan; rw [hE, if_pos (by omega)]; omega
    have g3 : oExp ((b / 4503599627370496 - 1) * 4503599627370496 + 9007199254740992) = -(j : Int) := by unfold oExp; rw [hE, if_pos (by omega)]; omega
    rw [g1, g2, g3]
/-- Compared with 2^63 and its opposite. -/
theorem read_beyond : double.read 4890909195324358656 = .number false 4503599627370496 11 := by decide
theorem read_below : double.read 14114281232179134464 = .number true 4503599627370496 11 := by decide
theorem cmp_lt' (a b : Int) : (some (compare a b) == some Ordering.lt) = decide (a < b) := by
  simp only [compare, compareOfLessAndEq]
  by_cases h : a < b
  · rw [if_pos h, decide_eq_true h]; rfl
  · rw [if_neg h, decide_eq_false h]; split <;> rfl
theorem cmp_ge' (a b : Int) : (some (compare a b) == some Ordering.gt || some (compare a b) == some Ordering.eq) = decide (b ≤ a) := by
  simp only [compare, compareOfLessAndEq]
  by_cases h : a < b
  · rw [if_pos h, decide_eq_false (by omega)]; rfl
  · rw [if_neg h, decide_eq_true (by omega)]
    by_cases h2 : a = b
    · rw [if_pos h2]; rfl
    · rw [if_neg h2]; rfl
theorem cmp_abs (m N : Nat) (p : Int) (h : m * 2 ^ p.toNat = N * 2 ^ (-p).toNat) :
    (m * 2 ^ (p - min p 11).toNat < 4503599627370496 * 2 ^ (11 - min p 11).toNat ↔ N < 9223372036854775808) ∧ (4503599627370496 * 2 ^ (11 - min p 11).toNat < m * 2 ^ (p - min p 11).toNat ↔ 9223372036854775808 < N) := by
  have e63 : (9223372036854775808 : Nat) = 4503599627370496 * 2 ^ 11 := by decide
  rcases Int.le_total 0 p with hp | hp
  · rw [show (-p).toNat = 0 by omega, Nat.pow_zero, Nat.mul_one] at h
    rcases Int.le_total p 11 with hq | hq
    · -- both times 2^p
      rw [show min p 11 = p by omega, show (p - p).toNat = 0 by omega, Nat.pow_zero, Nat.mul_one, ← h, e63]
      have hc : 0 < 2 ^ p.toNat := Nat.pow_pos (by omega)
      have e : 4503599627370496 * 2 ^ 11 = 4503599627370496 * 2 ^ (11 - p).toNat * 2 ^ p.toNat := by rw [Nat.mul_assoc, ← Nat.pow_add, show (11 - p).toNat + p.toNat = 11 by omega]
      rw [e]
      exact ⟨(Nat.mul_lt_mul_right hc).symm, (Nat.mul_lt_mul_right hc).symm⟩
    · rw [show min p 11 = 11 by omega, show ((11 : Int) - 11).toNat = 0 by decide, Nat.pow_zero, Nat.mul_one, ← h, e63]
      have hc : 0 < 2 ^ 11 := by decide
      have e : m * 2 ^ p.toNat = m * 2 ^ (p - 11).toNat * 2 ^ 11 := by rw [Nat.mul_assoc, ← Nat.pow_add, show (p - 11).toNat + 11 = p.toNat by omega]
      rw [e]
      exact ⟨(Nat.mul_lt_mul_right hc).symm, (Nat.mul_lt_mul_right hc).symm⟩
  · rw [show p.toNat = 0 by omega, Nat.pow_zero, Nat.mul_one] at h
    rw [show min p 11 = p by omega, show (p - p).toNat = 0 by omega, Nat.pow_zero, Nat.mul_one, h, e63]
    have hc : 0 < 2 ^ (-p).toNat := Nat.pow_pos (by omega)
    have e : 4503599627370496 * 2 ^ (11 - p).toNat = 4503599627370496 * 2 ^ 11 * 2 ^ (-p).toNat := by rw [Nat.mul_assoc, ← Nat.pow_add, show 11 + (-p).toNat = (11 - p).toNat by omega]
    rw [e]
    exact ⟨Nat.mul_lt_mul_right hc, Nat.mul_lt_mul_right hc⟩
theorem signed_true (m D : Nat) : Ieee.signed true m D = -((m * 2 ^ D : Nat) : Int) := by unfold Ieee.signed; rw [Nat.shiftLeft_eq]; rfl
theorem whole_below (z : Nat) (s : Bool) (N : Nat) (h : IsWhole z s N) : (double.order z 14114281232179134464 == some .lt) = (s && decide (9223372036854775808 < N)) := by
  obtain ⟨m, p, hr, hm⟩ := h
  obtain ⟨c1, c2⟩ := cmp_abs m N p hm
  unfold Format.order
  rw [hr, read_below]
  simp only [Datum.order]
  rw [cmp_lt', signed_true]
  generalize 4503599627370496 * 2 ^ (11 - min p 11).toNat = g at *
  cases s
  · rw [signed_false, Bool.false_and, decide_eq_false (by omega)]
  · rw [signed_true, Bool.true_and]
    generalize m * 2 ^ (p - min p 11).toNat = q at *
    exact decide_eq_decide.2 (by rw [← c2]; omega)
theorem whole_beyond (z : Nat) (s : Bool) (N : Nat) (h : IsWhole z s N) : (double.order z 4890909195324358656 == some .gt || double.order z 4890909195324358656 == some .eq) = (!s && decide (9223372036854775808 ≤ N)) := by
  obtain ⟨m, p, hr, hm⟩ := h
  obtain ⟨c1, c2⟩ := cmp_abs m N p hm
  unfold Format.order
  rw [hr, read_beyond]
  simp only [Datum.order]
  rw [cmp_ge', signed_false]
  have hg : 0 < 4503599627370496 * 2 ^ (11 - min p 11).toNat := Nat.mul_pos (by omega) (Nat.pow_pos (by omega))
  generalize 4503599627370496 * 2 ^ (11 - min p 11).toNat = g at *
  cases s
  · rw [signed_false, Bool.not_false, Bool.true_and]
    generalize m * 2 ^ (p - min p 11).toNat = q at *
    exact decide_eq_decide.2 (by omega)
  · rw [signed_true, Bool.not_true, Bool.false_and, decide_eq_false (by omega)]
/-- As an int it is that number. -/
theorem whole_toInt (z : Nat) (s : Bool) (N : Nat) (h : IsWhole z s N) : (double.read z).toInt .zero = some (if s then -(N : Int) else (N : Int)) := by
  obtain ⟨m, p, hr, hm⟩ := h
  rw [hr]
  unfold Datum.toInt Datum.integral
  simp only []
  have hc : Toward.zero.cut s (m <<< p.toNat) (-p).toNat = N := by
    unfold Toward.cut
    simp only [Nat.shiftLeft_eq, Nat.one_mul, Bool.toNat_false, Nat.add_zero]
    rw [hm]
    rcases Nat.eq_zero_or_pos N with rfl | hN
    · simp
    · have hl : (N * 2 ^ (-p).toNat).log2 = N.log2 + (-p).toNat := log2_scale N _ hN
      rw [hl, Nat.min_eq_left (by omega), Nat.mul_div_cancel _ (Nat.pow_pos (by omega))]
  rw [hc]
  unfold Ieee.signed
  cases s <;> simp
/-- What math.Round makes of a finite float. -/
def roundW (b : Nat) : Nat :=
  if oE b < 1022 then b / 9223372036854775808 % 2 * 9223372036854775808
  else if oE b = 1022 then b / 9223372036854775808 % 2 * 9223372036854775808 + 4607182418800017408
  else if oE b < 1075 then (b + 2 ^ (1075 - oE b - 1)) / 2 ^ (1075 - oE b) * 2 ^ (1075 - oE b)
  else b
theorem roundW_whole (b : Nat) (hb : b < 18446744073709551616) (h : oE b < 2047) : IsWhole (roundW b) (oNeg b) (wholeN b) := by
  unfold roundW
  by_cases h1 : oE b < 1022
  · rw [if_pos h1]; exact isWhole_small b h1
  · rw [if_neg h1]
    by_cases h2 : oE b = 1022
    · rw [if_pos h2]; exact isWhole_one b h2
    · rw [if_neg h2]
      by_cases h3 : oE b < 1075
      · rw [if_pos h3]; exact isWhole_mid b (1075 - oE b) hb (by omega) (by omega) (by omega)
      · rw [if_neg h3]; exact isWhole_great b h (by omega)
end FloatMath
