/- Plain law: rounding to the nearest float as the model has it (no program here). -/
import Ieee.Arith
namespace FloatMath
open Ieee

/-- A by B, to the nearest; between two, the even one. -/
def rne (A B : Nat) : Nat := A / B + (if B < 2 * (A % B) ∨ (B = 2 * (A % B) ∧ A / B % 2 = 1) then 1 else 0)

theorem cut_even (neg : Bool) (n d : Nat) (hn : 0 < n) : Toward.even.cut neg n d = rne n (2 ^ d) := by
  unfold Toward.cut rne
  simp only [Nat.shiftLeft_eq, Nat.one_mul]
  by_cases h : d ≤ n.log2 + 2
  · rw [Nat.min_eq_left h]
    congr 1
    by_cases h1 : 2 ^ d < 2 * (n % 2 ^ d)
    · simp [h1]
    · by_cases h2 : 2 ^ d = 2 * (n % 2 ^ d)
      · by_cases h3 : n / 2 ^ d % 2 = 1
        · simp [← h2, h3]
        · simp [← h2, h3]
      · simp [h1, h2]
  · have hlt : n < 2 ^ (n.log2 + 1) := Nat.lt_log2_self
    have hp : 2 ^ (n.log2 + 1) * 2 = 2 ^ (n.log2 + 2) := (Nat.pow_succ ..).symm
    have hd : 2 ^ (n.log2 + 2) ≤ 2 ^ d := Nat.pow_le_pow_right (by omega) (by omega)
    rw [Nat.min_eq_right (by omega)]
    have a1 : n / 2 ^ (n.log2 + 2) = 0 := Nat.div_eq_of_lt (by omega)
    have a2 : n / 2 ^ d = 0 := Nat.div_eq_of_lt (by omega)
    have a3 : n % 2 ^ (n.log2 + 2) = n := Nat.mod_eq_of_lt (by omega)
    have a4 : n % 2 ^ d = n := Nat.mod_eq_of_lt (by omega)
    rw [a1, a2, a3, a4]
    have e1 : ¬ 2 ^ (n.log2 + 2) < 2 * n := by omega
    have e2 : ¬ 2 ^ (n.log2 + 2) = 2 * n := by omega
    have e3 : ¬ 2 ^ d < 2 * n := by omega
    have e4 : ¬ 2 ^ d = 2 * n := by omega
    simp [e1, e3, e4]

theorem rne_scale (A B c : Nat) (hc : 0 < c) : rne (A * c) (B * c) = rne A B := by
  unfold rne
  rw [Nat.mul_div_mul_right _ _ hc, Nat.mul_mod_mul_right]
  have e1 : (B * c < 2 * (A % B * c)) ↔ (B < 2 * (A % B)) := by
    rw [← Nat.mul_assoc]; exact Nat.mul_lt_mul_right hc
  have e2 : (B * c = 2 * (A % B * c)) ↔ (B = 2 * (A % B)) := by
    rw [← Nat.mul_assoc]; exact Nat.mul_left_inj (by omega)
  simp only [e1, e2]

theorem rne_one (A : Nat) : rne A 1 = A := by
  unfold rne
  simp [Nat.mod_one]

/-- A sticky digit: what lies strictly between two halves of a unit goes where the middle of them goes. -/
theorem rne_sticky (q A d k : Nat) (hd : 2 ≤ d) (h1 : q * 2 ^ (k + 1) < A) (h2 : A < (q + 1) * 2 ^ (k + 1)) :
    rne A (2 ^ (d + k)) = rne (2 * q + 1) (2 ^ d) := by
  obtain ⟨e, rfl⟩ : ∃ e, d = e + 2 := ⟨d - 2, by omega⟩
  have hK : 0 < 2 ^ (k + 1) := Nat.pow_pos (by omega)
  have hE : 0 < 2 ^ e := Nat.pow_pos (by omega)
  have hE1 : 2 ^ (e + 1) = 2 * 2 ^ e := by rw [Nat.pow_succ]; omega
  have hE2 : 2 ^ (e + 2) = 4 * 2 ^ e := by rw [Nat.pow_succ, hE1]; omega
  have hD : 2 ^ (e + 2 + k) = 2 ^ (e + 1) * 2 ^ (k + 1) := by rw [← Nat.pow_add]; congr 1; omega
  -- A = q K + y, 0 < y < K
  obtain ⟨y, hy⟩ : ∃ y, A = q * 2 ^ (k + 1) + y := ⟨A - q * 2 ^ (k + 1), by omega⟩
  have hy0 : 0 < y := by omega
  have hy1 : y < 2 ^ (k + 1) := by rw [Nat.add_mul] at h2; omega
  generalize hKe : 2 ^ (k + 1) = K at *
  generalize hh : 2 ^ e = h at *
  rw [hD, hE1, hE2]
  have hq : q = 2 * h * (q / (2 * h)) + q % (2 * h) := (Nat.div_add_mod q (2 * h)).symm
  have hx : q % (2 * h) < 2 * h := Nat.mod_lt _ (by omega)
  generalize hz : q / (2 * h) = z at *
  generalize hxx : q % (2 * h) = x at *
  have A1 : A = (2 * h * K) * z + (x * K + y) := by
    rw [hy, hq, Nat.add_mul, Nat.mul_right_comm]; omega
  have hxK : x * K + y < 2 * h * K := by
    have : (x + 1) * K ≤ 2 * h * K := Nat.mul_le_mul_right _ (by omega)
    rw [Nat.add_mul] at this; omega
  have d1 : A / (2 * h * K) = z := by
    rw [A1, Nat.mul_add_div (Nat.mul_pos (by omega) (by omega)), Nat.div_eq_of_lt hxK]; rfl
  have m1 : A % (2 * h * K) = x * K + y := by
    rw [A1, Nat.mul_add_mod, Nat.mod_eq_of_lt hxK]
  have B1 : 2 * q + 1 = (4 * h) * z + (2 * x + 1) := by
    have : 4 * h * z = 2 * (2 * h * z) := by rw [← Nat.mul_assoc]; congr 1; omega
    omega
  have d2 : (2 * q + 1) / (4 * h) = z := by
    rw [B1, Nat.mul_add_div (by omega), Nat.div_eq_of_lt (by omega)]; rfl
  have m2 : (2 * q + 1) % (4 * h) = 2 * x + 1 := by
    rw [B1, Nat.mul_add_mod, Nat.mod_eq_of_lt (by omega)]
  unfold rne
  rw [d1, m1, d2, m2]
  congr 1
  by_cases hc : h ≤ x
  · have : h * K ≤ x * K := Nat.mul_le_mul_right _ hc
    have e : 2 * h * K = 2 * (h * K) := Nat.mul_assoc ..
    rw [if_pos (Or.inl (by omega)), if_pos (Or.inl (by omega))]
  · have : (x + 1) * K ≤ h * K := Nat.mul_le_mul_right _ (by omega)
    rw [Nat.add_mul] at this
    have e : 2 * h * K = 2 * (h * K) := Nat.mul_assoc ..
    rw [if_neg (by omega), if_neg (by omega)]

theorem log2_scale (m k : Nat) (hm : 0 < m) : (m * 2 ^ k).log2 = m.log2 + k := by
  rw [Nat.log2_eq_iff (by have := Nat.mul_pos hm (Nat.pow_pos (n := k) (show 0 < 2 by omega)); omega)]
  have h1 : 2 ^ m.log2 ≤ m := Nat.log2_self_le (by omega)
  have h2 : m < 2 ^ (m.log2 + 1) := Nat.lt_log2_self
  refine ⟨?_, ?_⟩
  · rw [Nat.pow_add]; exact Nat.mul_le_mul_right _ h1
  · rw [show m.log2 + k + 1 = (m.log2 + 1) + k by omega, Nat.pow_add]; exact (Nat.mul_lt_mul_right (Nat.pow_pos (by omega))).2 h2

/-- The rung next to mag * 2 ^ place. -/
def rungAt (mag : Nat) (place last : Int) : Nat :=
  min ((last + 1074).toNat * 4503599627370496 + rne (mag * 2 ^ (place - last).toNat) (2 ^ (last - place).toNat)) 9218868437227405312
def rung (mag : Nat) (place : Int) : Nat := rungAt mag place (max (place + mag.log2 - 52) (-1074))

theorem nearest_rung (neg : Bool) (mag : Nat) (place : Int) (hm : 0 < mag) : double.nearest neg mag place = double.word neg (rung mag place) := by
  unfold Format.nearest rung rungAt
  rw [if_neg (by omega)]
  have e1 : double.fractionBits = 52 := rfl
  have e2 : double.leastPlace = -1074 := by decide
  have e3 : double.binade = 4503599627370496 := by decide
  have e4 : double.infRung = 9218868437227405312 := by decide
  simp only [e1, e2, e3, e4, Nat.shiftLeft_eq]
  rw [cut_even neg _ _ (Nat.mul_pos hm (Nat.pow_pos (by omega)))]
  rfl

theorem nearest_zero (neg : Bool) (place : Int) : double.nearest neg 0 place = double.word neg 0 := by
  unfold Format.nearest; rw [if_pos rfl]

theorem rung_scale (mag k : Nat) (place : Int) (hm : 0 < mag) : rung (mag * 2 ^ k) (place - k) = rung mag place := by
  unfold rung
  rw [log2_scale mag k hm]
  have e : (place - (k : Int) + ((mag.log2 + k : Nat) : Int) - 52) = place + mag.log2 - 52 := by omega
  rw [e]
  generalize max (place + (mag.log2 : Int) - 52) (-1074) = last
  unfold rungAt
  congr 2
  rcases Int.le_total place last with h | h
  · -- drop
    rw [show (place - (k : Int) - last).toNat = 0 by omega, show (place - last).toNat = 0 by omega, Nat.pow_zero, Nat.mul_one, Nat.mul_one]
    rw [show (last - (place - (k : Int))).toNat = (last - place).toNat + k by omega, Nat.pow_add]
    exact rne_scale _ _ _ (Nat.pow_pos (by omega))
  · rw [show (last - place).toNat = 0 by omega, Nat.pow_zero, rne_one]
    rcases Int.le_total (place - k) last with h2 | h2
    · rw [show (place - (k : Int) - last).toNat = 0 by omega, Nat.pow_zero, Nat.mul_one]
      rw [show k = (place - last).toNat + (last - (place - (k : Int))).toNat by omega]
      rw [show (last - (place - (((place - last).toNat + (last - (place - (k:Int))).toNat : Nat) : Int))).toNat = (last - (place - (k : Int))).toNat by omega]
      rw [Nat.pow_add, ← Nat.mul_assoc]
      have := rne_scale (mag * 2 ^ (place - last).toNat) 1 (2 ^ (last - (place - (k : Int))).toNat) (Nat.pow_pos (by omega))
      rw [Nat.one_mul] at this
      rw [this, rne_one]
    · rw [show (last - (place - (k : Int))).toNat = 0 by omega, Nat.pow_zero, rne_one, Nat.mul_assoc, ← Nat.pow_add]
      congr 2; omega

/-- A sticky digit behind 54 digits or more. -/
theorem rung_sticky (q A k : Nat) (place : Int) (hq : 2 ^ 53 ≤ q) (h1 : q * 2 ^ (k + 1) < A) (h2 : A < (q + 1) * 2 ^ (k + 1)) :
    rung A (place - k) = rung (2 * q + 1) place := by
  have l1 : (2 * q + 1).log2 = q.log2 + 1 := by
    rw [Nat.log2_eq_iff (by omega)]
    have a1 : 2 ^ q.log2 ≤ q := Nat.log2_self_le (by omega)
    have a2 : q < 2 ^ (q.log2 + 1) := Nat.lt_log2_self
    rw [Nat.pow_succ 2 (q.log2 + 1)]; rw [Nat.pow_succ] at *; omega
  have hK : 0 < 2 ^ (k + 1) := Nat.pow_pos (by omega)
  have l2 : A.log2 = q.log2 + (k + 1) := by
    rw [Nat.log2_eq_iff (by omega)]
    have a1 : 2 ^ q.log2 ≤ q := Nat.log2_self_le (by omega)
    have a2 : q < 2 ^ (q.log2 + 1) := Nat.lt_log2_self
    refine ⟨?_, ?_⟩
    · rw [Nat.pow_add]; have := Nat.mul_le_mul_right (2 ^ (k + 1)) a1; omega
    · rw [show q.log2 + (k + 1) + 1 = (q.log2 + 1) + (k + 1) by omega, Nat.pow_add]
      have := Nat.mul_le_mul_right (2 ^ (k + 1)) (show q + 1 ≤ 2 ^ (q.log2 + 1) by omega); omega
  have hl : 53 ≤ q.log2 := by
    rw [Nat.le_log2 (by omega)]; exact hq
  unfold rung rungAt
  rw [l1, l2]
  have e : (place - (k : Int) + ((q.log2 + (k + 1) : Nat) : Int) - 52) = place + ((q.log2 + 1 : Nat) : Int) - 52 := by omega
  rw [e]
  have hlast : place + 2 ≤ max (place + ((q.log2 + 1 : Nat) : Int) - 52) (-1074) := by omega
  generalize max (place + ((q.log2 + 1 : Nat) : Int) - 52) (-1074) = last at *
  rw [show (place - (k : Int) - last).toNat = 0 by omega, show (place - last).toNat = 0 by omega, Nat.pow_zero, Nat.mul_one, Nat.mul_one]
  rw [show (last - (place - (k : Int))).toNat = (last - place).toNat + k by omega]
  rw [rne_sticky q A (last - place).toNat k (by omega) h1 h2]
theorem rne_le (A B : Nat) : A / B ≤ rne A B ∧ rne A B ≤ A / B + 1 := by
  unfold rne; split <;> omega
theorem rne_mono (A A' B : Nat) (h : A ≤ A') : rne A B ≤ rne A' B := by
  have h1 := rne_le A B
  have h2 := rne_le A' B
  have hd : A / B ≤ A' / B := Nat.div_le_div_right h
  by_cases hlt : A / B < A' / B
  · omega
  · have he : A / B = A' / B := by omega
    have m1 := Nat.div_add_mod A B
    have m2 := Nat.div_add_mod A' B
    rw [he] at m1
    have hm : A % B ≤ A' % B := by omega
    unfold rne
    rw [he]
    by_cases c : B < 2 * (A % B) ∨ (B = 2 * (A % B) ∧ A' / B % 2 = 1)
    · rw [if_pos c, if_pos (by omega)]; omega
    · rw [if_neg c]; split <;> omega

/-- Of whole numbers below 2^64: where the rung lies. -/
def rungI (m : Nat) : Nat := (m.log2 + 1022) * 4503599627370496 + rne (m * 2 ^ (52 - m.log2)) (2 ^ (m.log2 - 52))
theorem kept_bounds (m : Nat) (hm : 0 < m) : 4503599627370496 ≤ rne (m * 2 ^ (52 - m.log2)) (2 ^ (m.log2 - 52)) ∧ rne (m * 2 ^ (52 - m.log2)) (2 ^ (m.log2 - 52)) ≤ 9007199254740992 := by
  have a1 : 2 ^ m.log2 ≤ m := Nat.log2_self_le (by omega)
  have a2 : m < 2 ^ (m.log2 + 1) := Nat.lt_log2_self
  have hr := rne_le (m * 2 ^ (52 - m.log2)) (2 ^ (m.log2 - 52))
  have e1 : (4503599627370496 : Nat) = 2 ^ 52 := by decide
  have e2 : (9007199254740992 : Nat) = 2 ^ 53 := by decide
  by_cases h : m.log2 ≤ 52
  · rw [show m.log2 - 52 = 0 by omega, Nat.pow_zero, rne_one] at *
    have b1 := Nat.mul_le_mul_right (2 ^ (52 - m.log2)) a1
    have b2 := Nat.mul_le_mul_right (2 ^ (52 - m.log2)) (Nat.le_of_lt a2)
    rw [← Nat.pow_add] at b1 b2
    rw [show m.log2 + (52 - m.log2) = 52 by omega] at b1
    rw [show m.log2 + 1 + (52 - m.log2) = 53 by omega] at b2
    omega
  · rw [show 52 - m.log2 = 0 by omega, Nat.pow_zero, Nat.mul_one] at *
    have hp : 0 < 2 ^ (m.log2 - 52) := Nat.pow_pos (by omega)
    have b1 : 2 ^ 52 ≤ m / 2 ^ (m.log2 - 52) := by
      rw [Nat.le_div_iff_mul_le hp, ← Nat.pow_add, show 52 + (m.log2 - 52) = m.log2 by omega]; exact a1
    have b2 : m / 2 ^ (m.log2 - 52) < 2 ^ 53 := by
      rw [Nat.div_lt_iff_lt_mul hp, ← Nat.pow_add, show 53 + (m.log2 - 52) = m.log2 + 1 by omega]; exact a2
    omega
theorem log2_lt64 (m : Nat) (hm : 0 < m) (h : m < 18446744073709551616) : m.log2 ≤ 63 := by
  have : m.log2 < 64 := (Nat.log2_lt (by omega)).2 (by simpa using h)
  omega
theorem rung_int (m : Nat) (hm : 0 < m) (h : m < 18446744073709551616) : rung m 0 = rungI m := by
  have hl := log2_lt64 m hm h
  have hk := kept_bounds m hm
  unfold rung rungAt
  have e : max (0 + (m.log2 : Int) - 52) (-1074) = (m.log2 : Int) - 52 := by omega
  rw [e]
  rw [show (0 - ((m.log2 : Int) - 52)).toNat = 52 - m.log2 by omega, show ((m.log2 : Int) - 52 - 0).toNat = m.log2 - 52 by omega]
  rw [show ((m.log2 : Int) - 52 + 1074).toNat = m.log2 + 1022 by omega]
  unfold rungI
  rw [Nat.min_eq_left]
  omega
theorem rungI_mono (m n : Nat) (hm : 0 < m) (h : m ≤ n) : rungI m ≤ rungI n := by
  have k1 := kept_bounds m hm
  have k2 := kept_bounds n (by omega)
  have hl : m.log2 ≤ n.log2 := by
    rw [Nat.le_log2 (by omega)]; exact Nat.le_trans (Nat.log2_self_le (by omega)) h
  unfold rungI
  by_cases e : m.log2 = n.log2
  · rw [e] at *
    have := rne_mono (m * 2 ^ (52 - n.log2)) (n * 2 ^ (52 - n.log2)) (2 ^ (n.log2 - 52)) (Nat.mul_le_mul_right _ h)
    omega
  · omega
theorem rungI_strict (m n : Nat) (hm : 0 < m) (h : m < n) (hn : n ≤ 9007199254740992) : rungI m < rungI n := by
  have k1 := kept_bounds m hm
  have k2 := kept_bounds n (by omega)
  have hl : m.log2 ≤ n.log2 := by
    rw [Nat.le_log2 (by omega)]; exact Nat.le_trans (Nat.log2_self_le (by omega)) (Nat.le_of_lt h)
  have hm52 : m.log2 ≤ 52 := by
    have : m.log2 < 53 := (Nat.log2_lt (by omega)).2 (by have : (9007199254740992 : Nat) = 2 ^ 53 := by decide
                                                         omega)
    omega
  have s : rne (m * 2 ^ (52 - m.log2)) (2 ^ (m.log2 - 52)) < 9007199254740992 := by
    rw [show m.log2 - 52 = 0 by omega, Nat.pow_zero, rne_one]
    have b2 := (Nat.mul_lt_mul_right (show 0 < 2 ^ (52 - m.log2) from Nat.pow_pos (by omega))).2 (show m < 2 ^ (m.log2 + 1) from Nat.lt_log2_self)
    rw [← Nat.pow_add, show m.log2 + 1 + (52 - m.log2) = 53 by omega] at b2
    have : (9007199254740992 : Nat) = 2 ^ 53 := by decide
    omega
  unfold rungI
  by_cases e : m.log2 = n.log2
  · have hn52 : n.log2 ≤ 52 := by omega
    rw [e, show n.log2 - 52 = 0 by omega, Nat.pow_zero, rne_one, rne_one]
    have := (Nat.mul_lt_mul_right (show 0 < 2 ^ (52 - n.log2) from Nat.pow_pos (by omega))).2 h
    omega
  · omega
theorem rungI_lt (m : Nat) (hm : 0 < m) (h : m < 18446744073709551616) : rungI m < 9218868437227405312 := by
  have hl := log2_lt64 m hm h
  have k := kept_bounds m hm
  unfold rungI
  omega
/-- A float of a whole number. -/
def ofInt (v : Int) : Nat := double.nearest (v < 0) v.natAbs 0
theorem ofInt_zero : ofInt 0 = 0 := by decide
theorem ofInt_pos (v : Int) (h : 0 < v) (h2 : v < 9223372036854775808) : ofInt v = rungI v.toNat := by
  unfold ofInt
  have e : decide (v < 0) = false := by simp; omega
  rw [e, nearest_rung _ _ _ (by omega), rung_int _ (by omega) (by omega), show v.natAbs = v.toNat by omega]
  rfl
theorem ofInt_neg (v : Int) (h : v < 0) (h2 : -9223372036854775808 ≤ v) : ofInt v = 9223372036854775808 + rungI (-v).toNat := by
  unfold ofInt
  have e : decide (v < 0) = true := by simp; omega
  rw [e, nearest_rung _ _ _ (by omega), rung_int _ (by omega) (by omega), show v.natAbs = (-v).toNat by omega]
  rfl
end FloatMath
