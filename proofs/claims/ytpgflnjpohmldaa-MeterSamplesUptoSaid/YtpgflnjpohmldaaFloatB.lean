/- Plain law: what a float is made of, and quotients of two ints (Ieee; no program here). -/
import Derived.Test.YtpgflnjpohmldaaFloatA
import Derived.Laws.FloatBits
namespace FloatMath
open Ieee
/-- What a word's bits say: its sign, its whole number, its power of two. -/
def oNeg (x : Nat) : Bool := x / 9223372036854775808 % 2 == 1
def oE (x : Nat) : Nat := x / 4503599627370496 % 2048
def oMan (x : Nat) : Nat := if 0 < oE x then x % 4503599627370496 + 4503599627370496 else x % 4503599627370496
def oExp (x : Nat) : Int := if 0 < oE x then (oE x : Int) - 1075 else -1074
theorem oE_le (x : Nat) : oE x ≤ 2047 := by unfold oE; omega
theorem oMan_lt (x : Nat) : oMan x < 9007199254740992 := by unfold oMan; split <;> omega
theorem read_finite (x : Nat) (h : oE x < 2047) : double.read x = .number (oNeg x) (oMan x) (oExp x) := by
  have e1 : double.signWeight = 9223372036854775808 := by decide
  have e2 : double.binade = 4503599627370496 := by decide
  have e3 : double.infRung = 9218868437227405312 := by decide
  have e4 : double.leastPlace = -1074 := by decide
  unfold Format.read
  simp only [e1, e2, e3, e4]
  have hE : oE x = x % 9223372036854775808 / 4503599627370496 := by unfold oE; omega
  have hM : x % 4503599627370496 = x % 9223372036854775808 % 4503599627370496 := by omega
  unfold oNeg oMan oExp
  rw [hM]
  generalize x % 9223372036854775808 = r at *
  by_cases h0 : r < 4503599627370496
  · rw [if_pos h0, if_neg (by omega), if_neg (by omega), Nat.mod_eq_of_lt h0]
  · rw [if_neg h0, if_pos (by omega), if_pos (by omega), if_pos (by omega)]
    congr 1 <;> omega
theorem read_special (x : Nat) (h : oE x = 2047) : double.read x = .infinity (oNeg x) ∨ ∃ f, double.read x = .nan (oNeg x) f := by
  have e1 : double.signWeight = 9223372036854775808 := by decide
  have e2 : double.binade = 4503599627370496 := by decide
  have e3 : double.infRung = 9218868437227405312 := by decide
  have e4 : double.leastPlace = -1074 := by decide
  unfold Format.read
  simp only [e1, e2, e3, e4]
  have hE : oE x = x % 9223372036854775808 / 4503599627370496 := by unfold oE; omega
  unfold oNeg
  generalize x % 9223372036854775808 = r at *
  rw [if_neg (by omega), if_neg (by omega)]
  by_cases hr : r = 9218868437227405312
  · rw [if_pos hr]; exact .inl rfl
  · rw [if_neg hr]; exact .inr ⟨_, rfl⟩
/-- Read and written again: the same word. -/
theorem rung_back (x : Nat) (h : oE x < 2047) (h0 : 0 < oMan x) : rung (oMan x) (oExp x) = x % 9223372036854775808 := by
  have hE : oE x = x % 9223372036854775808 / 4503599627370496 := by unfold oE; omega
  have hM : x % 4503599627370496 = x % 9223372036854775808 % 4503599627370496 := by omega
  unfold oMan oExp at *
  rw [hM] at h0 ⊢
  generalize x % 9223372036854775808 = r at *
  unfold rung rungAt
  by_cases hp : 0 < oE x
  · rw [if_pos hp] at h0 ⊢
    rw [if_pos hp]
    have hl : (r % 4503599627370496 + 4503599627370496).log2 = 52 := by
      rw [Nat.log2_eq_iff (by omega)]
      have e1 : (2 : Nat) ^ 52 = 4503599627370496 := by decide
      have e2 : (2 : Nat) ^ (52 + 1) = 9007199254740992 := by decide
      omega
    rw [hl, show max ((oE x : Int) - 1075 + ((52 : Nat) : Int) - 52) (-1074) = (oE x : Int) - 1075 by omega]
    rw [show ((oE x : Int) - 1075 - ((oE x : Int) - 1075)).toNat = 0 by omega, Nat.pow_zero, Nat.mul_one, rne_one]
    omega
  · rw [if_neg hp] at h0 ⊢
    rw [if_neg hp]
    have hl : (r % 4503599627370496).log2 < 52 := (Nat.log2_lt (by omega)).2 (by have e1 : (2 : Nat) ^ 52 = 4503599627370496 := by decide
                                                                                 omega)
    rw [show max ((-1074 : Int) + ((r % 4503599627370496).log2 : Int) - 52) (-1074) = -1074 by omega]
    rw [show (-1074 - -1074 : Int).toNat = 0 by decide, show ((-1074 : Int) + 1074).toNat = 0 by decide, Nat.pow_zero, Nat.mul_one, rne_one]
    omega
theorem nearest_back (x : Nat) (hx : x < 18446744073709551616) (h : oE x < 2047) (h0 : 0 < oMan x) : double.nearest (oNeg x) (oMan x) (oExp x) = x := by
  rw [nearest_rung _ _ _ h0, rung_back x h h0]
  unfold Format.word oNeg
  have e1 : double.signWeight = 9223372036854775808 := by decide
  rw [e1]
  rcases Nat.mod_two_eq_zero_or_one (x / 9223372036854775808) with h | h <;> simp [h] <;> omega
/-- The parts of an int's float. -/
theorem ofInt_lt (v : Int) : ofInt v < 18446744073709551616 := by
  have := Ieee.Format.nearest_lt Ieee.double (decide (v < 0)) v.natAbs 0
  have e : 2 ^ Ieee.double.width = 18446744073709551616 := by decide
  unfold ofInt; omega
theorem oE_of (r : Nat) (s : Nat) (h : r < 9223372036854775808) : oE (s * 9223372036854775808 + r) = r / 4503599627370496 := by unfold oE; omega
theorem ofInt_parts (v : Int) (h : v ≠ 0) (h1 : -9223372036854775808 ≤ v) (h2 : v ≤ 9223372036854775807) :
    0 < oE (ofInt v) ∧ oE (ofInt v) < 2047 ∧ 4503599627370496 ≤ oMan (ofInt v) ∧ -60 ≤ oExp (ofInt v) ∧ oExp (ofInt v) ≤ 20 ∧ oNeg (ofInt v) = decide (v < 0) := by
  have key : ∀ m s, 0 < m → m < 18446744073709551616 → oE (s * 9223372036854775808 + rungI m) = rungI m / 4503599627370496 ∧ 1023 ≤ rungI m / 4503599627370496 ∧ rungI m / 4503599627370496 ≤ 1088 := fun m s hm hlt => by
    have hk := kept_bounds m hm
    have hl := log2_lt64 m hm hlt
    refine ⟨oE_of _ _ (by have := rungI_lt m hm hlt; omega), ?_, ?_⟩ <;> unfold rungI <;> omega
  rcases Int.lt_trichotomy v 0 with hv | hv | hv
  · have e := ofInt_neg v hv h1
    obtain ⟨k1, k2, k3⟩ := key (-v).toNat 1 (by omega) (by omega)
    rw [Nat.one_mul] at k1
    have hlt := rungI_lt (-v).toNat (by omega) (by omega)
    rw [e, decide_eq_true hv]
    unfold oMan oExp oNeg
    rw [k1, if_pos (by omega), if_pos (by omega)]
    refine ⟨by omega, by omega, by omega, by omega, by omega, ?_⟩
    rw [beq_iff_eq]; omega
  · exact absurd hv h
  · have e := ofInt_pos v hv (by omega)
    obtain ⟨k1, k2, k3⟩ := key v.toNat 0 (by omega) (by omega)
    rw [Nat.zero_mul, Nat.zero_add] at k1
    have hlt := rungI_lt v.toNat (by omega) (by omega)
    rw [e, decide_eq_false (by omega)]
    unfold oMan oExp oNeg
    rw [k1, if_pos (by omega), if_pos (by omega)]
    refine ⟨by omega, by omega, by omega, by omega, by omega, ?_⟩
    rw [beq_eq_false_iff_ne]; omega
theorem ofInt_zero_parts : oE (ofInt 0) = 0 ∧ oMan (ofInt 0) = 0 ∧ oNeg (ofInt 0) = false := by decide
/-- The quotient of two normal floats' numbers. -/
def quo (neg : Bool) (X Y : Nat) (p : Int) : Nat := double.nearest neg (2 * (X * 2 ^ 54 / Y) + (X * 2 ^ 54 % Y != 0).toNat) (p - 55)
theorem quo_digits0 (neg : Bool) (N Y q r : Nat) (p : Int) (hY : 0 < Y) (hq : q * (2 * Y) + r = 64 * N) (hr : r < 2 * Y) (hlow : 2 ^ 53 ≤ N / Y) :
    double.nearest neg (if (r != 0) = true then 2 * q + 1 else q) (if (r != 0) = true then p - 59 - 1 else p - 59) = double.nearest neg (2 * (N / Y) + (N % Y != 0).toNat) (p - 55) := by
  have eq1 : q * (2 * Y) = 2 * (q * Y) := by rw [← Nat.mul_assoc, Nat.mul_comm q 2, Nat.mul_assoc]
  obtain ⟨r1, rfl⟩ : ∃ r1, r = 2 * r1 := ⟨r / 2, by omega⟩
  have hq' : q * Y + r1 = 32 * N := by omega
  have hd := Nat.div_add_mod N Y
  have hm := Nat.mod_lt N hY
  generalize N / Y = q0 at *
  generalize N % Y = r0 at *
  have hr1 : r1 < Y := by omega
  have A : q * Y + r1 = 32 * q0 * Y + 32 * r0 := by
    rw [hq', ← hd, Nat.mul_add, Nat.mul_comm Y q0, ← Nat.mul_assoc]
  have hqlo : 32 * q0 ≤ q := by
    rcases Nat.lt_or_ge q (32 * q0) with h | h
    · have := Nat.mul_le_mul_right Y (show q + 1 ≤ 32 * q0 by omega)
      rw [Nat.add_mul] at this; omega
    · exact h
  obtain ⟨t, rfl⟩ : ∃ t, q = 32 * q0 + t := ⟨q - 32 * q0, by omega⟩
  rw [Nat.add_mul] at A
  have A' : t * Y + r1 = 32 * r0 := by omega
  have ht : t < 32 := by
    rcases Nat.lt_or_ge t 32 with h | h
    · exact h
    · have := Nat.mul_le_mul_right Y h; omega
  have hpos : 0 < q0 := Nat.lt_of_lt_of_le (Nat.pow_pos (by omega)) hlow
  clear hq hq' hd hqlo A eq1
  rcases Nat.eq_zero_or_pos r0 with h0 | h0
  · -- nothing is left over
    subst h0
    have hr0 : r1 = 0 := by omega
    have ht0 : t = 0 := by
      rcases Nat.eq_zero_or_pos t with h | h
      · exact h
      · have := Nat.mul_le_mul_right Y (show 1 ≤ t by omega); omega
    subst hr0 ht0
    have e := rung_scale (2 * q0) 4 (p - 55) (by omega)
    simp only [Nat.mul_zero, bne_self_eq_false, Bool.false_eq_true, if_false, Nat.add_zero, Bool.toNat_false]
    rw [nearest_rung _ _ _ (by omega), nearest_rung _ _ _ (by omega), ← e, show 2 * q0 * 2 ^ 4 = 32 * q0 by omega, show p - 55 - ((4 : Nat) : Int) = p - 59 by omega]
  · have hs : (r0 != 0) = true := by rw [bne_iff_ne]; omega
    rw [hs, Bool.toNat_true]
    rcases Nat.eq_zero_or_pos r1 with h1 | h1
    · subst h1
      have ht0 : 0 < t := by
        rcases Nat.eq_zero_or_pos t with h | h
        · subst h; omega
        · exact h
      have e := rung_sticky q0 (32 * q0 + t) 4 (p - 55) hlow (by omega) (by omega)
      simp only [Nat.mul_zero, bne_self_eq_false, Bool.false_eq_true, if_false]
      rw [nearest_rung _ _ _ (by omega), nearest_rung _ _ _ (by omega), ← e, show p - 55 - ((4 : Nat) : Int) = p - 59 by omega]
    · have e := rung_sticky q0 (2 * (32 * q0 + t) + 1) 5 (p - 55) hlow (by omega) (by omega)
      have hs2 : (2 * r1 != 0) = true := by rw [bne_iff_ne]; omega
      rw [if_pos hs2, if_pos hs2, nearest_rung _ _ _ (by omega), nearest_rung _ _ _ (by omega), ← e, show p - 55 - ((5 : Nat) : Int) = p - 59 - 1 by omega]
theorem low_quo (X Y : Nat) (hX : 4503599627370496 ≤ X) (hY : 0 < Y) (hY2 : Y < 9007199254740992) : 2 ^ 53 ≤ X * 2 ^ 54 / Y := by
  rw [Nat.le_div_iff_mul_le hY]
  have e : (2 : Nat) ^ 53 = 9007199254740992 := by decide
  have h3 : X * 2 ^ 54 = X * 2 * 2 ^ 53 := by rw [Nat.mul_assoc, ← Nat.pow_succ']
  rw [h3, Nat.mul_comm]
  exact Nat.mul_le_mul (by omega) (by omega) |> fun h => Nat.le_trans (Nat.mul_le_mul_right _ (show Y ≤ 2 ^ 53 by omega)) (by rw [Nat.mul_comm (X * 2)]; exact Nat.mul_le_mul_left _ (by omega))
/-- By sixty digits, one after the other, it is the same. -/
theorem quo_digits (neg : Bool) (X Y q r : Nat) (p : Int) (hX : 4503599627370496 ≤ X) (hY : 0 < Y) (hY2 : Y < 9007199254740992) (hq : q * (2 * Y) + r = X * 2 ^ 60) (hr : r < 2 * Y) :
    double.nearest neg (if (r != 0) = true then 2 * q + 1 else q) (if (r != 0) = true then p - 59 - 1 else p - 59) = quo neg X Y p := by
  have h := low_quo X Y hX hY hY2
  unfold quo
  refine quo_digits0 neg (X * 2 ^ 54) Y q r p hY ?_ hr h
  rw [hq, Nat.mul_comm 64, Nat.mul_assoc]
theorem log2_normal (m : Nat) (h1 : 4503599627370496 ≤ m) (h2 : m < 9007199254740992) : m.log2 = 52 := by
  rw [Nat.log2_eq_iff (by omega)]
  have e1 : (2 : Nat) ^ 52 = 4503599627370496 := by decide
  have e2 : (2 : Nat) ^ (52 + 1) = 9007199254740992 := by decide
  omega
/-- The model's division of two ints' floats. -/
theorem div_ints (a b : Int) (ha : a ≠ 0) (hb : b ≠ 0) (ha1 : -9223372036854775808 ≤ a) (ha2 : a ≤ 9223372036854775807) (hb1 : -9223372036854775808 ≤ b) (hb2 : b ≤ 9223372036854775807) :
    double.div (ofInt a) (ofInt b) = some (quo (oNeg (ofInt a) != oNeg (ofInt b)) (oMan (ofInt a)) (oMan (ofInt b)) (oExp (ofInt a) - oExp (ofInt b))) := by
  obtain ⟨a0, a1, a2, a3, a4, a5⟩ := ofInt_parts a ha ha1 ha2
  obtain ⟨b0, b1, b2, b3, b4, b5⟩ := ofInt_parts b hb hb1 hb2
  have am := oMan_lt (ofInt a)
  have bm := oMan_lt (ofInt b)
  unfold Format.div
  rw [read_finite _ a1, read_finite _ b1]
  unfold Datum.quotient
  have e1 : double.fractionBits = 52 := rfl
  simp only [e1]
  rw [if_neg (by omega), log2_normal _ a2 am, log2_normal _ b2 bm]
  simp only [Option.map_some, Format.write, Nat.shiftLeft_eq]
  unfold quo
  congr 2
  omega
theorem div_zero_int (b : Int) (hb : b ≠ 0) (hb1 : -9223372036854775808 ≤ b) (hb2 : b ≤ 9223372036854775807) :
    double.div (ofInt 0) (ofInt b) = some (double.word (oNeg (ofInt 0) != oNeg (ofInt b)) 0) := by
  obtain ⟨b0, b1, b2, b3, b4, b5⟩ := ofInt_parts b hb hb1 hb2
  obtain ⟨z1, z2, z3⟩ := ofInt_zero_parts
  unfold Format.div
  rw [read_finite _ (by omega), read_finite _ b1, z2]
  unfold Datum.quotient
  simp only []
  rw [if_neg (by omega)]
  simp only [Option.map_some, Format.write, Nat.shiftLeft_eq, Nat.zero_mul, Nat.zero_div, Nat.zero_mod, bne_self_eq_false, Bool.toNat_false, Nat.mul_zero, Nat.add_zero]
  rw [nearest_zero]
end FloatMath
