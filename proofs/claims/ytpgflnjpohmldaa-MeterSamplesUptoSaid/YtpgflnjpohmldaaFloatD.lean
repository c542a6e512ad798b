/- Plain law: what tells a float that is no number, and one without end (Ieee; no program here). -/
import Derived.Test.YtpgflnjpohmldaaFloatC
namespace FloatMath
open Ieee
theorem cmp_self (n : Int) : compare n n = Ordering.eq := by simp [compare, compareOfLessAndEq]
theorem order_self_fin (b : Nat) (h : oE b < 2047) : double.order b b = some .eq := by
  unfold Format.order
  rw [read_finite b h]
  simp only [Datum.order, cmp_self]
theorem order_self_special (b : Nat) (h : oE b = 2047) : (double.read b = .infinity (oNeg b) ∧ double.order b b = some .eq) ∨ double.order b b = none := by
  unfold Format.order
  rcases read_special b h with h | ⟨f, h⟩
  · rw [h]; left; refine ⟨rfl, ?_⟩; cases oNeg b <;> rfl
  · rw [h]; right; rfl
theorem oE_abs (b : Nat) : oE (b % 9223372036854775808) = oE b := by unfold oE; omega
theorem oNeg_abs (b : Nat) : oNeg (b % 9223372036854775808) = false := by unfold oNeg; rw [beq_eq_false_iff_ne]; omega
theorem oMan_abs (b : Nat) : oMan (b % 9223372036854775808) = oMan b := by unfold oMan; rw [oE_abs]; rw [show b % 9223372036854775808 % 4503599627370496 = b % 4503599627370496 by omega]
theorem oExp_abs (b : Nat) : oExp (b % 9223372036854775808) = oExp b := by unfold oExp; rw [oE_abs]
theorem read_max : double.read 9218868437227405311 = .number false 9007199254740991 971 := by decide
theorem cmp_le (a b : Int) (h : a ≤ b) : (some (compare a b) == some Ordering.gt) = false := by
  have : compare a b ≠ Ordering.gt := by
    simp only [compare, compareOfLessAndEq]
    split
    · simp
    · split
      · simp
      · omega
  cases hc : compare a b <;> first | rfl | (exact absurd hc this)
theorem signed_false (m D : Nat) : Ieee.signed false m D = ((m * 2 ^ D : Nat) : Int) := by unfold Ieee.signed; rw [Nat.shiftLeft_eq]; rfl
theorem abs_fin (b : Nat) (h : oE b < 2047) : (double.order (b % 9223372036854775808) 9218868437227405311 == some .gt) = false := by
  have hE : oE (b % 9223372036854775808) < 2047 := by rw [oE_abs]; exact h
  have hm := oMan_lt b
  have hx : oExp b ≤ 971 := by unfold oExp; split <;> omega
  unfold Format.order
  rw [read_finite _ hE, read_max, oNeg_abs, oMan_abs, oExp_abs]
  simp only [Datum.order]
  refine cmp_le _ _ ?_
  rw [signed_false, signed_false, show (oExp b - min (oExp b) 971).toNat = 0 by omega]
  have h1 : oMan b * 2 ^ 0 ≤ 9007199254740991 * 2 ^ (971 - min (oExp b) 971).toNat := Nat.mul_le_mul (by omega) (Nat.pow_le_pow_right (by omega) (by omega))
  exact Int.ofNat_le.2 h1
theorem abs_inf (b : Nat) (h : double.read b = .infinity (oNeg b)) : double.order (b % 9223372036854775808) 9218868437227405311 = some .gt := by
  have e1 : double.signWeight = 9223372036854775808 := by decide
  have hr : double.read (b % 9223372036854775808) = .infinity false := by
    unfold Format.read at h ⊢
    simp only [e1] at h ⊢
    rw [show b % 9223372036854775808 % 9223372036854775808 = b % 9223372036854775808 by omega]
    rw [show (b % 9223372036854775808 / 9223372036854775808 % 2 == 1) = false by rw [beq_eq_false_iff_ne]; omega]
    split at h
    · simp at h
    · split at h
      · simp at h
      · split at h
        · rename_i a1 a2 a3
          rw [if_neg a1, if_neg a2, if_pos a3]
        · simp at h
  unfold Format.order
  rw [hr, read_max]; rfl
end FloatMath
