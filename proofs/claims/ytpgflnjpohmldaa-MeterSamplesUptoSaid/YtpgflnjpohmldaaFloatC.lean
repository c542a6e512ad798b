/- Plain law: sums of floats (Ieee; no program here). -/
import Derived.Test.YtpgflnjpohmldaaFloatB
namespace FloatMath
open Ieee
theorem sum_comm (d e : Datum) : d.sum e = e.sum d := by
  cases d <;> cases e <;> simp only [Datum.sum]
  · rename_i s m i t n j
    rw [Int.min_comm j i, Int.add_comm (Ieee.signed t n _), Bool.and_comm t s]
  · rename_i s t
    by_cases h : s = t
    · subst h; rfl
    · rw [if_neg h, if_neg (fun h' => h h'.symm)]
theorem add_comm' (x y : Nat) : double.add x y = double.add y x := by
  unfold Format.add; rw [sum_comm]
/-- The sum of two finite floats, the first one's power of two not below the second one's. -/
theorem add_form (x y D : Nat) (hx : oE x < 2047) (hy : oE y < 2047) (hD : oExp x - oExp y = D) :
    double.add x y = some (double.nearest (if Ieee.signed (oNeg x) (oMan x) D + Ieee.signed (oNeg y) (oMan y) 0 = 0 then oNeg x && oNeg y else decide (Ieee.signed (oNeg x) (oMan x) D + Ieee.signed (oNeg y) (oMan y) 0 < 0))
      (Ieee.signed (oNeg x) (oMan x) D + Ieee.signed (oNeg y) (oMan y) 0).natAbs (oExp y)) := by
  unfold Format.add
  rw [read_finite x hx, read_finite y hy]
  simp only [Datum.sum, Option.map_some, Format.write]
  rw [show min (oExp x) (oExp y) = oExp y by omega, show (oExp x - oExp y).toNat = D by omega, show (oExp y - oExp y).toNat = 0 by omega]
theorem signed_val (s : Bool) (m D : Nat) : Ieee.signed s m D = if s then -((m * 2 ^ D : Nat) : Int) else ((m * 2 ^ D : Nat) : Int) := by
  unfold Ieee.signed; rw [Nat.shiftLeft_eq]
theorem add_same (x y D : Nat) (hx : oE x < 2047) (hy : oE y < 2047) (hD : oExp x - oExp y = D) (hs : oNeg x = oNeg y) (h0 : 0 < oMan y) :
    double.add x y = some (double.nearest (oNeg x) (oMan x * 2 ^ D + oMan y) (oExp y)) := by
  rw [add_form x y D hx hy hD, signed_val, signed_val, ← hs, Nat.pow_zero, Nat.mul_one]
  generalize oMan x * 2 ^ D = a
  cases oNeg x
  · simp only [Bool.false_eq_true, if_false]
    rw [if_neg (by omega), decide_eq_false (by omega)]; congr 2
  · simp only [if_true]
    rw [if_neg (by omega), decide_eq_true (by omega)]; congr 2; omega
theorem add_gt (x y D : Nat) (hx : oE x < 2047) (hy : oE y < 2047) (hD : oExp x - oExp y = D) (hs : ¬ oNeg x = oNeg y) (h0 : oMan y < oMan x * 2 ^ D) :
    double.add x y = some (double.nearest (oNeg x) (oMan x * 2 ^ D - oMan y) (oExp y)) := by
  rw [add_form x y D hx hy hD, signed_val, signed_val, Nat.pow_zero, Nat.mul_one]
  generalize oMan x * 2 ^ D = a at *
  cases h1 : oNeg x <;> cases h2 : oNeg y <;> rw [h1, h2] at hs <;> first | (exact absurd rfl hs) | skip
  · simp only [Bool.false_eq_true, if_false, if_true]
    rw [if_neg (by omega), decide_eq_false (by omega)]; congr 2; omega
  · simp only [Bool.false_eq_true, if_false, if_true]
    rw [if_neg (by omega), decide_eq_true (by omega)]; congr 2; omega
theorem add_lt' (x y D : Nat) (hx : oE x < 2047) (hy : oE y < 2047) (hD : oExp x - oExp y = D) (hs : ¬ oNeg x = oNeg y) (h0 : oMan x * 2 ^ D < oMan y) :
    double.add x y = some (double.nearest (oNeg y) (oMan y - oMan x * 2 ^ D) (oExp y)) := by
  rw [add_form x y D hx hy hD, signed_val, signed_val, Nat.pow_zero, Nat.mul_one]
  generalize oMan x * 2 ^ D = a at *
  cases h1 : oNeg x <;> cases h2 : oNeg y <;> rw [h1, h2] at hs <;> first | (exact absurd rfl hs) | skip
  · simp only [Bool.false_eq_true, if_false, if_true]
    rw [if_neg (by omega), decide_eq_true (by omega)]; congr 2; omega
  · simp only [Bool.false_eq_true, if_false, if_true]
    rw [if_neg (by omega), decide_eq_false (by omega)]; congr 2; omega
theorem add_eq (x y D : Nat) (hx : oE x < 2047) (hy : oE y < 2047) (hD : oExp x - oExp y = D) (hs : ¬ oNeg x = oNeg y) (h0 : oMan x * 2 ^ D = oMan y) :
    double.add x y = some 0 := by
  rw [add_form x y D hx hy hD, signed_val, signed_val, Nat.pow_zero, Nat.mul_one, h0]
  cases h1 : oNeg x <;> cases h2 : oNeg y <;> rw [h1, h2] at hs <;> first | (exact absurd rfl hs) | skip
  · simp only [Bool.false_eq_true, if_false, if_true]
    rw [if_pos (by omega), show ((oMan y : Int) + -(oMan y : Int)).natAbs = 0 by omega, nearest_zero]; rfl
  · simp only [Bool.false_eq_true, if_false, if_true]
    rw [if_pos (by omega), show (-(oMan y : Int) + (oMan y : Int)).natAbs = 0 by omega, nearest_zero]; rfl
theorem nearest_scale (neg : Bool) (m k : Nat) (p q : Int) (hm : 0 < m) (hq : q = p - k) : double.nearest neg (m * 2 ^ k) q = double.nearest neg m p := by
  rw [hq, nearest_rung _ _ _ (Nat.mul_pos hm (Nat.pow_pos (by omega))), nearest_rung _ _ _ hm, rung_scale m k p hm]
theorem nearest_sticky (neg : Bool) (q A k : Nat) (p p' : Int) (hq : 2 ^ 53 ≤ q) (hk : 0 < k) (h1 : q * 2 ^ k < A) (h2 : A < (q + 1) * 2 ^ k) (hp : p' = p - k) :
    double.nearest neg A p' = double.nearest neg (2 * q + 1) (p - 1) := by
  obtain ⟨j, rfl⟩ : ∃ j, k = j + 1 := ⟨k - 1, by omega⟩
  have hpos : 0 < q := Nat.lt_of_lt_of_le (Nat.pow_pos (by omega)) hq
  have e := rung_sticky q A j (p - 1) hq h1 h2
  rw [nearest_rung _ _ _ (by omega), nearest_rung _ _ _ (by omega), ← e]
  congr 2; omega
/-- What is left of the second one, d - 10 places to the right: whole, and is there more? -/
theorem far_split (n k : Nat) : n = n / 2 ^ k * 2 ^ k + n % 2 ^ k ∧ n % 2 ^ k < 2 ^ k := by
  have := Nat.div_add_mod n (2 ^ k); rw [Nat.mul_comm] at this
  exact ⟨this.symm, Nat.mod_lt _ (Nat.pow_pos (by omega))⟩
end FloatMath
