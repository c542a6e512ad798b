import Derived.Test.YtcicdgajhheipaaBk1
set_option linter.unusedVariables false
namespace Go.Proofs.Ytcicdgajhheipaa
open Go.RowKit
def dig : Nat → Int → List Int
  | 0, _ => []
  | n+1, v => v / (256 : Int) ^ n % 256 :: dig n v
theorem be8_dig (v : Int) : kbe8L v = dig 8 v := by simp [kbe8L, dig]
theorem dig_len (n : Nat) (v : Int) : (dig n v).length = n := by induction n with
  | zero => rfl
  | succ n ih => simp [dig, ih]
theorem less_app : ∀ (a b x y : List UInt8), a.length = b.length → Op.bytesLess (a ++ x) (b ++ y) = (Op.bytesLess a b || (a == b && Op.bytesLess x y))
  | [], [], x, y, _ => by cases x <;> cases y <;> simp [Op.bytesLess]
  | a :: p, b :: q, x, y, h => by
    have ih := less_app p q x y (by simpa using h)
    simp only [List.cons_append, Op.bytesLess, ih]
    by_cases e : a = b
    · subst e; simp
    · have e2 : (a == b) = false := by simp [e]
      simp [e2]
def toB (xs : List Int) : List UInt8 := xs.map fun n => UInt8.ofNat n.toNat
theorem byteLt (x y : Int) (h0 : 0 ≤ x) (h1 : x ≤ 255) (k0 : 0 ≤ y) (k1 : y ≤ 255) : (UInt8.ofNat x.toNat < UInt8.ofNat y.toNat ↔ x < y) ∧ (UInt8.ofNat x.toNat = UInt8.ofNat y.toNat ↔ x = y) := by
  constructor
  · rw [UInt8.lt_iff_toNat_lt, UInt8.toNat_ofNat', UInt8.toNat_ofNat']; omega
  · rw [← UInt8.toNat_inj, UInt8.toNat_ofNat', UInt8.toNat_ofNat']; omega
theorem split_mod (u P : Int) (hP : 0 < P) : u % (P * 256) = P * (u / P % 256) + u % P := by
  have e1 := Int.mul_ediv_add_emod u P
  have e2 := Int.mul_ediv_add_emod (u / P) 256
  have r0 := Int.emod_nonneg u (show P ≠ 0 by omega)
  have r1 := Int.emod_lt_of_pos u hP
  have d0 := Int.emod_nonneg (u / P) (show (256 : Int) ≠ 0 by omega)
  have d1 := Int.emod_lt_of_pos (u / P) (show (0 : Int) < 256 by omega)
  generalize u / P % 256 = d at *
  generalize u / P / 256 = q at *
  generalize u % P = r at *
  have h : u = P * d + r + (P * 256) * q := by rw [← e1, ← e2, Int.mul_add]; rw [show P * (256 * q) = P * 256 * q by rw [Int.mul_assoc]]; omega
  have m1 : 0 ≤ P * d := Int.mul_nonneg (by omega) d0
  have m2 : P * d ≤ P * 255 := Int.mul_le_mul_of_nonneg_left (by omega) (by omega)
  rw [h, Int.add_mul_emod_self_left, Int.emod_eq_of_lt (by omega) (by omega)]
theorem lexi (P d e r s : Int) (hr : 0 ≤ r) (hr' : r < P) (hs : 0 ≤ s) (hs' : s < P) : (P * d + r < P * e + s ↔ d < e ∨ (d = e ∧ r < s)) ∧ (P * d + r = P * e + s ↔ d = e ∧ r = s) := by
  rcases Int.lt_trichotomy d e with h | h | h
  · have : P * (d + 1) ≤ P * e := Int.mul_le_mul_of_nonneg_left (by omega) (by omega)
    rw [Int.mul_add] at this; omega
  · subst h; omega
  · have : P * (e + 1) ≤ P * d := Int.mul_le_mul_of_nonneg_left (by omega) (by omega)
    rw [Int.mul_add] at this; omega
theorem dig_law (u v : Int) : ∀ n, Op.bytesLess (toB (dig n u)) (toB (dig n v)) = decide (u % 256 ^ n < v % 256 ^ n) ∧ (toB (dig n u) = toB (dig n v) ↔ u % 256 ^ n = v % 256 ^ n)
  | 0 => by simp [dig, toB, Op.bytesLess]
  | n+1 => by
    obtain ⟨i1, i2⟩ := dig_law u v n
    have hP : (0 : Int) < 256 ^ n := Int.pow_pos (by omega)
    rw [Int.pow_succ, split_mod u _ hP, split_mod v _ hP]
    have L := lexi (256 ^ n) (u / 256 ^ n % 256) (v / 256 ^ n % 256) (u % 256 ^ n) (v % 256 ^ n) (Int.emod_nonneg _ (by omega)) (Int.emod_lt_of_pos _ hP) (Int.emod_nonneg _ (by omega)) (Int.emod_lt_of_pos _ hP)
    have B := byteLt (u / 256 ^ n % 256) (v / 256 ^ n % 256) (by omega) (by omega) (by omega) (by omega)
    rw [Bool.eq_iff_iff, decide_eq_true_iff, L.1, L.2]
    simp only [dig, toB, List.map_cons, Op.bytesLess, List.cons.injEq]
    simp only [toB] at i1 i2
    rw [i1, i2, B.2]
    refine ⟨?_, Iff.rfl⟩
    simp [B.1, B.2]
theorem key_list (s k n : Int) : (keyZ s k n).toList = (66 :: toB (dig 8 s)) ++ (toB [k] ++ toB (dig 8 n)) := by
  rw [ByteArray.toList_eq]
  unfold keyZ prefZ oneZ be8Z
  rw [be8_dig, be8_dig]
  simp [strOfNums, toB]
theorem key_law (s k n t l m : Int) (s0 : 0 ≤ s) (s1 : s ≤ 9223372036854775807) (n0 : 0 ≤ n) (n1 : n ≤ 9223372036854775807) (t0 : 0 ≤ t) (t1 : t ≤ 9223372036854775807) (m0 : 0 ≤ m) (m1 : m ≤ 9223372036854775807) (k0 : 1 ≤ k) (k1 : k ≤ 255) (l0 : 1 ≤ l) (l1 : l ≤ 255) :
    ((keyZ s k n).toList = (keyZ t l m).toList ↔ s = t ∧ k = l ∧ n = m) ∧ (Op.bytesLess (keyZ s k n).toList (keyZ t l m).toList = decide (s < t ∨ (s = t ∧ (k < l ∨ (k = l ∧ n < m))))) := by
  rw [key_list, key_list]
  obtain ⟨a1, a2⟩ := dig_law s t 8
  obtain ⟨b1, b2⟩ := dig_law n m 8
  have B := byteLt k l (by omega) (by omega) (by omega) (by omega)
  have P : (256 : Int) ^ 8 = 18446744073709551616 := by decide
  rw [P, Int.emod_eq_of_lt s0 (by omega), Int.emod_eq_of_lt t0 (by omega)] at a1 a2
  rw [P, Int.emod_eq_of_lt n0 (by omega), Int.emod_eq_of_lt m0 (by omega)] at b1 b2
  have hl : (66 :: toB (dig 8 s)).length = (66 :: toB (dig 8 t)).length := by simp [toB, dig_len]
  constructor
  · rw [show ((66 :: toB (dig 8 s)) ++ (toB [k] ++ toB (dig 8 n)) = (66 :: toB (dig 8 t)) ++ (toB [l] ++ toB (dig 8 m)) ↔ (66 :: toB (dig 8 s)) = (66 :: toB (dig 8 t)) ∧ (toB [k] ++ toB (dig 8 n)) = (toB [l] ++ toB (dig 8 m))) from ⟨fun h => List.append_inj h hl, fun h => by rw [h.1, h.2]⟩, List.cons.injEq, a2]
    simp only [toB, List.map_cons, List.map_nil, List.cons_append, List.nil_append, List.cons.injEq, B.2]
    simp only [toB] at b2
    rw [b2]; simp
  · rw [less_app _ _ _ _ hl, Bool.eq_iff_iff]
    simp only [Op.bytesLess, toB, List.map_cons, List.map_nil, List.cons_append, List.nil_append]
    simp only [toB] at a1 a2 b1 b2
    simp only [a1, b1]
    simp [B.1, B.2, a2]
end Go.Proofs.Ytcicdgajhheipaa
