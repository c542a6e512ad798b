import Derived.Test.YtegplajddhiejaaGreatMgLoneMake1
import Derived.Test.YtegplajddhiejaaGreatMgLoneMake3
set_option linter.unusedVariables false
namespace Go.Proofs.YtegplajddhiejaaGreat
open Go.RowKit
def dig : Nat → Int → List Int
  | 0, _ => []
  | n+1, v => v / (256 : Int) ^ n % 256 :: dig n v
theorem be8_dig (v : Int) : kbe8L v = dig 8 v := by simp [kbe8L, dig]
theorem dig_len (n : Nat) (v : Int) : (dig n v).length = n := by induction n with
  | zero => rfl
  | succ n ih => simp [dig, ih]
theorem less_app : ∀ (a b x y : List UInt8), a.length = b.length → Op.bytesLess (a ++ x) (b ++ y) = (Op.bytesLess a b || (a == b && Op.bytesLess x y))
  | [], [], x, y, _ => by cases x <;> cases y <;> simp [Op.bytesLess]
  | a :: p, b :: q, x, y, h => by
    have ih := less_app p q x y (by simpa using h)
    simp only [List.cons_append, Op.bytesLess, ih]
    by_cases e : a = b
    · subst e; simp
    · have e2 : (a == b) = false := by simp [e]
      simp [e2]
def toB (xs : List Int) : List UInt8 := xs.map fun n => UInt8.ofNat n.toNat
theorem byteLt (x y : Int) (h0 : 0 ≤ x) (h1 : x ≤ 255) (k0 : 0 ≤ y) (k1 : y ≤ 255) : (UInt8.ofNat x.toNat < UInt8.ofNat y.toNat ↔ x < y) ∧ (UInt8.ofNat x.toNat = UInt8.ofNat y.toNat ↔ x = y) := by
  constructor
  · rw [UInt8.lt_iff_toNat_lt, UInt8.toNat_ofNat', UInt8.toNat_ofNat']; omega
  · rw [← UInt8.toNat_inj, UInt8.toNat_ofNat', UInt8.toNat_ofNat']; omega
theorem split_mod (u P : Int) (hP : 0 < P) : u % (P * 256) = P * (u / P % 256) + u % P := by
  have e1 := Int.mul_ediv_add_emod u P
  have e2 := Int.mul_ediv_add_emod (u / P) 256
  have r0 := Int.emod_nonneg u (show P ≠ 0 by omega)
  have r1 := Int.emod_lt_of_pos u hP
  have d0 := Int.emod_nonneg (u / P) (show (256 : Int) ≠ 0 by omega)
  have d1 := Int.emod_lt_of_pos (u / P) (show (0 : Int) < 256 by omega)
  generalize u / P % 256 = d at *
  generalize u / P / 256 = q at *
  generalize u % P = r at *
  have h : u = P * d + r + (P * 256) * q := by rw [← e1, ← e2, Int.mul_add]; rw [show P * (256 * q) = P * 256 * q by rw [Int.mul_assoc]]; omega
  have m1 : 0 ≤ P * d := Int.mul_nonneg (by omega) d0
  have m2 : P * d ≤ P * 255 := Int.mul_le_mul_of_nonneg_left (by omega) (by omega)
  rw [h, Int.add_mul_emod_self_left, Int.emod_eq_of_lt (by omega) (by omega)]
theorem lexi (P d e r s : Int) (hr : 0 ≤ r) (hr' : r < P) (hs : 0 ≤ s) (hs' : s < P) : (P * d + r < P * e + s ↔ d < e ∨ (d = e ∧ r < s)) ∧ (P * d + r = P * e + s ↔ d = e ∧ r = s) := by
  rcases Int.lt_trichotomy d e with h | h | h
  · have : P * (d + 1) ≤ P * e := Int.mul_le_mul_of_nonneg_left (by omega) (by omega)
    rw [Int.mul_add] at this; omega
  · subst h; omega
  · have : P * (e + 1) ≤ P * d := Int.mul_le_mul_of_nonneg_left (by omega) (by omega)
    rw [Int.mul_add] at this; omega
theorem dig_law (u v : Int) : ∀ n, Op.bytesLess (toB (dig n u)) (toB (dig n v)) = decide (u % 256 ^ n < v % 256 ^ n) ∧ (toB (dig n u) = toB (dig n v) ↔ u % 256 ^ n = v % 256 ^ n)
  | 0 => by simp [dig, toB, Op.bytesLess]
  | n+1 => by
    obtain ⟨i1, i2⟩ := dig_law u v n
    have hP : (0 : Int) < 256 ^ n := Int.pow_pos (by omega)
    rw [Int.pow_succ, split_mod u _ hP, split_mod v _ hP]
    have L := lexi (256 ^ n) (u / 256 ^ n % 256) (v / 256 ^ n % 256) (u % 256 ^ n) (v % 256 ^ n) (Int.emod_nonneg _ (by omega)) (Int.emod_lt_of_pos _ hP) (Int.emod_nonneg _ (by omega)) (Int.emod_lt_of_pos _ hP)
    have B := byteLt (u / 256 ^ n % 256) (v / 256 ^ n % 256) (by omega) (by omega) (by omega) (by omega)
    rw [Bool.eq_iff_iff, decide_eq_true_iff, L.1, L.2]
    simp only [dig, toB, List.map_cons, Op.bytesLess, List.cons.injEq]
    simp only [toB] at i1 i2
    rw [i1, i2, B.2]
    refine ⟨?_, Iff.rfl⟩
    simp [B.1, B.2]
theorem key_list (s k n : Int) : (keyZ s k n).toList = (66 :: toB (dig 8 s)) ++ (toB [k] ++ toB (dig 8 n)) := by
  rw [ByteArray.toList_eq]
  unfold keyZ prefZ oneZ be8Z
  rw [be8_dig, be8_dig]
  simp [strOfNums, toB]
theorem key_law (s k n t l m : Int) (s0 : 0 ≤ s) (s1 : s ≤ 9223372036854775807) (n0 : 0 ≤ n) (n1 : n ≤ 9223372036854775807) (t0 : 0 ≤ t) (t1 : t ≤ 9223372036854775807) (m0 : 0 ≤ m) (m1 : m ≤ 9223372036854775807) (k0 : 1 ≤ k) (k1 : k ≤ 255) (l0 : 1 ≤ l) (l1 : l ≤ 255) :
    ((keyZ s k n).toList = (keyZ t l m).toList ↔ s = t ∧ k = l ∧ n = m) ∧ (Op.bytesLess (keyZ s k n).toList (keyZ t l m).toList = decide (s < t ∨ (s = t ∧ (k < l ∨ (k = l ∧ n < m))))) := by
  rw [key_list, key_list]
  obtain ⟨a1, a2⟩ := dig_law s t 8
  obtain ⟨b1, b2⟩ := dig_law n m 8
  have B := byteLt k l (by omega) (by omega) (by omega) (by omega)
  have P : (256 : Int) ^ 8 = 18446744073709551616 := by decide
  rw [P, Int.emod_eq_of_lt s0 (by omega), Int.emod_eq_of_lt t0 (by omega)] at a1 a2
  rw [P, Int.emod_eq_of_lt n0 (by omega), Int.emod_eq_of_lt m0 (by omega)] at b1 b2
  have hl : (66 :: toB (dig 8 s)).length = (66 :: toB (dig 8 t)).length := by simp [toB, dig_len]
  constructor
  · rw [show ((66 :: toB (dig 8 s)) ++ (toB [k] ++ toB (dig 8 n)) = (66 :: toB (dig 8 t)) ++ (toB [l] ++ toB (dig 8 m)) ↔ (66 :: toB (dig 8 s)) = (66 :: toB (dig 8 t)) ∧ (toB [k] ++ toB (dig 8 n)) = (toB [l] ++ toB (dig 8 m))) from ⟨fun h => List.append_inj h hl, fun h => by rw [h.1, h.2]⟩, List.cons.injEq, a2]
    simp only [toB, List.map_cons, List.map_nil, List.cons_append, List.nil_append, List.cons.injEq, B.2]
    simp only [toB] at b2
    rw [b2]; simp
  · rw [less_app _ _ _ _ hl, Bool.eq_iff_iff]
    simp only [Op.bytesLess, toB, List.map_cons, List.map_nil, List.cons_append, List.nil_append]
    simp only [toB] at a1 a2 b1 b2
    simp only [a1, b1]
    simp [B.1, B.2, a2]
end Go.Proofs.YtegplajddhiejaaGreat

set_option linter.unusedVariables false
namespace Go.Proofs.YtegplajddhiejaaGreat
open Go.RowKit
/-- The number that a list of bytes is, the greatest first. -/
def rdL (l : List UInt8) : Nat := l.foldl (fun a x => a * 256 + x.toNat) 0
theorem rdL_from (l : List UInt8) : ∀ a, l.foldl (fun a x => a * 256 + x.toNat) a = a * 256 ^ l.length + rdL l := by
  induction l with
  | nil => intro a; simp [rdL]
  | cons x t ih =>
    intro a
    have e : rdL (x :: t) = x.toNat * 256 ^ t.length + rdL t := by
      show List.foldl _ (0 * 256 + x.toNat) t = _
      rw [ih, show 0 * 256 + x.toNat = x.toNat by omega]
    rw [List.foldl_cons, ih, e, List.length_cons, Nat.pow_succ, Nat.add_mul, Nat.mul_assoc a 256, Nat.mul_comm 256]; omega
theorem rdL_cons (x : UInt8) (t : List UInt8) : rdL (x :: t) = x.toNat * 256 ^ t.length + rdL t := by
  rw [rdL, List.foldl_cons, rdL_from]; simp
theorem rdL_lt (l : List UInt8) : rdL l < 256 ^ l.length := by
  induction l with
  | nil => simp [rdL]
  | cons x t ih =>
    rw [rdL_cons, List.length_cons, Nat.pow_succ]
    have h : x.toNat * 256 ^ t.length ≤ 255 * 256 ^ t.length := Nat.mul_le_mul_right _ (by have := x.toNat_lt; omega)
    omega
theorem rdL_snoc (l : List UInt8) (x : UInt8) : rdL (l ++ [x]) = rdL l * 256 + x.toNat := by simp [rdL]
theorem rdN_list (b : ByteArray) (o : Nat) : ∀ k, o + k ≤ b.data.toList.length → rdN b o k = rdL ((b.data.toList.drop o).take k)
  | 0, _ => by simp [rdN, rdL]
  | k+1, h => by
    have hk : k < (b.data.toList.drop o).length := by rw [List.length_drop]; omega
    rw [rdN, rdN_list b o k (by omega), List.take_succ_eq_append_getElem hk, rdL_snoc, List.getElem_drop, List.getD_eq_getElem?_getD, List.getElem?_eq_getElem (by omega)]
    rfl
theorem toB_len (l : List Int) : (toB l).length = l.length := by simp [toB]
theorem rdL_dig (v : Int) : ∀ n, (rdL (toB (dig n v)) : Int) = v % 256 ^ n
  | 0 => by simp [dig, toB, rdL]
  | n+1 => by
    have hP : (0 : Int) < 256 ^ n := Int.pow_pos (by omega)
    have ih := rdL_dig v n
    have hc : toB (dig (n + 1) v) = UInt8.ofNat (v / 256 ^ n % 256).toNat :: toB (dig n v) := rfl
    rw [Int.pow_succ, split_mod v _ hP, hc, rdL_cons, toB_len, dig_len]
    have h0 := Int.emod_nonneg (v / 256 ^ n) (show (256 : Int) ≠ 0 by omega)
    have h1 := Int.emod_lt_of_pos (v / 256 ^ n) (show (0 : Int) < 256 by omega)
    have e : (UInt8.ofNat (v / 256 ^ n % 256).toNat).toNat = (v / 256 ^ n % 256).toNat := by rw [UInt8.toNat_ofNat']; omega
    rw [e, Int.natCast_add, Int.natCast_mul, Int.natCast_pow, show ((256 : Nat) : Int) = 256 from rfl, ih, Int.mul_comm, Int.toNat_of_nonneg h0]
theorem dig_rdL (l : List UInt8) : toB (dig l.length (rdL l)) = l := by
  induction l with
  | nil => rfl
  | cons x t ih =>
    have hP : (0 : Int) < 256 ^ t.length := Int.pow_pos (by omega)
    have hl := rdL_lt t
    have hl' : (rdL t : Int) < 256 ^ t.length := by have := Int.ofNat_lt.mpr hl; rwa [Int.natCast_pow] at this
    have hx := x.toNat_lt
    have hv : (rdL (x :: t) : Int) = (rdL t : Int) + 256 ^ t.length * x.toNat := by rw [rdL_cons, Int.natCast_add, Int.natCast_mul, Int.natCast_pow, show ((256 : Nat) : Int) = 256 from rfl, Int.mul_comm]; omega
    have hd : (rdL (x :: t) : Int) / 256 ^ t.length = x.toNat := by
      rw [hv, Int.add_mul_ediv_left _ _ (by omega), Int.ediv_eq_zero_of_lt (by omega) hl']; omega
    have hm : (rdL (x :: t) : Int) % 256 ^ t.length = rdL t % 256 ^ t.length := by
      rw [hv, Int.add_mul_emod_self_left]
    have ht : toB (dig t.length (rdL (x :: t))) = t := by
      rw [(dig_law (rdL (x :: t)) (rdL t) t.length).2.mpr hm, ih]
    show UInt8.ofNat ((rdL (x :: t) : Int) / 256 ^ t.length % 256).toNat :: toB (dig t.length (rdL (x :: t))) = x :: t
    rw [ht, hd]
    congr 1
    rw [← UInt8.toNat_inj, UInt8.toNat_ofNat']; omega
theorem be4_dig (v : Int) : kbe4L v = dig 4 v := by simp [kbe4L, dig]
theorem be8_list (v : Int) : (beZ 8 v).data.toList = toB (dig 8 v) := by rw [← be8_dig]; rfl
theorem be4_list (v : Int) : (beZ 4 v).data.toList = toB (dig 4 v) := by rw [← be4_dig]; rfl
theorem body_list (k n : Int) (p : ByteArray) : (bodyZ k n p).data.toList = toB [165, k] ++ (toB (dig 8 n) ++ (toB (dig 4 p.size) ++ p.data.toList)) := by
  unfold bodyZ
  rw [ByteArray.data_append, ByteArray.data_append, ByteArray.data_append, Array.toList_append, Array.toList_append, Array.toList_append, be8_list, be4_list]
  show toB [165, k] ++ toB (dig 8 n) ++ toB (dig 4 p.size) ++ p.data.toList = _
  simp only [List.append_assoc]
theorem frame_list (k n : Int) (p : ByteArray) : (frameZ k n p).data.toList = toB [165, k] ++ (toB (dig 8 n) ++ (toB (dig 4 p.size) ++ (p.data.toList ++ toB (dig 4 (crcZ (bodyZ k n p) : Nat))))) := by
  unfold frameZ
  rw [ByteArray.data_append, Array.toList_append, body_list, be4_list]
  simp only [List.append_assoc]
theorem size_list (b : ByteArray) : b.data.toList.length = b.size := by simp
theorem byte_of (k : Int) (k1 : 1 ≤ k) (k2 : k ≤ 255) : ((UInt8.ofNat k.toNat).toNat : Int) = k := by rw [UInt8.toNat_ofNat']; omega
/-- What bytes that begin as a frame does say. -/
theorem head_facts (b : ByteArray) (k n : Int) (m : Nat) (rest : List UInt8) (k1 : 1 ≤ k) (k2 : k ≤ 255) (n0 : 0 ≤ n) (n1 : n ≤ 9223372036854775807) (hm : m ≤ 524288)
    (hb : b.data.toList = toB [165, k] ++ (toB (dig 8 n) ++ (toB (dig 4 m) ++ rest))) :
    b.size = 14 + rest.length ∧ (kF b : Int) = k ∧ (nF b : Int) = n ∧ lF b = m ∧ (∀ j, j < 6 → wrongZ b j = false) := by
  have hs : b.size = 14 + rest.length := by
    rw [← size_list, hb]; simp only [List.length_append, toB_len, dig_len]; simp; omega
  have h0 : b.data.toList.getD 0 0 = 165 := by rw [hb]; rfl
  have h1 : b.data.toList.getD 1 0 = UInt8.ofNat k.toNat := by rw [hb]; rfl
  have hk : (kF b : Int) = k := by unfold kF; rw [if_neg (by omega), h1, byte_of k k1 k2]
  have hn : (nF b : Int) = n := by
    unfold nF; rw [if_neg (by omega), rdN_list b 2 8 (by rw [size_list]; omega), hb]
    rw [List.drop_append_of_le_length (by simp [toB]), show (toB [165, k]).drop 2 = [] from rfl, List.nil_append]
    rw [List.take_append_of_le_length (by rw [toB_len, dig_len]; omega), List.take_of_length_le (by rw [toB_len, dig_len]; omega), rdL_dig, show (256 : Int) ^ 8 = 18446744073709551616 by decide]
    exact Int.emod_eq_of_lt n0 (by omega)
  have hl : lF b = m := by
    unfold lF; rw [if_neg (by omega), rdN_list b 10 4 (by rw [size_list]; omega), hb]
    rw [← List.append_assoc, List.drop_append_of_le_length (by rw [List.length_append, toB_len, toB_len, dig_len]; simp), List.drop_of_length_le (by rw [List.length_append, toB_len, toB_len, dig_len]; simp), List.nil_append]
    rw [List.take_append_of_le_length (by rw [toB_len, dig_len]; omega), List.take_of_length_le (by rw [toB_len, dig_len]; omega)]
    have := rdL_dig (m : Int) 4
    rw [show (256 : Int) ^ 4 = 4294967296 by decide, Int.emod_eq_of_lt (by omega) (by omega)] at this
    omega
  refine ⟨hs, hk, hn, hl, fun j hj => ?_⟩
  have hc : j = 0 ∨ j = 1 ∨ j = 2 ∨ j = 3 ∨ j = 4 ∨ j = 5 := by omega
  rcases hc with rfl | rfl | rfl | rfl | rfl | rfl
  · simp only [wrongZ, beq_eq_false_iff_ne]; omega
  · simp only [wrongZ, h0]; rfl
  · simp only [wrongZ, decide_eq_false_iff_not]; omega
  · simp only [wrongZ, beq_eq_false_iff_ne]; omega
  · simp only [wrongZ, bne_eq_false_iff_eq]; omega
  · simp only [wrongZ, decide_eq_false_iff_not]; omega
end Go.Proofs.YtegplajddhiejaaGreat
