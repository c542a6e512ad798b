import Derived.Test.YtcicdgajhheipaaBookPlain2
import Derived.Test.YtcicdgajhheipaaBookBurst
set_option linter.unusedVariables false
namespace Go.Proofs.Ytcicdgajhheipaa
open Go.RowKit
theorem crcRun_append (v : Nat) (a b : List UInt8) : crcRun v (a ++ b) = crcRun (crcRun v a) b := by
  unfold crcRun; rw [List.foldl_append]
/-- A frame's bytes with another payload of that length: they are told by the sum, if the payload's sum parts. -/
theorem parse_spoilt (k n : Int) (p b : ByteArray) (l : List UInt8) (k1 : 1 ≤ k) (k2 : k ≤ 255) (n0 : 0 ≤ n) (n1 : n ≤ 9223372036854775807) (hp : p.size ≤ 524288) (hl : l.length = p.size)
    (hb : b.data.toList = toB [165, k] ++ (toB (dig 8 n) ++ (toB (dig 4 p.size) ++ (l ++ toB (dig 4 (crcZ (bodyZ k n p) : Nat))))))
    (hne : ∀ v, v < 4294967296 → crcRun v l ≠ crcRun v p.data.toList) :
    parseZ b = .tuple #[.int .i64 0, .int .i64 0, .string ⟨#[]⟩, .int .i64 131] := by
  obtain ⟨hs, hk, hn, hlen, hw⟩ := head_facts b k n p.size _ k1 k2 n0 n1 hp hb
  have hd : (toB (dig 4 (crcZ (bodyZ k n p) : Nat))).length = 4 := by rw [toB_len, dig_len]
  rw [List.length_append, hd, hl] at hs
  have hf : b.data.toList = (toB [165, k] ++ (toB (dig 8 n) ++ (toB (dig 4 p.size) ++ l))) ++ toB (dig 4 (crcZ (bodyZ k n p) : Nat)) := by
    rw [hb]; simp only [List.append_assoc]
  have hz : (toB [165, k] ++ (toB (dig 8 n) ++ (toB (dig 4 p.size) ++ l))).length = 14 + p.size := by
    simp only [List.length_append, toB_len, dig_len, hl]; simp; omega
  have hbx : (b.extract 0 (b.size - 4)).data.toList = toB [165, k] ++ (toB (dig 8 n) ++ (toB (dig 4 p.size) ++ l)) := by
    rw [extract_list, hf, List.drop_zero, show b.size - 4 = (toB [165, k] ++ (toB (dig 8 n) ++ (toB (dig 4 p.size) ++ l))).length by rw [hz]; omega, List.take_left]
  have hr := rd_end b _ _ hf hd
  have hc := rdL_dig (crcZ (bodyZ k n p) : Nat) 4
  have hc' := crcZ_lt (bodyZ k n p)
  rw [show (256 : Int) ^ 4 = 4294967296 by decide, Int.emod_eq_of_lt (by omega) (by omega)] at hc
  refine parse_wrong b 8 (by omega) ?_ ?_
  · simp only [wrongZ, bne_iff_ne]
    rw [hr, hc]
    intro he
    have he2 : crcZ (bodyZ k n p) = crcZ (b.extract 0 (b.size - 4)) := by exact_mod_cast he
    unfold crcZ at he2
    rw [hbx, body_list] at he2
    have he3 := congrArg (fun x => 4294967295 ^^^ x) he2
    simp only [← Nat.xor_assoc, Nat.xor_self, Nat.zero_xor] at he3
    rw [← List.append_assoc, ← List.append_assoc, ← List.append_assoc (toB [165, k]), ← List.append_assoc (toB [165, k] ++ _), crcRun_append, crcRun_append _ _ l] at he3
    exact hne _ (crcRun_lt _ _ (by omega)) he3.symm
  · intro j hj
    rcases Nat.lt_or_ge j 6 with h | h
    · exact hw j h
    · have hcs : j = 6 ∨ j = 7 := by omega
      rcases hcs with rfl | rfl
      · simp only [wrongZ, decide_eq_false_iff_not]; omega
      · simp only [wrongZ, decide_eq_false_iff_not]; omega
/-- The bits of a payload behind k rounds. -/
def turnedTo (l l' : List UInt8) (a k m : Nat) : Prop :=
  l'.length = l.length ∧ ∀ p, p < 8 * l.length → bitAt l' p = (bitAt l p ^^ (decide (a ≤ p ∧ p < a + k) && m.testBit (p - a)))
theorem turned_zero (l : List UInt8) (a m : Nat) : turnedTo l l a 0 m := ⟨rfl, fun p hp => by rw [show decide (a ≤ p ∧ p < a + 0) = false from decide_eq_false (by omega), Bool.false_and, Bool.xor_false]⟩
theorem turned_skip {l l' : List UInt8} {a k m : Nat} (h : turnedTo l l' a k m) (hm : m.testBit k = false) : turnedTo l l' a (k + 1) m := by
  refine ⟨h.1, fun p hp => ?_⟩
  rw [h.2 p hp]
  by_cases e : p = a + k
  · subst e; simp [hm, show a + k - a = k by omega]
  · have : (a ≤ p ∧ p < a + k) ↔ (a ≤ p ∧ p < a + (k + 1)) := by omega
    rw [decide_eq_decide.mpr this]
theorem testBit_pow (i j : Nat) : (2 ^ i).testBit j = decide (i = j) := Nat.testBit_two_pow
theorem turned_one {l l' : List UInt8} {a k m : Nat} (h : turnedTo l l' a k m) (hm : m.testBit k = true) (ha : a + k < 8 * l.length) (x : UInt8)
    (hx : x.toNat = (l'.getD ((a + k) / 8) 0).toNat ^^^ 2 ^ ((a + k) % 8)) : turnedTo l (l'.set ((a + k) / 8) x) a (k + 1) m := by
  refine ⟨by rw [List.length_set]; exact h.1, fun p hp => ?_⟩
  have hq := h.2 p hp
  have hl := h.1
  by_cases e : p / 8 = (a + k) / 8
  · have hb : bitAt (l'.set ((a + k) / 8) x) p = (bitAt l' p ^^ decide ((a + k) % 8 = p % 8)) := by
      unfold bitAt
      rw [e, List.getD_eq_getElem?_getD, List.getElem?_set_self (by omega), Option.getD_some, hx, Nat.testBit_xor, testBit_pow]
    rw [hb, hq]
    by_cases f : p = a + k
    · subst f
      have : ¬ (a ≤ a + k ∧ a + k < a + k) := by omega
      simp [hm, show a + k - a = k by omega]
    · have : (a ≤ p ∧ p < a + k) ↔ (a ≤ p ∧ p < a + (k + 1)) := by omega
      rw [decide_eq_decide.mpr this, show decide ((a + k) % 8 = p % 8) = false from decide_eq_false (by omega), Bool.xor_false]
  · have hb : bitAt (l'.set ((a + k) / 8) x) p = bitAt l' p := by
      unfold bitAt
      rw [List.getD_eq_getElem?_getD, List.getElem?_set_ne (by omega), ← List.getD_eq_getElem?_getD]
    rw [hb, hq]
    have : (a ≤ p ∧ p < a + k) ↔ (a ≤ p ∧ p < a + (k + 1)) := by omega
    rw [decide_eq_decide.mpr this]
theorem list_bits {l l' : List UInt8} (hl : l'.length = l.length) (h : ∀ p, p < 8 * l.length → bitAt l' p = bitAt l p) : l' = l := by
  refine List.ext_getElem hl fun i h1 h2 => ?_
  rw [← UInt8.toNat_inj]
  apply Nat.eq_of_testBit_eq
  intro j
  by_cases hj : j < 8
  · have := h (8 * i + j) (by omega)
    unfold bitAt at this
    rw [show (8 * i + j) / 8 = i by omega, show (8 * i + j) % 8 = j by omega, List.getD_eq_getElem?_getD, List.getElem?_eq_getElem h1, List.getD_eq_getElem?_getD, List.getElem?_eq_getElem h2] at this
    exact this
  · have e : ∀ x : UInt8, x.toNat.testBit j = false := fun x => Nat.testBit_lt_two_pow (Nat.lt_of_lt_of_le x.toNat_lt (Nat.pow_le_pow_right (n := 2) (by omega) (show 8 ≤ j by omega)))
    rw [e, e]
/-- Nothing was turned. -/
theorem turned_none {l l' : List UInt8} {a k m : Nat} (h : turnedTo l l' a k m) (hm : ∀ j, j < k → m.testBit j = false) : l' = l :=
  list_bits h.1 fun p hp => by
    rw [h.2 p hp]
    by_cases e : a ≤ p ∧ p < a + k
    · simp [hm (p - a) (by omega)]
    · simp [e]
theorem turned_some {l l' : List UInt8} {a k m : Nat} (h : turnedTo l l' a k m) (hk : k ≤ 32) (ha : a + k ≤ 8 * l.length) (j : Nat) (hj : j < k) (hm : m.testBit j = true) (v : Nat) : crcRun v l' ≠ crcRun v l :=
  crc_burst v a k m l l' h.1 hk ha (fun h0 => by
    have : (m % 2 ^ k).testBit j = true := by rw [Nat.testBit_mod_two_pow]; simp [hj, hm]
    rw [h0] at this; simp at this) h.2
end Go.Proofs.Ytcicdgajhheipaa
