import Derived.Test.YtpgflnjpohmldaaMeterText6
import Derived.Test.YtpgflnjpohmldaaMeterWhole
set_option linter.unusedVariables false
namespace Go.Proofs.Ytpgflnjpohmldaa
open Go.RowKit FloatMath
/-- An int that a float holds, told by its float's parts. -/
theorem ofInt_held (v : Int) (h0 : v ≠ 0) (h1 : -9007199254740992 < v) (h2 : v < 9007199254740992) :
    ∃ k : Nat, k ≤ 52 ∧ oE (ofInt v) < 2047 ∧ oMan (ofInt v) = v.natAbs * 2 ^ k ∧ oExp (ofInt v) = -(k : Int) ∧ oNeg (ofInt v) = decide (v < 0) := by
  obtain ⟨p0, p1, p2, p3, p4, p5⟩ := ofInt_parts v h0 (by omega) (by omega)
  have two53 : (2 : Nat) ^ 53 = 9007199254740992 := by decide
  have hl : v.natAbs.log2 ≤ 52 := by
    have : v.natAbs.log2 < 53 := (Nat.log2_lt (by omega)).2 (by rw [two53]; omega)
    omega
  have hk := kept_bounds v.natAbs (by omega)
  have hr : rungI v.natAbs = (v.natAbs.log2 + 1022) * 4503599627370496 + v.natAbs * 2 ^ (52 - v.natAbs.log2) := by
    unfold rungI
    rw [show v.natAbs.log2 - 52 = 0 by omega, Nat.pow_zero, rne_one]
  have hlt : v.natAbs * 2 ^ (52 - v.natAbs.log2) < 9007199254740992 := by
    have b2 := (Nat.mul_lt_mul_right (show 0 < 2 ^ (52 - v.natAbs.log2) from Nat.pow_pos (by omega))).2 (show v.natAbs < 2 ^ (v.natAbs.log2 + 1) from Nat.lt_log2_self)
    rw [← Nat.pow_add, show v.natAbs.log2 + 1 + (52 - v.natAbs.log2) = 53 by omega, two53] at b2
    exact b2
  rw [show v.natAbs.log2 - 52 = 0 by omega, Nat.pow_zero, rne_one] at hk
  have hparts : ∀ s : Nat, ofInt v = s * 9223372036854775808 + rungI v.natAbs → oMan (ofInt v) = v.natAbs * 2 ^ (52 - v.natAbs.log2) ∧ oExp (ofInt v) = -((52 - v.natAbs.log2 : Nat) : Int) := fun s hs => by
    have hE : oE (ofInt v) = v.natAbs.log2 + 1023 := by rw [hs, hr]; unfold oE; omega
    refine ⟨?_, ?_⟩
    · unfold oMan; rw [hE, if_pos (by omega), hs, hr]; omega
    · unfold oExp; rw [hE, if_pos (by omega)]; omega
  refine ⟨52 - v.natAbs.log2, by omega, p1, ?_⟩
  rcases Int.lt_trichotomy v 0 with hv | hv | hv
  · have := hparts 1 (by rw [ofInt_neg v hv (by omega), show (-v).toNat = v.natAbs by omega, Nat.one_mul])
    exact ⟨this.1, this.2, p5⟩
  · exact absurd hv h0
  · have := hparts 0 (by rw [ofInt_pos v hv (by omega), show v.toNat = v.natAbs by omega, Nat.zero_mul, Nat.zero_add])
    exact ⟨this.1, this.2, p5⟩
theorem ofInt_edge : oMan (ofInt 9007199254740992) = 4503599627370496 ∧ oExp (ofInt 9007199254740992) = 1 ∧ oMan (ofInt (-9007199254740992)) = 4503599627370496 ∧ oExp (ofInt (-9007199254740992)) = 1 := by decide +kernel
theorem rhe_exact (V k : Nat) : rhe (V * 2 ^ k) k = V := by
  have hd : V * 2 ^ k / 2 ^ k = V := Nat.mul_div_cancel _ (Nat.two_pow_pos k)
  unfold rhe
  rw [if_neg, hd]
  rintro ⟨h0, h1, _⟩
  obtain ⟨j, rfl⟩ : ∃ j, k = j + 1 := ⟨k - 1, by omega⟩
  rw [Nat.add_sub_cancel, Nat.pow_succ, ← Nat.mul_assoc, Nat.mul_right_comm, Nat.mul_div_cancel _ (Nat.two_pow_pos j)] at h1
  omega
/-- The value of an int's float. -/
theorem held_value (v : Int) (h1 : -9007199254740992 ≤ v) (h2 : v ≤ 9007199254740992) :
    oE (ofInt v) < 2047 ∧ oNeg (ofInt v) = decide (v < 0) ∧ wholeN (ofInt v) = v.natAbs ∧ ∀ d, fixQ (oMan (ofInt v)) (oExp (ofInt v)) d = v.natAbs * 10 ^ d := by
  by_cases hv : v = 0
  · subst hv
    obtain ⟨z1, z2, z3⟩ := ofInt_zero_parts
    refine ⟨by omega, z3, ?_, fun d => ?_⟩
    · unfold wholeN; rw [z2]; simp
    · unfold fixQ; rw [z2]; simp [rhe_zero]
  · obtain ⟨p0, p1, p2, p3, p4, p5⟩ := ofInt_parts v hv (by omega) (by omega)
    refine ⟨p1, p5, ?_⟩
    by_cases he : v = 9007199254740992 ∨ v = -9007199254740992
    · have e : oMan (ofInt v) = 4503599627370496 ∧ oExp (ofInt v) = 1 ∧ v.natAbs = 9007199254740992 := by
        rcases he with rfl | rfl
        · exact ⟨ofInt_edge.1, ofInt_edge.2.1, rfl⟩
        · exact ⟨ofInt_edge.2.2.1, ofInt_edge.2.2.2, rfl⟩
      refine ⟨?_, fun d => ?_⟩
      · unfold wholeN; rw [e.1, e.2.1, e.2.2, if_pos (by omega)]; rfl
      · unfold fixQ; rw [e.1, e.2.1, e.2.2, if_pos (by omega)]; rfl
    · obtain ⟨k, hk, _, e1, e2, _⟩ := ofInt_held v hv (by omega) (by omega)
      refine ⟨?_, fun d => ?_⟩
      · unfold wholeN
        rw [e1, e2]
        rcases Nat.eq_zero_or_pos k with h | h
        · subst h; rw [if_pos (by omega)]; simp
        · rw [if_neg (by omega), show (- -(k : Int)).toNat = k by omega, show (- -(k : Int) - 1).toNat = k - 1 by omega, Nat.mul_div_cancel _ (Nat.two_pow_pos k)]
          obtain ⟨j, rfl⟩ : ∃ j, k = j + 1 := ⟨k - 1, by omega⟩
          rw [Nat.add_sub_cancel, Nat.pow_succ, ← Nat.mul_assoc, Nat.mul_right_comm, Nat.mul_div_cancel _ (Nat.two_pow_pos j)]
          omega
      · unfold fixQ
        rw [e1, e2]
        rcases Nat.eq_zero_or_pos k with h | h
        · subst h; rw [if_pos (by omega)]; simp
        · rw [if_neg (by omega), show (- -(k : Int)).toNat = k by omega, Nat.mul_right_comm, rhe_exact]
theorem whole_held (v : Int) (h1 : -9007199254740992 ≤ v) (h2 : v ≤ 9007199254740992) : wholeOut (ofInt v) = (v, 0) := by
  obtain ⟨a, b, c, _⟩ := held_value v h1 h2
  unfold wholeOut
  rw [if_pos (by unfold finB; rw [bne_iff_ne]; omega), b, c]
  by_cases h : v < 0
  · rw [decide_eq_true h, if_pos rfl, if_neg (by omega), show -((v.natAbs : Nat) : Int) = v by omega]
  · rw [decide_eq_false h, if_neg (by simp), if_neg (by omega), show ((v.natAbs : Nat) : Int) = v by omega]
/-- The digits of an int. -/
def decZ (v : Int) : ByteArray := ⟨((if v < 0 then [45] else []) ++ digT (padTo (digs v.natAbs) 1)).toArray⟩
def behZ (d : Nat) : ByteArray := ⟨(if d = 0 then [] else 46 :: List.replicate d 48).toArray⟩
theorem fix_held (v : Int) (d : Nat) (h1 : -9007199254740992 ≤ v) (h2 : v ≤ 9007199254740992) : fixZ (ofInt v) d = decZ v ++ behZ d := by
  obtain ⟨a, b, _, c⟩ := held_value v h1 h2
  apply ba_ext
  unfold fixZ decZ behZ
  rw [ba_app, b, c d]
  show _ ++ txtR (v.natAbs * 10 ^ d + 0) d = _
  rw [txtR_split v.natAbs 0 d (Nat.pow_pos (by omega))]
  have e : digT (padTo (digs 0) d) = List.replicate d 48 := by
    rw [digs_zero]; unfold padTo digT; simp
  rw [e]
  by_cases h : v < 0 <;> simp [h]
theorem ofInt_one : oMan (ofInt 1) = 4503599627370496 ∧ oExp (ofInt 1) = -52 ∧ oNeg (ofInt 1) = false := by decide +kernel
theorem ofInt_opp (v : Int) (h0 : v ≠ 0) (h1 : -9223372036854775807 ≤ v) (h2 : v ≤ 9223372036854775807) : oMan (ofInt (-v)) = oMan (ofInt v) ∧ oExp (ofInt (-v)) = oExp (ofInt v) := by
  have key : ∀ u : Int, 0 < u → u ≤ 9223372036854775807 → oMan (ofInt (-u)) = oMan (ofInt u) ∧ oExp (ofInt (-u)) = oExp (ofInt u) := fun u hu hu2 => by
    have e1 := ofInt_pos u hu (by omega)
    have e2 := ofInt_neg (-u) (by omega) (by omega)
    rw [show (- -u) = u by omega] at e2
    have hE : oE (ofInt (-u)) = oE (ofInt u) := by rw [e1, e2]; unfold oE; omega
    unfold oMan oExp
    rw [hE, e1, e2, show (9223372036854775808 + rungI u.toNat) % 4503599627370496 = rungI u.toNat % 4503599627370496 by omega]
    exact ⟨rfl, rfl⟩
  rcases Int.lt_trichotomy v 0 with h | h | h
  · have := key (-v) (by omega) (by omega)
    rw [show (- -v) = v by omega] at this
    exact ⟨this.1.symm, this.2.symm⟩
  · exact absurd h h0
  · exact key v h h2
theorem quo_one (v : Int) (h1 : -9223372036854775808 ≤ v) (h2 : v ≤ 9223372036854775807) : quotZ v 1 = bitsZ v := by
  rw [bitsZ_eq]
  unfold quotZ
  by_cases h : v = 0
  · subst h
    rw [if_pos rfl]
    have e : Ieee.double.word (oNeg (ofInt 0) != oNeg (ofInt 1)) 0 = ofInt 0 := by decide +kernel
    rw [e]
  · rw [if_neg h]
    obtain ⟨p0, p1, p2, p3, p4, p5⟩ := ofInt_parts v h h1 h2
    rw [ofInt_one.1, ofInt_one.2.1, ofInt_one.2.2]
    unfold quo
    have e54 : (2 : Nat) ^ 54 = 4 * 4503599627370496 := by decide
    rw [show (oNeg (ofInt v) != false) = oNeg (ofInt v) by cases oNeg (ofInt v) <;> rfl, e54, ← Nat.mul_assoc, Nat.mul_div_cancel _ (by omega), Nat.mul_mod_left]
    have := nearest_scale (oNeg (ofInt v)) (oMan (ofInt v)) 3 (oExp (ofInt v)) (oExp (ofInt v) - -52 - 55) (by omega) (by omega)
    rw [show 2 * (oMan (ofInt v) * 4) + ((0 : Nat) != 0).toNat = oMan (ofInt v) * 2 ^ 3 by simp; omega, this, nearest_back _ (ofInt_lt v) p1 (by omega)]
theorem quo_same (v u : Int) (s : Bool) (h : v ≠ 0) (h1 : -9223372036854775807 ≤ v) (h2 : v ≤ 9223372036854775807) (hm : oMan (ofInt u) = oMan (ofInt v)) (he : oExp (ofInt u) = oExp (ofInt v)) (hs : (oNeg (ofInt v) != oNeg (ofInt u)) = s) :
    quotZ v u = ((Ieee.double.nearest s 1 0 : Nat) : Int) := by
  unfold quotZ
  rw [if_neg h, hm, he, hs]
  obtain ⟨p0, p1, p2, p3, p4, p5⟩ := ofInt_parts v h (by omega) h2
  unfold quo
  rw [Nat.mul_comm (oMan (ofInt v)) (2 ^ 54), Nat.mul_div_cancel _ (show 0 < oMan (ofInt v) by omega), Nat.mul_mod_left]
  have := nearest_scale s 1 55 0 (oExp (ofInt v) - oExp (ofInt v) - 55) (by omega) (by omega)
  rw [← this]
  rfl
theorem quo_self (v : Int) (h : v ≠ 0) (h1 : -9223372036854775807 ≤ v) (h2 : v ≤ 9223372036854775807) : quotZ v v = bitsZ 1 := by
  rw [quo_same v v false h h1 h2 rfl rfl (by simp), bitsZ_eq]; rfl
theorem quo_opp (v : Int) (h : v ≠ 0) (h1 : -9223372036854775807 ≤ v) (h2 : v ≤ 9223372036854775807) : quotZ v (-v) = bitsZ (-1) := by
  obtain ⟨a, b⟩ := ofInt_opp v h h1 h2
  have e1 := (ofInt_parts v h (by omega) h2).2.2.2.2.2
  have e2 := (ofInt_parts (-v) (by omega) (by omega) (by omega)).2.2.2.2.2
  rw [quo_same v (-v) true h h1 h2 a b (by
    rw [e1, e2]
    by_cases hv : v < 0
    · rw [decide_eq_true hv, decide_eq_false (by omega)]; rfl
    · rw [decide_eq_false hv, decide_eq_true (by omega)]; rfl), bitsZ_eq]; rfl
end Go.Proofs.Ytpgflnjpohmldaa
