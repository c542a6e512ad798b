/- The plain law of the reference's sum: it is the float that IEEE 754 says. -/
import Derived.Test.YtpgflnjpohmldaaMeterSum0
namespace Go.Proofs.Ytpgflnjpohmldaa
open Go.RowKit FloatMath
theorem rndI_false (neg : Bool) (x : Nat) (z e : Int) (hz : z = x) : rndI neg z e false = ((Ieee.double.nearest neg x e : Nat) : Int) := by
  subst hz; unfold rndI rndB; rw [Int.toNat_natCast]; rfl
theorem rndI_true (neg : Bool) (x : Nat) (z e : Int) (hz : z = x) : rndI neg z e true = ((Ieee.double.nearest neg (2 * x + 1) (e - 1) : Nat) : Int) := by
  subst hz; unfold rndI rndB; rw [Int.toNat_natCast]; rfl
theorem sum_near (x y D : Nat) (hx : oE x < 2047) (hy : oE y < 2047) (hx0 : 0 < oMan x) (hy0 : 0 < oMan y) (hD : oExp x - oExp y = D) (hD10 : D ≤ 10) :
    ∃ r : Nat, Ieee.double.add x y = some r ∧ sumZ (oNeg x) (oNeg y) ((oMan x : Int) * 1024) ((oMan y * 2 ^ (10 - D) : Nat) : Int) false (oExp x - 10) = r := by
  have hp : 0 < 2 ^ (10 - D) := Nat.pow_pos (by omega)
  have hA : oMan x * 1024 = oMan x * 2 ^ D * 2 ^ (10 - D) := by
    rw [Nat.mul_assoc, ← Nat.pow_add, show D + (10 - D) = 10 by omega]
  have ha0 : 0 < oMan x * 2 ^ D := Nat.mul_pos hx0 (Nat.pow_pos (by omega))
  have hq : oExp x - 10 = oExp y - ((10 - D : Nat) : Int) := by omega
  by_cases hs : oNeg x = oNeg y
  · refine ⟨_, add_same x y D hx hy hD hs hy0, ?_⟩
    unfold sumZ
    rw [if_pos hs, rndI_false _ ((oMan x * 2 ^ D + oMan y) * 2 ^ (10 - D)) _ _ (by rw [Nat.add_mul, ← hA]; omega)]
    rw [nearest_scale _ _ _ (oExp y) _ (by omega) hq]
  · have hc : ∀ a b : Nat, a < b → a * 2 ^ (10 - D) < b * 2 ^ (10 - D) := fun a b h => (Nat.mul_lt_mul_right hp).2 h
    rcases Nat.lt_trichotomy (oMan x * 2 ^ D) (oMan y) with h | h | h
    · refine ⟨_, add_lt' x y D hx hy hD hs h, ?_⟩
      have := hc _ _ h
      rw [← hA] at this
      unfold sumZ
      rw [if_neg hs, if_pos (by omega), rndI_false _ ((oMan y - oMan x * 2 ^ D) * 2 ^ (10 - D)) _ _ (by rw [Nat.sub_mul, ← hA]; omega)]
      rw [nearest_scale _ _ _ (oExp y) _ (by omega) hq]
    · refine ⟨_, add_eq x y D hx hy hD hs h, ?_⟩
      rw [h] at hA
      unfold sumZ
      rw [if_neg hs, if_neg (by omega), if_pos (by omega), rndI_false _ 0 (0 : Int) _ rfl, nearest_zero]
      rfl
    · refine ⟨_, add_gt x y D hx hy hD hs h, ?_⟩
      have := hc _ _ h
      rw [← hA] at this
      unfold sumZ
      rw [if_neg hs, if_neg (by omega), if_neg (by omega)]
      rw [if_neg (by simp), rndI_false _ ((oMan x * 2 ^ D - oMan y) * 2 ^ (10 - D)) _ _ (by rw [Nat.sub_mul, ← hA]; omega)]
      rw [nearest_scale _ _ _ (oExp y) _ (by omega) hq]
theorem two53 : (2 : Nat) ^ 53 = 9007199254740992 := by decide
theorem sum_far (x y k : Nat) (hx : oE x < 2047) (hy : oE y < 2047) (hx0 : 4503599627370496 ≤ oMan x) (hy0 : 0 < oMan y) (hk : 0 < k) (hD : oExp x - oExp y = ((10 + k : Nat) : Int)) :
    ∃ r : Nat, Ieee.double.add x y = some r ∧ sumZ (oNeg x) (oNeg y) ((oMan x : Int) * 1024) ((oMan y / 2 ^ k : Nat) : Int) (oMan y % 2 ^ k != 0) (oExp x - 10) = r := by
  have hp : 0 < 2 ^ k := Nat.pow_pos (by omega)
  have hA : oMan x * 2 ^ (10 + k) = oMan x * 1024 * 2 ^ k := by rw [Nat.pow_add, ← Nat.mul_assoc]
  have hm := oMan_lt y
  obtain ⟨h1, h2⟩ := far_split (oMan y) k
  have hB : oMan y / 2 ^ k ≤ oMan y := Nat.div_le_self _ _
  have hB2 : oMan y / 2 ^ k < 4503599627370496 := by
    rw [Nat.div_lt_iff_lt_mul hp]
    have : 2 ^ 1 ≤ 2 ^ k := Nat.pow_le_pow_right (by omega) (by omega)
    have := Nat.mul_le_mul_left 4503599627370496 this
    omega
  generalize hq : oMan y / 2 ^ k = q at *
  generalize hr : oMan y % 2 ^ k = r at *
  have he : oExp y = oExp x - 10 - k := by omega
  by_cases hs : oNeg x = oNeg y
  · refine ⟨_, add_same x y _ hx hy hD hs hy0, ?_⟩
    rw [hA, h1, ← Nat.add_assoc, ← Nat.add_mul]
    unfold sumZ
    rw [if_pos hs]
    rcases Nat.eq_zero_or_pos r with hr0 | hr0
    · subst hr0
      rw [show ((0 : Nat) != 0) = false from rfl, rndI_false _ (oMan x * 1024 + q) _ _ (by omega), Nat.add_zero, nearest_scale _ _ _ (oExp x - 10) _ (by omega) he]
    · rw [show (r != 0) = true by rw [bne_iff_ne]; omega, rndI_true _ (oMan x * 1024 + q) _ _ (by omega)]
      rw [nearest_sticky _ (oMan x * 1024 + q) _ k (oExp x - 10) _ (by rw [two53]; omega) hk (by omega) (by rw [Nat.add_mul (oMan x * 1024 + q)]; omega) he]
  · have hlt : q * 2 ^ k + 2 ^ k ≤ oMan x * 1024 * 2 ^ k := by
      have := Nat.mul_le_mul_right (2 ^ k) (show q + 1 ≤ oMan x * 1024 by omega)
      rw [Nat.add_mul] at this; omega
    refine ⟨_, add_gt x y _ hx hy hD hs (by rw [hA]; omega), ?_⟩
    rw [hA]
    unfold sumZ
    rw [if_neg hs, if_neg (by omega), if_neg (by omega)]
    rcases Nat.eq_zero_or_pos r with hr0 | hr0
    · subst hr0
      rw [show ((0 : Nat) != 0) = false from rfl, if_neg (by simp), rndI_false _ (oMan x * 1024 - q) _ _ (by omega)]
      have e : oMan x * 1024 * 2 ^ k - oMan y = (oMan x * 1024 - q) * 2 ^ k := by rw [Nat.sub_mul]; omega
      rw [e, nearest_scale _ _ _ (oExp x - 10) _ (by omega) he]
    · rw [show (r != 0) = true by rw [bne_iff_ne]; omega, if_pos rfl, rndI_true _ (oMan x * 1024 - q - 1) _ _ (by omega)]
      have e : (oMan x * 1024 - q - 1) * 2 ^ k = oMan x * 1024 * 2 ^ k - q * 2 ^ k - 2 ^ k := by rw [Nat.sub_mul, Nat.sub_mul, Nat.one_mul]
      rw [nearest_sticky _ (oMan x * 1024 - q - 1) _ k (oExp x - 10) _ (by rw [two53]; omega) hk (by rw [e]; omega) (by rw [Nat.add_mul _ 1, e]; omega) he]
end Go.Proofs.Ytpgflnjpohmldaa
