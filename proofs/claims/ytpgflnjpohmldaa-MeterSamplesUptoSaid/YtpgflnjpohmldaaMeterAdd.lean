/- The walk of the reference's Add. -/
import Derived.Test.YtpgflnjpohmldaaMeterSum1
namespace Go.Proofs.Ytpgflnjpohmldaa
open Go.RowKit FloatMath
/-- Is the float of these bits finite? -/
def finB (x : Nat) : Bool := oE x != 2047
theorem finB_bits (x : Nat) (h : x < 18446744073709551616) : (bits BinOp.and IntKind.u64 (x : Int) 9218868437227405312 != 9218868437227405312) = finB x := by
  have e := u64_and_nat x 9218868437227405312 h (by omega)
  have e2 : x &&& 9218868437227405312 = x % 9223372036854775808 / 4503599627370496 * 4503599627370496 := nat_midmask 63 52 x (by decide)
  have e3 : x % 9223372036854775808 / 4503599627370496 = oE x := by unfold oE; omega
  rw [show ((9218868437227405312 : Int)) = ((9218868437227405312 : Nat) : Int) from rfl, e, e2, e3]
  unfold finB
  have := oE_le x
  by_cases h : oE x = 2047
  · rw [h]; rfl
  · have h1 : (oE x != 2047) = true := by rw [bne_iff_ne]; exact h
    rw [h1, bne_iff_ne]; omega
theorem finB_lt (x : Nat) (h : finB x = true) : oE x < 2047 := by
  have := oE_le x
  unfold finB at h
  rw [bne_iff_ne] at h; omega
theorem finB_ge (x : Nat) (h : finB x = false) : oE x = 2047 := by
  unfold finB at h
  simpa using h
theorem rfinite_calls (x : Nat) (hx : x < 18446744073709551616) (w : World) : Calls Try.prog 42 #[.int .u64 x] w fun e w' => e = .returned (.bool (finB x)) ∧ w = w' := by
  have h := finB_bits x hx
  have H := Lib.hid hx
  clear hx
  go_enter Try.func42, Try.ntmps42
  go_wp2
  go_ret
  exact ⟨rfl, rfl⟩
/-- What both say of a sum. -/
def addOut (x y : Nat) : Int × Int :=
  if finB x = true ∧ finB y = true then
    (let r := (Ieee.double.add x y).getD 0
     if finB r = true then ((r : Int), 0) else (0, 11))
  else (0, 251)
theorem oExp_le (x : Nat) (h : oE x < 2047) : oExp x ≤ 971 := by unfold oExp; split <;> omega
theorem oExp_ge (x : Nat) : -1074 ≤ oExp x := by unfold oExp; split <;> omega
theorem oMan_normal (x : Nat) (h : -1074 < oExp x) : 4503599627370496 ≤ oMan x := by
  unfold oExp at h; unfold oMan
  split
  · omega
  · rename_i h'; rw [if_neg h'] at h; omega
theorem near_shift (ym D : Nat) (hym : ym < 9007199254740992) (_h : D ≤ 10) : ym * 2 ^ (10 - D) < 9223372036854775808 := by
  have : 2 ^ (10 - D) ≤ 2 ^ 10 := Nat.pow_le_pow_right (by omega) (by omega)
  have h2 := Nat.mul_le_mul_left ym this
  omega
/-- The reference's sum of two finite floats that are not 0. -/
theorem rsum_words (x y : Nat) (hfx : oE x < 2047) (hfy : oE y < 2047) (hx0 : 0 < oMan x) (hy0 : 0 < oMan y) (hle : oExp y ≤ oExp x) (w : World) :
    Calls Try.prog 43 #[.agg #[.bool (oNeg x), .int .u64 (oMan x), .int .i64 (oExp x)], .agg #[.bool (oNeg y), .int .u64 (oMan y), .int .i64 (oExp y)]] w fun e w' => e = .returned (.int .u64 (((Ieee.double.add x y).getD 0 : Nat) : Int)) ∧ Below w.heap.size w w' := by
  have hmx := oMan_lt x
  have hmy := oMan_lt y
  have hx1 := oExp_le x hfx
  have hy1 := oExp_ge y
  obtain ⟨D, hD⟩ : ∃ D : Nat, oExp x - oExp y = D := ⟨(oExp x - oExp y).toNat, by omega⟩
  by_cases hn : D ≤ 10
  · obtain ⟨r, hr, hz⟩ := sum_near x y D hfx hfy hx0 hy0 hD hn
    have hb := near_shift (oMan y) D hmy hn
    have e1 : IntKind.u64.wrap ((oMan y : Int) * 2 ^ (10 - (oExp y + (D : Int) - oExp y)).toNat) = ((oMan y * 2 ^ (10 - D) : Nat) : Int) := by
      rw [show (10 - (oExp y + (D : Int) - oExp y)).toNat = 10 - D by omega]
      have e : (oMan y : Int) * 2 ^ (10 - D) = ((oMan y * 2 ^ (10 - D) : Nat) : Int) := by push_cast; rfl
      rw [e]
      generalize oMan y * 2 ^ (10 - D) = q at *
      rw [IntKind.wrap_u64]; omega
    have h := rsum_near (oNeg x) (oNeg y) (oMan x) (oMan y) D (oExp y) ((oMan y * 2 ^ (10 - D) : Nat) : Int) (by omega) (by omega) (by omega) (by omega) hy1 (by omega) e1
      (fun hd => by obtain rfl : D = 10 := by omega
                    rw [show 10 - 10 = 0 from rfl, Nat.pow_zero, Nat.mul_one]) (by omega) (by omega) w
    rw [show oExp y + (D : Int) = oExp x by omega, hz] at h
    rw [hr]; exact h
  · obtain ⟨k, rfl⟩ : ∃ k, D = 10 + k := ⟨D - 10, by omega⟩
    have hnx := oMan_normal x (by omega)
    obtain ⟨r, hr, hz⟩ := sum_far x y k hfx hfy hnx hy0 (by omega) hD
    have hB2 : oMan y / 2 ^ k < 4503599627370496 := by
      rw [Nat.div_lt_iff_lt_mul (Nat.pow_pos (by omega))]
      have : 2 ^ 1 ≤ 2 ^ k := Nat.pow_le_pow_right (by omega) (by omega)
      have := Nat.mul_le_mul_left 4503599627370496 this
      omega
    have hsh : ∀ w, Calls Try.prog 46 #[.int .u64 (oMan y), .int .i64 (oExp y + ((10 + k : Nat) : Int) - oExp y - 10)] w fun e w' => e = .returned (.tuple #[.int .u64 ((oMan y / 2 ^ k : Nat) : Int), .bool (oMan y % 2 ^ k != 0)]) ∧ w = w' := by
      intro w
      rw [show oExp y + ((10 + k : Nat) : Int) - oExp y - 10 = k by omega]
      by_cases hk : k < 64
      · exact rshifted_calls (oMan y) k hmy hk w
      · have h := rshifted_far (oMan y) k (by omega) w
        have hbig : oMan y < 2 ^ k := by
          have : 2 ^ 53 ≤ 2 ^ k := Nat.pow_le_pow_right (by omega) (by omega)
          rw [two53] at this; omega
        rw [Nat.div_eq_of_lt hbig, Nat.mod_eq_of_lt hbig]
        have e : (((oMan y : Nat) : Int) != 0) = (oMan y != 0) := by
          have h1 : (((oMan y : Nat) : Int) != 0) = true := by rw [bne_iff_ne]; omega
          have h2 : (oMan y != 0) = true := by rw [bne_iff_ne]; omega
          rw [h1, h2]
        rw [e] at h; exact h
    have h := rsum_far (oNeg x) (oNeg y) (oMan x) (oMan y) ((10 + k : Nat) : Int) (oExp y) ((oMan y / 2 ^ k : Nat) : Int) (oMan y % 2 ^ k != 0) (by omega) (by omega) (by omega) hy1 (by omega) hsh (Int.natCast_nonneg _) (Int.ofNat_lt.2 hB2) w
    rw [show oExp y + ((10 + k : Nat) : Int) = oExp x by omega, hz] at h
    rw [hr]; exact h
theorem add_zeros (x y : Nat) (hfx : oE x < 2047) (hfy : oE y < 2047) (hx0 : oMan x = 0) (hy0 : oMan y = 0) : Ieee.double.add x y = some (Ieee.double.word (oNeg x && oNeg y) 0) := by
  unfold Ieee.Format.add
  rw [read_finite x hfx, read_finite y hfy, hx0, hy0]
  simp only [Ieee.Datum.sum, Option.map_some, Ieee.Format.write]
  have e : ∀ (s : Bool) (n : Nat), Ieee.signed s 0 n = 0 := fun s n => by rw [signed_val, Nat.zero_mul]; cases s <;> rfl
  rw [e, e, if_pos (by rfl)]
  exact congrArg some (nearest_zero _ _)
theorem add_zero_left (x y : Nat) (hfx : oE x < 2047) (hfy : oE y < 2047) (hy : y < 18446744073709551616) (hx0 : oMan x = 0) (hy0 : 0 < oMan y) : Ieee.double.add x y = some y := by
  have key : ∀ (t : Bool) (m n : Nat) (p q : Int), 0 < m → q = p - n → (if Ieee.signed t m n = 0 then (false && t) else decide (Ieee.signed t m n < 0)) = t ∧ Ieee.double.nearest t (Ieee.signed t m n).natAbs q = Ieee.double.nearest t m p := fun t m n p q hm hq => by
    have hp : 0 < m * 2 ^ n := Nat.mul_pos hm (Nat.pow_pos (by omega))
    rw [signed_val]
    generalize hg : m * 2 ^ n = g at *
    refine ⟨?_, ?_⟩
    · cases t
      · simp only [Bool.false_eq_true, if_false]; rw [if_neg (by omega), decide_eq_false (by omega)]
      · simp only [if_true]; rw [if_neg (by omega), decide_eq_true (by omega)]
    · have : (if t = true then -(g : Int) else (g : Int)).natAbs = g := by cases t <;> simp
      rw [this, ← hg]; exact nearest_scale t m n p q hm hq
  unfold Ieee.Format.add
  rw [read_finite x hfx, read_finite y hfy, hx0]
  simp only [Ieee.Datum.sum, Option.map_some, Ieee.Format.write]
  have e : ∀ (s : Bool) (n : Nat), Ieee.signed s 0 n = 0 := fun s n => by rw [signed_val, Nat.zero_mul]; cases s <;> rfl
  rw [e, Int.zero_add]
  obtain ⟨k1, k2⟩ := key (oNeg y) (oMan y) (oExp y - min (oExp x) (oExp y)).toNat (oExp y) (min (oExp x) (oExp y)) hy0 (by omega)
  have hne : ¬ Ieee.signed (oNeg y) (oMan y) (oExp y - min (oExp x) (oExp y)).toNat = 0 := by
    rw [signed_val]
    have hp : 0 < oMan y * 2 ^ (oExp y - min (oExp x) (oExp y)).toNat := Nat.mul_pos hy0 (Nat.pow_pos (by omega))
    generalize oMan y * 2 ^ (oExp y - min (oExp x) (oExp y)).toNat = g at *
    cases oNeg y <;> simp <;> omega
  rw [if_neg hne] at k1 ⊢
  rw [k1, k2, nearest_back y hy hfy hy0]
theorem rsigned_zero (n : Bool) (w : World) : Calls Try.prog 39 #[.bool n, .int .u64 0] w fun e w' => e = .returned (.int .u64 ((Ieee.double.word n 0 : Nat) : Int)) ∧ w = w' := by
  have h := rsigned_calls' n 0 w
  rw [show sgnZ n 0 = ((Ieee.double.word n 0 : Nat) : Int) from sgnZ_word n 0 (by omega)] at h
  exact h
theorem word_zero_lt (n : Bool) : Ieee.double.word n 0 < 18446744073709551616 := by cases n <;> decide
theorem add_word_lt (x y : Nat) : (Ieee.double.add x y).getD 0 < 18446744073709551616 := by
  have e : 2 ^ Ieee.double.width = 18446744073709551616 := by decide
  cases h : Ieee.double.add x y with
  | none => simp
  | some r => have := Ieee.Format.add_lt Ieee.double h; simp only [Option.getD_some]; omega
theorem addOut_fin (x y r : Nat) (hf : finB x = true ∧ finB y = true) (h : Ieee.double.add x y = some r) :
    addOut x y = if finB r = true then ((r : Int), 0) else (0, 11) := by
  unfold addOut; rw [if_pos hf, h]; rfl
theorem addOut_yes (x y r : Nat) (hf : finB x = true ∧ finB y = true) (h : Ieee.double.add x y = some r) (hr : finB r = true) : addOut x y = ((r : Int), 0) := by
  rw [addOut_fin x y r hf h, if_pos hr]
theorem addOut_no (x y r : Nat) (hf : finB x = true ∧ finB y = true) (h : Ieee.double.add x y = some r) (hr : finB r = false) : addOut x y = (0, 11) := by
  rw [addOut_fin x y r hf h, if_neg (by rw [hr]; simp)]
theorem addOut_bad (x y : Nat) (hf : ¬ (finB x = true ∧ finB y = true)) : addOut x y = (0, 251) := by unfold addOut; rw [if_neg hf]
set_option maxRecDepth 100000 in
set_option maxHeartbeats 4000000 in
theorem radd_calls (x y : Nat) (hx : x < 18446744073709551616) (hy : y < 18446744073709551616) (w : World) :
    Calls Try.prog 19 #[.int .u64 x, .int .u64 y] w fun e w' => e = .returned (.tuple #[.int .u64 (addOut x y).1, .int .i64 (addOut x y).2]) ∧ Below w.heap.size w w' := by
  have HX := Lib.hid hx
  have HY := Lib.hid hy
  by_cases hf : finB x = true ∧ finB y = true
  · obtain ⟨h1, h2⟩ := hf
    have e1 := finB_lt x h1
    have e2 := finB_lt y h2
    obtain ⟨R, hR⟩ : ∃ R, Ieee.double.add x y = some R := by
      rcases Nat.eq_zero_or_pos (oMan x) with a | a
      · rcases Nat.eq_zero_or_pos (oMan y) with b | b
        · exact ⟨_, add_zeros x y e1 e2 a b⟩
        · exact ⟨_, add_zero_left x y e1 e2 hy a b⟩
      · rcases Nat.eq_zero_or_pos (oMan y) with b | b
        · exact ⟨_, by rw [add_comm']; exact add_zero_left y x e2 e1 hx b a⟩
        · unfold Ieee.Format.add
          rw [read_finite x e1, read_finite y e2]
          exact ⟨_, rfl⟩
    have HR : Hid (R < 18446744073709551616) := Lib.hid (by have := add_word_lt x y; rw [hR] at this; exact this)
    have HO := Lib.hid (And.intro (addOut_yes x y R ⟨h1, h2⟩ hR) (addOut_no x y R ⟨h1, h2⟩ hR))
    have HXY := Lib.hid (And.intro hx hy)
    clear hx hy
    rcases Nat.eq_zero_or_pos (oMan x) with a | a
    · have hx0 : (((oMan x : Nat) : Int) == 0) = true := by rw [a]; rfl
      rcases Nat.eq_zero_or_pos (oMan y) with b | b
      · have hy0 : (((oMan y : Nat) : Int) == 0) = true := by rw [b]; rfl
        have hRw : R = Ieee.double.word (oNeg x && oNeg y) 0 := by have := add_zeros x y e1 e2 a b; rw [hR] at this; exact Option.some.inj this
        have HRw := Lib.hid hRw
        clear hR e1 e2 a b hRw
        cases hnx : oNeg x
        · have HR2 := Lib.hid (show R = Ieee.double.word false 0 by rw [HRw.out, hnx]; rfl)
          go_enter Try.func19, Try.ntmps19
          go_wp2_with (first | (go_at_call 42; first | (refine (rfinite_calls x HX.out _).mono ?_; rintro e w1 ⟨rfl, rfl⟩) | (refine (rfinite_calls y HY.out _).mono ?_; rintro e w1 ⟨rfl, rfl⟩)))
          go_at_call 38
          refine (ropen_calls x HX.out _).mono ?_
          rintro e w1 ⟨rfl, hb1⟩
          go_wp2_with fail
          go_at_call 38
          refine (ropen_calls y HY.out _).mono ?_
          rintro e w2 ⟨rfl, hb2⟩
          obtain ⟨hc2, hf2⟩ := bcell hb2
          have hz2 : w1.heap.size < w2.heap.size := by have := hb2.size; simp at this; omega
          have hbel : Below w.heap.size w w2 := belowThen hb1 (((Below.refl w1.heap.size w1).alloc (Nat.le_refl _) _).trans (hb2.mono (by simp)))
          go_wp2_with fail
          go_at_call 39
          refine (rsigned_zero _ _).mono ?_
          rintro e w3 ⟨rfl, rfl⟩
          rw [← HR2.out]
          cases hfr : finB R
          all_goals
            go_wp2_with fail
            go_at_call 42
            refine (rfinite_calls R HR.out _).mono ?_
            rintro e w4 ⟨rfl, rfl⟩
            rw [hfr]
            go_wp2
            go_ret2
          · exact ⟨show Ending.returned (.tuple #[.int .u64 0, .int .i64 11]) = _ from by rw [HO.out.2 hfr], hbel.alloc hbel.size _⟩
          · exact ⟨show Ending.returned (.tuple #[.int .u64 (R : Int), .int .i64 0]) = _ from by rw [HO.out.1 hfr], hbel.alloc hbel.size _⟩
        · have HR2 := Lib.hid (show R = Ieee.double.word (oNeg y) 0 by rw [HRw.out, hnx]; rfl)
          go_enter Try.func19, Try.ntmps19
          go_wp2_with (first | (go_at_call 42; first | (refine (rfinite_calls x HX.out _).mono ?_; rintro e w1 ⟨rfl, rfl⟩) | (refine (rfinite_calls y HY.out _).mono ?_; rintro e w1 ⟨rfl, rfl⟩)))
          go_at_call 38
          refine (ropen_calls x HX.out _).mono ?_
          rintro e w1 ⟨rfl, hb1⟩
          go_wp2_with fail
          go_at_call 38
          refine (ropen_calls y HY.out _).mono ?_
          rintro e w2 ⟨rfl, hb2⟩
          obtain ⟨hc2, hf2⟩ := bcell hb2
          have hz2 : w1.heap.size < w2.heap.size := by have := hb2.size; simp at this; omega
          have hbel : Below w.heap.size w w2 := belowThen hb1 (((Below.refl w1.heap.size w1).alloc (Nat.le_refl _) _).trans (hb2.mono (by simp)))
          go_wp2_with fail
          go_at_call 39
          refine (rsigned_zero _ _).mono ?_
          rintro e w3 ⟨rfl, rfl⟩
          rw [← HR2.out]
          cases hfr : finB R
          all_goals
            go_wp2_with fail
            go_at_call 42
            refine (rfinite_calls R HR.out _).mono ?_
            rintro e w4 ⟨rfl, rfl⟩
            rw [hfr]
            go_wp2
            go_ret2
          · exact ⟨show Ending.returned (.tuple #[.int .u64 0, .int .i64 11]) = _ from by rw [HO.out.2 hfr], hbel.alloc hbel.size _⟩
          · exact ⟨show Ending.returned (.tuple #[.int .u64 (R : Int), .int .i64 0]) = _ from by rw [HO.out.1 hfr], hbel.alloc hbel.size _⟩
      · have hy0 : (((oMan y : Nat) : Int) == 0) = false := by rw [beq_eq_false_iff_ne]; omega
        have hRw : R = y := by have := add_zero_left x y e1 e2 HXY.out.2 a b; rw [hR] at this; exact Option.some.inj this
        have HV := Lib.hid (show addOut x y = ((y : Int), 0) by rw [HO.out.1 (by rw [hRw]; exact h2), hRw])
        clear hR e1 e2 a b hRw HO
        go_enter Try.func19, Try.ntmps19
        go_wp2_with (first | (go_at_call 42; first | (refine (rfinite_calls x HX.out _).mono ?_; rintro e w1 ⟨rfl, rfl⟩) | (refine (rfinite_calls y HY.out _).mono ?_; rintro e w1 ⟨rfl, rfl⟩)))
        go_at_call 38
        refine (ropen_calls x HX.out _).mono ?_
        rintro e w1 ⟨rfl, hb1⟩
        go_wp2_with fail
        go_at_call 38
        refine (ropen_calls y HY.out _).mono ?_
        rintro e w2 ⟨rfl, hb2⟩
        obtain ⟨hc2, hf2⟩ := bcell hb2
        have hz2 : w1.heap.size < w2.heap.size := by have := hb2.size; simp at this; omega
        have hbel : Below w.heap.size w w2 := belowThen hb1 (((Below.refl w1.heap.size w1).alloc (Nat.le_refl _) _).trans (hb2.mono (by simp)))
        go_wp2_with fail
        go_at_call 42
        refine (rfinite_calls y HY.out _).mono ?_
        rintro e w4 ⟨rfl, rfl⟩
        go_wp2
        go_ret2
        exact ⟨show Ending.returned (.tuple #[.int .u64 (y : Int), .int .i64 0]) = _ from by rw [HV.out], hbel.alloc hbel.size _⟩
    · have hx0 : (((oMan x : Nat) : Int) == 0) = false := by rw [beq_eq_false_iff_ne]; omega
      rcases Nat.eq_zero_or_pos (oMan y) with b | b
      · have hy0 : (((oMan y : Nat) : Int) == 0) = true := by rw [b]; rfl
        have hRw : R = x := by have := add_zero_left y x e2 e1 HXY.out.1 b a; rw [add_comm', hR] at this; exact Option.some.inj this
        have HV := Lib.hid (show addOut x y = ((x : Int), 0) by rw [HO.out.1 (by rw [hRw]; exact h1), hRw])
        clear hR e1 e2 a b hRw HO
        go_enter Try.func19, Try.ntmps19
        go_wp2_with (first | (go_at_call 42; first | (refine (rfinite_calls x HX.out _).mono ?_; rintro e w1 ⟨rfl, rfl⟩) | (refine (rfinite_calls y HY.out _).mono ?_; rintro e w1 ⟨rfl, rfl⟩)))
        go_at_call 38
        refine (ropen_calls x HX.out _).mono ?_
        rintro e w1 ⟨rfl, hb1⟩
        go_wp2_with fail
        go_at_call 38
        refine (ropen_calls y HY.out _).mono ?_
        rintro e w2 ⟨rfl, hb2⟩
        obtain ⟨hc2, hf2⟩ := bcell hb2
        have hz2 : w1.heap.size < w2.heap.size := by have := hb2.size; simp at this; omega
        have hbel : Below w.heap.size w w2 := belowThen hb1 (((Below.refl w1.heap.size w1).alloc (Nat.le_refl _) _).trans (hb2.mono (by simp)))
        go_wp2_with fail
        go_at_call 42
        refine (rfinite_calls x HX.out _).mono ?_
        rintro e w4 ⟨rfl, rfl⟩
        go_wp2
        go_ret2
        exact ⟨show Ending.returned (.tuple #[.int .u64 (x : Int), .int .i64 0]) = _ from by rw [HV.out], hbel.alloc hbel.size _⟩
      · have hy0 : (((oMan y : Nat) : Int) == 0) = false := by rw [beq_eq_false_iff_ne]; omega
        have hgR : (Ieee.double.add x y).getD 0 = R := by rw [hR]; rfl
        have hgR2 : (Ieee.double.add y x).getD 0 = R := by rw [add_comm', hR]; rfl
        rcases Int.lt_or_le (oExp x) (oExp y) with c | c
        · have hs := rsum_words y x e2 e1 b a (by omega)
          rw [hgR2] at hs
          have HS := Lib.hid hs
          clear hR e1 e2 a b hs hgR hgR2
          go_enter Try.func19, Try.ntmps19
          go_wp2_with (first | (go_at_call 42; first | (refine (rfinite_calls x HX.out _).mono ?_; rintro e w1 ⟨rfl, rfl⟩) | (refine (rfinite_calls y HY.out _).mono ?_; rintro e w1 ⟨rfl, rfl⟩)))
          go_at_call 38
          refine (ropen_calls x HX.out _).mono ?_
          rintro e w1 ⟨rfl, hb1⟩
          go_wp2_with fail
          go_at_call 38
          refine (ropen_calls y HY.out _).mono ?_
          rintro e w2 ⟨rfl, hb2⟩
          obtain ⟨hc2, hf2⟩ := bcell hb2
          have hz2 : w1.heap.size < w2.heap.size := by have := hb2.size; simp at this; omega
          have hbel : Below w.heap.size w w2 := belowThen hb1 (((Below.refl w1.heap.size w1).alloc (Nat.le_refl _) _).trans (hb2.mono (by simp)))
          go_wp2_with fail
          go_at_call 43
          refine (HS.out _).mono ?_
          rintro e w3 ⟨rfl, hb3⟩
          cases hfr : finB R
          all_goals
            go_wp2_with fail
            go_at_call 42
            refine (rfinite_calls R HR.out _).mono ?_
            rintro e w4 ⟨rfl, rfl⟩
            rw [hfr]
            go_wp2
            go_ret2
          · exact ⟨show Ending.returned (.tuple #[.int .u64 0, .int .i64 11]) = _ from by rw [HO.out.2 hfr], belowThen (hbel.alloc hbel.size _) hb3⟩
          · exact ⟨show Ending.returned (.tuple #[.int .u64 (R : Int), .int .i64 0]) = _ from by rw [HO.out.1 hfr], belowThen (hbel.alloc hbel.size _) hb3⟩
        · have hs := rsum_words x y e1 e2 a b c
          rw [hgR] at hs
          have HS := Lib.hid hs
          clear hR e1 e2 a b hs hgR hgR2
          go_enter Try.func19, Try.ntmps19
          go_wp2_with (first | (go_at_call 42; first | (refine (rfinite_calls x HX.out _).mono ?_; rintro e w1 ⟨rfl, rfl⟩) | (refine (rfinite_calls y HY.out _).mono ?_; rintro e w1 ⟨rfl, rfl⟩)))
          go_at_call 38
          refine (ropen_calls x HX.out _).mono ?_
          rintro e w1 ⟨rfl, hb1⟩
          go_wp2_with fail
          go_at_call 38
          refine (ropen_calls y HY.out _).mono ?_
          rintro e w2 ⟨rfl, hb2⟩
          obtain ⟨hc2, hf2⟩ := bcell hb2
          have hz2 : w1.heap.size < w2.heap.size := by have := hb2.size; simp at this; omega
          have hbel : Below w.heap.size w w2 := belowThen hb1 (((Below.refl w1.heap.size w1).alloc (Nat.le_refl _) _).trans (hb2.mono (by simp)))
          go_wp2_with fail
          go_at_call 43
          refine (HS.out _).mono ?_
          rintro e w3 ⟨rfl, hb3⟩
          cases hfr : finB R
          all_goals
            go_wp2_with fail
            go_at_call 42
            refine (rfinite_calls R HR.out _).mono ?_
            rintro e w4 ⟨rfl, rfl⟩
            rw [hfr]
            go_wp2
            go_ret2
          · exact ⟨show Ending.returned (.tuple #[.int .u64 0, .int .i64 11]) = _ from by rw [HO.out.2 hfr], belowThen (hbel.alloc hbel.size _) hb3⟩
          · exact ⟨show Ending.returned (.tuple #[.int .u64 (R : Int), .int .i64 0]) = _ from by rw [HO.out.1 hfr], belowThen (hbel.alloc hbel.size _) hb3⟩
  · have HO := Lib.hid (addOut_bad x y hf)
    clear hx hy
    cases h1 : finB x
    · go_enter Try.func19, Try.ntmps19
      go_wp2_with (first | (go_at_call 42; first | (refine (rfinite_calls x HX.out _).mono ?_; rintro e w1 ⟨rfl, rfl⟩) | (refine (rfinite_calls y HY.out _).mono ?_; rintro e w1 ⟨rfl, rfl⟩)))
      all_goals go_ret2
      all_goals exact ⟨show Ending.returned (.tuple #[.int .u64 0, .int .i64 251]) = _ from by rw [HO.out], Below.refl _ _⟩
    · have h2 : finB y = false := by
        cases h2 : finB y
        · rfl
        · exact absurd ⟨h1, h2⟩ hf
      clear hf
      go_enter Try.func19, Try.ntmps19
      go_wp2_with (first | (go_at_call 42; first | (refine (rfinite_calls x HX.out _).mono ?_; rintro e w1 ⟨rfl, rfl⟩) | (refine (rfinite_calls y HY.out _).mono ?_; rintro e w1 ⟨rfl, rfl⟩)))
      go_ret2
      exact ⟨show Ending.returned (.tuple #[.int .u64 0, .int .i64 251]) = _ from by rw [HO.out], Below.refl _ _⟩
end Go.Proofs.Ytpgflnjpohmldaa
