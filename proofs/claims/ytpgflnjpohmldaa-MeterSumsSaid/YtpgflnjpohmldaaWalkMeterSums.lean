/- MeterSums: for all bits and ints the law answers true: sums ask for no order, are exact where a float holds them; a float and its opposite are 0; 0 changes nothing. -/
import Derived.Test.YtpgflnjpohmldaaMeterAdd2
import Derived.Deep.DeepCutAuto
import Derived.Deep.CutBlock
set_option linter.unusedVariables false
namespace Go.Proofs.Ytpgflnjpohmldaa
open Go.RowKit FloatMath
/-- A small int's float, told by its parts. -/
theorem ofInt_small (v : Int) (h0 : v ≠ 0) (h1 : -4503599627370496 ≤ v) (h2 : v ≤ 4503599627370496) :
    ∃ k : Nat, k ≤ 52 ∧ oE (ofInt v) < 2047 ∧ oMan (ofInt v) = v.natAbs * 2 ^ k ∧ oExp (ofInt v) = -(k : Int) ∧ oNeg (ofInt v) = decide (v < 0) := by
  obtain ⟨p0, p1, p2, p3, p4, p5⟩ := ofInt_parts v h0 (by omega) (by omega)
  have hl : v.natAbs.log2 ≤ 52 := by
    have : v.natAbs.log2 < 53 := (Nat.log2_lt (by omega)).2 (by rw [two53]; omega)
    omega
  have hk := kept_bounds v.natAbs (by omega)
  have hr : rungI v.natAbs = (v.natAbs.log2 + 1022) * 4503599627370496 + v.natAbs * 2 ^ (52 - v.natAbs.log2) := by
    unfold rungI
    rw [show v.natAbs.log2 - 52 = 0 by omega, Nat.pow_zero, rne_one]
  have hlt : v.natAbs * 2 ^ (52 - v.natAbs.log2) < 9007199254740992 := by
    have b2 := (Nat.mul_lt_mul_right (show 0 < 2 ^ (52 - v.natAbs.log2) from Nat.pow_pos (by omega))).2 (show v.natAbs < 2 ^ (v.natAbs.log2 + 1) from Nat.lt_log2_self)
    rw [← Nat.pow_add, show v.natAbs.log2 + 1 + (52 - v.natAbs.log2) = 53 by omega, two53] at b2
    exact b2
  rw [show v.natAbs.log2 - 52 = 0 by omega, Nat.pow_zero, rne_one] at hk
  have hparts : ∀ s : Nat, ofInt v = s * 9223372036854775808 + rungI v.natAbs → oMan (ofInt v) = v.natAbs * 2 ^ (52 - v.natAbs.log2) ∧ oExp (ofInt v) = -((52 - v.natAbs.log2 : Nat) : Int) := fun s hs => by
    have hE : oE (ofInt v) = v.natAbs.log2 + 1023 := by rw [hs, hr]; unfold oE; omega
    refine ⟨?_, ?_⟩
    · unfold oMan; rw [hE, if_pos (by omega), hs, hr]; omega
    · unfold oExp; rw [hE, if_pos (by omega)]; omega
  refine ⟨52 - v.natAbs.log2, by omega, p1, ?_⟩
  rcases Int.lt_trichotomy v 0 with hv | hv | hv
  · have := hparts 1 (by rw [ofInt_neg v hv (by omega), show (-v).toNat = v.natAbs by omega, Nat.one_mul])
    exact ⟨this.1, this.2, p5⟩
  · exact absurd hv h0
  · have := hparts 0 (by rw [ofInt_pos v hv (by omega), show v.toNat = v.natAbs by omega, Nat.zero_mul, Nat.zero_add])
    exact ⟨this.1, this.2, p5⟩
theorem ofInt_fin (v : Int) (h1 : -9223372036854775808 ≤ v) (h2 : v ≤ 9223372036854775807) : oE (ofInt v) < 2047 := by
  by_cases h : v = 0
  · subst h; rw [ofInt_zero_parts.1]; omega
  · exact (ofInt_parts v h h1 h2).2.1
theorem val_small (v : Int) (h1 : -4503599627370496 ≤ v) (h2 : v ≤ 4503599627370496) (base : Int) (hb : base ≤ oExp (ofInt v)) (hb0 : base ≤ 0) :
    Ieee.signed (oNeg (ofInt v)) (oMan (ofInt v)) (oExp (ofInt v) - base).toNat = v * 2 ^ (-base).toNat := by
  by_cases h : v = 0
  · subst h
    rw [ofInt_zero_parts.2.1, ofInt_zero_parts.2.2, signed_val, Nat.zero_mul, Int.zero_mul]; rfl
  · obtain ⟨k, hk, _, e1, e2, e3⟩ := ofInt_small v h h1 h2
    rw [e2] at hb
    rw [e1, e2, e3, signed_val, Nat.mul_assoc, ← Nat.pow_add, show k + (-(k : Int) - base).toNat = (-base).toNat by omega]
    rw [Int.natCast_mul, Int.natCast_pow]
    by_cases hv : v < 0
    · rw [decide_eq_true hv, if_pos rfl, show ((v.natAbs : Nat) : Int) = -v by omega, Int.neg_mul, Int.neg_neg]; rfl
    · rw [decide_eq_false hv, if_neg (by simp), show ((v.natAbs : Nat) : Int) = v by omega]; rfl
theorem add_small (n m : Int) (h1 : -4503599627370496 ≤ n) (h2 : n ≤ 4503599627370496) (h3 : -4503599627370496 ≤ m) (h4 : m ≤ 4503599627370496) :
    Ieee.double.add (ofInt n) (ofInt m) = some (ofInt (n + m)) := by
  have hfn := ofInt_fin n (by omega) (by omega)
  have hfm := ofInt_fin m (by omega) (by omega)
  have hx : ∀ v : Int, -4503599627370496 ≤ v → v ≤ 4503599627370496 → oExp (ofInt v) ≤ 0 := fun v a b => by
    by_cases h : v = 0
    · subst h; unfold oExp; rw [ofInt_zero_parts.1]; simp
    · obtain ⟨k, _, _, _, e2, _⟩ := ofInt_small v h a b; omega
  have hn0 := hx n h1 h2
  unfold Ieee.Format.add
  rw [read_finite _ hfn, read_finite _ hfm]
  simp only [Ieee.Datum.sum, Option.map_some, Ieee.Format.write]
  rw [val_small n h1 h2 _ (by omega) (by omega), val_small m h3 h4 _ (by omega) (by omega), ← Int.add_mul]
  have hK : min (oExp (ofInt n)) (oExp (ofInt m)) = 0 - (((-min (oExp (ofInt n)) (oExp (ofInt m))).toNat : Nat) : Int) := by omega
  generalize hbase : min (oExp (ofInt n)) (oExp (ofInt m)) = base at *
  generalize (-base).toNat = K at *
  have hp : (0 : Int) < 2 ^ K := Int.pow_pos (by omega)
  refine congrArg some ?_
  by_cases h0 : n + m = 0
  · have hs : (oNeg (ofInt n) && oNeg (ofInt m)) = false := by
      by_cases hz : n = 0
      · subst hz; rw [ofInt_zero_parts.2.2]; rfl
      · have hz2 : m ≠ 0 := by omega
        obtain ⟨_, _, _, _, _, a⟩ := ofInt_small n hz h1 h2
        obtain ⟨_, _, _, _, _, b⟩ := ofInt_small m hz2 h3 h4
        rw [a, b]
        by_cases hn : n < 0
        · rw [decide_eq_false (show ¬ m < 0 by omega), Bool.and_false]
        · rw [decide_eq_false hn, Bool.false_and]
    rw [h0, Int.zero_mul, if_pos rfl, hs, show (0 : Int).natAbs = 0 from rfl, nearest_zero, ofInt_zero]; rfl
  · have hne : (n + m) * 2 ^ K ≠ 0 := Int.mul_ne_zero h0 (by omega)
    rw [if_neg hne, Int.natAbs_mul, show ((2 : Int) ^ K).natAbs = 2 ^ K by rw [Int.natAbs_pow]; rfl]
    rw [hK, nearest_scale _ _ K 0 _ (by omega) rfl]
    unfold ofInt
    congr 1
    by_cases hlt : n + m < 0
    · rw [decide_eq_true hlt, decide_eq_true (Int.mul_neg_of_neg_of_pos hlt hp)]
    · rw [decide_eq_false hlt, decide_eq_false (by have := Int.mul_pos (show 0 < n + m by omega) hp; omega)]
/-- The float with the other sign. -/
def flipS (a : Nat) : Nat := if a < 9223372036854775808 then a + 9223372036854775808 else a - 9223372036854775808
theorem xor_sign (a : Nat) (h : a < 18446744073709551616) : bits BinOp.xor IntKind.u64 (a : Int) 9223372036854775808 = ((flipS a : Nat) : Int) := by
  have e := bits_xor_u64_nat a 9223372036854775808 h (by omega)
  have e2 : a ^^^ 9223372036854775808 = flipS a := by
    unfold flipS
    apply Nat.eq_of_testBit_eq
    intro i
    have t63 : ∀ i, (9223372036854775808 : Nat).testBit i = decide (i = 63) := fun i => by
      rw [show (9223372036854775808 : Nat) = 2 ^ 63 by decide, Nat.testBit_two_pow]; simp [eq_comm]
    rw [Nat.testBit_xor, t63]
    by_cases hlt : a < 9223372036854775808
    · rw [if_pos hlt]
      have := nat_join 63 9223372036854775808 a (by decide) (by simpa using hlt)
      rw [show a + 9223372036854775808 = 9223372036854775808 ||| a by omega, Nat.testBit_or, t63]
      by_cases hi : i = 63
      · subst hi
        rw [Nat.testBit_lt_two_pow (show a < 2 ^ 63 by simpa using hlt)]; rfl
      · simp [hi]
    · rw [if_neg hlt]
      have hb : a - 9223372036854775808 < 9223372036854775808 := by omega
      have := nat_join 63 9223372036854775808 (a - 9223372036854775808) (by decide) (by simpa using hb)
      have ha : a = 9223372036854775808 ||| (a - 9223372036854775808) := by omega
      conv => lhs; rw [ha]
      rw [Nat.testBit_or, t63]
      by_cases hi : i = 63
      · subst hi
        rw [Nat.testBit_lt_two_pow (show a - 9223372036854775808 < 2 ^ 63 by simpa using hb)]; rfl
      · simp [hi]
  rw [show ((9223372036854775808 : Int)) = ((9223372036854775808 : Nat) : Int) from rfl, e, e2]
theorem flipS_parts (a : Nat) (h : a < 18446744073709551616) : flipS a < 18446744073709551616 ∧ oE (flipS a) = oE a ∧ oMan (flipS a) = oMan a ∧ oExp (flipS a) = oExp a ∧ oNeg (flipS a) = !oNeg a := by
  have hE : oE (flipS a) = oE a := by unfold flipS oE; split <;> omega
  have hM : flipS a % 4503599627370496 = a % 4503599627370496 := by unfold flipS; split <;> omega
  refine ⟨by unfold flipS; split <;> omega, hE, ?_, ?_, ?_⟩
  · unfold oMan; rw [hE, hM]
  · unfold oExp; rw [hE]
  · unfold oNeg flipS
    split
    · rw [show (a + 9223372036854775808) / 9223372036854775808 % 2 = 1 by omega, show a / 9223372036854775808 % 2 = 0 by omega]; rfl
    · rw [show (a - 9223372036854775808) / 9223372036854775808 % 2 = 0 by omega, show a / 9223372036854775808 % 2 = 1 by omega]; rfl
theorem add_flip (a : Nat) (h : a < 18446744073709551616) (hf : oE a < 2047) : Ieee.double.add a (flipS a) = some 0 := by
  obtain ⟨f0, f1, f2, f3, f4⟩ := flipS_parts a h
  rcases Nat.eq_zero_or_pos (oMan a) with h0 | h0
  · rw [add_zeros a _ hf (by omega) h0 (by omega), f4]
    cases oNeg a <;> decide
  · exact add_eq a _ 0 hf (by omega) (by rw [f3]; omega) (by rw [f4]; cases oNeg a <;> simp) (by rw [f2, Nat.pow_zero, Nat.mul_one])
theorem add_nought (a : Nat) (h : a < 18446744073709551616) (hf : oE a < 2047) : Ieee.double.add a 0 = some (if a = 9223372036854775808 then 0 else a) := by
  have z1 : oMan 0 = 0 := by decide
  have z2 : oE 0 < 2047 := by decide
  rcases Nat.eq_zero_or_pos (oMan a) with h0 | h0
  · rw [add_zeros a 0 hf z2 h0 z1, show oNeg 0 = false by decide, Bool.and_false]
    have hw : Ieee.double.word false 0 = 0 := by decide
    rw [hw]
    unfold oMan at h0
    split at h0
    · omega
    · rename_i hE
      unfold oE at hE
      by_cases ha : a = 9223372036854775808
      · rw [if_pos ha]
      · rw [if_neg ha]; congr 1; omega
  · rw [add_comm', add_zero_left 0 a z2 hf h z1 h0]
    by_cases ha : a = 9223372036854775808
    · subst ha; exact absurd h0 (by decide)
    · rw [if_neg ha]

theorem madd_zero (x : Nat) (hx : x < 18446744073709551616) (w : World) : Calls Try.prog 18 #[.int .u64 x, .int .u64 0] w fun e w' => e = .returned (.tuple #[.int .u64 (addOut x 0).1, .int .i64 (addOut x 0).2]) ∧ w = w' := madd_calls x 0 hx (by omega) w
theorem tdiv2 (V : Int) (h1 : -9007199254740992 ≤ V) (h2 : V ≤ 9007199254740992) : -4503599627370496 ≤ V.tdiv 2 ∧ V.tdiv 2 ≤ 4503599627370496 := by
  rcases Int.le_total 0 V with h | h
  · rw [Int.tdiv_eq_ediv_of_nonneg h]; omega
  · obtain ⟨W, rfl⟩ : ∃ W, V = -W := ⟨-V, by omega⟩
    rw [Int.neg_tdiv, Int.tdiv_eq_ediv_of_nonneg (by omega)]; omega
theorem bits_calls' (v : Int) (w : World) : Calls Try.prog 13 #[.int .i64 v] w fun e w' => e = .returned (.int .u64 ((ofInt v : Nat) : Int)) ∧ w = w' := bits_calls v w
theorem addOut_comm (x y : Nat) : addOut y x = addOut x y := by
  unfold addOut
  rw [add_comm' y x]
  by_cases h : finB x = true ∧ finB y = true
  · rw [if_pos h, if_pos ⟨h.2, h.1⟩]
  · rw [if_neg h, if_neg (fun g => h ⟨g.2, g.1⟩)]
theorem fin_of (x : Nat) (h : oE x < 2047) : finB x = true := by unfold finB; rw [bne_iff_ne]; omega
set_option maxRecDepth 100000 in
set_option maxHeartbeats 4000000 in
theorem meterSums_walk (a b v u : Int) (ha : 0 ≤ a ∧ a ≤ 18446744073709551615) (hb : 0 ≤ b ∧ b ≤ 18446744073709551615) (hv : -9223372036854775808 ≤ v ∧ v ≤ 9223372036854775807) (hu : -9223372036854775808 ≤ u ∧ u ≤ 9223372036854775807) (w : World) :
    Calls Try.prog 6 #[.int .u64 a, .int .u64 b, .int .i64 v, .int .i64 u] w fun e w' => e = .returned (.bool true) ∧ Below w.heap.size w w' := by
  obtain ⟨x, rfl⟩ : ∃ x : Nat, a = x := ⟨a.toNat, by omega⟩
  obtain ⟨y, rfl⟩ : ∃ y : Nat, b = y := ⟨b.toNat, by omega⟩
  have hx : x < 18446744073709551616 := by omega
  have HX := Lib.hid hx
  have HY := Lib.hid (show y < 18446744073709551616 by omega)
  obtain ⟨hv1, hv2⟩ := exactZ_small v
  obtain ⟨hu1, hu2⟩ := exactZ_small u
  have HS : Hid (∀ w, Calls Try.prog 18 #[.int .u64 y, .int .u64 x] w fun e w' => e = .returned (.tuple #[.int .u64 (addOut x y).1, .int .i64 (addOut x y).2]) ∧ w = w') := Lib.hid fun w => by
    have h := madd_calls y x HY.out HX.out w
    rw [addOut_comm] at h; exact h
  have hE := oE_bits x hx
  have hEle := oE_le x
  clear ha hb hv hu hx
  have hev := exact_calls v
  have heu := exact_calls u
  generalize exactZ v = V at *
  generalize exactZ u = U at *
  have HEV := Lib.hid hev
  have HEU := Lib.hid heu
  clear hev heu
  go_enter Try.func6, Try.ntmps6
  go_wp2_with fail
  go_at_call 18
  refine (madd_calls x y HX.out HY.out _).mono ?_
  rintro e w1 ⟨rfl, rfl⟩
  go_wp2_with fail
  go_at_call 18
  refine (HS.out _).mono ?_
  rintro e w1 ⟨rfl, rfl⟩
  go_wp2_with fail
  go_at_call 14
  refine (HEV.out _).mono ?_
  rintro e w1 ⟨rfl, rfl⟩
  go_wp2_with fail
  go_at_call 14
  refine (HEU.out _).mono ?_
  rintro e w1 ⟨rfl, rfl⟩
  go_upto_region 7 with (fail)
  obtain ⟨hn1, hn2⟩ := tdiv2 V hv1 hv2
  obtain ⟨hm1, hm2⟩ := tdiv2 U hu1 hu2
  generalize V.tdiv 2 = n at *
  generalize U.tdiv 2 = m at *
  have HA := Lib.hid (show addOut (ofInt n) (ofInt m) = (((ofInt (n + m) : Nat) : Int), 0) from
    addOut_yes _ _ _ ⟨fin_of _ (ofInt_fin n (by omega) (by omega)), fin_of _ (ofInt_fin m (by omega) (by omega))⟩ (add_small n m hn1 hn2 hm1 hm2) (fin_of _ (ofInt_fin (n + m) (by omega) (by omega))))
  go_wp2_with fail
  go_at_call 13
  refine (bits_calls' _ _).mono ?_
  rintro e w1 ⟨rfl, rfl⟩
  go_wp2_with fail
  go_at_call 13
  refine (bits_calls' _ _).mono ?_
  rintro e w1 ⟨rfl, rfl⟩
  go_wp2_with fail
  go_at_call 18
  refine (madd_calls _ _ (ofInt_lt n) (ofInt_lt m) _).mono ?_
  rintro e w1 ⟨rfl, rfl⟩
  rw [HA.out]
  go_wp2_with fail
  go_at_call 13
  refine (bits_calls' _ _).mono ?_
  rintro e w1 ⟨rfl, rfl⟩
  by_cases hf : oE x = 2047
  · have hb : (((oE x : Nat) : Int) == 2047) = true := by rw [hf]; rfl
    have ho := addOut_bad x y (fun h => by have := finB_lt x h.1; omega)
    have hp : (addOut x y).1 = 0 := by rw [ho]
    have hq : (addOut x y).2 = 251 := by rw [ho]
    clear hf ho
    go_wp2
    go_ret
    exact ⟨rfl, Below.refl _ _⟩
  · have hb : (((oE x : Nat) : Int) == 2047) = false := by rw [beq_eq_false_iff_ne]; omega
    have hlt : oE x < 2047 := by omega
    have hfx := fin_of x hlt
    obtain ⟨f0, f1, f2, f3, f4⟩ := flipS_parts x HX.out
    have H1 := Lib.hid (show addOut x (flipS x) = (0, 0) from addOut_yes _ _ 0 ⟨hfx, fin_of _ (by omega)⟩ (add_flip x HX.out hlt) (by decide))
    have hR : finB (if x = 9223372036854775808 then 0 else x) = true := by
      split
      · decide
      · exact hfx
    have H2 := Lib.hid (show addOut x 0 = (((if x = 9223372036854775808 then 0 else x : Nat) : Int), 0) from addOut_yes _ _ _ ⟨hfx, by decide⟩ (add_nought x HX.out hlt) hR)
    have HF := Lib.hid f0
    have hxor := xor_sign x HX.out
    clear hf hlt hfx f0 f1 f2 f3 f4 hR
    go_wp2_with fail
    go_at_call 18
    refine (madd_calls x (flipS x) HX.out HF.out _).mono ?_
    rintro e w1 ⟨rfl, rfl⟩
    rw [H1.out]
    go_wp2_with fail
    go_at_call 18
    refine (madd_zero x HX.out _).mono ?_
    rintro e w1 ⟨rfl, rfl⟩
    rw [H2.out]
    by_cases hs : x = 9223372036854775808
    · subst hs
      rw [if_pos rfl]
      go_wp2
      go_ret
      exact ⟨rfl, Below.refl _ _⟩
    · rw [if_neg hs]
      clear hs
      go_wp2
      go_ret
      exact ⟨rfl, Below.refl _ _⟩
end Go.Proofs.Ytpgflnjpohmldaa
