/- The walks of quotients: the program's and the reference's answer the same bits. -/
import Derived.Test.YtpgflnjpohmldaaMeterRound
import Derived.Test.YtpgflnjpohmldaaFloatB
namespace Go.Proofs.Ytpgflnjpohmldaa
open Go.RowKit FloatMath
/-- Round's bits, under one name. -/
def rndB (neg : Bool) (m : Nat) (e : Int) (more : Bool) : Int := ((Ieee.double.nearest neg (if more then 2 * m + 1 else m) (if more then e - 1 else e) : Nat) : Int)
theorem rround_calls' (neg : Bool) (m : Nat) (e : Int) (more : Bool) (hm : m < 18446744073709551616) (he : -1100 ≤ e) (he2 : e ≤ 3000) (hmore : more = true → 18014398509481984 ≤ m) (w : World) :
    Calls Try.prog 36 #[.agg #[.bool neg, .int .u64 m, .int .i64 e], .bool more] w fun e1 w' => e1 = .returned (.int .u64 (rndB neg m e more)) ∧ Below w.heap.size w w' := rround_calls neg m e more hm he he2 hmore w
theorem oNeg_bits (x : Nat) (h : x < 18446744073709551616) : (bits BinOp.and IntKind.u64 (x : Int) 9223372036854775808 != 0) = oNeg x := by
  have e := u64_and_nat x 9223372036854775808 h (by omega)
  have e2 : x &&& 9223372036854775808 = x / 9223372036854775808 % 2 * 9223372036854775808 := nat_bit 63 x
  rw [show ((9223372036854775808 : Int)) = ((9223372036854775808 : Nat) : Int) from rfl, e, e2]
  unfold oNeg
  rcases Nat.mod_two_eq_zero_or_one (x / 9223372036854775808) with h | h <;> simp [h]
theorem oE_bits (x : Nat) (h : x < 18446744073709551616) : bits BinOp.and IntKind.u64 ((x : Int) / 4503599627370496) 2047 = ((oE x : Nat) : Int) := by
  have e := u64_and_nat (x / 4503599627370496) 2047 (by omega) (by omega)
  have e2 : (x / 4503599627370496) &&& 2047 = (x / 4503599627370496) % 2048 := nat_mask11 _
  rw [e2] at e
  exact e
theorem oM_bits (x : Nat) (h : x < 18446744073709551616) : bits BinOp.and IntKind.u64 (x : Int) 4503599627370495 = ((x % 4503599627370496 : Nat) : Int) := by
  have e := u64_and_nat x 4503599627370495 h (by omega)
  have e2 : x &&& 4503599627370495 = x % 4503599627370496 := Nat.and_two_pow_sub_one_eq_mod x 52
  rw [e2] at e
  exact e
set_option maxHeartbeats 1000000 in
theorem ropen_calls (x : Nat) (hx : x < 18446744073709551616) (w : World) :
    Calls Try.prog 38 #[.int .u64 x] w fun e w' => e = .returned (.agg #[.bool (oNeg x), .int .u64 (oMan x), .int .i64 (oExp x)]) ∧ Below w.heap.size w w' := by
  have h1 := oNeg_bits x hx
  have h2 := oE_bits x hx
  have h3 := oM_bits x hx
  have hE := oE_le x
  have hm : ((x % 4503599627370496 : Nat) : Int) < 4503599627370496 := by omega
  have hm0 : (0 : Int) ≤ ((x % 4503599627370496 : Nat) : Int) := by omega
  unfold oMan oExp
  generalize hMM : x % 4503599627370496 = M at *
  have HMM := Lib.hid hMM
  have HX := Lib.hid hx
  clear hMM hx
  by_cases h : 0 < oE x
  · rw [if_pos h, if_pos h]
    go_enter Try.func38, Try.ntmps38
    go_wp2
    exact bodyPost_ret (v := .agg #[.bool (oNeg x), .int .u64 ((M + 4503599627370496 : Nat) : Int), .int .i64 ((oE x : Int) - 1075)]) (by simp [results, Try.results38, go_sem]) rfl ⟨rfl, ((Below.refl _ _).alloc (Nat.le_refl _) _).alloc (by simp) _⟩
  · rw [if_neg h, if_neg h]
    go_enter Try.func38, Try.ntmps38
    go_wp2
    exact bodyPost_ret (v := .agg #[.bool (oNeg x), .int .u64 M, .int .i64 (-1074)]) (by simp [results, Try.results38, go_sem]) rfl ⟨rfl, ((Below.refl _ _).alloc (Nat.le_refl _) _).alloc (by simp) _⟩
set_option maxHeartbeats 1000000 in
theorem rwhole_calls (v : Int) (h1 : -9223372036854775808 ≤ v) (h2 : v ≤ 9223372036854775807) (w : World) :
    Calls Try.prog 37 #[.int .i64 v] w fun e w' => e = .returned (.agg #[.bool (decide (v < 0)), .int .u64 v.natAbs, .int .i64 0]) ∧ Below w.heap.size w w' := by
  by_cases h : v < 0
  · rw [decide_eq_true h, show ((v.natAbs : Nat) : Int) = -v by omega]
    go_enter Try.func37, Try.ntmps37
    go_wp2
    exact bodyPost_ret (v := .agg #[.bool true, .int .u64 (-v), .int .i64 0]) (by simp [results, Try.results37, go_sem]; omega) rfl ⟨rfl, (Below.refl _ _).alloc (Nat.le_refl _) _⟩
  · rw [decide_eq_false h, show ((v.natAbs : Nat) : Int) = v by omega]
    go_enter Try.func37, Try.ntmps37
    go_wp2
    exact bodyPost_ret (v := .agg #[.bool false, .int .u64 v, .int .i64 0]) (by simp [results, Try.results37, go_sem]) rfl ⟨rfl, (Below.refl _ _).alloc (Nat.le_refl _) _⟩

theorem belowThen {w w1 w2 : World} (h : Below w.heap.size w w1) (k : Below w1.heap.size w1 w2) : Below w.heap.size w w2 := h.trans (k.mono h.size)
set_option maxHeartbeats 1000000 in
theorem rbits_calls (v : Int) (h1 : -9223372036854775808 ≤ v) (h2 : v ≤ 9223372036854775807) (w : World) :
    Calls Try.prog 15 #[.int .i64 v] w fun e w' => e = .returned (.int .u64 (bitsZ v)) ∧ Below w.heap.size w w' := by
  go_enter Try.func15, Try.ntmps15
  go_wp2_with fail
  go_at_call 37
  refine (rwhole_calls v h1 h2 _).mono ?_
  rintro e w1 ⟨rfl, hb1⟩
  go_wp2_with fail
  go_at_call 36
  refine (rround_calls' _ _ _ _ (by omega) (by omega) (by omega) (by simp) _).mono ?_
  rintro e w2 ⟨rfl, hb2⟩
  go_wp2
  go_ret
  exact ⟨rfl, belowThen hb1 hb2⟩
theorem bcell {W w1 : World} (hb : Below W.heap.size W w1) : (∀ b o, b < W.heap.size → w1.cell? ⟨b, o, none⟩ = W.cell? ⟨b, o, none⟩) ∧ (∀ b o, b < W.heap.size → w1.frozen? ⟨b, o, none⟩ = W.frozen? ⟨b, o, none⟩) :=
  ⟨fun b o h => hb.cell (p := ⟨b, o, none⟩) h, fun b o h => hb.frozen (p := ⟨b, o, none⟩) h⟩
theorem digit_yes (q r Y X k : Nat) (h : q * (2 * Y) + r = X * 2 ^ k) (hr : Y ≤ r) : (2 * q + 1) * (2 * Y) + 2 * (r - Y) = X * 2 ^ (k + 1) := by
  have hs : X * 2 ^ (k + 1) = 2 * (X * 2 ^ k) := by rw [Nat.pow_succ', Nat.mul_left_comm]
  have h2 : (2 * q + 1) * (2 * Y) = 2 * (q * (2 * Y)) + 2 * Y := by rw [Nat.add_mul, Nat.mul_assoc, Nat.one_mul]
  rw [hs, ← h, h2]; omega
theorem digit_no (q r Y X k : Nat) (h : q * (2 * Y) + r = X * 2 ^ k) : (2 * q) * (2 * Y) + 2 * r = X * 2 ^ (k + 1) := by
  have hs : X * 2 ^ (k + 1) = 2 * (X * 2 ^ k) := by rw [Nat.pow_succ', Nat.mul_left_comm]
  rw [hs, ← h, Nat.mul_assoc]; omega
/-- The reference's quotient of two ints, b not 0. -/
def quotZ (a b : Int) : Int := ((if a = 0 then Ieee.double.word (oNeg (ofInt 0) != oNeg (ofInt b)) 0 else quo (oNeg (ofInt a) != oNeg (ofInt b)) (oMan (ofInt a)) (oMan (ofInt b)) (oExp (ofInt a) - oExp (ofInt b)) : Nat) : Int)
set_option maxRecDepth 100000 in
set_option maxHeartbeats 4000000 in
theorem rquot_calls (a b : Int) (ha : -9223372036854775808 ≤ a) (ha2 : a ≤ 9223372036854775807) (hbl : -9223372036854775808 ≤ b) (hbu : b ≤ 9223372036854775807) (hb0 : (b == 0) = false) (w : World) :
    Calls Try.prog 17 #[.int .i64 a, .int .i64 b] w fun e w' => e = .returned (.tuple #[.int .u64 (quotZ a b), .int .i64 0]) ∧ Below w.heap.size w w' := by
  have hbn : b ≠ 0 := by simpa using hb0
  obtain ⟨b0, b1, b2, b3, b4, b5⟩ := ofInt_parts b hbn hbl hbu
  have bm := oMan_lt (ofInt b)
  have am := oMan_lt (ofInt a)
  have hax : (a = 0 ∧ (((oMan (ofInt a) : Nat) : Int) == 0) = true) ∨ (a ≠ 0 ∧ (((oMan (ofInt a) : Nat) : Int) == 0) = false ∧ 4503599627370496 ≤ oMan (ofInt a) ∧ -60 ≤ oExp (ofInt a) ∧ oExp (ofInt a) ≤ 20) := by
    by_cases h : a = 0
    · subst h; left; rw [ofInt_zero_parts.2.1]; exact ⟨rfl, rfl⟩
    · obtain ⟨a0, a1, a2, a3, a4, a5⟩ := ofInt_parts a h ha ha2
      right; exact ⟨h, by rw [beq_eq_false_iff_ne]; omega, a2, a3, a4⟩
  clear hbn b0 b1 b5
  have hz : a = 0 → quotZ a b = sgnZ (oNeg (ofInt 0) != oNeg (ofInt b)) 0 := fun h => by
    unfold quotZ; rw [if_pos h, ← sgnZ_word _ 0 (by omega)]; rfl
  have hq0 : a ≠ 0 → quotZ a b = (quo (oNeg (ofInt a) != oNeg (ofInt b)) (oMan (ofInt a)) (oMan (ofInt b)) (oExp (ofInt a) - oExp (ofInt b)) : Nat) := fun h => by
    unfold quotZ; rw [if_neg h]
  have HZ := Lib.hid (And.intro hz hq0)
  clear hz hq0
  have hal := ofInt_lt a
  have hbl' := ofInt_lt b
  have HA := Lib.hid hal
  have HB := Lib.hid hbl'
  clear hal hbl'
  go_enter Try.func17, Try.ntmps17
  go_wp2_with fail
  go_at_call 15
  refine (rbits_calls a ha ha2 _).mono ?_
  rintro e w1 ⟨rfl, hb1⟩
  go_wp2_with fail
  go_at_call 38
  refine (ropen_calls _ HA.out _).mono ?_
  rintro e w2 ⟨rfl, hb2⟩
  go_wp2_with fail
  go_at_call 15
  refine (rbits_calls b hbl hbu _).mono ?_
  rintro e w3 ⟨rfl, hb3⟩
  obtain ⟨hc3, hf3⟩ := bcell hb3
  have hz3 : w2.heap.size < w3.heap.size := by have := hb3.size; simp at this; omega
  go_wp2_with fail
  go_at_call 38
  refine (ropen_calls _ HB.out _).mono ?_
  rintro e w4 ⟨rfl, hb4⟩
  obtain ⟨hc4, hf4⟩ := bcell hb4
  have hz4 : w2.heap.size < w4.heap.size := by have := hb4.size; omega
  have hbel : Below w.heap.size w w4 := by
    have k3 := (Below.refl w2.heap.size w2).alloc (Nat.le_refl _) _ |>.trans (hb3.mono (by simp))
    exact belowThen (belowThen hb1 hb2) (belowThen k3 hb4)
  rcases hax with ⟨haz, hx⟩ | ⟨haz, hx, a2, a3, a4⟩
  · go_wp2_with fail
    go_at_call 39
    refine (rsigned_calls' _ _ _).mono ?_
    rintro e w5 ⟨rfl, rfl⟩
    go_wp2
    go_ret2
    refine ⟨?_, hbel.alloc hbel.size _⟩
    subst haz
    exact congrArg (fun x => Ending.returned (.tuple #[.int .u64 x, .int .i64 0])) (HZ.out.1 rfl).symm
  · generalize hX : oMan (ofInt a) = X at *
    generalize hY : oMan (ofInt b) = Y at *
    have HXY := Lib.hid (And.intro hX hY)
    clear hX hY
    go_wp2_with fail
    go_loop [9, 10, 11] (fun q r i => ∃ k q' r' : Nat, k ≤ 60 ∧ i = .int .i64 k ∧ q = .int .u64 q' ∧ r = .int .u64 r' ∧ q' * (2 * Y) + r' = X * 2 ^ k ∧ r' < 2 * Y ∧ q' < 2 ^ k) (fun _ _ i => 60 - (intOf i).toNat)
    case atStart => exact ⟨0, 0, X, by omega, rfl, rfl, rfl, by omega, by omega, by omega⟩
    case round =>
      obtain ⟨k, q, r, hk, rfl, rfl, rfl, hq, hr, hqk⟩ := hrel
      by_cases hlt : k < 60
      · have hp : 2 ^ k ≤ 576460752303423488 := by
          rw [show (576460752303423488 : Nat) = 2 ^ 59 by decide]; exact Nat.pow_le_pow_right (by omega) (by omega)
        have hqb : q < 576460752303423488 := by omega
        have hs : 2 ^ (k + 1) = 2 * 2 ^ k := Nat.pow_succ'
        have E := Lib.hid (And.intro hq (And.intro hqk hs))
        clear hq hqk hs hp
        by_cases hge : Y ≤ r
        · go_wp2
          go_round
          case rel =>
            obtain ⟨hq, hqk, hs⟩ := E.out
            refine ⟨k + 1, 2 * q + 1, 2 * (r - Y), by omega, by go_num, by go_num, by go_num, digit_yes q r Y X k hq hge, by omega, by omega⟩
          case measure => simp [intOf]; omega
        · go_wp2
          go_round
          case rel =>
            obtain ⟨hq, hqk, hs⟩ := E.out
            refine ⟨k + 1, 2 * q, 2 * r, by omega, by go_num, by go_num, by go_num, digit_no q r Y X k hq, by omega, by omega⟩
          case measure => simp [intOf]; omega
      · obtain rfl : k = 60 := by omega
        have hq2 : 288230376151711744 ≤ q + 1 := by
          have e1 : (2 : Nat) ^ 60 = 1152921504606846976 := by decide
          rw [e1] at hq
          rcases Nat.lt_or_ge (q + 1) 288230376151711744 with h | h
          · have h1 : (q + 1) * (2 * Y) ≤ 288230376151711744 * (2 * Y) := Nat.mul_le_mul_right _ (by omega)
            rw [Nat.add_mul] at h1; omega
          · exact h
        have hq3 : q < 1152921504606846976 := by
          have e1 : (2 : Nat) ^ 60 = 1152921504606846976 := by decide
          omega
        have E := Lib.hid (And.intro hq hr)
        clear hq hqk hr
        go_wp2_with fail
        go_at_call 36
        refine (rround_calls' _ _ _ _ (by omega) (by omega) (by omega) (by intro _; omega) _).mono ?_
        rintro e w5 ⟨rfl, hb5⟩
        go_wp2
        go_ret2
        refine ⟨?_, belowThen (hbel.alloc hbel.size _) hb5⟩
        obtain ⟨hq, hr⟩ := E.out
        have hbr : (((r : Nat) : Int) != 0) = (r != 0) := by
          rcases Nat.eq_zero_or_pos r with h | h
          · subst h; rfl
          · have h1 : (((r : Nat) : Int) != 0) = true := by rw [bne_iff_ne]; omega
            have h2 : (r != 0) = true := by rw [bne_iff_ne]; omega
            rw [h1, h2]
        exact congrArg (fun x => Ending.returned (.tuple #[.int .u64 x, .int .i64 0])) (by
          show rndB _ q _ (((r : Nat) : Int) != 0) = _
          rw [hbr, HZ.out.2 haz, ← quo_digits _ X Y q r _ a2 (by omega) bm hq hr]; rfl)
set_option maxHeartbeats 1000000 in
theorem rquot_zero (a : Int) (w : World) : Calls Try.prog 17 #[.int .i64 a, .int .i64 0] w fun e w' => e = .returned (.tuple #[.int .u64 0, .int .i64 250]) ∧ Below w.heap.size w w' := by
  go_enter Try.func17, Try.ntmps17
  go_wp2
  go_ret2
  exact ⟨rfl, Below.refl _ _⟩
theorem mquot_zero (a : Int) (w : World) : Calls Try.prog 16 #[.int .i64 a, .int .i64 0] w fun e w' => e = .returned (.tuple #[.int .u64 0, .int .i64 250]) ∧ w = w' := by
  go_enter Try.func16, Try.ntmps16
  go_wp2
  go_ret2
  exact ⟨rfl, rfl⟩
theorem run_div (T : TypeId) (x y r : Nat) (h : Ieee.double.div x y = some r) (w : World) : (binOp .quo T (.float .f64 x) (.float .f64 y)).run Try.prog w = .ok (.float .f64 r) w := by
  have h' : FloatKind.f64.format.div x y = some r := h
  simp [binOp, Op.floatArith, h']
set_option maxHeartbeats 1000000 in
theorem mquot_calls (a b : Int) (ha : -9223372036854775808 ≤ a) (ha2 : a ≤ 9223372036854775807) (hbl : -9223372036854775808 ≤ b) (hbu : b ≤ 9223372036854775807) (hb0 : (b == 0) = false) (w : World) :
    Calls Try.prog 16 #[.int .i64 a, .int .i64 b] w fun e w' => e = .returned (.tuple #[.int .u64 (quotZ a b), .int .i64 0]) ∧ w = w' := by
  have hbn : b ≠ 0 := by simpa using hb0
  obtain ⟨r, hr, hrz⟩ : ∃ r : Nat, Ieee.double.div (floatOfInt .f64 a) (floatOfInt .f64 b) = some r ∧ quotZ a b = r := by
    by_cases h : a = 0
    · subst h
      exact ⟨_, div_zero_int b hbn hbl hbu, by unfold quotZ; rw [if_pos rfl]⟩
    · exact ⟨_, div_ints a b h hbn ha ha2 hbl hbu, by unfold quotZ; rw [if_neg h]⟩
  rw [hrz]
  have hd := run_div 58 _ _ _ hr
  have h1 := f64bits
  clear hr hrz hbn
  go_enter Try.func16, Try.ntmps16
  go_wp2
  go_ret2
  exact ⟨rfl, rfl⟩
end Go.Proofs.Ytpgflnjpohmldaa
