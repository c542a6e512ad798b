/- The walk of the reference's Whole. -/
import Derived.Test.YtpgflnjpohmldaaMeterWhole
import Derived.Deep.QuietTactic
import Derived.BigQuiet
namespace Go.Proofs.Ytpgflnjpohmldaa
open Go.RowKit FloatMath
theorem belowDrew {B : Nat} {w W : World} (h : Below B w W) (n : Nat) : Below B w (W.drewN n) := ⟨h.os, h.tape, h.output, h.size, h.block⟩
theorem rlength_normal (m : Nat) (h1 : 4503599627370496 ≤ m) (h2 : m < 9007199254740992) (w : World) : Calls Try.prog 45 #[.int .u64 m] w fun e w' => e = .returned (.int .i64 53) ∧ w = w' := by
  have h := rlength_calls m (by omega) w
  have e : len2 m = 53 := by unfold len2; rw [if_neg (by omega), log2_normal m h1 h2]
  rw [e] at h; exact h
theorem rlength_normal' (m : Nat) (h1 : 4503599627370496 ≤ m) (h2 : m < 9007199254740992) (w : World) : Calls Try.prog 45 #[.int .u64 m] w fun e w' => e = .returned (.int .i64 53) ∧ w' = w :=
  (rlength_normal m h1 h2 w).mono fun _ _ ⟨a, b⟩ => ⟨a, b.symm⟩
/-- The last steps of the reference's Whole. -/
theorem tail_pos (b : Nat) (hf : finB b = true) (hs : oNeg b = false) : (9223372036854775808 ≤ wholeN b → wholeOut b = (0, 11)) ∧ (wholeN b < 9223372036854775808 → wholeOut b = ((wholeN b : Int), 0)) := by
  unfold wholeOut
  rw [if_pos hf, hs, if_neg (by simp)]
  exact ⟨fun h => by rw [if_pos h], fun h => by rw [if_neg (by omega)]⟩
theorem tail_neg (b : Nat) (hf : finB b = true) (hs : oNeg b = true) : (9223372036854775808 < wholeN b → wholeOut b = (0, 11)) ∧ (wholeN b ≤ 9223372036854775808 → wholeOut b = (-(wholeN b : Int), 0)) := by
  unfold wholeOut
  rw [if_pos hf, hs, if_pos rfl]
  exact ⟨fun h => by rw [if_pos h], fun h => by rw [if_neg (by omega)]⟩
set_option maxRecDepth 100000 in
set_option maxHeartbeats 2000000 in
theorem rwhole_neg (b : Nat) (hb : b < 18446744073709551616) (hf : finB b = true) (hx : oExp b < 0) (w : World) :
    Calls Try.prog 21 #[.int .u64 b] w fun e w' => e = .returned (.tuple #[.int .i64 (wholeOut b).1, .int .i64 (wholeOut b).2]) ∧ Below w.heap.size w w' := by
  have H := Lib.hid hb
  have hm := oMan_lt b
  have hx1 := oExp_ge b
  have hsh : ∃ q h : Nat, (∀ w, Calls Try.prog 46 #[.int .u64 (oMan b), .int .i64 (-oExp b)] w fun e w' => ∃ t, e = .returned (.tuple #[.int .u64 q, .bool t]) ∧ w = w') ∧
      (∀ w, Calls Try.prog 46 #[.int .u64 (oMan b), .int .i64 (-oExp b - 1)] w fun e w' => ∃ t, e = .returned (.tuple #[.int .u64 h, .bool t]) ∧ w = w') ∧ q + h % 2 = wholeN b ∧ q ≤ 9007199254740992 ∧ h ≤ 9007199254740992 := by
    have key : ∀ k : Int, 0 ≤ k → ∀ w, Calls Try.prog 46 #[.int .u64 (oMan b), .int .i64 k] w fun e w' => ∃ t, e = .returned (.tuple #[.int .u64 ((oMan b / 2 ^ k.toNat : Nat) : Int), .bool t]) ∧ w = w' := fun k hk w => by
      by_cases h64 : k < 64
      · have h := rshifted_calls (oMan b) k.toNat hm (by omega) w
        rw [show ((k.toNat : Nat) : Int) = k by omega] at h
        exact h.mono fun e w' ⟨h1, h2⟩ => ⟨_, h1, h2⟩
      · have h := rshifted_far (oMan b) k (by omega) w
        have hz : oMan b / 2 ^ k.toNat = 0 := Nat.div_eq_of_lt (by
          have : 2 ^ 53 ≤ 2 ^ k.toNat := Nat.pow_le_pow_right (by omega) (by omega)
          rw [two53] at this; omega)
        rw [hz]
        exact h.mono fun e w' ⟨h1, h2⟩ => ⟨_, h1, h2⟩
    refine ⟨_, _, key _ (by omega), key _ (by omega), ?_, ?_, ?_⟩
    · unfold wholeN; rw [if_neg (by omega)]
    · exact Nat.le_trans (Nat.div_le_self _ _) (by omega)
    · exact Nat.le_trans (Nat.div_le_self _ _) (by omega)
  obtain ⟨q, h, hq, hh, hN, hq1, hh1⟩ := hsh
  have hv : (oNeg b = false → wholeOut b = ((wholeN b : Int), 0)) ∧ (oNeg b = true → wholeOut b = (-(wholeN b : Int), 0)) :=
    ⟨fun hs => (tail_pos b hf hs).2 (by omega), fun hs => (tail_neg b hf hs).2 (by omega)⟩
  rw [← hN] at hv
  have HV := Lib.hid hv
  have HQ := Lib.hid (And.intro hq hh)
  have hz : (((q + h % 2 : Nat) : Int)) = (q : Int) + (h : Int) % 2 := by omega
  have HZ := Lib.hid hz
  have hq2 : (q : Int) ≤ 9007199254740992 := by omega
  have hq3 : (0 : Int) ≤ q := by omega
  have hh2 : (h : Int) ≤ 9007199254740992 := by omega
  have hh3 : (0 : Int) ≤ h := by omega
  clear hb hm hN hv hq hh hz hq1 hh1
  generalize (q : Int) = Q at *
  generalize (h : Int) = G at *
  cases hs : oNeg b
  · go_enter Try.func21, Try.ntmps21
    go_wp2_with fail
    go_at_call 42
    refine (rfinite_calls b H.out _).mono ?_
    rintro e w0 ⟨rfl, rfl⟩
    rw [hf]
    go_wp2_with fail
    go_at_call 38
    refine (ropen_calls b H.out _).mono ?_
    rintro e w1 ⟨rfl, hb1⟩
    rw [hs]
    go_wp2_with fail
    go_at_call 46
    refine (HQ.out.1 _).mono ?_
    rintro e w2 ⟨t, rfl, rfl⟩
    go_wp2_with fail
    go_at_call 46
    refine (HQ.out.2 _).mono ?_
    rintro e w3 ⟨t2, rfl, rfl⟩
    go_wp2
    go_ret2
    exact ⟨show Ending.returned (.tuple #[.int .i64 (Q + G % 2), .int .i64 0]) = _ from by rw [HV.out.1 hs, HZ.out], hb1.alloc hb1.size _⟩
  · go_enter Try.func21, Try.ntmps21
    go_wp2_with fail
    go_at_call 42
    refine (rfinite_calls b H.out _).mono ?_
    rintro e w0 ⟨rfl, rfl⟩
    rw [hf]
    go_wp2_with fail
    go_at_call 38
    refine (ropen_calls b H.out _).mono ?_
    rintro e w1 ⟨rfl, hb1⟩
    rw [hs]
    go_wp2_with fail
    go_at_call 46
    refine (HQ.out.1 _).mono ?_
    rintro e w2 ⟨t, rfl, rfl⟩
    go_wp2_with fail
    go_at_call 46
    refine (HQ.out.2 _).mono ?_
    rintro e w3 ⟨t2, rfl, rfl⟩
    go_wp2
    go_ret2
    exact ⟨show Ending.returned (.tuple #[.int .i64 (-(Q + G % 2 - (Q + G) % 2) - (Q + G) % 2), .int .i64 0]) = _ from by rw [HV.out.2 hs, HZ.out, show -(Q + G % 2 - (Q + G) % 2) - (Q + G) % 2 = -(Q + G % 2) by omega], hb1.alloc hb1.size _⟩
set_option maxRecDepth 100000 in
set_option maxHeartbeats 2000000 in
theorem rwhole_pos (b : Nat) (hb : b < 18446744073709551616) (hf : finB b = true) (hx : 0 ≤ oExp b) (w : World) :
    Calls Try.prog 21 #[.int .u64 b] w fun e w' => e = .returned (.tuple #[.int .i64 (wholeOut b).1, .int .i64 (wholeOut b).2]) ∧ Below w.heap.size w w' := by
  have H := Lib.hid hb
  have hm := oMan_lt b
  have hn := oMan_normal b (by omega)
  have hEb := oExp_le b (finB_lt b hf)
  have hNW : wholeN b = oMan b * 2 ^ (oExp b).toNat := by unfold wholeN; rw [if_pos hx]
  have hMz : (((oMan b : Nat) : Int) == 0) = false := by rw [beq_eq_false_iff_ne]; omega
  have hMn : (((oMan b : Nat) : Int) != 0) = true := by rw [bne_iff_ne]; omega
  have HL := Lib.hid (And.intro hn hm)
  by_cases hbig : 12 ≤ oExp b
  · have hN : 9223372036854775808 < wholeN b := by
      rw [hNW]
      have h1 : 2 ^ 12 ≤ 2 ^ (oExp b).toNat := Nat.pow_le_pow_right (by omega) (by omega)
      have h2 := Nat.mul_le_mul hn h1
      have e : 4503599627370496 * 2 ^ 12 = 18446744073709551616 := by decide
      omega
    have HV := Lib.hid (show wholeOut b = (0, 11) by
      cases hs : oNeg b
      · exact (tail_pos b hf hs).1 (by omega)
      · exact (tail_neg b hf hs).1 hN)
    clear hb hm hn hNW hN
    go_enter Try.func21, Try.ntmps21
    go_wp2_with fail
    go_at_call 42
    refine (rfinite_calls b H.out _).mono ?_
    rintro e w0 ⟨rfl, rfl⟩
    rw [hf]
    go_wp2_with fail
    go_at_call 38
    refine (ropen_calls b H.out _).mono ?_
    rintro e w1 ⟨rfl, hb1⟩
    go_wp2_with fail
    go_quiet ((go_at_call 45; exact Calls.quiet_of_same (rlength_normal' _ HL.out.1 HL.out.2 _)))
    go_wp2
    go_ret2
    exact ⟨show Ending.returned (.tuple #[.int .i64 0, .int .i64 11]) = _ from by rw [HV.out], belowDrew (hb1.alloc hb1.size _) _⟩
  · have hN : wholeN b < 18446744073709551616 := by
      rw [hNW]
      have h1 : 2 ^ (oExp b).toNat ≤ 2 ^ 11 := Nat.pow_le_pow_right (by omega) (by omega)
      have h2 := Nat.mul_lt_mul_of_lt_of_le hm h1 (Nat.pow_pos (by omega))
      have e : 9007199254740992 * 2 ^ 11 = 18446744073709551616 := by decide
      omega
    have hz : IntKind.u64.wrap ((oMan b : Int) * 2 ^ (oExp b).toNat) = (wholeN b : Int) := by
      rw [hNW] at hN ⊢
      have e : (oMan b : Int) * 2 ^ (oExp b).toNat = ((oMan b * 2 ^ (oExp b).toNat : Nat) : Int) := by rw [Int.natCast_mul, Int.natCast_pow]; rfl
      rw [e]
      generalize oMan b * 2 ^ (oExp b).toNat = q at *
      rw [IntKind.wrap_u64]; omega
    have hz0 : (oExp b = 0) → (oMan b : Int) = (wholeN b : Int) := fun h => by rw [hNW, h]; simp
    have HZ := Lib.hid (And.intro hz hz0)
    have hv := And.intro (tail_pos b hf) (tail_neg b hf)
    clear hz hz0 hNW hm hn
    generalize hWW : wholeN b = W at *
    have HV := Lib.hid hv
    clear hv
    have hW0 : (0 : Int) ≤ W := by omega
    have hW1 : (W : Int) ≤ 18446744073709551615 := by omega
    have HWW := Lib.hid hWW
    clear hN hWW hb
    obtain ⟨V, hV⟩ : ∃ V : Int, V = (W : Int) := ⟨_, rfl⟩
    rw [← hV] at hW0 hW1
    have HVW := Lib.hid hV
    clear hV
    go_enter Try.func21, Try.ntmps21
    go_wp2_with fail
    go_at_call 42
    refine (rfinite_calls b H.out _).mono ?_
    rintro e w0 ⟨rfl, rfl⟩
    rw [hf]
    go_wp2_with fail
    go_at_call 38
    refine (ropen_calls b H.out _).mono ?_
    rintro e w1 ⟨rfl, hb1⟩
    go_wp2_with fail
    go_quiet ((go_at_call 45; exact Calls.quiet_of_same (rlength_normal' _ HL.out.1 HL.out.2 _)))
    go_upto_region 13 with (fail)
    rw [HZ.out.1, ← HVW.out]
    cases hs : oNeg b
    · by_cases hbg : 9223372036854775808 ≤ V
      · have HO := Lib.hid ((HV.out.1 hs).1 (by have := HVW.out; omega))
        go_wp2
        go_ret2
        exact ⟨show Ending.returned (.tuple #[.int .i64 0, .int .i64 11]) = _ from by rw [HO.out], belowDrew (hb1.alloc hb1.size _) _⟩
      · have HO := Lib.hid ((HV.out.1 hs).2 (by have := HVW.out; omega))
        have hbg' : V ≤ 9223372036854775807 := by omega
        go_wp2
        go_ret2
        exact ⟨show Ending.returned (.tuple #[.int .i64 V, .int .i64 0]) = _ from by rw [HO.out, HVW.out], belowDrew (hb1.alloc hb1.size _) _⟩
    · by_cases hbg : 9223372036854775808 < V
      · have HO := Lib.hid ((HV.out.2 hs).1 (by have := HVW.out; omega))
        go_wp2
        go_ret2
        exact ⟨show Ending.returned (.tuple #[.int .i64 0, .int .i64 11]) = _ from by rw [HO.out], belowDrew (hb1.alloc hb1.size _) _⟩
      · have HO := Lib.hid ((HV.out.2 hs).2 (by have := HVW.out; omega))
        go_wp2
        go_ret2
        have hwr : wrap64 (wrap64 (-wrap64 (V - V % 2)) - V % 2) = -V := by unfold wrap64; omega
        exact ⟨show Ending.returned (.tuple #[.int .i64 (wrap64 (wrap64 (-wrap64 (V - V % 2)) - V % 2)), .int .i64 0]) = _ from by rw [hwr, HO.out, HVW.out], belowDrew (hb1.alloc hb1.size _) _⟩
theorem rWhole_calls (b : Nat) (hb : b < 18446744073709551616) (w : World) :
    Calls Try.prog 21 #[.int .u64 b] w fun e w' => e = .returned (.tuple #[.int .i64 (wholeOut b).1, .int .i64 (wholeOut b).2]) ∧ Below w.heap.size w w' := by
  cases hf : finB b
  · have HO := Lib.hid (show wholeOut b = (0, 251) by unfold wholeOut; rw [hf, if_neg (by simp)])
    have H := Lib.hid hb
    clear hb
    go_enter Try.func21, Try.ntmps21
    go_wp2_with (go_at_call 42; refine (rfinite_calls b H.out _).mono ?_; rintro e w1 ⟨rfl, rfl⟩; rw [hf])
    go_ret2
    exact ⟨show Ending.returned (.tuple #[.int .i64 0, .int .i64 251]) = _ from by rw [HO.out], Below.refl _ _⟩
  · rcases Int.lt_or_le (oExp b) 0 with h | h
    · exact rwhole_neg b hb hf h w
    · exact rwhole_pos b hb hf h w
end Go.Proofs.Ytpgflnjpohmldaa
