import Derived.Test.YtfjpbkdijglfdaaDoorTxt3
set_option linter.unusedVariables false
namespace Go.Proofs.YtfjpbkdijglfdaaDoor
open Go.RowKit
/-- Decimal digits of a number. -/
def decL (n : Nat) : List UInt8 := if n < 10 then [UInt8.ofNat (48 + n)] else decL (n / 10) ++ [UInt8.ofNat (48 + n % 10)]
theorem decL_small (n : Nat) (h : n < 10) : decL n = [UInt8.ofNat (48 + n)] := by rw [decL, if_pos h]
theorem decL_big (n : Nat) (h : 10 ≤ n) : decL n = decL (n / 10) ++ [UInt8.ofNat (48 + n % 10)] := by rw [decL, if_neg (by omega)]
theorem decL_len (k : Nat) : ∀ n, n < 10 ^ (k + 1) → (decL n).length ≤ k + 1 := by
  induction k with
  | zero => intro n h; rw [decL_small n (by simpa using h)]; simp
  | succ k ih =>
    intro n h
    by_cases hn : n < 10
    · rw [decL_small n hn]; simp
    · rw [decL_big n (by omega), List.length_append]
      have := ih (n / 10) (by rw [Nat.pow_succ] at h; omega)
      simp; omega
/-- .. of an int. -/
def decZ (n : Int) : List UInt8 := if n < 0 then 45 :: decL n.natAbs else decL n.natAbs
theorem hexD_small (n : Nat) (h : n < 10) : hexD n = UInt8.ofNat (48 + n) := by rw [hexD, if_pos h]
theorem decZ_len (n : Int) (h0 : -9223372036854775808 ≤ n) (h1 : n ≤ 9223372036854775807) : (decZ n).length ≤ 20 := by
  unfold decZ
  have h10 : (10 : Nat) ^ (18 + 1) = 10000000000000000000 := by decide
  have h : (decL n.natAbs).length ≤ 18 + 1 := decL_len 18 _ (by rw [h10]; omega)
  split
  · simp; omega
  · omega
set_option maxRecDepth 100000 in
set_option maxHeartbeats 1000000 in
theorem refdec_pos (k : Nat) : ∀ (n : Int) (w : World), 0 ≤ n → n ≤ 9223372036854775807 → n < 10 ^ (k + 1) →
    Calls Tryd.prog 12 #[.int .i64 n] w fun e w' => e = .returned (.string ⟨(decL n.toNat).toArray⟩) ∧ w = w' := by
  induction k with
  | zero =>
    intro n w h0 h1 hk
    have h9 : n ≤ 9 := by have : (10 : Int) ^ (0 + 1) = 10 := by decide
                          omega
    have hs := hexD_small n.toNat (by omega)
    have hd := decL_small n.toNat (by omega)
    have S1 := Lib.hid (fun w => sign_lit n h0 (by omega) w)
    have HS := Lib.hid (And.intro hs hd)
    clear hs hd hk
    go_enter Tryd.func12, Tryd.ntmps12
    go_wp2_with (go_at_call 22; (with_reducible refine (S1.out _).mono ?_); rintro e w1 ⟨rfl, rfl⟩)
    go_ret
    exact ⟨congrArg (fun l => Ending.returned (.string ⟨List.toArray l⟩)) (show [hexD n.toNat] = decL n.toNat by rw [HS.out.1, HS.out.2]), rfl⟩
  | succ k ih =>
    intro n w h0 h1 hk
    by_cases h9 : n ≤ 9
    · have hs := hexD_small n.toNat (by omega)
      have hd := decL_small n.toNat (by omega)
      have S1 := Lib.hid (fun w => sign_lit n h0 (by omega) w)
      have HS := Lib.hid (And.intro hs hd)
      clear hs hd hk ih
      go_enter Tryd.func12, Tryd.ntmps12
      go_wp2_with (go_at_call 22; (with_reducible refine (S1.out _).mono ?_); rintro e w1 ⟨rfl, rfl⟩)
      go_ret
      exact ⟨congrArg (fun l => Ending.returned (.string ⟨List.toArray l⟩)) (show [hexD n.toNat] = decL n.toNat by rw [HS.out.1, HS.out.2]), rfl⟩
    · have h9' : 9 < n := by omega
      have hq : n / 10 < 10 ^ (k + 1) := by
        have : (10 : Int) ^ (k + 1 + 1) = 10 ^ (k + 1) * 10 := Int.pow_succ _ _
        omega
      have D1 := Lib.hid (fun w => ih (n / 10) w (by omega) (by omega) hq)
      have S1 := Lib.hid (fun w => sign_lit (n % 10) (by omega) (by omega) w)
      have hs := hexD_small (n % 10).toNat (by omega)
      have hd := decL_big n.toNat (by omega)
      rw [show n.toNat / 10 = (n / 10).toNat by omega, show n.toNat % 10 = (n % 10).toNat by omega] at hd
      have hl := decL_len 18 (n / 10).toNat (by have h10 : (10 : Nat) ^ (18 + 1) = 10000000000000000000 := by decide
                                                rw [h10]; omega)
      obtain ⟨x, hx⟩ : ∃ x : ByteArray, x = ⟨(decL (n / 10).toNat).toArray⟩ := ⟨_, rfl⟩
      have hxs : x.size ≤ 19 := by rw [hx, mk_size]; exact hl
      rw [← hx] at D1
      have HF := Lib.hid (And.intro hs (And.intro hd hx))
      clear hs hd hk ih hq hl hx
      go_enter Tryd.func12, Tryd.ntmps12
      go_wp2_with (first | (go_at_call 12; (with_reducible refine (D1.out _).mono ?_); rintro e w1 ⟨rfl, rfl⟩) | (go_at_call 22; (with_reducible refine (S1.out _).mono ?_); rintro e w1 ⟨rfl, rfl⟩))
      go_ret
      obtain ⟨f1, f2, f3⟩ := HF.out
      refine ⟨congrArg (fun s => Ending.returned (.string s)) (toList_eq _ _ ?_), rfl⟩
      rw [app_toList, f3, f2, f1]
set_option maxRecDepth 100000 in
set_option maxHeartbeats 1000000 in
theorem refdec_neg (k : Nat) : ∀ (n : Int) (w : World), n < 0 → -9223372036854775808 ≤ n → n.natAbs < 10 ^ (k + 1) →
    Calls Tryd.prog 12 #[.int .i64 n] w fun e w' => e = .returned (.string ⟨(45 :: decL n.natAbs).toArray⟩) ∧ w = w' := by
  have small : ∀ (n : Int) (w : World), n < 0 → -10 < n → Calls Tryd.prog 12 #[.int .i64 n] w fun e w' => e = .returned (.string ⟨(45 :: decL n.natAbs).toArray⟩) ∧ w = w' := by
    intro n w h0 h1
    have hs := hexD_small (-n).toNat (by omega)
    have hd := decL_small n.natAbs (by omega)
    rw [show n.natAbs = (-n).toNat by omega] at hd ⊢
    have S1 := Lib.hid (fun w => sign_lit (-n) (by omega) (by omega) w)
    have HS := Lib.hid (And.intro hs hd)
    clear hs hd
    go_enter Tryd.func12, Tryd.ntmps12
    go_wp2_with (go_at_call 22; (with_reducible refine (S1.out _).mono ?_); rintro e w1 ⟨rfl, rfl⟩)
    go_ret
    refine ⟨congrArg (fun s => Ending.returned (.string s)) (toList_eq _ _ ?_), rfl⟩
    rw [HS.out.2, app_toList, HS.out.1]; rfl
  induction k with
  | zero =>
    intro n w h0 h1 hk
    exact small n w h0 (by have : (10 : Nat) ^ (0 + 1) = 10 := by decide
                           omega)
  | succ k ih =>
    intro n w h0 h1 hk
    by_cases h9 : -10 < n
    · exact small n w h0 h9
    · have h9' : n ≤ -10 := by omega
      obtain ⟨m, hm⟩ : ∃ m : Nat, m = n.natAbs := ⟨_, rfl⟩
      have hmn : n = -(m : Int) := by omega
      have htd : n.tdiv 10 = -((m / 10 : Nat) : Int) := by rw [hmn, Int.neg_tdiv, Int.tdiv_eq_ediv_of_nonneg (by omega)]; omega
      have htm : n.tmod 10 = -((m % 10 : Nat) : Int) := by rw [hmn, Int.neg_tmod, Int.tmod_eq_emod_of_nonneg (by omega)]; omega
      have hq : m / 10 < 10 ^ (k + 1) := by
        have : (10 : Nat) ^ (k + 1 + 1) = 10 ^ (k + 1) * 10 := Nat.pow_succ _ _
        omega
      have D1 := fun w => ih (-((m / 10 : Nat) : Int)) w (by omega) (by omega) (by omega)
      have S1 := Lib.hid (fun w => sign_lit ((m % 10 : Nat) : Int) (by omega) (by omega) w)
      have hs := hexD_small (m % 10) (by omega)
      have hd := decL_big m (by omega)
      have hl := decL_len 18 (m / 10) (by have h10 : (10 : Nat) ^ (18 + 1) = 10000000000000000000 := by decide
                                          rw [h10]; omega)
      rw [show (-((m / 10 : Nat) : Int)).natAbs = m / 10 by omega] at D1
      obtain ⟨x, hx⟩ : ∃ x : ByteArray, x = ⟨(45 :: decL (m / 10)).toArray⟩ := ⟨_, rfl⟩
      have hxs : x.size ≤ 20 := by rw [hx, mk_size]; simp; omega
      rw [← hx] at D1
      have D2 := Lib.hid D1
      have HF := Lib.hid (And.intro hs (And.intro hd (And.intro hx hm)))
      have HT := Lib.hid (And.intro htd htm)
      clear hs hd hk ih hq hl hx D1 htd htm hmn hm small
      go_enter Tryd.func12, Tryd.ntmps12
      go_wp2_with fail
      rw [HT.out.1]
      refine (D2.out _).mono ?_
      rintro e w1 ⟨rfl, rfl⟩
      go_wp2_with fail
      have hw : wrap64 (-n.tmod 10) = ((m % 10 : Nat) : Int) := by rw [HT.out.2, Int.neg_neg]; unfold wrap64; omega
      rw [hw]
      clear hw
      refine (S1.out _).mono ?_
      rintro e w1 ⟨rfl, rfl⟩
      go_wp2
      go_ret
      obtain ⟨f1, f2, f3, f4⟩ := HF.out
      refine ⟨congrArg (fun s => Ending.returned (.string s)) (toList_eq _ _ ?_), rfl⟩
      rw [app_toList, f3, ← f4, f2, ← f1]
      rfl
theorem refdec_calls (n : Int) (h0 : -9223372036854775808 ≤ n) (h1 : n ≤ 9223372036854775807) (w : World) :
    Calls Tryd.prog 12 #[.int .i64 n] w fun e w' => e = .returned (.string ⟨(decZ n).toArray⟩) ∧ w = w' := by
  have h10 : (10 : Nat) ^ (18 + 1) = 10000000000000000000 := by decide
  have h10' : (10 : Int) ^ (18 + 1) = 10000000000000000000 := by decide
  by_cases h : n < 0
  · rw [decZ, if_pos h]
    exact refdec_neg 18 n w h h0 (by rw [h10]; omega)
  · rw [decZ, if_neg h, show n.natAbs = n.toNat by omega]
    exact refdec_pos 18 n w (by omega) h1 (by rw [h10']; omega)
end Go.Proofs.YtfjpbkdijglfdaaDoor
