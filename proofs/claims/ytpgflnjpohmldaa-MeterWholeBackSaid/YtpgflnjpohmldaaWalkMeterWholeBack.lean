import Derived.Test.YtpgflnjpohmldaaMeterDec
set_option linter.unusedVariables false
namespace Go.Proofs.Ytpgflnjpohmldaa
open Go.RowKit FloatMath
attribute [local irreducible] decZ behZ bitsZ exactZ quotZ
theorem dec_size (v : Int) (h1 : -9007199254740992 ≤ v) (h2 : v ≤ 9007199254740992) : (decZ v).size ≤ 100 := by
  have : (decZ v).data.toList.length ≤ 100 := by
    have := digs_len 16 v.natAbs (by have : (10 : Nat) ^ 16 = 10000000000000000 := by decide
                                     omega)
    unfold decZ
    show ((if v < 0 then [45] else []) ++ digT (padTo (digs v.natAbs) 1)).length ≤ 100
    rw [List.length_append, digT_len, padTo_len]
    split <;> simp <;> omega
  simpa using this
theorem beh_size (d : Nat) (h : d ≤ 9) : (behZ d).size ≤ 20 := by
  have : (behZ d).data.toList.length ≤ 20 := by
    unfold behZ
    show (if d = 0 then [] else 46 :: List.replicate d 48).length ≤ 20
    split <;> simp <;> omega
  simpa using this
set_option maxRecDepth 100000 in
set_option maxHeartbeats 2000000 in
theorem whole_core (v dg N : Int) (D b : Nat) (T : ByteArray) (S : ByteArray) (w : World)
    (c14 : ∀ w, Calls Try.prog 14 #[.int .i64 v] w fun e w' => e = .returned (.int .i64 N) ∧ w = w')
    (c13 : ∀ w, Calls Try.prog 13 #[.int .i64 N] w fun e w' => e = .returned (.int .u64 b) ∧ w = w')
    (c20 : ∀ w, Calls Try.prog 20 #[.int .u64 b] w fun e w' => e = .returned (.tuple #[.int .i64 N, .int .i64 0]) ∧ w = w')
    (c22 : ∀ w, Calls Try.prog 22 #[.int .u64 b, .int .i64 D] w fun e w' => e = .returned (.tuple #[.string (T ++ S), .int .i64 0]) ∧ Below w.heap.size w w')
    (c16 : ∀ w, Calls Try.prog 16 #[.int .i64 N, .int .i64 1] w fun e w' => e = .returned (.tuple #[.int .u64 b, .int .i64 0]) ∧ w = w')
    (c24 : ∀ w, Calls Try.prog 24 #[.int .i64 N] w fun e w' => e = .returned (.string T) ∧ Below w.heap.size w w')
    (c25 : ∀ w, Calls Try.prog 25 #[.int .i64 D] w fun e w' => e = .returned (.string S) ∧ w = w')
    (hT : T.size ≤ 100) (hS : S.size ≤ 20) (hN1 : -9007199254740992 ≤ N) (hN2 : N ≤ 9007199254740992)
    (hD : (D : Int) ≤ 9) (hd : (0 < (D : Int) ∧ dg.tmod 10 = -(D : Int)) ∨ (0 ≤ (D : Int) ∧ dg.tmod 10 = D))
    (hz : ((N == 0) = true ∧ (((b : Int) == 0) = true) ∧ ∀ w, Calls Try.prog 16 #[.int .i64 1, .int .i64 0] w fun e w' => e = .returned (.tuple #[.int .u64 0, .int .i64 250]) ∧ w = w') ∨
      ((N == 0) = false ∧ ∃ x y : Int, (∀ w, Calls Try.prog 16 #[.int .i64 N, .int .i64 N] w fun e w' => e = .returned (.tuple #[.int .u64 x, .int .i64 0]) ∧ w = w') ∧
        (∀ w, Calls Try.prog 16 #[.int .i64 N, .int .i64 (-N)] w fun e w' => e = .returned (.tuple #[.int .u64 y, .int .i64 0]) ∧ w = w') ∧
        (∀ w, Calls Try.prog 13 #[.int .i64 1] w fun e w' => e = .returned (.int .u64 x) ∧ w = w') ∧ (∀ w, Calls Try.prog 13 #[.int .i64 (-1)] w fun e w' => e = .returned (.int .u64 y) ∧ w = w'))) :
    Calls Try.prog 9 #[.int .i64 v, .int .i64 dg] w fun e w' => e = .returned (.bool true) ∧ Below w.heap.size w w' := by
  have sT : (T.size : Int) ≤ 100 := by omega
  have sS : (S.size : Int) ≤ 20 := by omega
  rcases hd with ⟨hd, he⟩ | ⟨hd, he⟩ <;> rcases hz with ⟨hz, hb0, c0⟩ | ⟨hz, x, y, cx, cy, c1, cm1⟩
  all_goals
    go_enter Try.func9, Try.ntmps9
    go_wp2_with (first
      | (go_at_call 14; (with_reducible refine (c14 _).mono ?_); rintro e w1 ⟨rfl, rfl⟩)
      | (go_at_call 13; first
          | ((with_reducible refine (c13 _).mono ?_); rintro e w1 ⟨rfl, rfl⟩)
          | ((with_reducible refine (c1 _).mono ?_); rintro e w1 ⟨rfl, rfl⟩)
          | ((with_reducible refine (cm1 _).mono ?_); rintro e w1 ⟨rfl, rfl⟩))
      | (go_at_call 20; (with_reducible refine (c20 _).mono ?_); rintro e w1 ⟨rfl, rfl⟩)
      | (go_at_call 22; (with_reducible refine (c22 _).mono ?_); rintro e w2 ⟨rfl, hb2⟩)
      | (go_at_call 24; (with_reducible refine (c24 _).mono ?_); rintro e w3 ⟨rfl, hb3⟩)
      | (go_at_call 25; (with_reducible refine (c25 _).mono ?_); rintro e w1 ⟨rfl, rfl⟩)
      | (go_at_call 16; first
          | ((with_reducible refine (c16 _).mono ?_); rintro e w1 ⟨rfl, rfl⟩)
          | ((with_reducible refine (cx _).mono ?_); rintro e w1 ⟨rfl, rfl⟩)
          | ((with_reducible refine (cy _).mono ?_); rintro e w1 ⟨rfl, rfl⟩)
          | ((with_reducible refine (c0 _).mono ?_); rintro e w1 ⟨rfl, rfl⟩)))
    go_ret
    exact ⟨rfl, belowThen hb2 hb3⟩
theorem bits_calls2 (v : Int) (w : World) : Calls Try.prog 13 #[.int .i64 v] w fun e w' => e = .returned (.int .u64 ((ofInt v : Nat) : Int)) ∧ w = w' := by
  have := bits_calls v w; rwa [bitsZ_eq] at this
theorem meterWholeBack_walk (v dg : Int) (hv : -9223372036854775808 ≤ v ∧ v ≤ 9223372036854775807) (hd : -9223372036854775808 ≤ dg ∧ dg ≤ 9223372036854775807) (w : World) :
    Calls Try.prog 9 #[.int .i64 v, .int .i64 dg] w fun e w' => e = .returned (.bool true) ∧ Below w.heap.size w w' := by
  obtain ⟨n1, n2⟩ := exactZ_small v
  have h1 := Int.tmod_lt_of_pos dg (show (0 : Int) < 10 by omega)
  have h2 := Int.lt_tmod_of_pos dg (show (0 : Int) < 10 by omega)
  obtain ⟨D, hD⟩ : ∃ D : Nat, D = (dg.tmod 10).natAbs := ⟨_, rfl⟩
  have hD9 : D ≤ 9 := by omega
  have c14 := fun w => exact_calls v w
  generalize exactZ v = N at *
  obtain ⟨f1, f2, f3, f4⟩ := held_value N n1 n2
  have hw := whole_held N n1 n2
  have c20 := fun w => mwhole_calls (ofInt N) (ofInt_lt N) w
  rw [hw] at c20
  have c22 := fun w => fixed_calls (ofInt N) D (ofInt_lt N) f1 hD9 w
  rw [fix_held N D n1 n2] at c22
  have c16 := fun w => mquot_calls N 1 (by omega) (by omega) (by omega) (by omega) rfl w
  rw [quo_one N (by omega) (by omega), bitsZ_eq] at c16
  refine whole_core v dg N D (ofInt N) _ _ w c14 (bits_calls2 N) c20 c22 c16 (dec_calls N n1 n2) (behind_calls D hD9) (dec_size N n1 n2) (beh_size D hD9) n1 n2 (by omega) (by omega) ?_
  by_cases h0 : N = 0
  · left
    subst h0
    exact ⟨rfl, by rw [ofInt_zero]; rfl, fun w => mquot_zero 1 w⟩
  · right
    refine ⟨by rw [beq_eq_false_iff_ne]; exact h0, ((ofInt 1 : Nat) : Int), ((ofInt (-1) : Nat) : Int), fun w => ?_, fun w => ?_, bits_calls2 1, bits_calls2 (-1)⟩
    · have := mquot_calls N N (by omega) (by omega) (by omega) (by omega) (by rw [beq_eq_false_iff_ne]; exact h0) w
      rwa [quo_self N h0 (by omega) (by omega), bitsZ_eq] at this
    · have := mquot_calls N (-N) (by omega) (by omega) (by omega) (by omega) (by rw [beq_eq_false_iff_ne]; omega) w
      rwa [quo_opp N h0 (by omega) (by omega), bitsZ_eq] at this
end Go.Proofs.Ytpgflnjpohmldaa
