import Derived.Test.YtcicdgajhheipaaBookPlain2
import Derived.Deep.DeepCutAuto
set_option linter.unusedVariables false
namespace Go.Proofs.Ytcicdgajhheipaa
open Go.RowKit
attribute [local irreducible] parseZ frameZ kindZ withinZ shortZ kF nF
theorem within_b (n : Int) (h : n ≤ 9223372036854775807) : 0 ≤ withinZ n ∧ withinZ n ≤ 9223372036854775807 := by
  unfold withinZ; split <;> omega
theorem kind_b (k : Int) : 1 ≤ kindZ k ∧ kindZ k ≤ 255 := by unfold kindZ; omega
theorem parse_any (s : ByteArray) (v : Value) (hv : parseZ s = v) (hs : s.size < 9223372036854775807) (w : World) : Calls Try.prog 15 #[.string s] w fun e w' => e = .returned v ∧ Below w.heap.size w w' := by
  subst hv; exact parse_calls s hs w
/-- What is read of whatever bytes. -/
theorem parse_cases (b : ByteArray) : (∃ c, c ≠ 0 ∧ parseZ b = .tuple #[.int .i64 0, .int .i64 0, .string ⟨#[]⟩, .int .i64 c]) ∨
    ∃ (k n : Int) (p : ByteArray), parseZ b = .tuple #[.int .i64 k, .int .i64 n, .string p, .int .i64 0] ∧ frameZ k n p = b ∧ 1 ≤ k ∧ k ≤ 255 ∧ 0 ≤ n ∧ n ≤ 9223372036854775807 ∧ p.size ≤ 524288 := by
  by_cases h : ∀ j, j < 9 → wrongZ b j = false
  · obtain ⟨hf, h1, h2, h3, h4⟩ := parse_back b h
    exact .inr ⟨_, _, _, parse_right b h, hf, h1, h2, by omega, h3, h4⟩
  · left
    have hx : ∃ n, n < 9 ∧ wrongZ b n = true ∧ ∀ j, j < n → wrongZ b j = false := by
      have : ∃ n, n < 9 ∧ wrongZ b n = true := by
        apply Classical.byContradiction
        intro hn
        exact h fun j hj => by
          cases hw : wrongZ b j with
          | false => rfl
          | true => exact absurd ⟨j, hj, hw⟩ hn
      obtain ⟨n, hn, hw⟩ := this
      induction n using Nat.strongRecOn with
      | _ n ih =>
        by_cases hq : ∃ m, m < n ∧ wrongZ b m = true
        · obtain ⟨m, hm, hwm⟩ := hq
          exact ih m hm (by omega) hwm
        · refine ⟨n, hn, hw, fun j hj => ?_⟩
          cases hwj : wrongZ b j with
          | false => rfl
          | true => exact absurd ⟨j, hj, hwj⟩ hq
    obtain ⟨n, hn, hw, hb⟩ := hx
    refine ⟨codeZ n, ?_, parse_wrong b n hn hw hb⟩
    unfold codeZ; split <;> decide
set_option maxRecDepth 100000 in
set_option maxHeartbeats 2000000 in
theorem back_core (kind number cut K N : Int) (payload more b P : ByteArray) (hK : kindZ kind = K) (hN : withinZ number = N) (hP : shortZ payload = P)
    (K1 : 1 ≤ K) (K2 : K ≤ 255) (N0 : 0 ≤ N) (N1 : N ≤ 9223372036854775807) (P1 : P.size ≤ 524288)
    (hpl : payload.size ≤ 140737488351232) (hml : more.size ≤ 140737488351232) (hbl : b.size ≤ 140737488351232) (hc : cut ≤ 9223372036854775807) (w : World) :
    Calls Try.prog 5 #[.int .i64 kind, .int .i64 number, .string payload, .string more, .int .i64 cut, .string b] w fun e w' => e = .returned (.bool true) ∧ Below w.heap.size w w' := by
  have c12 := fun w => kindOf_calls kind w
  have c11 := fun w => within_calls number w
  have c13 := fun w => short_calls payload (by omega) w
  rw [hK] at c12; rw [hN] at c11; rw [hP] at c13
  have e1 := parse_frame K N P K1 K2 N0 N1 P1
  have fs := frame_size K N P
  have e2 : ∃ a1 a2 a3 c, parseZ (frameZ K N P ++ more) = .tuple #[.int .i64 a1, .int .i64 a2, .string a3, .int .i64 c] ∧ (more = ByteArray.empty ∨ c = 111) := by
    rcases Nat.eq_zero_or_pos more.size with h | h
    · have : more = ByteArray.empty := ba_ext _ _ (List.eq_nil_of_length_eq_zero (by rw [size_list]; exact h))
      subst this
      exact ⟨K, N, P, 0, by rw [ByteArray.append_empty, e1], .inl rfl⟩
    · exact ⟨_, _, _, _, parse_more K N P more K1 K2 N0 N1 P1 h, .inr rfl⟩
  obtain ⟨a1, a2, a3, c, e2, e2c⟩ := e2
  have hm2 : (frameZ K N P ++ more).size = 18 + P.size + more.size := by rw [ByteArray.size_append, fs]
  have hcut : (0 ≤ cut ∧ cut < ((18 + P.size : Nat) : Int)) ∨ ¬ (0 ≤ cut ∧ cut < ((18 + P.size : Nat) : Int)) := Classical.em _
  have e3 : (0 ≤ cut ∧ cut < ((18 + P.size : Nat) : Int)) → parseZ ((frameZ K N P).extract 0 cut.toNat) = .tuple #[.int .i64 0, .int .i64 0, .string ⟨#[]⟩, .int .i64 12] := fun h =>
    parse_cut K N P cut.toNat K1 K2 N0 N1 P1 (by rw [fs]; omega)
  have hx3 : ((frameZ K N P).extract 0 cut.toNat).size < 9223372036854775807 := by rw [ByteArray.size_extract, fs]; omega
  have e4 := parse_cases b
  go_enter Try.func5, Try.ntmps5
  rcases e2c with rfl | rfl <;> rcases hcut with ⟨u1, u2⟩ | hcut <;> rcases e4 with ⟨c4, hc4, e4⟩ | ⟨k4, n4, p4, e4, f4, k41, k42, n40, n41, p41⟩
  all_goals (try have e3 := e3 ⟨u1, u2⟩)
  all_goals go_wp2_with (first
      | (go_at_call 12; refine (c12 _).mono ?_; rintro e w1 ⟨rfl, rfl⟩)
      | (go_at_call 11; refine (c11 _).mono ?_; rintro e w1 ⟨rfl, rfl⟩)
      | (go_at_call 13; refine (c13 _).mono ?_; rintro e w1 ⟨rfl, rfl⟩)
      | (go_at_call 14; refine (frame_calls _ _ _ ?_ ?_ ?_ ?_ ?_ _).mono ?_ <;> first | omega | (rintro e w1 ⟨rfl, hb1⟩))
      | (go_at_call 15; refine (parse_calls _ ?_ _).mono ?_ <;> first | omega | (rintro e w1 ⟨rfl, hb2⟩; first | rw [e1] | rw [e2] | rw [e3] | rw [e4])))
  all_goals go_ret
  all_goals refine ⟨by first | rfl | simp_all, ?_⟩
  all_goals (repeat (first | assumption | (refine belowThen (by assumption) ?_)))
theorem bookBack_walk (kind number : Int) (payload more : ByteArray) (cut : Int) (b : ByteArray) (h0 : -9223372036854775808 ≤ kind ∧ kind ≤ 9223372036854775807) (h1 : -9223372036854775808 ≤ number ∧ number ≤ 9223372036854775807)
    (hpl : payload.size ≤ 140737488351232) (hml : more.size ≤ 140737488351232) (hc : -9223372036854775808 ≤ cut ∧ cut ≤ 9223372036854775807) (hbl : b.size ≤ 140737488351232) (w : World) :
    Calls Try.prog 5 #[.int .i64 kind, .int .i64 number, .string payload, .string more, .int .i64 cut, .string b] w fun e w' => e = .returned (.bool true) ∧ Below w.heap.size w w' :=
  back_core kind number cut _ _ payload more b _ rfl rfl rfl (kind_b kind).1 (kind_b kind).2 (within_b number h1.2).1 (within_b number h1.2).2 (shortZ_size payload) hpl hml hbl hc.2 w
end Go.Proofs.Ytcicdgajhheipaa
