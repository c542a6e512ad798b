import Derived.Test.YtpgflnjpohmldaaMeterText10
set_option linter.unusedVariables false
namespace Go.Proofs.Ytpgflnjpohmldaa
open Go.RowKit FloatMath
theorem rfixed_bad (n : Int) (x : Nat) (hb : x < 18446744073709551616) (h : finB x = false) (w : World) :
    Calls Try.prog 23 #[.int .u64 x, .int .i64 n] w fun x w' => x = .returned (.tuple #[.string ⟨#[]⟩, .int .i64 251]) ∧ w = w' := by
  have cm := fun w => rfinite_calls x hb w
  rw [h] at cm
  have HB := Lib.hid hb
  clear hb
  go_enter Try.func23, Try.ntmps23
  go_wp2_with (go_at_call 42; refine (cm _).mono ?_; rintro e w1 ⟨rfl, rfl⟩)
  go_ret2
  exact ⟨rfl, rfl⟩
theorem rfixed_range (n : Int) (x : Nat) (hb : x < 18446744073709551616) (h : finB x = true) (hn : n < 0 ∨ 9 < n) (w : World) :
    Calls Try.prog 23 #[.int .u64 x, .int .i64 n] w fun x w' => x = .returned (.tuple #[.string ⟨#[]⟩, .int .i64 10]) ∧ w = w' := by
  have cm := fun w => rfinite_calls x hb w
  rw [h] at cm
  have HB := Lib.hid hb
  clear hb
  rcases hn with hn | hn
  all_goals
    go_enter Try.func23, Try.ntmps23
    go_wp2_with (go_at_call 42; refine (cm _).mono ?_; rintro e w1 ⟨rfl, rfl⟩)
    go_ret2
    exact ⟨rfl, rfl⟩
theorem fixed_both (n : Int) (x : Nat) (hb : x < 18446744073709551616) : ∃ (s : ByteArray) (c : Int), (∀ w, Calls Try.prog 22 #[.int .u64 x, .int .i64 n] w fun e w' => e = .returned (.tuple #[.string s, .int .i64 c]) ∧ Below w.heap.size w w') ∧
    (∀ w, Calls Try.prog 23 #[.int .u64 x, .int .i64 n] w fun e w' => e = .returned (.tuple #[.string s, .int .i64 c]) ∧ Below w.heap.size w w') := by
  cases hf : finB x with
  | false => exact ⟨_, _, fun w => (fixed_bad x n x rfl hb hf w).mono fun e w' ⟨he, hw⟩ => ⟨he, hw ▸ Below.refl _ _⟩, fun w => (rfixed_bad n x hb hf w).mono fun e w' ⟨he, hw⟩ => ⟨he, hw ▸ Below.refl _ _⟩⟩
  | true =>
    have hE : oE x < 2047 := by
      have := oE_le x
      unfold finB at hf
      simp at hf
      omega
    by_cases hn : n < 0 ∨ 9 < n
    · exact ⟨_, _, fun w => (fixed_range n x hb hf hn w).mono fun e w' ⟨he, hw⟩ => ⟨he, hw ▸ Below.refl _ _⟩, fun w => (rfixed_range n x hb hf hn w).mono fun e w' ⟨he, hw⟩ => ⟨he, hw ▸ Below.refl _ _⟩⟩
    · obtain ⟨m, rfl⟩ : ∃ m : Nat, n = m := ⟨n.toNat, by omega⟩
      exact ⟨_, _, fun w => fixed_calls x m hb hE (by omega) w, fun w => rfixed_calls x m hb hE (by omega) w⟩
theorem meterText_walk (a b : Int) (ha : 0 ≤ a ∧ a ≤ 18446744073709551615) (hb : -9223372036854775808 ≤ b ∧ b ≤ 9223372036854775807) (w : World) :
    Calls Try.prog 8 #[.int .u64 a, .int .i64 b] w fun e w' => e = .returned (.bool true) ∧ Below w.heap.size w w' := by
  obtain ⟨x, rfl⟩ : ∃ x : Nat, a = x := ⟨a.toNat, by omega⟩
  obtain ⟨s, c, c1, c2⟩ := fixed_both b x (by omega)
  clear ha hb
  go_enter Try.func8, Try.ntmps8
  go_wp2_with (first
    | (go_at_call 22; refine (c1 _).mono ?_; rintro e w1 ⟨rfl, hb1⟩)
    | (go_at_call 23; refine (c2 _).mono ?_; rintro e w2 ⟨rfl, hb2⟩))
  go_ret
  exact ⟨rfl, belowThen hb1 hb2⟩
end Go.Proofs.Ytpgflnjpohmldaa
