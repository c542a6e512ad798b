import Derived.Test.YtcicdgajhheipaaBk11
set_option linter.unusedVariables false
namespace Go.Proofs.Ytcicdgajhheipaa
open Go.RowKit
theorem parse_any (s : ByteArray) (v : Value) (hv : parseZ s = v) (hs : s.size < 9223372036854775807) (w : World) : Calls Try.prog 15 #[.string s] w fun e w' => e = .returned v ∧ Below w.heap.size w w' := by
  subst hv; exact parse_calls s hs w
/-- What is read of whatever bytes. -/
theorem parse_cases (b : ByteArray) : (∃ c, c ≠ 0 ∧ parseZ b = .tuple #[.int .i64 0, .int .i64 0, .string ⟨#[]⟩, .int .i64 c]) ∨
    ∃ (k n : Int) (p : ByteArray), parseZ b = .tuple #[.int .i64 k, .int .i64 n, .string p, .int .i64 0] ∧ frameZ k n p = b ∧ 1 ≤ k ∧ k ≤ 255 ∧ 0 ≤ n ∧ n ≤ 9223372036854775807 ∧ p.size ≤ 524288 := by
  by_cases h : ∀ j, j < 9 → wrongZ b j = false
  · obtain ⟨hf, h1, h2, h3, h4⟩ := parse_back b h
    exact .inr ⟨_, _, _, parse_right b h, hf, h1, h2, by omega, h3, h4⟩
  · left
    have hx : ∃ n, n < 9 ∧ wrongZ b n = true ∧ ∀ j, j < n → wrongZ b j = false := by
      have : ∃ n, n < 9 ∧ wrongZ b n = true := by
        apply Classical.byContradiction
        intro hn
        exact h fun j hj => by
          cases hw : wrongZ b j with
          | false => rfl
          | true => exact absurd ⟨j, hj, hw⟩ hn
      obtain ⟨n, hn, hw⟩ := this
      induction n using Nat.strongRecOn with
      | _ n ih =>
        by_cases hq : ∃ m, m < n ∧ wrongZ b m = true
        · obtain ⟨m, hm, hwm⟩ := hq
          exact ih m hm (by omega) hwm
        · refine ⟨n, hn, hw, fun j hj => ?_⟩
          cases hwj : wrongZ b j with
          | false => rfl
          | true => exact absurd ⟨j, hj, hwj⟩ hq
    obtain ⟨n, hn, hw, hb⟩ := hx
    refine ⟨codeZ n, ?_, parse_wrong b n hn hw hb⟩
    unfold codeZ; split <;> decide
end Go.Proofs.Ytcicdgajhheipaa
