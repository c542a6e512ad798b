import Derived.Test.YtcicdgajhheipaaBk15
set_option linter.unusedVariables false
namespace Go.Proofs.Ytcicdgajhheipaa
open Go.RowKit
/-! What the law of book adds: its ints and texts. -/
def withinZ (n : Int) : Int := if n < 0 then 0 else n
def kindZ (k : Int) : Int := k % 255 + 1
theorem within_calls (n : Int) (w : World) : Calls Try.prog 11 #[.int .i64 n] w fun e w' => e = .returned (.int .i64 (withinZ n)) ∧ w = w' := by
  have h1 : n < 0 → withinZ n = 0 := fun h => by unfold withinZ; rw [if_pos h]
  have h2 : 0 ≤ n → withinZ n = n := fun h => by unfold withinZ; rw [if_neg (by omega)]
  have H := Lib.hid (And.intro h1 h2)
  clear h1 h2
  go_enter Try.func11, Try.ntmps11
  go_wp2
  all_goals go_ret
  · exact ⟨congrArg (fun x => Ending.returned (.int .i64 x)) (H.out.1 (by assumption)).symm, rfl⟩
  · exact ⟨congrArg (fun x => Ending.returned (.int .i64 x)) (H.out.2 (by assumption)).symm, rfl⟩
theorem tmod255 (k : Int) : (k.tmod 255 < 0 → k.tmod 255 + 255 = k % 255) ∧ (0 ≤ k.tmod 255 → k.tmod 255 = k % 255) ∧ -255 < k.tmod 255 ∧ k.tmod 255 < 255 := by
  rcases Int.le_total 0 k with h | h
  · rw [Int.tmod_eq_emod_of_nonneg h]; omega
  · obtain ⟨j, rfl⟩ : ∃ j, k = -j := ⟨-k, by omega⟩
    rw [Int.neg_tmod, Int.tmod_eq_emod_of_nonneg (by omega)]; omega
theorem kindOf_calls (k : Int) (w : World) : Calls Try.prog 12 #[.int .i64 k] w fun e w' => e = .returned (.int .i64 (kindZ k)) ∧ w = w' := by
  obtain ⟨h1, h2, h3, h4⟩ := tmod255 k
  have hk : kindZ k = k % 255 + 1 := rfl
  have H := Lib.hid (And.intro h1 (And.intro h2 hk))
  clear h1 h2 hk
  go_enter Try.func12, Try.ntmps12
  go_wp2
  all_goals go_ret
  · exact ⟨congrArg (fun x => Ending.returned (.int .i64 x)) (show k.tmod 255 + 255 + 1 = kindZ k by rw [H.out.2.2, H.out.1 (by assumption)]), rfl⟩
  · exact ⟨congrArg (fun x => Ending.returned (.int .i64 x)) (show k.tmod 255 + 1 = kindZ k by rw [H.out.2.2, H.out.2.1 (by assumption)]), rfl⟩
/-- The beginning of a text. -/
def shortZ (s : ByteArray) : ByteArray := if 524288 < s.size then s.extract 0 524288 else s
theorem shortZ_size (s : ByteArray) : (shortZ s).size ≤ 524288 := by
  unfold shortZ; split
  · rw [ByteArray.size_extract]; omega
  · omega
theorem short_calls (s : ByteArray) (hb : s.size < 9223372036854775807) (w : World) : Calls Try.prog 13 #[.string s] w fun e w' => e = .returned (.string (shortZ s)) ∧ w = w' := by
  have h1 : 524288 < (s.size : Int) → shortZ s = s.extract 0 524288 := fun h => if_pos (by omega)
  have h2 : (s.size : Int) ≤ 524288 → shortZ s = s := fun h => if_neg (by omega)
  have H := Lib.hid (And.intro h1 h2)
  clear h1 h2
  go_enter Try.func13, Try.ntmps13
  go_wp2
  all_goals go_ret
  · exact ⟨congrArg (fun x => Ending.returned (.string x)) (H.out.1 (by assumption)).symm, rfl⟩
  · exact ⟨congrArg (fun x => Ending.returned (.string x)) (H.out.2 (by assumption)).symm, rfl⟩
theorem within_b (n : Int) (h : n ≤ 9223372036854775807) : 0 ≤ withinZ n ∧ withinZ n ≤ 9223372036854775807 := by
  unfold withinZ; split <;> omega
theorem kind_b (k : Int) : 1 ≤ kindZ k ∧ kindZ k ≤ 255 := by unfold kindZ; omega
end Go.Proofs.Ytcicdgajhheipaa
