import Derived.Test.YtkpfbjlbllpahaaDoorSha16
import Derived.Deep.Upon
set_option linter.unusedVariables false
namespace Go.Proofs.YtkpfbjlbllpahaaDoor
open Go.RowKit
def shaB (s : ByteArray) : ByteArray := ⟨(shaZ s.data.toList).toArray⟩
theorem shaB_size (s : ByteArray) : (shaB s).size = 32 := by
  have : (shaB s).size = (shaZ s.data.toList).length := by simp [shaB, ByteArray.size]
  rw [this, shaZ_len]
/-- How many bytes a hash has. -/
def widN (k : Int) : Nat := if k < 1 ∨ 32 < k then 32 else k.toNat
theorem widN_in {k : Int} (h1 : 1 ≤ k) (h2 : k ≤ 32) : widN k = k.toNat := by unfold widN; rw [if_neg (by omega)]
theorem widN_out {k : Int} (h : k < 1 ∨ 32 < k) : widN k = 32 := by unfold widN; rw [if_pos h]
theorem widN_le (k : Int) : 1 ≤ widN k ∧ widN k ≤ 32 := by unfold widN; split <;> omega
def cutB (s : ByteArray) (k : Int) : ByteArray := (shaB s).extract 0 (widN k)
theorem cutB_size (s : ByteArray) (k : Int) : (cutB s k).size = widN k := by
  have := widN_le k
  unfold cutB
  rw [ByteArray.size_extract, shaB_size]; omega
def emptyB (k : Int) : ByteArray := cutB ⟨#[]⟩ k
set_option maxRecDepth 100000 in
set_option maxHeartbeats 1000000 in
theorem cut_calls (s : ByteArray) (k : Int) (w : World) (hL : Laid w) (hn : s.size ≤ 140737488355328) : Calls Tryd.prog 42 #[.string s, .int .i64 k] w fun e w' => e = .returned (.string (cutB s k)) ∧ Below w.heap.size w w' := by
  have cS := shasum_calls s w hL hn
  rw [show (⟨(shaZ s.data.toList).toArray⟩ : ByteArray) = shaB s from rfl] at cS
  have hsz := shaB_size s
  have h1 : 1 ≤ k → k ≤ 32 → cutB s k = (shaB s).extract 0 k.toNat := fun h1 h2 => by unfold cutB; rw [widN_in h1 h2]
  have h2 : k < 1 ∨ 32 < k → cutB s k = (shaB s).extract 0 32 := fun h => by unfold cutB; rw [widN_out h]
  have H1 := Lib.hid h1
  have H2 := Lib.hid h2
  clear h1 h2
  generalize shaB s = x at *
  have CS := Lib.hid cS
  clear cS
  by_cases ha : k < 1
  · go_enter Tryd.func42, Tryd.ntmps42
    go_wp2_with (go_at_call 87; (with_reducible refine CS.out.mono ?_); rintro e w1 ⟨rfl, hb1⟩)
    go_ret
    exact ⟨congrArg (fun z => Ending.returned (.string z)) (H2.out (.inl ha)).symm, by assumption⟩
  · by_cases hc : 32 < k
    · go_enter Tryd.func42, Tryd.ntmps42
      go_wp2_with (go_at_call 87; (with_reducible refine CS.out.mono ?_); rintro e w1 ⟨rfl, hb1⟩)
      go_ret
      exact ⟨congrArg (fun z => Ending.returned (.string z)) (H2.out (.inr hc)).symm, by assumption⟩
    · obtain ⟨m, rfl⟩ : ∃ m : Nat, k = m := ⟨k.toNat, by omega⟩
      have hm1 : (1 : Int) ≤ m := by omega
      have hm2 : (m : Int) ≤ 32 := by omega
      go_enter Tryd.func42, Tryd.ntmps42
      go_wp2_with (go_at_call 87; (with_reducible refine CS.out.mono ?_); rintro e w1 ⟨rfl, hb1⟩)
      go_ret
      exact ⟨congrArg (fun z => Ending.returned (.string z)) (H1.out hm1 hm2).symm, by assumption⟩
theorem width_calls (k : Int) (w : World) : Calls Tryd.prog 81 #[.int .i64 k] w fun e w' => e = .returned (.int .i64 (widN k)) ∧ w = w' := by
  have h1 : 1 ≤ k → k ≤ 32 → (widN k : Int) = k := fun h1 h2 => by rw [widN_in h1 h2]; omega
  have h2 : k < 1 ∨ 32 < k → (widN k : Int) = 32 := fun h => by rw [widN_out h]; rfl
  have H1 := Lib.hid h1
  have H2 := Lib.hid h2
  clear h1 h2
  go_enter Tryd.func81, Tryd.ntmps81
  go_wp2
  all_goals go_ret
  all_goals exact ⟨congrArg (fun z => Ending.returned (.int .i64 z)) (by first | exact (H2.out (by omega)).symm | exact (H1.out (by omega) (by omega)).symm), rfl⟩
set_option maxRecDepth 100000 in
set_option maxHeartbeats 1000000 in
theorem refcut_calls (s : ByteArray) (k : Int) (w : World) (hL : Laid w) (hn : s.size + 80 ≤ 140737488355328) : Calls Tryd.prog 49 #[.string s, .int .i64 k] w fun e w' => e = .returned (.string (cutB s k)) ∧ Below w.heap.size w w' := by
  have cS := refsum_calls s w hL hn
  rw [show (⟨(shaZ s.data.toList).toArray⟩ : ByteArray) = shaB s from rfl] at cS
  have hsz := shaB_size s
  have h1 : cutB s k = (shaB s).extract 0 (widN k) := rfl
  have cW := fun w => width_calls k w
  have hle := widN_le k
  rw [h1]
  clear h1
  generalize shaB s = x at *
  generalize widN k = m at *
  have CS := Lib.hid cS
  have CW := Lib.hid cW
  clear cS cW
  go_enter Tryd.func49, Tryd.ntmps49
  go_wp2_with (first
    | (go_at_call 90; (with_reducible refine CS.out.mono ?_); rintro e w1 ⟨rfl, hb1⟩)
    | (go_at_call 81; (with_reducible refine (CW.out _).mono ?_); rintro e w1 ⟨rfl, rfl⟩))
  go_ret
  exact ⟨rfl, by assumption⟩
theorem refempty_calls (k : Int) (w : World) (hL : Laid w) : Calls Tryd.prog 48 #[.int .i64 k] w fun e w' => e = .returned (.string (emptyB k)) ∧ Below w.heap.size w w' := by
  have cC := refcut_calls ⟨#[]⟩ k w hL (by decide)
  rw [show cutB ⟨#[]⟩ k = emptyB k from rfl] at cC
  have CC := Lib.hid cC
  clear cC
  go_enter Tryd.func48, Tryd.ntmps48
  go_wp2_with (go_at_call 49; (with_reducible refine CC.out.mono ?_); rintro e w1 ⟨rfl, hb1⟩)
  go_ret
  exact ⟨rfl, by assumption⟩
/-- Nothing joined. -/
theorem join_nil (w : World) : Calls Tryd.prog 57 #[.slice none 0 0, .string ⟨#[]⟩] w fun e w' => e = .returned (.string ⟨#[]⟩) ∧ w = w' := by
  go_enter Tryd.func57, Tryd.ntmps57
  go_wp2
  go_ret
  exact ⟨rfl, rfl⟩
theorem hashed_nil (k : Int) (w : World) (hL : Laid w) : Calls Tryd.prog 108 #[.int .i64 k, .slice none 0 0] w fun e w' => e = .returned (.string (emptyB k)) ∧ Below w.heap.size w w' := by
  have cC := cut_calls ⟨#[]⟩ k w hL (by decide)
  rw [show cutB ⟨#[]⟩ k = emptyB k from rfl] at cC
  have CC := Lib.hid cC
  clear cC
  go_enter Tryd.func108, Tryd.ntmps108
  go_wp2_with (first
    | (go_at_call 57; (with_reducible refine (join_nil _).mono ?_); rintro e w1 ⟨rfl, rfl⟩)
    | (go_at_call 42; (with_reducible refine CC.out.mono ?_); rintro e w1 ⟨rfl, hb1⟩))
  go_ret
  exact ⟨rfl, by assumption⟩
theorem empty_calls (k : Int) (w : World) (hL : Laid w) : Calls Tryd.prog 80 #[.int .i64 k] w fun e w' => e = .returned (.string (emptyB k)) ∧ Below w.heap.size w w' := by
  have CC := Lib.hid (hashed_nil k w hL)
  go_enter Tryd.func80, Tryd.ntmps80
  go_wp2_with (go_at_call 108; (with_reducible refine CC.out.mono ?_); rintro e w1 ⟨rfl, hb1⟩)
  go_ret
  exact ⟨rfl, by assumption⟩
end Go.Proofs.YtkpfbjlbllpahaaDoor
