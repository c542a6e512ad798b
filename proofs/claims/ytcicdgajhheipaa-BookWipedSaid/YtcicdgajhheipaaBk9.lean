import Derived.Test.YtcicdgajhheipaaBk8
import Derived.Laws.EntriesVeiled
set_option linter.unusedVariables false
namespace Go.Proofs.Ytcicdgajhheipaa
open Go.RowKit
theorem doubt_cell (k : Nat) (h : k < 9) : doubtCells[k * 2]? = some (.func (.func (54 + k)) #[] #[]) ∧ doubtCells[k * 2 + 1]? = some (.int .i64 (codeZ k)) := by
  have hc : k = 0 ∨ k = 1 ∨ k = 2 ∨ k = 3 ∨ k = 4 ∨ k = 5 ∨ k = 6 ∨ k = 7 ∨ k = 8 := by omega
  rcases hc with rfl | rfl | rfl | rfl | rfl | rfl | rfl | rfl | rfl <;> exact ⟨rfl, rfl⟩
theorem doubt_enter0 (w : World) (args : Array Value) : (callFunc 54 args).run Try.prog w = .ok (.enter 54 args) w := by kernel_rfl
theorem doubt_enter1 (w : World) (args : Array Value) : (callFunc 55 args).run Try.prog w = .ok (.enter 55 args) w := by kernel_rfl
theorem doubt_enter2 (w : World) (args : Array Value) : (callFunc 56 args).run Try.prog w = .ok (.enter 56 args) w := by kernel_rfl
theorem doubt_enter3 (w : World) (args : Array Value) : (callFunc 57 args).run Try.prog w = .ok (.enter 57 args) w := by kernel_rfl
theorem doubt_enter4 (w : World) (args : Array Value) : (callFunc 58 args).run Try.prog w = .ok (.enter 58 args) w := by kernel_rfl
theorem doubt_enter5 (w : World) (args : Array Value) : (callFunc 59 args).run Try.prog w = .ok (.enter 59 args) w := by kernel_rfl
theorem doubt_enter6 (w : World) (args : Array Value) : (callFunc 60 args).run Try.prog w = .ok (.enter 60 args) w := by kernel_rfl
theorem doubt_enter7 (w : World) (args : Array Value) : (callFunc 61 args).run Try.prog w = .ok (.enter 61 args) w := by kernel_rfl
theorem doubt_enter8 (w : World) (args : Array Value) : (callFunc 62 args).run Try.prog w = .ok (.enter 62 args) w := by kernel_rfl
theorem doubt_enter (w : World) (args : Array Value) : ∀ k, k < 9 → (callFunc (54 + k) args).run Try.prog w = .ok (.enter (54 + k) args) w
  | 0, _ => doubt_enter0 w args
  | 1, _ => doubt_enter1 w args
  | 2, _ => doubt_enter2 w args
  | 3, _ => doubt_enter3 w args
  | 4, _ => doubt_enter4 w args
  | 5, _ => doubt_enter5 w args
  | 6, _ => doubt_enter6 w args
  | 7, _ => doubt_enter7 w args
  | 8, _ => doubt_enter8 w args
  | n+9, h => absurd h (Nat.not_lt.mpr (Nat.le_add_left 9 n))
/-- What is read of bytes: kind, number, payload, error. -/
def parseZ (b : ByteArray) : Value :=
  match (List.range 9).find? (wrongZ b) with
  | some k => .tuple #[.int .i64 0, .int .i64 0, .string ⟨#[]⟩, .int .i64 (codeZ k)]
  | none => .tuple #[.int .i64 (kF b), .int .i64 (nF b), .string (b.extract 14 (b.size - 4)), .int .i64 0]
theorem parse_wrong (b : ByteArray) (k : Nat) (hk : k < 9) (hw : wrongZ b k = true) (hb : ∀ j, j < k → wrongZ b j = false) : parseZ b = .tuple #[.int .i64 0, .int .i64 0, .string ⟨#[]⟩, .int .i64 (codeZ k)] := by
  have h : (List.range 9).find? (wrongZ b) = some k := by
    rw [List.find?_range_eq_some]
    exact ⟨hw, by simpa using hk, fun j hj => by simp [hb j hj]⟩
  unfold parseZ; rw [h]
theorem parse_right (b : ByteArray) (hb : ∀ j, j < 9 → wrongZ b j = false) : parseZ b = .tuple #[.int .i64 (kF b), .int .i64 (nF b), .string (b.extract 14 (b.size - 4)), .int .i64 0] := by
  have h : (List.range 9).find? (wrongZ b) = none := by
    rw [List.find?_range_eq_none]
    exact fun j hj => by simp [hb j hj]
  unfold parseZ; rw [h]
set_option maxRecDepth 100000 in
set_option maxHeartbeats 1000000 in
theorem parse_calls (b : ByteArray) (hbs : b.size < 9223372036854775807) (w : World) : Calls Try.prog 15 #[.string b] w fun e w' => e = .returned (parseZ b) ∧ Below w.heap.size w w' := by
  go_enter Try.func15, Try.ntmps15
  have hh := fun w => headed_calls b hbs w
  unfold headZ at hh
  go_wp2_with (first
    | (go_at_call 31; refine (hh _).mono ?_; rintro e w1 ⟨rfl, hb1⟩)
    | (go_at_call 32; refine (doubts_calls _).mono ?_; rintro e w2 ⟨rfl, rfl⟩))
  go_loopw [8, 13] (fun _ i wr => ∃ k : Nat, k ≤ 9 ∧ i = .int .i64 k ∧ Hid (∀ j, j < k → wrongZ b j = false) ∧ Hid (Below w.heap.size w wr) ∧ Hid (∀ j v, doubtCells[j]? = some v → wr.cell? ⟨w1.heap.size + 1, j, none⟩ = some v) ∧
      wr.cell? ⟨w1.heap.size, 0, none⟩ = some (.string b) ∧ wr.cell? ⟨w1.heap.size, 1, none⟩ = some (.int .i64 (kF b)) ∧ wr.cell? ⟨w1.heap.size, 2, none⟩ = some (.int .u64 (nF b)) ∧ wr.cell? ⟨w1.heap.size, 3, none⟩ = some (.int .u32 (lF b)) ∧ w1.heap.size + 1 < wr.heap.size) (fun _ i _ => 9 - (intOf i).toNat)
  case atStart =>
    refine ⟨0, by omega, rfl, Lib.hid (fun j hj => by omega), Lib.hid ((hb1.alloc hb1.size _).alloc (by have := hb1.size; simp; omega) _), Lib.hid (fun j v hv => ?_), by simp, by simp, by simp, by simp, by simp⟩
    simp [hv]
  case round =>
    obtain ⟨k, hk, rfl, HW, HB, HD, f0, f1, f2, f3, hsz⟩ := hrel
    by_cases hlt : k < 9
    · obtain ⟨d0, d1⟩ := doubt_cell k hlt
      have g0 := HD.out _ _ d0
      have g1 := HD.out _ _ d1
      clear d0 d1
      have hs2 : w1.heap.size < wr.heap.size := by omega
      have hdc := fun w => doubt_calls b hbs k hlt HW.out w
      unfold headZ at hdc
      have hen := fun w args => doubt_enter w args k hlt
      go_wp2_with (refine (hdc _).mono ?_; rintro e w3 ⟨rfl, hb3⟩; obtain ⟨hc3, hf3⟩ := bcell hb3)
      · have HP := Lib.hid (parse_wrong b k hlt (by assumption) HW.out)
        go_region
        go_wp2
        exact bodyPost_ret (v := .tuple #[.int .i64 0, .int .i64 0, .string ⟨#[]⟩, .int .i64 (codeZ k)]) (by simp [results, Try.results15, go_sem]) rfl ⟨congrArg Ending.returned HP.out.symm, (belowThen (HB.out.alloc HB.out.size _) hb3).drew⟩
      · have hbb := belowThen ((Below.refl _ wr).alloc (Nat.le_refl _) _) hb3
        have hwk : wrongZ b k = false := by assumption
        go_roundw
        case rel =>
          refine ⟨k + 1, by omega, by go_num, Lib.hid (fun j hj => ?_), Lib.hid (belowThen HB.out hbb), Lib.hid (fun j v hv => ?_), ?_, ?_, ?_, ?_, ?_⟩
          · rcases Nat.lt_or_ge j k with h | h
            · exact HW.out j h
            · rw [show j = k by omega]; exact hwk
          · exact (hbb.cell (p := ⟨w1.heap.size + 1, j, none⟩) hsz).trans (HD.out j v hv)
          · exact (hbb.cell (p := ⟨w1.heap.size, 0, none⟩) hs2).trans f0
          · exact (hbb.cell (p := ⟨w1.heap.size, 1, none⟩) hs2).trans f1
          · exact (hbb.cell (p := ⟨w1.heap.size, 2, none⟩) hs2).trans f2
          · exact (hbb.cell (p := ⟨w1.heap.size, 3, none⟩) hs2).trans f3
          · exact Nat.lt_of_lt_of_le hsz hbb.size
        case measure => simp [intOf]; omega
    · obtain rfl : k = 9 := by omega
      have HP := Lib.hid (parse_right b HW.out)
      have k1 := kF_lt b
      have n1 : nF b < 9223372036854775808 := by
        have := HW.out 4 (by omega)
        simp only [wrongZ, bne_eq_false_iff_eq] at this
        omega
      have s18 : 18 ≤ b.size := by
        have := HW.out 6 (by omega)
        simp only [wrongZ, decide_eq_false_iff_not] at this
        omega
      obtain ⟨o, ho⟩ : ∃ o, b.size = o + 4 := ⟨b.size - 4, by omega⟩
      have hw2 : ((b.size : Int) - 4) = (o : Int) := by omega
      have hw : IntKind.i64.wrap (o : Int) = (o : Int) := IntWalk.i64_in _ (by omega)
      have hwn : IntKind.i64.wrap (nF b : Int) = (nF b : Int) := IntWalk.i64_in _ (by omega)
      have ho5 : (o : Int) ≤ b.size := by omega
      have ho6 : o ≤ b.size := by omega
      have ho14 : (14 : Int) ≤ o := by omega
      have ho14' : 14 ≤ o := by omega
      have hoN : (o : Int).toNat = o := by omega
      rw [show b.size - 4 = o by omega] at HP
      clear ho
      go_wp2_with fail
      go_region
      go_wp2
      exact bodyPost_ret (v := .tuple #[.int .i64 (kF b), .int .i64 (nF b), .string (b.extract 14 o), .int .i64 0]) (by simp [results, Try.results15, go_sem]) rfl ⟨congrArg Ending.returned HP.out.symm, HB.out.drew⟩
end Go.Proofs.Ytcicdgajhheipaa
