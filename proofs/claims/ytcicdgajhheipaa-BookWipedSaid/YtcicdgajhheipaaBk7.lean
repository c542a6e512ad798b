import Derived.Test.YtcicdgajhheipaaBk6
set_option linter.unusedVariables false
namespace Go.Proofs.Ytcicdgajhheipaa
open Go.RowKit
/-- What a frame's head says. -/
def kF (b : ByteArray) : Nat := if b.size < 14 then 0 else (b.data.toList.getD 1 0).toNat
def nF (b : ByteArray) : Nat := if b.size < 14 then 0 else rdN b 2 8
def lF (b : ByteArray) : Nat := if b.size < 14 then 0 else rdN b 10 4
def headZ (b : ByteArray) : Value := .agg #[.string b, .int .i64 (kF b), .int .u64 (nF b), .int .u32 (lF b)]
theorem kF_lt (b : ByteArray) : kF b < 256 := by
  unfold kF; split
  · omega
  · exact (b.data.toList.getD 1 0).toNat_lt
theorem nF_lt (b : ByteArray) : nF b < 18446744073709551616 := by
  unfold nF; split
  · omega
  · have := rdN_lt b 2 8; rwa [show (256 : Nat) ^ 8 = 18446744073709551616 by decide] at this
theorem lF_lt (b : ByteArray) : lF b < 4294967296 := by
  unfold lF; split
  · omega
  · have := rdN_lt b 10 4; rwa [show (256 : Nat) ^ 4 = 4294967296 by decide] at this
set_option maxRecDepth 100000 in
set_option maxHeartbeats 1000000 in
theorem headed_calls (b : ByteArray) (hbs : b.size < 9223372036854775807) (w : World) : Calls Try.prog 31 #[.string b] w fun e w' => e = .returned (headZ b) ∧ Below w.heap.size w w' := by
  by_cases h14 : b.size < 14
  · have h1 : headZ b = .agg #[.string b, .int .i64 0, .int .u64 0, .int .u32 0] := by unfold headZ kF nF lF; rw [if_pos h14, if_pos h14, if_pos h14]; rfl
    rw [h1]
    go_enter Try.func31, Try.ntmps31
    go_wp2
    exact bodyPost_ret (v := .agg #[.string b, .int .i64 0, .int .u64 0, .int .u32 0]) (by simp [results, Try.results31, go_sem]) rfl ⟨rfl, ((Below.refl _ _).alloc (Nat.le_refl _) _).alloc (by simp) _⟩
  · have hi : 1 < b.size := by omega
    have h1 : headZ b = .agg #[.string b, .int .i64 b[1].toNat, .int .u64 (rdN b 2 8 : Nat), .int .u32 (rdN b 10 4 : Nat)] := by
      unfold headZ kF nF lF; rw [if_neg h14, if_neg h14, if_neg h14, List.getD_eq_getElem?_getD, List.getElem?_eq_getElem (by simpa using hi)]; rfl
    rw [h1]
    clear h1
    have hw : IntKind.i64.wrap (b[1].toNat : Int) = b[1].toNat := by have := b[1].toNat_lt; exact IntWalk.i64_in _ (by omega)
    have hw2 : wrap64 (b[1].toNat : Int) = b[1].toNat := by have := b[1].toNat_lt; exact IntWalk.wrap64_in _ (by omega)
    go_enter Try.func31, Try.ntmps31
    go_wp2_with fail
    go_region_with (first | (go_at_call 52; refine (big64_calls b 2 ?_ hbs _).mono ?_ <;> first | omega | (rintro e w1 ⟨rfl, rfl⟩)) | (go_at_call 53; refine (big32_calls b 10 ?_ hbs _).mono ?_ <;> first | omega | (rintro e w1 ⟨rfl, rfl⟩)))
    all_goals go_wp2
    all_goals exact bodyPost_ret (v := .agg #[.string b, .int .i64 b[1].toNat, .int .u64 (rdN b 2 8 : Nat), .int .u32 (rdN b 10 4 : Nat)]) (by simp [results, Try.results31, go_sem]) rfl ⟨rfl, (((Below.refl _ _).alloc (Nat.le_refl _) _).alloc (by simp) _).drew⟩
/-- What a frame may be wrong in. -/
def wrongZ (b : ByteArray) : Nat → Bool
  | 0 => ((b.size : Int) == 0)
  | 1 => (((b.data.toList.getD 0 0).toNat : Int) != 165)
  | 2 => decide ((b.size : Int) < 14)
  | 3 => ((kF b : Int) == 0)
  | 4 => ((nF b : Int) / 9223372036854775808 != 0)
  | 5 => decide (524288 < (lF b : Int))
  | 6 => decide ((b.size : Int) < 14 + lF b + 4)
  | 7 => decide (14 + (lF b : Int) + 4 < b.size)
  | 8 => ((rdN b (b.size - 4) 4 : Int) != (crcZ (b.extract 0 (b.size - 4)) : Int))
  | _ => false
def codeZ : Nat → Int
  | 0 => 12 | 1 => 130 | 2 => 12 | 3 => 110 | 4 => 10 | 5 => 121 | 6 => 12 | 7 => 111 | _ => 131
def doubtCells : Array Value := #[.func (.func 54) #[] #[], .int .i64 12, .func (.func 55) #[] #[], .int .i64 130, .func (.func 56) #[] #[], .int .i64 12, .func (.func 57) #[] #[], .int .i64 110, .func (.func 58) #[] #[], .int .i64 10, .func (.func 59) #[] #[], .int .i64 121, .func (.func 60) #[] #[], .int .i64 12, .func (.func 61) #[] #[], .int .i64 111, .func (.func 62) #[] #[], .int .i64 131]
theorem doubts_calls (w : World) : Calls Try.prog 32 #[] w fun e w' => e = .returned (.slice (some ⟨w.heap.size, 0, none⟩) 9 9) ∧ w' = w.alloc (.cells doubtCells 68) := by
  go_enter Try.func32, Try.ntmps32
  go_wp2
  go_ret
  exact ⟨rfl, rfl⟩
end Go.Proofs.Ytcicdgajhheipaa
