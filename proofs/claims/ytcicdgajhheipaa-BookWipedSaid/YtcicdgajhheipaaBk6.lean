import Derived.Test.YtcicdgajhheipaaBk5
set_option linter.unusedVariables false
namespace Go.Proofs.Ytcicdgajhheipaa
open Go.RowKit
/-- The number that stands in so many bytes. -/
def rdN (b : ByteArray) (o : Nat) : Nat → Nat
  | 0 => 0
  | k+1 => rdN b o k * 256 + (b.data.toList.getD (o + k) 0).toNat
theorem rdN_lt (b : ByteArray) (o k : Nat) : rdN b o k < 256 ^ k := by
  induction k with
  | zero => simp [rdN]
  | succ k ih =>
    have := (b.data.toList.getD (o + k) 0).toNat_lt
    rw [rdN, Nat.pow_succ]; omega
theorem u64_shor (v x : Nat) (hv : v < 72057594037927936) (hx : x < 256) : bits BinOp.or IntKind.u64 ((v : Int) * 256) (x : Int) = ((v * 256 + x : Nat) : Int) := by
  rw [show (v : Int) * 256 = ((v * 256 : Nat) : Int) by omega, u64_or_nat _ _ (by omega) (by omega)]
  congr 1
  rw [show v * 256 = 2 ^ 8 * v by omega, ← Nat.two_pow_add_eq_or_of_lt (i := 8) (by omega) v]
set_option maxRecDepth 100000 in
set_option maxHeartbeats 1000000 in
theorem be_calls (b : ByteArray) (o z : Nat) (hz : 1 ≤ z) (hz8 : z ≤ 8) (hb : o + z ≤ b.size) (hbs : b.size < 9223372036854775807) (w : World) : Calls Try.prog 74 #[.string b, .int .i64 o, .int .i64 z] w fun e w' => e = .returned (.tuple #[.int .u64 (rdN b o z : Nat), .int .i64 0]) ∧ w = w' := by
  have hz0 : (z : Int) ≤ 8 := by omega
  have hbi : ¬ (b.size < z) := by omega
  have hbo : (o : Int) ≤ b.size - z := by omega
  go_enter Try.func74, Try.ntmps74
  go_wp2
  go_loop [8, 9, 35] (fun v _ i => ∃ (k r : Nat), k ≤ z ∧ i = .int .i64 k ∧ v = .int .u64 r ∧ r = rdN b o k) (fun _ _ i => z - (intOf i).toNat)
  case atStart => exact ⟨0, 0, by omega, rfl, rfl, rfl⟩
  case round =>
    obtain ⟨k, r, hk, rfl, rfl, hR⟩ := hrel
    have HR := Lib.hid hR
    by_cases hlt : k < z
    · have hr : r < 72057594037927936 := by
        have h1 := rdN_lt b o k
        have h2 : 256 ^ k ≤ 256 ^ 7 := Nat.pow_le_pow_right (by omega) (by omega)
        rw [show (256 : Nat) ^ 7 = 72057594037927936 by decide] at h2
        omega
      clear hR
      have hin : o + k < b.size := by omega
      have hy : b[o + k].toNat < 256 := b[o + k].toNat_lt
      have hor := u64_shor r b[o + k].toNat hr hy
      have hnat : ((o : Int) + k).toNat = o + k := by omega
      go_wp2
      go_round
      case rel =>
        refine ⟨k + 1, r * 256 + b[o + k].toNat, by omega, by go_num, by go_num, ?_⟩
        rw [rdN, ← HR.out, List.getD_eq_getElem?_getD, List.getElem?_eq_getElem (by simpa using hin)]
        rfl
      case measure => simp [intOf]; omega
    · obtain rfl : k = z := by omega
      clear hR
      go_wp2
      go_ret2
      rw [HR.out]
      exact ⟨rfl, rfl⟩
theorem big64_calls (b : ByteArray) (o : Nat) (hb : o + 8 ≤ b.size) (hbs : b.size < 9223372036854775807) (w : World) : Calls Try.prog 52 #[.string b, .int .i64 o] w fun e w' => e = .returned (.int .u64 (rdN b o 8 : Nat)) ∧ w = w' := by
  have hr := rdN_lt b o 8
  rw [show (256 : Nat) ^ 8 = 18446744073709551616 by decide] at hr
  go_enter Try.func52, Try.ntmps52
  go_wp2_with (go_at_call 74; refine (be_calls b o 8 ?_ ?_ hb hbs _).mono ?_ <;> first | omega | (rintro e w1 ⟨rfl, rfl⟩))
  go_ret
  exact ⟨rfl, rfl⟩
theorem big32_calls (b : ByteArray) (o : Nat) (hb : o + 4 ≤ b.size) (hbs : b.size < 9223372036854775807) (w : World) : Calls Try.prog 53 #[.string b, .int .i64 o] w fun e w' => e = .returned (.int .u32 (rdN b o 4 : Nat)) ∧ w = w' := by
  have hr := rdN_lt b o 4
  rw [show (256 : Nat) ^ 4 = 4294967296 by decide] at hr
  go_enter Try.func53, Try.ntmps53
  go_wp2_with (go_at_call 74; refine (be_calls b o 4 ?_ ?_ hb hbs _).mono ?_ <;> first | omega | (rintro e w1 ⟨rfl, rfl⟩))
  go_ret
  exact ⟨rfl, rfl⟩
end Go.Proofs.Ytcicdgajhheipaa
