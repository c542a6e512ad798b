/- The walks of the small functions of meter: Bits, and what the statements of layer 25 ask of bits. -/
import Derived.Test.YtpgflnjpohmldaaProg
import Derived.Test.YtpgflnjpohmldaaFloatA
import Derived.WalkKit
import Derived.WalkSpells
import Derived.WalkLawsBesides
import Derived.Lib.Hide
namespace Go.Proofs.Ytpgflnjpohmldaa
open Go.RowKit
theorem f64bits (b : Nat) (w : World) : (callFunc 35 #[.float .f64 b]).run Try.prog w = .ok (.value (.int .u64 b)) w := by kernel_rfl
/-- The bits of an int's float. -/
def bitsZ (v : Int) : Int := (floatOfInt .f64 v : Nat)
theorem bitsZ_eq (v : Int) : bitsZ v = (FloatMath.ofInt v : Nat) := rfl
set_option maxHeartbeats 400000 in
theorem bits_calls (v : Int) (w : World) : Calls Try.prog 13 #[.int .i64 v] w fun e w' => e = .returned (.int .u64 (bitsZ v)) ∧ w = w' := by
  have h1 := f64bits
  go_enter Try.func13, Try.ntmps13
  go_wp2
  go_ret
  exact ⟨rfl, rfl⟩
def exactZ (v : Int) : Int := if v > 9007199254740992 ∨ v < -9007199254740992 then v.tmod 9007199254740992 else v
theorem exact_calls (v : Int) (w : World) : Calls Try.prog 14 #[.int .i64 v] w fun e w' => e = .returned (.int .i64 (exactZ v)) ∧ w = w' := by
  go_enter Try.func14, Try.ntmps14
  go_wp2
  all_goals go_ret
  all_goals refine ⟨congrArg (fun x => Ending.returned (.int .i64 x)) ?_, rfl⟩
  all_goals (unfold exactZ; first | rw [if_pos (by omega)] | rw [if_neg (by omega)])
  rw [Int.tmod_eq_emod_of_nonneg (by omega)]
theorem exactZ_small (v : Int) : -9007199254740992 ≤ exactZ v ∧ exactZ v ≤ 9007199254740992 := by
  unfold exactZ
  split
  · have h1 := Int.tmod_lt_of_pos v (show (0 : Int) < 9007199254740992 by omega)
    have h2 := Int.lt_tmod_of_pos v (show (0 : Int) < 9007199254740992 by omega)
    omega
  · omega
theorem exactZ_self (v : Int) (h : exactZ v = v) : -9007199254740992 ≤ v ∧ v ≤ 9007199254740992 := by
  have := exactZ_small v; omega
end Go.Proofs.Ytpgflnjpohmldaa
