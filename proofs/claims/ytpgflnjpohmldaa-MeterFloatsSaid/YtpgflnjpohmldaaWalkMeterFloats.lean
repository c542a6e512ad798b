/- MeterFloats: for all bits a and b the law answers true: every sum of two floats, every float as an int, as the reference has them. -/
import Derived.Test.YtpgflnjpohmldaaMeterWhole2
namespace Go.Proofs.Ytpgflnjpohmldaa
open Go.RowKit FloatMath
set_option maxHeartbeats 1000000 in
theorem meterFloats_walk (a b : Int) (ha : 0 ≤ a ∧ a ≤ 18446744073709551615) (hb : 0 ≤ b ∧ b ≤ 18446744073709551615) (w : World) :
    Calls Try.prog 7 #[.int .u64 a, .int .u64 b] w fun e w' => e = .returned (.bool true) ∧ Below w.heap.size w w' := by
  obtain ⟨x, rfl⟩ : ∃ x : Nat, a = x := ⟨a.toNat, by omega⟩
  obtain ⟨y, rfl⟩ : ∃ y : Nat, b = y := ⟨b.toNat, by omega⟩
  have HX := Lib.hid (show x < 18446744073709551616 by omega)
  have HY := Lib.hid (show y < 18446744073709551616 by omega)
  clear ha hb
  go_enter Try.func7, Try.ntmps7
  go_wp2_with fail
  go_at_call 18
  refine (madd_calls x y HX.out HY.out _).mono ?_
  rintro e w1 ⟨rfl, rfl⟩
  go_wp2_with fail
  go_at_call 19
  refine (radd_calls x y HX.out HY.out _).mono ?_
  rintro e w1 ⟨rfl, hb1⟩
  go_wp2_with fail
  go_at_call 20
  refine (mwhole_calls x HX.out _).mono ?_
  rintro e w2 ⟨rfl, rfl⟩
  go_wp2_with fail
  go_at_call 21
  refine (rWhole_calls x HX.out _).mono ?_
  rintro e w3 ⟨rfl, hb3⟩
  go_wp2
  go_ret
  exact ⟨rfl, belowThen hb1 hb3⟩
end Go.Proofs.Ytpgflnjpohmldaa
