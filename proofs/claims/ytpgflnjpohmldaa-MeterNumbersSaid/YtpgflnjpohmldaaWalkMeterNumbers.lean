/- MeterNumbers: for all ints a and b the law answers true: every int as a float, every quotient, as the reference has them. -/
import Derived.Test.YtpgflnjpohmldaaMeterQuot
namespace Go.Proofs.Ytpgflnjpohmldaa
open Go.RowKit FloatMath
set_option maxHeartbeats 1000000 in
theorem meterNumbers_walk (a b : Int) (ha : -9223372036854775808 ≤ a ∧ a ≤ 9223372036854775807) (hb : -9223372036854775808 ≤ b ∧ b ≤ 9223372036854775807) (w : World) :
    Calls Try.prog 5 #[.int .i64 a, .int .i64 b] w fun e w' => e = .returned (.bool true) ∧ Below w.heap.size w w' := by
  obtain ⟨ha1, ha2⟩ := ha
  obtain ⟨hb1, hb2⟩ := hb
  by_cases h : b = 0
  · subst h
    go_enter Try.func5, Try.ntmps5
    go_wp2_with (first | (go_at_call 13; refine (bits_calls _ _).mono ?_; rintro e w1 ⟨rfl, rfl⟩) | (go_at_call 15; refine (rbits_calls a ha1 ha2 _).mono ?_; rintro e w1 ⟨rfl, hw1⟩) | (go_at_call 16; refine (mquot_zero _ _).mono ?_; rintro e w1 ⟨rfl, rfl⟩) | (go_at_call 17; refine (rquot_zero _ _).mono ?_; rintro e w2 ⟨rfl, hw2⟩))
    go_ret
    exact ⟨rfl, belowThen hw1 hw2⟩
  · have hb0 : (b == 0) = false := by simpa using h
    go_enter Try.func5, Try.ntmps5
    go_wp2_with (first | (go_at_call 13; refine (bits_calls _ _).mono ?_; rintro e w1 ⟨rfl, rfl⟩) | (go_at_call 15; refine (rbits_calls a ha1 ha2 _).mono ?_; rintro e w1 ⟨rfl, hw1⟩) | (go_at_call 16; refine (mquot_calls a b ha1 ha2 hb1 hb2 hb0 _).mono ?_; rintro e w1 ⟨rfl, rfl⟩) | (go_at_call 17; refine (rquot_calls a b ha1 ha2 hb1 hb2 hb0 _).mono ?_; rintro e w2 ⟨rfl, hw2⟩))
    go_ret
    exact ⟨rfl, belowThen hw1 hw2⟩
end Go.Proofs.Ytpgflnjpohmldaa
