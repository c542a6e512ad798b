import Derived.Test.YtpgflnjpohmldaaMeterQuot
import Derived.Test.YtpgflnjpohmldaaIntsIn
set_option linter.unusedVariables false
namespace Go.Proofs.Ytpgflnjpohmldaa
open Go.RowKit
def okI (x : Int) : Bool := decide (-9223372036854775808 ≤ x ∧ x ≤ 9223372036854775807)
theorem okI_iff (x : Int) : okI x = true ↔ -9223372036854775808 ≤ x ∧ x ≤ 9223372036854775807 := by simp [okI]
theorem wrap64_form (x : Int) : ∃ k : Int, wrap64 x = x - 18446744073709551616 * k ∧ -9223372036854775808 ≤ wrap64 x ∧ wrap64 x ≤ 9223372036854775807 :=
  ⟨(x + 9223372036854775808) / 18446744073709551616, by unfold wrap64; omega⟩
theorem sum_ok (a b : Int) (ha : okI a) (hb : okI b) : (decide (a ≤ wrap64 (a + b)) == decide (0 ≤ b)) = okI (a + b) := by
  rw [okI_iff] at ha hb
  obtain ⟨k, h1, h2, h3⟩ := wrap64_form (a + b)
  by_cases h : okI (a + b) = true
  · rw [h]; rw [okI_iff] at h
    have : k = 0 := by omega
    by_cases hb0 : 0 ≤ b <;> simp [hb0] <;> omega
  · rw [Bool.not_eq_true] at h; rw [h]
    have h' : ¬ (-9223372036854775808 ≤ a + b ∧ a + b ≤ 9223372036854775807) := by rw [← okI_iff, h]; simp
    by_cases hb0 : 0 ≤ b <;> simp [hb0] <;> omega
theorem prod_ok (a b : Int) (ha : okI a) (hb : okI b) (hb0 : b ≠ 0) : (wrap64 ((wrap64 (a * b)).tdiv b) = a ∧ ¬ (a = -1 ∧ b = -9223372036854775808) ∧ ¬ (b = -1 ∧ a = -9223372036854775808)) ↔ okI (a * b) = true := by
  rw [okI_iff] at *
  obtain ⟨k, h1, h2, h3⟩ := wrap64_form (a * b)
  constructor
  · rintro ⟨he, hn1, hn2⟩
    by_cases hm : b = -1
    · subst hm; omega
    generalize hc : wrap64 (a * b) = c at *
    obtain ⟨k2, g1, g2, g3⟩ := wrap64_form (c.tdiv b)
    have t1 := Int.mul_tdiv_add_tmod c b
    have hab : c.tmod b < b.natAbs ∧ -(b.natAbs : Int) < c.tmod b := by
      have := Int.natAbs_tmod c b
      have h4 : c.natAbs % b.natAbs < b.natAbs := Nat.mod_lt _ (by omega)
      omega
    have hq : (c.tdiv b).natAbs ≤ c.natAbs := by rw [Int.natAbs_tdiv]; exact Nat.div_le_self _ _
    have hb2 : b = 1 ∨ 2 ≤ b.natAbs := by omega
    have hk2 : k2 = 0 := by
      rcases hb2 with rfl | hb2
      · omega
      · have : (c.tdiv b).natAbs ≤ c.natAbs / 2 := by rw [Int.natAbs_tdiv]; exact Nat.div_le_div_left hb2 (by omega)
        omega
    have ht : c.tdiv b = a := by omega
    rw [ht, Int.mul_comm] at t1
    generalize a * b = m at *
    omega
  · rintro ⟨l1, l2⟩
    have hk : k = 0 := by omega
    have hc : wrap64 (a * b) = a * b := by omega
    rw [hc, Int.mul_tdiv_cancel _ hb0]
    refine ⟨IntWalk.wrap64_in _ (by omega), ?_, ?_⟩
    · rintro ⟨rfl, rfl⟩; omega
    · rintro ⟨rfl, rfl⟩; omega
set_option maxHeartbeats 1000000 in
theorem msum_calls (a b : Int) (ha : okI a) (hb : okI b) (w : World) :
    Calls Try.prog 88 #[.int .i64 a, .int .i64 b] w fun e w' => e = .returned (.tuple #[.int .i64 (wrap64 (a + b)), .bool (okI (a + b))]) ∧ w = w' := by
  have h := sum_ok a b ha hb
  go_enter Try.func88, Try.ntmps88
  go_wp2
  go_ret2
  exact ⟨rfl, rfl⟩
set_option maxHeartbeats 1000000 in
theorem plus_calls (a b : Int) (ha : okI a) (hb : okI b) (w : World) :
    Calls Try.prog 53 #[.int .i64 a, .int .i64 b] w fun e w' => e = .returned (if okI (a + b) then .tuple #[.int .i64 (a + b), .bool true] else .tuple #[.int .i64 0, .bool false]) ∧ w = w' := by
  rw [okI_iff] at ha hb
  by_cases h : -9223372036854775808 ≤ a + b ∧ a + b ≤ 9223372036854775807
  · rw [if_pos (by rw [okI_iff]; exact h)]
    go_enter Try.func53, Try.ntmps53
    go_wp2
    all_goals go_ret2
    all_goals exact ⟨rfl, rfl⟩
  · rw [if_neg (by rw [okI_iff]; exact h)]
    go_enter Try.func53, Try.ntmps53
    go_wp2
    all_goals go_ret2
    all_goals exact ⟨rfl, rfl⟩
set_option maxHeartbeats 1000000 in
theorem mprod_calls (a b : Int) (ha : okI a) (hb : okI b) (w : World) :
    Calls Try.prog 72 #[.int .i64 a, .int .i64 b] w fun e w' => e = .returned (.tuple #[.int .i64 (wrap64 (a * b)), .bool (okI (a * b))]) ∧ w = w' := by
  by_cases ha0 : a = 0
  · subst ha0
    have e : okI (0 * b) = true := by simp [okI]
    rw [e, show wrap64 (0 * b) = 0 by simp [wrap64]]
    go_enter Try.func72, Try.ntmps72
    go_wp2
    go_ret2
    exact ⟨rfl, rfl⟩
  by_cases hb0 : b = 0
  · subst hb0
    have e : okI (a * 0) = true := by simp [okI]
    rw [e, show wrap64 (a * 0) = 0 by simp [wrap64]]
    have ha1 : (a == 0) = false := by simpa using ha0
    go_enter Try.func72, Try.ntmps72
    go_wp2
    go_ret2
    exact ⟨rfl, rfl⟩
  have h := prod_ok a b ha hb hb0
  have ha1 : (a == 0) = false := by simpa using ha0
  have hb1 : (b == 0) = false := by simpa using hb0
  have HA := Lib.hid ha
  have HB := Lib.hid hb
  by_cases h1 : a = -1
  · subst h1
    rw [Int.neg_one_mul] at h ⊢
    by_cases h2 : b = -9223372036854775808
    · subst h2
      clear h
      have e1 : wrap64 9223372036854775808 = -9223372036854775808 := by unfold wrap64; omega
      have e2 : wrap64 1 = 1 := by unfold wrap64; omega
      rw [show wrap64 (- -9223372036854775808) = -9223372036854775808 from e1, show okI (- -9223372036854775808) = false by decide]
      go_enter Try.func72, Try.ntmps72
      go_wp2
      go_ret2
      exact ⟨by show Ending.returned (.tuple #[.int .i64 (wrap64 9223372036854775808), .bool false]) = _; rw [e1], rfl⟩
    · have h3 : (b == -9223372036854775808) = false := by simpa using h2
      have h4 : okI (-b) = true := by rw [okI_iff] at hb ⊢; omega
      rw [h4]
      by_cases h5 : b = -1
      · subst h5
        clear h
        rw [show wrap64 (- -1) = 1 by unfold wrap64; omega]
        go_enter Try.func72, Try.ntmps72
        go_wp2
        go_ret2
        exact ⟨rfl, rfl⟩
      · have h6 : (b == -1) = false := by simpa using h5
        have h7 := (h.mpr h4).1
        clear h h4
        go_enter Try.func72, Try.ntmps72
        go_wp2
        go_ret2
        exact ⟨rfl, rfl⟩
  have h1' : (a == -1) = false := by simpa using h1
  by_cases h2 : b = -1
  · subst h2
    rw [Int.mul_neg_one] at h ⊢
    by_cases h3 : a = -9223372036854775808
    · subst h3
      clear h
      have e1 : wrap64 9223372036854775808 = -9223372036854775808 := by unfold wrap64; omega
      rw [show wrap64 (- -9223372036854775808) = -9223372036854775808 from e1, show okI (- -9223372036854775808) = false by decide]
      go_enter Try.func72, Try.ntmps72
      go_wp2
      go_ret2
      exact ⟨by show Ending.returned (.tuple #[.int .i64 (wrap64 9223372036854775808), .bool false]) = _; rw [e1], rfl⟩
    · have h3' : (a == -9223372036854775808) = false := by simpa using h3
      have h4 : okI (-a) = true := by rw [okI_iff] at ha ⊢; omega
      rw [h4]
      clear h
      rw [okI_iff] at h4 ha
      have e1 : wrap64 (-a) = -a := IntWalk.wrap64_in _ h4
      have e2 : wrap64 a = a := IntWalk.wrap64_in _ ha
      rw [e1]
      go_enter Try.func72, Try.ntmps72
      go_wp2
      go_ret2
      exact ⟨rfl, rfl⟩
  have h2' : (b == -1) = false := by simpa using h2
  have h8 : (wrap64 ((wrap64 (a * b)).tdiv b) == a) = okI (a * b) := by
    rw [Bool.eq_iff_iff, ← h, beq_iff_eq]
    exact ⟨fun x => ⟨x, fun y => h1 y.1, fun y => h2 y.1⟩, fun x => x.1⟩
  clear h
  generalize hm : wrap64 (a * b) = m at *
  generalize okI (a * b) = ok at *
  generalize hz : wrap64 (m.tdiv b) = z at *
  cases ok
  · have h9 : (z == a) = false := h8
    clear h8
    go_enter Try.func72, Try.ntmps72
    go_wp2
    go_ret2
    exact ⟨by rw [← hm]; rfl, rfl⟩
  · obtain rfl : z = a := by simpa using h8
    clear h8
    go_enter Try.func72, Try.ntmps72
    go_wp2
    go_ret2
    exact ⟨by rw [← hm]; rfl, rfl⟩
set_option maxHeartbeats 1000000 in
theorem size_calls (a : Int) (ha : okI a) (w : World) :
    Calls Try.prog 73 #[.int .i64 a] w fun e w' => e = .returned (.int .u64 (a.natAbs : Nat)) ∧ Below w.heap.size w w' := by
  rw [okI_iff] at ha
  have c := rwhole_calls a ha.1 ha.2
  go_enter Try.func73, Try.ntmps73
  go_wp2_with (go_at_call 37; (with_reducible refine (c _).mono ?_); rintro e w1 ⟨rfl, hb1⟩)
  go_ret
  exact ⟨rfl, belowAlloc hb1 _⟩
theorem times_ok (x y : Nat) (hx : 0 < x) : (y : Int) ≤ 9223372036854775807 / (x : Int) ↔ okI ((x : Int) * y) = true := by
  rw [okI_iff, Int.le_ediv_iff_mul_le (by omega), Int.mul_comm]
  have : (0 : Int) ≤ (x : Int) * y := Int.mul_nonneg (by omega) (by omega)
  omega
set_option maxHeartbeats 1000000 in
theorem times_calls (a b : Int) (ha : okI a) (hb : okI b) (hp : 0 ≤ a * b) (w : World) :
    Calls Try.prog 55 #[.int .i64 a, .int .i64 b] w fun e w' => e = .returned (if okI (a * b) then .tuple #[.int .i64 (a * b), .bool true] else .tuple #[.int .i64 0, .bool false]) ∧ Below w.heap.size w w' := by
  have c1 := size_calls a ha
  have c2 := size_calls b hb
  have hab : a * b = (a.natAbs : Int) * b.natAbs := by rw [← Int.natCast_mul, ← Int.natAbs_mul]; omega
  rw [hab]
  rw [okI_iff] at ha hb
  have hx : (a.natAbs : Int) ≤ 9223372036854775808 := by omega
  have hy : (b.natAbs : Int) ≤ 9223372036854775808 := by omega
  clear hab hp ha hb
  generalize a.natAbs = x at *
  generalize b.natAbs = y at *
  by_cases hx0 : x = 0
  · subst hx0
    have e : okI (((0 : Nat) : Int) * y) = true := by simp [okI]
    rw [if_pos e, show (((0 : Nat) : Int) * y) = 0 by simp]
    go_enter Try.func55, Try.ntmps55
    go_wp2_with (go_at_call 73; first
      | ((with_reducible refine (c1 _).mono ?_); rintro e w1 ⟨rfl, hb1⟩; have H1 := Lib.hid hb1; clear hb1)
      | ((with_reducible refine (c2 _).mono ?_); rintro e w2 ⟨rfl, hb2⟩; have H2 := Lib.hid (belowThen H1.out hb2); clear hb2))
    go_ret2
    exact ⟨rfl, H2.out⟩
  · have hxz : ((x : Int) == 0) = false := by rw [beq_eq_false_iff_ne]; omega
    have ht := times_ok x y (by omega)
    obtain ⟨m, hm⟩ : ∃ m, (x : Int) * y = m := ⟨_, rfl⟩
    obtain ⟨q, hq⟩ : ∃ q, 9223372036854775807 / (x : Int) = q := ⟨_, rfl⟩
    rw [hm, hq] at ht
    rw [hm]
    have hm0 : 0 ≤ m := by rw [← hm]; exact Int.mul_nonneg (by omega) (by omega)
    by_cases h : okI m = true
    · have hyq := ht.mpr h
      rw [if_pos h]
      rw [okI_iff] at h
      clear ht
      go_enter Try.func55, Try.ntmps55
      go_wp2_with (go_at_call 73; first
        | ((with_reducible refine (c1 _).mono ?_); rintro e w1 ⟨rfl, hb1⟩; have H1 := Lib.hid hb1; clear hb1)
        | ((with_reducible refine (c2 _).mono ?_); rintro e w2 ⟨rfl, hb2⟩; have H2 := Lib.hid (belowThen H1.out hb2); clear hb2))
      go_ret2
      exact ⟨rfl, H2.out⟩
    · have hyq : q < y := by rw [← ht] at h; omega
      rw [if_neg h]
      clear ht
      go_enter Try.func55, Try.ntmps55
      go_wp2_with (go_at_call 73; first
        | ((with_reducible refine (c1 _).mono ?_); rintro e w1 ⟨rfl, hb1⟩; have H1 := Lib.hid hb1; clear hb1)
        | ((with_reducible refine (c2 _).mono ?_); rintro e w2 ⟨rfl, hb2⟩; have H2 := Lib.hid (belowThen H1.out hb2); clear hb2))
      go_ret2
      exact ⟨rfl, H2.out⟩
end Go.Proofs.Ytpgflnjpohmldaa
