/- The walk of annalsref25's shifted and sum. -/
import Derived.Test.YtpgflnjpohmldaaMeterQuot
import Derived.Test.YtpgflnjpohmldaaFloatC
namespace Go.Proofs.Ytpgflnjpohmldaa
open Go.RowKit FloatMath
set_option maxRecDepth 100000 in
set_option maxHeartbeats 4000000 in
theorem rshifted_calls (m k : Nat) (hm : m < 9007199254740992) (hk : k < 64) (w : World) : Calls Try.prog 46 #[.int .u64 m, .int .i64 k] w fun e w' => e = .returned (.tuple #[.int .u64 ((m / 2 ^ k : Nat) : Int), .bool (m % 2 ^ k != 0)]) ∧ w = w' := by
  have h1 : (m : Int) / 2 ^ k = ((m / 2 ^ k : Nat) : Int) := by push_cast; rfl
  have h2 : IntKind.u64.wrap (((m / 2 ^ k : Nat) : Int) * 2 ^ k) = ((m / 2 ^ k * 2 ^ k : Nat) : Int) := by
    have e : ((m / 2 ^ k : Nat) : Int) * 2 ^ k = ((m / 2 ^ k * 2 ^ k : Nat) : Int) := by push_cast; rfl
    have h2 : m / 2 ^ k * 2 ^ k ≤ m := Nat.div_mul_le_self _ _
    rw [e]
    generalize m / 2 ^ k * 2 ^ k = q at *
    rw [IntKind.wrap_u64]; omega
  have h3 : ((((m / 2 ^ k * 2 ^ k : Nat) : Int)) != (m : Int)) = (m % 2 ^ k != 0) := by
    have hd := Nat.div_add_mod m (2 ^ k)
    rw [Nat.mul_comm] at hd
    generalize m / 2 ^ k * 2 ^ k = q at *
    generalize m % 2 ^ k = r at *
    rcases Nat.eq_zero_or_pos r with h | h
    · subst h; obtain rfl : q = m := by omega
      simp
    · have h1 : (((q : Nat) : Int) != (m : Int)) = true := by rw [bne_iff_ne]; omega
      have h2 : (r != 0) = true := by rw [bne_iff_ne]; omega
      rw [h1, h2]
  have H := Lib.hid (And.intro h1 (And.intro h2 h3))
  clear h1 h2 h3 hm
  go_enter Try.func46, Try.ntmps46
  go_wp2
  go_ret2
  refine ⟨?_, rfl⟩
  obtain ⟨h1, h2, h3⟩ := H.out
  show Ending.returned (.tuple #[.int .u64 ((m : Int) / 2 ^ k), .bool (IntKind.u64.wrap ((m : Int) / 2 ^ k * 2 ^ k) != (m : Int))]) = _
  rw [h1, h2, h3]
set_option maxRecDepth 100000 in
theorem rshifted_far (m k : Int) (hk : 64 ≤ k) (w : World) : Calls Try.prog 46 #[.int .u64 m, .int .i64 k] w fun e w' => e = .returned (.tuple #[.int .u64 0, .bool (m != 0)]) ∧ w = w' := by
  go_enter Try.func46, Try.ntmps46
  go_wp2
  go_ret2
  exact ⟨rfl, rfl⟩
/-- The same of a whole number told as an int. -/
def rndI (neg : Bool) (x : Int) (e : Int) (more : Bool) : Int := rndB neg x.toNat e more
/-- Round of whole numbers told as ints. -/
theorem rround_z (neg : Bool) (x : Int) (e : Int) (more : Bool) (h0 : 0 ≤ x) (hx : x ≤ 18446744073709551615) (he : -1100 ≤ e) (he2 : e ≤ 3000) (hmore : more = true → 18014398509481984 ≤ x) (w : World) :
    Calls Try.prog 36 #[.agg #[.bool neg, .int .u64 x, .int .i64 e], .bool more] w fun e1 w' => e1 = .returned (.int .u64 (rndI neg x e more)) ∧ Below w.heap.size w w' := by
  have h := rround_calls' neg x.toNat e more (by omega) he he2 (fun hm => by have := hmore hm; omega) w
  rw [show ((x.toNat : Nat) : Int) = x by omega] at h
  exact h
/-- What the reference's sum rounds. -/
def sumZ (xn yn : Bool) (A B : Int) (M : Bool) (e : Int) : Int :=
  if xn = yn then rndI xn (A + B) e M
  else if A < B then rndI yn (B - A) e false
  else if A = B then rndI false 0 e false
  else rndI xn (if M then A - B - 1 else A - B) e M
theorem sum_world {w w5 : World} (o1 o2 o3 : Obj) (h : Below ((((w.alloc o1).alloc o2).alloc o3)).heap.size (((w.alloc o1).alloc o2).alloc o3) w5) : Below w.heap.size w w5 :=
  belowThen (((Below.refl _ _).alloc (Nat.le_refl _) _ |>.alloc (by simp) _ |>.alloc (by simp; omega) _)) h
set_option maxRecDepth 100000 in
set_option maxHeartbeats 8000000 in
theorem rsum_near (xn yn : Bool) (X Y d ye B : Int) (hX0 : 0 ≤ X) (hX : X < 9007199254740992) (h0 : 0 ≤ d) (h : d ≤ 10) (h1 : -1074 ≤ ye) (h2 : ye + d ≤ 971)
    (hB : IntKind.u64.wrap (Y * 2 ^ (10 - (ye + d - ye)).toNat) = B) (hB2 : d = 10 → Y = B) (hB0 : 0 ≤ B) (hB1 : B < 9223372036854775808) (w : World) :
    Calls Try.prog 43 #[.agg #[.bool xn, .int .u64 X, .int .i64 (ye + d)], .agg #[.bool yn, .int .u64 Y, .int .i64 ye]] w fun e w' => e = .returned (.int .u64 (sumZ xn yn (X * 1024) B false (ye + d - 10))) ∧ Below w.heap.size w w' := by
  have HB := Lib.hid (And.intro hB hB2)
  clear hB hB2
  go_enter Try.func43, Try.ntmps43
  go_upto_if 21 with (fail)
  go_cut [7, 8] (fun b m wx => b = .int .u64 B ∧ m = .bool false ∧ wx = (w.alloc (.cells #[.bool xn, .int .u64 X, .int .i64 (ye + d)] 61)).alloc (.cells #[.bool yn, .int .u64 Y, .int .i64 ye] 61))
  case first =>
    go_wp2_with fail
    go_meet
    exact ⟨by rw [HB.out.1], rfl, rfl⟩
  case rest =>
    obtain ⟨rfl, rfl, rfl⟩ := hcut
    clear HB
    by_cases hs : xn = yn
    · subst hs
      have HZ := Lib.hid (show sumZ xn xn (X * 1024) B false (ye + d - 10) = rndI xn (X * 1024 + B) (ye + d - 10) false from by unfold sumZ; rw [if_pos rfl])
      cases xn
      all_goals
        go_wp2_with fail
        go_at_call 36
        refine (rround_z _ _ _ _ (by omega) (by omega) (by omega) (by omega) (by simp) _).mono ?_
        rintro e w5 ⟨rfl, hb5⟩
        go_wp2
        go_ret
        exact ⟨congrArg (fun x => Ending.returned (.int .u64 x)) HZ.out.symm, sum_world _ _ _ hb5⟩
    · rcases Int.lt_trichotomy (X * 1024) B with hlt | heq | hgt
      · have HZ := Lib.hid (show sumZ xn yn (X * 1024) B false (ye + d - 10) = rndI yn (B - X * 1024) (ye + d - 10) false from by unfold sumZ; rw [if_neg hs, if_pos hlt])
        cases xn <;> cases yn <;> first | (exact absurd rfl hs) | skip
        all_goals
          clear hs
          go_wp2_with fail
          go_at_call 36
          refine (rround_z _ _ _ _ (by omega) (by omega) (by omega) (by omega) (by simp) _).mono ?_
          rintro e w5 ⟨rfl, hb5⟩
          go_wp2
          go_ret
          exact ⟨congrArg (fun x => Ending.returned (.int .u64 x)) HZ.out.symm, sum_world _ _ _ hb5⟩
      · have HZ := Lib.hid (show sumZ xn yn (X * 1024) B false (ye + d - 10) = rndI false 0 (ye + d - 10) false from by unfold sumZ; rw [if_neg hs, if_neg (by omega), if_pos heq])
        have hbe : (X * 1024 == B) = true := by simpa using heq
        have h3 : B ≤ X * 1024 := by omega
        have HE := Lib.hid (show X * 1024 - B = 0 by omega)
        clear heq
        cases xn <;> cases yn <;> first | (exact absurd rfl hs) | skip
        all_goals
          clear hs
          go_wp2_with fail
          go_at_call 36
          rw [HE.out]
          refine (rround_z _ _ _ _ (by omega) (by omega) (by omega) (by omega) (by simp) _).mono ?_
          rintro e w5 ⟨rfl, hb5⟩
          go_wp2
          go_ret
          exact ⟨congrArg (fun x => Ending.returned (.int .u64 x)) HZ.out.symm, sum_world _ _ _ hb5⟩
      · have HZ := Lib.hid (show sumZ xn yn (X * 1024) B false (ye + d - 10) = rndI xn (X * 1024 - B) (ye + d - 10) false from by unfold sumZ; rw [if_neg hs, if_neg (by omega), if_neg (by omega), if_neg (by simp)])
        have hbe : (X * 1024 == B) = false := by rw [beq_eq_false_iff_ne]; omega
        cases xn <;> cases yn <;> first | (exact absurd rfl hs) | skip
        all_goals
          clear hs
          go_wp2_with fail
          go_at_call 36
          refine (rround_z _ _ _ _ (by omega) (by omega) (by omega) (by omega) (by simp) _).mono ?_
          rintro e w5 ⟨rfl, hb5⟩
          go_wp2
          go_ret
          exact ⟨congrArg (fun x => Ending.returned (.int .u64 x)) HZ.out.symm, sum_world _ _ _ hb5⟩
set_option maxRecDepth 100000 in
set_option maxHeartbeats 8000000 in
theorem rsum_far (xn yn : Bool) (X Y d ye B : Int) (M : Bool) (hX0 : 4503599627370496 ≤ X) (hX : X < 9007199254740992) (h0 : 11 ≤ d) (h1 : -1074 ≤ ye) (h2 : ye + d ≤ 971)
    (hsh : ∀ w, Calls Try.prog 46 #[.int .u64 Y, .int .i64 (ye + d - ye - 10)] w fun e w' => e = .returned (.tuple #[.int .u64 B, .bool M]) ∧ w = w') (hB0 : 0 ≤ B) (hB1 : B < 4503599627370496) (w : World) :
    Calls Try.prog 43 #[.agg #[.bool xn, .int .u64 X, .int .i64 (ye + d)], .agg #[.bool yn, .int .u64 Y, .int .i64 ye]] w fun e w' => e = .returned (.int .u64 (sumZ xn yn (X * 1024) B M (ye + d - 10))) ∧ Below w.heap.size w w' := by
  have HS := Lib.hid hsh
  clear hsh
  go_enter Try.func43, Try.ntmps43
  go_upto_if 21 with (fail)
  go_cut [7, 8] (fun b m wx => b = .int .u64 B ∧ m = .bool M ∧ wx = (w.alloc (.cells #[.bool xn, .int .u64 X, .int .i64 (ye + d)] 61)).alloc (.cells #[.bool yn, .int .u64 Y, .int .i64 ye] 61))
  case first =>
    go_wp2_with fail
    go_at_call 46
    refine (HS.out _).mono ?_
    rintro e w1 ⟨rfl, rfl⟩
    go_wp2_with fail
    go_meet
    exact ⟨rfl, rfl, rfl⟩
  case rest =>
    obtain ⟨rfl, rfl, rfl⟩ := hcut
    clear HS
    by_cases hs : xn = yn
    · subst hs
      have HZ := Lib.hid (show sumZ xn xn (X * 1024) B M (ye + d - 10) = rndI xn (X * 1024 + B) (ye + d - 10) M from by unfold sumZ; rw [if_pos rfl])
      cases xn
      all_goals
        go_wp2_with fail
        go_at_call 36
        refine (rround_z _ _ _ _ (by omega) (by omega) (by omega) (by omega) (by intro _; omega) _).mono ?_
        rintro e w5 ⟨rfl, hb5⟩
        go_wp2
        go_ret
        exact ⟨congrArg (fun x => Ending.returned (.int .u64 x)) HZ.out.symm, sum_world _ _ _ hb5⟩
    · have hbe : (X * 1024 == B) = false := by rw [beq_eq_false_iff_ne]; omega
      have hgt : B < X * 1024 := by omega
      cases M
      · have HZ := Lib.hid (show sumZ xn yn (X * 1024) B false (ye + d - 10) = rndI xn (X * 1024 - B) (ye + d - 10) false from by unfold sumZ; rw [if_neg hs, if_neg (by omega), if_neg (by omega)]; rfl)
        cases xn <;> cases yn <;> first | (exact absurd rfl hs) | skip
        all_goals
          clear hs
          go_wp2_with fail
          go_at_call 36
          refine (rround_z _ _ _ _ (by omega) (by omega) (by omega) (by omega) (by intro _; omega) _).mono ?_
          rintro e w5 ⟨rfl, hb5⟩
          go_wp2
          go_ret
          exact ⟨congrArg (fun x => Ending.returned (.int .u64 x)) HZ.out.symm, sum_world _ _ _ hb5⟩
      · have HZ := Lib.hid (show sumZ xn yn (X * 1024) B true (ye + d - 10) = rndI xn (X * 1024 - B - 1) (ye + d - 10) true from by unfold sumZ; rw [if_neg hs, if_neg (by omega), if_neg (by omega)]; rfl)
        cases xn <;> cases yn <;> first | (exact absurd rfl hs) | skip
        all_goals
          clear hs
          go_wp2_with fail
          go_at_call 36
          refine (rround_z _ _ _ _ (by omega) (by omega) (by omega) (by omega) (by intro _; omega) _).mono ?_
          rintro e w5 ⟨rfl, hb5⟩
          go_wp2
          go_ret
          exact ⟨congrArg (fun x => Ending.returned (.int .u64 x)) HZ.out.symm, sum_world _ _ _ hb5⟩
end Go.Proofs.Ytpgflnjpohmldaa
