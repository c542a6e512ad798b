import Derived.Test.YtpgflnjpohmldaaMeterText4
import Derived.Test.YtpgflnjpohmldaaMeterAdd2
import Derived.Test.YtpgflnjpohmldaaMeterQuot
set_option linter.unusedVariables false
namespace Go.Proofs.Ytpgflnjpohmldaa
open Go.RowKit
open FloatMath
/-- The whole number next to m 2^e 10^n. -/
def fixQ (m : Nat) (e : Int) (n : Nat) : Nat := if 0 ≤ e then m * 2 ^ e.toNat * 10 ^ n else rhe (m * 10 ^ n) (-e).toNat
theorem rndN_eq (r ten k W : Nat) : rndN r ten k W = if r * ten / 2 ^ (k - 1) % 2 = 1 ∧ (r * ten % 2 ^ (k - 1) ≠ 0 ∨ (if ten = 1 then (r * ten / 2 ^ k + W) % 2 else r * ten / 2 ^ k % 2) = 1) then r * ten / 2 ^ k + 1 else r * ten / 2 ^ k := by
  unfold rndN upT
  have e1 : (((r * ten / 2 ^ (k - 1) % 2 : Nat) : Int) = 1) ↔ r * ten / 2 ^ (k - 1) % 2 = 1 := by omega
  have e2 : (((r * ten % 2 ^ (k - 1) : Nat) : Int) ≠ 0) ↔ r * ten % 2 ^ (k - 1) ≠ 0 := by
    generalize r * ten % 2 ^ (k - 1) = z; omega
  have e3 : ∀ o : Nat, ((o : Int) = 1) ↔ o = 1 := by intro o; omega
  simp only [e1, e2, e3]
  by_cases hc : r * ten / 2 ^ (k - 1) % 2 = 1 ∧ (r * ten % 2 ^ (k - 1) ≠ 0 ∨ (if ten = 1 then (r * ten / 2 ^ k + W) % 2 else r * ten / 2 ^ k % 2) = 1)
  · rw [if_pos hc, if_pos hc]; generalize r * ten / 2 ^ k = z; omega
  · rw [if_neg hc, if_neg hc]; generalize r * ten / 2 ^ k = z; omega
theorem rndN_le (r ten k W : Nat) (hr : r < 2 ^ k) (ht : 0 < ten) : rndN r ten k W ≤ ten := by
  have h : r * ten / 2 ^ k < ten := Nat.div_lt_of_lt_mul (Nat.mul_lt_mul_of_pos_right hr ht)
  rw [rndN_eq]
  by_cases hc : r * ten / 2 ^ (k - 1) % 2 = 1 ∧ (r * ten % 2 ^ (k - 1) ≠ 0 ∨ (if ten = 1 then (r * ten / 2 ^ k + W) % 2 else r * ten / 2 ^ k % 2) = 1)
  · rw [if_pos hc]; omega
  · rw [if_neg hc]; omega
theorem rhe_split (m n k : Nat) (hk : 1 ≤ k) : rhe (m * 10 ^ n) k = m / 2 ^ k * 10 ^ n + rndN (m % 2 ^ k) (10 ^ n) k (m / 2 ^ k) := by
  have hpos : 0 < 2 ^ k := Nat.two_pow_pos k
  have hN : m * 10 ^ n = 2 ^ k * (m / 2 ^ k * 10 ^ n) + m % 2 ^ k * 10 ^ n := by
    conv => lhs; rw [← Nat.div_add_mod m (2 ^ k)]
    rw [Nat.add_mul, Nat.mul_assoc]
  obtain ⟨j, rfl⟩ : ∃ j, k = j + 1 := ⟨k - 1, by omega⟩
  rw [rndN_eq, rhe, Nat.add_sub_cancel]
  generalize hW : m / 2 ^ (j + 1) = W at *
  generalize hr : m % 2 ^ (j + 1) = r at *
  have h1 : m * 10 ^ n / 2 ^ (j + 1) = W * 10 ^ n + r * 10 ^ n / 2 ^ (j + 1) := by rw [hN, Nat.mul_add_div hpos]
  have h2 : m * 10 ^ n / 2 ^ j = 2 * (W * 10 ^ n) + r * 10 ^ n / 2 ^ j := by
    rw [hN, Nat.pow_succ, Nat.mul_assoc, Nat.mul_add_div (Nat.two_pow_pos j)]
  have h3 : m * 10 ^ n % 2 ^ j = r * 10 ^ n % 2 ^ j := by
    rw [hN, Nat.pow_succ, Nat.mul_assoc, Nat.mul_add_mod]
  rw [h1, h2, h3, Nat.mul_add_mod]
  have hpar : (W * 10 ^ n + r * 10 ^ n / 2 ^ (j + 1)) % 2 = if 10 ^ n = 1 then (r * 10 ^ n / 2 ^ (j + 1) + W) % 2 else r * 10 ^ n / 2 ^ (j + 1) % 2 := by
    rcases Nat.eq_zero_or_pos n with h0 | h0
    · subst h0; rw [if_pos (by simp)]; simp [Nat.add_comm]
    · obtain ⟨i, rfl⟩ : ∃ i, n = i + 1 := ⟨n - 1, by omega⟩
      rw [if_neg (by rw [Nat.pow_succ]; have := Nat.pow_pos (n := i) (show 0 < 10 by omega); omega)]
      rw [show W * 10 ^ (i + 1) = 2 * (W * (5 * 10 ^ i)) by rw [Nat.pow_succ, ← Nat.mul_assoc 2, Nat.mul_comm 2 W, Nat.mul_assoc W, ← Nat.mul_assoc 2 5]; rw [Nat.mul_comm (10 ^ i)], Nat.mul_add_mod]
  rw [hpar]
  by_cases hc : r * 10 ^ n / 2 ^ j % 2 = 1 ∧ (r * 10 ^ n % 2 ^ j ≠ 0 ∨ (if 10 ^ n = 1 then (r * 10 ^ n / 2 ^ (j + 1) + W) % 2 else r * 10 ^ n / 2 ^ (j + 1) % 2) = 1)
  · rw [if_pos hc, if_pos ⟨by omega, hc⟩]; omega
  · rw [if_neg hc, if_neg (fun h => hc h.2)]
theorem decimalOr_calls (V : Nat) (w : World) : Calls Try.prog 60 #[.string ⟨(digT (digs V)).toArray⟩] w fun e w' => e = .returned (.string ⟨(digT (padTo (digs V) 1)).toArray⟩) ∧ w = w' := by
  rcases Nat.eq_zero_or_pos V with h | h
  · subst h
    rw [digs_zero]
    go_enter Try.func60, Try.ntmps60
    go_wp2
    go_ret
    exact ⟨rfl, rfl⟩
  · have hp : padTo (digs V) 1 = digs V := by
      rw [digs_pos V h]; unfold padTo; simp
    have hne : digT (digs V) ≠ [] := by
      rw [digs_pos V h]; unfold digT; simp
    rw [hp]
    generalize digT (digs V) = T at *
    have he : T.isEmpty = false := by cases T <;> simp_all
    clear hne
    go_enter Try.func60, Try.ntmps60
    go_wp2
    go_ret
    exact ⟨rfl, rfl⟩
set_option maxHeartbeats 1000000 in
theorem parts_calls (x : Nat) (hx : x < 18446744073709551616) (w : World) :
    Calls Try.prog 59 #[.int .u64 x] w fun e w' => e = .returned (.tuple #[.int .u64 (oMan x), .int .i64 (oExp x)]) ∧ w = w' := by
  have h2 := oE_bits x hx
  have h3 := oM_bits x hx
  have hE := oE_le x
  have hmb : bits BinOp.or IntKind.u64 ((x % 4503599627370496 : Nat) : Int) 4503599627370496 = ((x % 4503599627370496 + 4503599627370496 : Nat) : Int) := by
    rw [show (4503599627370496 : Int) = ((4503599627370496 : Nat) : Int) from rfl, u64_or_nat _ _ (by omega) (by omega)]
    congr 1
    have := Nat.two_pow_add_eq_or_of_lt (i := 52) (b := x % 4503599627370496) (by omega) 1
    rw [Nat.or_comm, ← show (2 : Nat) ^ 52 * 1 = 4503599627370496 by decide, ← this]; omega
  unfold oMan oExp
  generalize hMM : x % 4503599627370496 = M at *
  have HMM := Lib.hid hMM
  have HX := Lib.hid hx
  clear hMM hx
  by_cases h : 0 < oE x
  · rw [if_pos h, if_pos h]
    have hz : ((oE x : Int) == 0) = false := by rw [beq_eq_false_iff_ne]; omega
    go_enter Try.func59, Try.ntmps59
    go_wp2
    go_ret2
    exact ⟨rfl, rfl⟩
  · rw [if_neg h, if_neg h]
    have hz : ((oE x : Int) == 0) = true := by rw [beq_iff_eq]; omega
    go_enter Try.func59, Try.ntmps59
    go_wp2
    go_ret2
    exact ⟨rfl, rfl⟩
/-- The text ahead of the point and the one behind it. -/
def ahT (Q n : Nat) : ByteArray := ⟨(digT (padTo (digs (Q / 10 ^ n)) 1)).toArray⟩
def beT (Q n : Nat) : ByteArray := ⟨(digT (padTo (digs (Q % 10 ^ n)) n)).toArray⟩
theorem ahbe (W q n : Nat) (hq : q < 10 ^ n) : ahT (W * 10 ^ n + q) n = ⟨(digT (padTo (digs W) 1)).toArray⟩ ∧ beT (W * 10 ^ n + q) n = ⟨(digT (padTo (digs q) n)).toArray⟩ := by
  have hp : 0 < 10 ^ n := Nat.pow_pos (by omega)
  unfold ahT beT
  rw [Nat.mul_comm W, Nat.mul_add_div hp, Nat.div_eq_of_lt hq, Nat.mul_add_mod, Nat.mod_eq_of_lt hq, Nat.add_zero]
  exact ⟨rfl, rfl⟩
set_option maxHeartbeats 1000000 in
theorem split_a (b e : Int) (M E n : Nat) (hM : M < 9007199254740992) (hE : E ≤ 1000) (hn : n ≤ 9) (hc : (((M : Int) == 0) = true ∧ E = 0) ∨ (((M : Int) == 0) = false ∧ e = E)) (w : World)
    (cp : ∀ w, Calls Try.prog 59 #[.int .u64 b] w fun x w' => x = .returned (.tuple #[.int .u64 M, .int .i64 e]) ∧ w = w') :
    Calls Try.prog 47 #[.int .u64 b, .int .i64 n] w fun x w' => x = .returned (.tuple #[.string (ahT (M * 2 ^ E * 10 ^ n) n), .string (beT (M * 2 ^ E * 10 ^ n) n)]) ∧ Below w.heap.size w w' := by
  have cg := fun w => great_calls M E hM hE w
  have hs := ahbe (M * 2 ^ E) 0 n (Nat.pow_pos (by omega))
  rw [Nat.add_zero] at hs
  rw [hs.1, hs.2]
  clear hs
  have co := fun w => decimalOr_calls (M * 2 ^ E) w
  have cd := fun w => decimal_calls 0 n (by omega) (by omega) w
  generalize hg : (⟨(digT (digs (M * 2 ^ E))).toArray⟩ : ByteArray) = G at *
  generalize hg2 : (⟨(digT (padTo (digs (M * 2 ^ E)) 1)).toArray⟩ : ByteArray) = G2 at *
  generalize hg3 : (⟨(digT (padTo (digs 0) n)).toArray⟩ : ByteArray) = G3 at *
  have HM := Lib.hid hM
  clear hM hg hg2 hg3
  rcases hc with ⟨hz, rfl⟩ | ⟨hz, rfl⟩
  all_goals
    go_enter Try.func47, Try.ntmps47
    go_wp2_with (first
      | (go_at_call 59; refine (cp _).mono ?_; rintro e w1 ⟨rfl, rfl⟩)
      | (go_at_call 61; refine (cg _).mono ?_; rintro e w2 ⟨rfl, hb2⟩)
      | (go_at_call 60; refine (co _).mono ?_; rintro e w3 ⟨rfl, rfl⟩)
      | (go_at_call 62; refine (cd _).mono ?_; rintro e w4 ⟨rfl, hb4⟩))
    go_ret2
    exact ⟨rfl, belowThen hb2 hb4⟩
theorem tens_le (n : Nat) (h : n ≤ 9) : 10 ^ n ≤ 1000000000 ∧ 0 < 10 ^ n := ⟨by
  have := Nat.pow_le_pow_right (n := 10) (by omega) h
  simpa using this, Nat.pow_pos (by omega)⟩
set_option maxHeartbeats 1000000 in
theorem split_b (b e : Int) (M k n W R : Nat) (hM : M < 9007199254740992) (hM0 : 0 < M) (hn : n ≤ 9) (hk : e = -(k : Int)) (hk1 : 1 ≤ k) (hk2 : k ≤ 1074) (hW : M / 2 ^ k = W) (hR : M % 2 ^ k = R) (w : World)
    (cp : ∀ w, Calls Try.prog 59 #[.int .u64 b] w fun x w' => x = .returned (.tuple #[.int .u64 M, .int .i64 e]) ∧ w = w') :
    Calls Try.prog 47 #[.int .u64 b, .int .i64 n] w fun x w' => x = .returned (.tuple #[.string (ahT (rhe (M * 10 ^ n) k) n), .string (beT (rhe (M * 10 ^ n) k) n)]) ∧ Below w.heap.size w w' := by
  have hWlt : W < 9007199254740992 := by rw [← hW]; exact Nat.lt_of_le_of_lt (Nat.div_le_self _ _) hM
  have hRlt : R < 2 ^ k := by rw [← hR]; exact Nat.mod_lt _ (Nat.two_pow_pos k)
  have hRM : R ≤ M := by rw [← hR]; exact Nat.mod_le _ _
  have hsp := rhe_split M n k hk1
  rw [hW, hR] at hsp
  obtain ⟨T, hT⟩ : ∃ T, T = 10 ^ n := ⟨_, rfl⟩
  have ht := tens_le n hn
  rw [← hT] at ht
  have hle := rndN_le R T k W hRlt ht.2
  rw [hsp, ← hT]
  have cr := fun w => rounded_calls R T k W (by omega) ht.1 hk1 hk2 (fun _ => hRlt) (by omega) w
  generalize hq : rndN R T k W = q at *
  have hmz : ((M : Int) == 0) = false := by rw [beq_eq_false_iff_ne]; omega
  have hex : e < 0 := by omega
  subst hk
  have hlow := fun h => u64_low M k (by omega) h
  have hdiv := cast_div_pow M k
  rw [hW] at hdiv
  rw [hR] at hlow
  have hge : 64 ≤ k → W = 0 ∧ R = M := fun h => by
    have : M < 2 ^ k := Nat.lt_of_lt_of_le (show M < 2 ^ 64 by rw [show (2 : Nat) ^ 64 = 18446744073709551616 by decide]; omega) (Nat.pow_le_pow_right (by omega) h)
    exact ⟨by rw [← hW]; exact Nat.div_eq_of_lt this, by rw [← hR]; exact Nat.mod_eq_of_lt this⟩
  have cW : ∀ w, Calls Try.prog 62 #[.int .u64 W, .int .i64 1] w fun e w' => e = .returned (.string ⟨(digT (padTo (digs W) 1)).toArray⟩) ∧ Below w.heap.size w w' := fun w => decimal_calls W 1 (by omega) (by omega) w
  have cW1 : ∀ w, Calls Try.prog 62 #[.int .u64 ((W : Int) + 1), .int .i64 1] w fun e w' => e = .returned (.string ⟨(digT (padTo (digs (W + 1)) 1)).toArray⟩) ∧ Below w.heap.size w w' := fun w => decimal_calls (W + 1) 1 (by omega) (by omega) w
  have cq := fun w => decimal_calls q n (by omega) (by omega) w
  have c0 : ∀ w, Calls Try.prog 62 #[.int .u64 0, .int .i64 n] w fun e w' => e = .returned (.string ⟨(digT (padTo (digs 0) n)).toArray⟩) ∧ Below w.heap.size w w' := fun w => decimal_calls 0 n (by omega) (by omega) w
  have HF : Hid ((q = T → ahT (W * T + q) n = ⟨(digT (padTo (digs (W + 1)) 1)).toArray⟩ ∧ beT (W * T + q) n = ⟨(digT (padTo (digs 0) n)).toArray⟩) ∧ (q ≠ T → ahT (W * T + q) n = ⟨(digT (padTo (digs W) 1)).toArray⟩ ∧ beT (W * T + q) n = ⟨(digT (padTo (digs q) n)).toArray⟩)) := by
    refine Lib.hid ⟨fun h => ?_, fun h => ?_⟩
    · have := ahbe (W + 1) 0 n (by omega)
      rw [Nat.add_zero, ← hT, Nat.add_mul, Nat.one_mul] at this
      rw [h]; exact this
    · have := ahbe W q n (by omega)
      rw [← hT] at this
      exact this
  have HT := Lib.hid hT
  have hW1 : IntKind.u64.wrap ((W : Int) + 1) = (W : Int) + 1 := u64_wrap_nat (W + 1) (by omega)
  have hT1 : (T : Int) ≤ 1000000000 := by omega
  have HX := Lib.hid (And.intro hM (And.intro hWlt (And.intro hRlt (And.intro hRM (And.intro hle hq)))))
  clear hM hWlt hRlt hRM hle hq hW hR hsp hM0 ht hT
  generalize hA : ahT (W * T + q) n = A at *
  generalize hB : beT (W * T + q) n = B at *
  clear hA hB
  have HV := Lib.hid hdiv
  have HL := Lib.hid hlow
  have HGE := Lib.hid hge
  clear hdiv hlow hge
  go_enter Try.func47, Try.ntmps47
  go_wp2_with (go_at_call 59; refine (cp _).mono ?_; rintro e w1 ⟨rfl, rfl⟩)
  go_loop [8, 33] (fun t i => ∃ j T' : Nat, j ≤ n ∧ i = .int .i64 j ∧ t = .int .u64 T' ∧ T' ≤ 1000000000 ∧ Hid (T' = 10 ^ j)) (fun _ i => n - (intOf i).toNat)
  case atStart => exact ⟨0, 1, by omega, rfl, rfl, by omega, Lib.hid rfl⟩
  case round =>
    obtain ⟨j, T', hj, rfl, rfl, hT', HJ⟩ := hrel
    by_cases hlt : j < n
    · go_wp2
      go_round
      case rel =>
        have h1 := (tens_le (j + 1) (by omega)).1
        refine ⟨j + 1, T' * 10, by omega, by go_num, by go_num, ?_, Lib.hid ?_⟩
        · rw [HJ.out, ← Nat.pow_succ]; exact h1
        · rw [HJ.out, ← Nat.pow_succ]
      case measure => simp [intOf]; omega
    · obtain rfl : j = n := by omega
      obtain rfl : T' = T := by rw [HJ.out, HT.out]
      by_cases h64 : k < 64
      · have hlow := HL.out h64
        have hdiv := HV.out
        have hk0 : (0 : Int) ≤ k := by omega
        by_cases hqt : q = T'
        · subst hqt
          obtain ⟨hA, hB⟩ := HF.out.1 rfl
          have HAB := Lib.hid (And.intro hA hB)
          clear hA hB
          go_wp2
          go_quiet (fail)
          go_wp2_with (first
            | (go_at_call 63; refine (cr _).mono ?_; rintro e w3 ⟨rfl, hb3⟩)
            | (go_at_call 62; first
                | ((with_reducible refine (cW1 _).mono ?_); rintro e w4 ⟨rfl, hb4⟩)
                | ((with_reducible refine (c0 _).mono ?_); rintro e w5 ⟨rfl, hb5⟩)))
          go_ret2
          exact ⟨by rw [HAB.out.1, HAB.out.2]; rfl, belowThen (belowDrewN _ _) (belowThen hb3 (belowThen hb4 hb5))⟩
        · obtain ⟨hA, hB⟩ := HF.out.2 hqt
          have HAB := Lib.hid (And.intro hA hB)
          have hne : ((q : Int) == (T' : Int)) = false := by rw [beq_eq_false_iff_ne]; omega
          clear hA hB hqt
          go_wp2
          go_quiet (fail)
          go_wp2_with (first
            | (go_at_call 63; refine (cr _).mono ?_; rintro e w3 ⟨rfl, hb3⟩)
            | (go_at_call 62; first
                | ((with_reducible refine (cW _).mono ?_); rintro e w4 ⟨rfl, hb4⟩)
                | ((with_reducible refine (cq _).mono ?_); rintro e w5 ⟨rfl, hb5⟩)))
          go_ret2
          exact ⟨by rw [HAB.out.1, HAB.out.2]; rfl, belowThen (belowDrewN _ _) (belowThen hb3 (belowThen hb4 hb5))⟩
      · have := HGE.out (by omega)
        obtain ⟨rfl, rfl⟩ := this
        have hk64 : (64 : Int) ≤ k := by omega
        have c1 : ∀ w, Calls Try.prog 62 #[.int .u64 1, .int .i64 1] w fun e w' => e = .returned (.string ⟨(digT (padTo (digs 1) 1)).toArray⟩) ∧ Below w.heap.size w w' := fun w => decimal_calls 1 1 (by omega) (by omega) w
        have c01 : ∀ w, Calls Try.prog 62 #[.int .u64 0, .int .i64 1] w fun e w' => e = .returned (.string ⟨(digT (padTo (digs 0) 1)).toArray⟩) ∧ Below w.heap.size w w' := fun w => decimal_calls 0 1 (by omega) (by omega) w
        by_cases hqt : q = T'
        · subst hqt
          obtain ⟨hA, hB⟩ := HF.out.1 rfl
          have HAB := Lib.hid (And.intro hA hB)
          clear hA hB
          go_wp2_with (first
            | (go_at_call 63; refine (cr _).mono ?_; rintro e w3 ⟨rfl, hb3⟩)
            | (go_at_call 62; first
                | ((with_reducible refine (c1 _).mono ?_); rintro e w4 ⟨rfl, hb4⟩)
                | ((with_reducible refine (c0 _).mono ?_); rintro e w5 ⟨rfl, hb5⟩)))
          go_ret2
          exact ⟨by rw [HAB.out.1, HAB.out.2]; rfl, belowThen hb3 (belowThen hb4 hb5)⟩
        · obtain ⟨hA, hB⟩ := HF.out.2 hqt
          have HAB := Lib.hid (And.intro hA hB)
          have hne : ((q : Int) == (T' : Int)) = false := by rw [beq_eq_false_iff_ne]; omega
          clear hA hB hqt
          go_wp2_with (first
            | (go_at_call 63; refine (cr _).mono ?_; rintro e w3 ⟨rfl, hb3⟩)
            | (go_at_call 62; first
                | ((with_reducible refine (c01 _).mono ?_); rintro e w4 ⟨rfl, hb4⟩)
                | ((with_reducible refine (cq _).mono ?_); rintro e w5 ⟨rfl, hb5⟩)))
          go_ret2
          exact ⟨by rw [HAB.out.1, HAB.out.2]; rfl, belowThen hb3 (belowThen hb4 hb5)⟩
end Go.Proofs.Ytpgflnjpohmldaa
