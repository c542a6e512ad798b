import Derived.Test.YtpgflnjpohmldaaMeterText5
set_option linter.unusedVariables false
namespace Go.Proofs.Ytpgflnjpohmldaa
open Go.RowKit FloatMath
theorem rhe_zero (k : Nat) : rhe 0 k = 0 := by
  unfold rhe; rw [if_neg (by simp)]; simp
theorem rhe_le (N k : Nat) : rhe N k ≤ N + 1 := by
  have := Nat.div_le_self N (2 ^ k)
  unfold rhe
  by_cases hc : 0 < k ∧ N / 2 ^ (k - 1) % 2 = 1 ∧ (N % 2 ^ (k - 1) ≠ 0 ∨ N / 2 ^ k % 2 = 1)
  · rw [if_pos hc]; omega
  · rw [if_neg hc]; omega
theorem split_calls (b n : Nat) (hb : b < 18446744073709551616) (hf : oE b < 2047) (hn : n ≤ 9) (w : World) :
    Calls Try.prog 47 #[.int .u64 b, .int .i64 n] w fun x w' => x = .returned (.tuple #[.string (ahT (fixQ (oMan b) (oExp b) n) n), .string (beT (fixQ (oMan b) (oExp b) n) n)]) ∧ Below w.heap.size w w' := by
  have cp := fun w => parts_calls b hb w
  have hM := oMan_lt b
  have he1 : -1074 ≤ oExp b := by unfold oExp; split <;> omega
  have he2 := oExp_le b hf
  generalize oMan b = M at *
  generalize oExp b = e at *
  unfold fixQ
  by_cases h0 : 0 ≤ e
  · rw [if_pos h0]
    obtain ⟨E, rfl⟩ : ∃ E : Nat, e = E := ⟨e.toNat, by omega⟩
    rw [Int.toNat_natCast]
    by_cases hz : M = 0
    · subst hz
      have := split_a (b : Int) (E : Int) 0 0 n (by omega) (by omega) hn (.inl ⟨rfl, rfl⟩) w cp
      simpa using this
    · exact split_a (b : Int) (E : Int) M E n hM (by omega) hn (.inr ⟨by rw [beq_eq_false_iff_ne]; omega, rfl⟩) w cp
  · rw [if_neg h0]
    by_cases hz : M = 0
    · subst hz
      have := split_a (b : Int) e 0 0 n (by omega) (by omega) hn (.inl ⟨rfl, rfl⟩) w cp
      rw [Nat.zero_mul, rhe_zero]
      simpa using this
    · obtain ⟨k, rfl⟩ : ∃ k : Nat, e = -(k : Int) := ⟨(-e).toNat, by omega⟩
      rw [show (- -(k : Int)).toNat = k by omega]
      exact split_b (b : Int) _ M k n _ _ hM (by omega) hn rfl (by omega) (by omega) rfl rfl w cp
/-- The text of a float. -/
def fixZ (b n : Nat) : ByteArray := ⟨((if oNeg b then [45] else []) ++ txtR (fixQ (oMan b) (oExp b) n) n).toArray⟩
theorem txtR_parts (Q n : Nat) : txtR Q n = (ahT Q n).data.toList ++ (if n = 0 then [] else 46 :: (beT Q n).data.toList) := by
  have hp : 0 < 10 ^ n := Nat.pow_pos (by omega)
  have e : Q = Q / 10 ^ n * 10 ^ n + Q % 10 ^ n := by rw [Nat.mul_comm]; exact (Nat.div_add_mod _ _).symm
  have := txtR_split (Q / 10 ^ n) (Q % 10 ^ n) n (Nat.mod_lt _ hp)
  rw [← e] at this
  rw [this]
  rfl
theorem digT_len (l : List Nat) : (digT l).length = l.length := by simp [digT]
theorem fix_sizes (b n : Nat) (hf : oE b < 2047) (hn : n ≤ 9) : (ahT (fixQ (oMan b) (oExp b) n) n).size ≤ 2000 ∧ (beT (fixQ (oMan b) (oExp b) n) n).size ≤ 9 := by
  have hM := oMan_lt b
  have he2 := oExp_le b hf
  generalize oMan b = M at *
  generalize oExp b = e at *
  have hp : 0 < 10 ^ n := Nat.pow_pos (by omega)
  constructor
  · show (digT (padTo (digs (fixQ M e n / 10 ^ n)) 1)).toArray.size ≤ 2000
    rw [List.size_toArray, digT_len, padTo_len]
    unfold fixQ
    by_cases h0 : 0 ≤ e
    · rw [if_pos h0, Nat.mul_div_cancel _ hp]
      have := digs_pow_len e.toNat M hM
      omega
    · rw [if_neg h0]
      have h1 := rhe_le (M * 10 ^ n) (-e).toNat
      have h2 := (tens_le n hn).1
      have h3 : M * 10 ^ n ≤ 9007199254740992 * 1000000000 := Nat.mul_le_mul (by omega) h2
      have h4 := Nat.div_le_self (rhe (M * 10 ^ n) (-e).toNat) (10 ^ n)
      have := digs_len 26 (rhe (M * 10 ^ n) (-e).toNat / 10 ^ n) (by
        have : (10 : Nat) ^ 26 = 100000000000000000000000000 := by decide
        omega)
      omega
  · show (digT (padTo (digs (fixQ M e n % 10 ^ n)) n)).toArray.size ≤ 9
    rw [List.size_toArray, digT_len, padTo_len]
    have := digs_len n (fixQ M e n % 10 ^ n) (Nat.mod_lt _ hp)
    omega
theorem ba_ext (a b : ByteArray) (h : a.data.toList = b.data.toList) : a = b := by
  cases a; cases b; congr 1; exact Array.toList_inj.mp h
theorem ba_app (a b : ByteArray) : (a ++ b).data.toList = a.data.toList ++ b.data.toList := by
  rw [ByteArray.data_append, Array.toList_append]
set_option maxHeartbeats 1000000 in
theorem fixed_calls (b n : Nat) (hb : b < 18446744073709551616) (hf : oE b < 2047) (hn : n ≤ 9) (w : World) :
    Calls Try.prog 22 #[.int .u64 b, .int .i64 n] w fun x w' => x = .returned (.tuple #[.string (fixZ b n), .int .i64 0]) ∧ Below w.heap.size w w' := by
  have cm := fun w => mfinite_calls b hb w
  have cs := fun w => split_calls b n hb hf hn w
  have hfin : finB b = true := by unfold finB; simp; omega
  rw [hfin] at cm
  obtain ⟨s1, s2⟩ := fix_sizes b n hf hn
  have hfz : fixZ b n = (if oNeg b then (⟨#[45]⟩ : ByteArray) ++ (if n = 0 then ahT (fixQ (oMan b) (oExp b) n) n else ahT (fixQ (oMan b) (oExp b) n) n ++ ((⟨#[46]⟩ : ByteArray) ++ beT (fixQ (oMan b) (oExp b) n) n)) else (if n = 0 then ahT (fixQ (oMan b) (oExp b) n) n else ahT (fixQ (oMan b) (oExp b) n) n ++ ((⟨#[46]⟩ : ByteArray) ++ beT (fixQ (oMan b) (oExp b) n) n))) := by
    apply ba_ext
    show ((if oNeg b then [45] else []) ++ txtR (fixQ (oMan b) (oExp b) n) n) = _
    rw [txtR_parts]
    by_cases h1 : oNeg b <;> by_cases h2 : n = 0 <;> simp [h1, h2]
  generalize ahT (fixQ (oMan b) (oExp b) n) n = A at *
  generalize beT (fixQ (oMan b) (oExp b) n) n = B at *
  have hsg : ((b : Int) / 9223372036854775808 == 1) = oNeg b := by
    unfold oNeg
    rw [Bool.eq_iff_iff, beq_iff_eq, beq_iff_eq]; omega
  have HFZ := Lib.hid hfz
  clear hfz
  have HB := Lib.hid hb
  clear hb hf
  have sA : (A.size : Int) ≤ 2000 := by omega
  have sB : (B.size : Int) ≤ 9 := by omega
  by_cases h2 : n = 0
  · subst h2
    cases hng : oNeg b <;> rw [hng] at hsg
    all_goals
      go_enter Try.func22, Try.ntmps22
      go_wp2_with (first
        | (go_at_call 40; refine (cm _).mono ?_; rintro e w1 ⟨rfl, rfl⟩)
        | (go_at_call 47; refine (cs _).mono ?_; rintro e w2 ⟨rfl, hb2⟩))
      go_ret2
      exact ⟨by rw [HFZ.out, hng]; rfl, hb2⟩
  · have hn1 : (0 : Int) < n := by omega
    cases hng : oNeg b <;> rw [hng] at hsg
    all_goals
      have HN := Lib.hid h2
      clear h2
      go_enter Try.func22, Try.ntmps22
      go_wp2_with (first
        | (go_at_call 40; refine (cm _).mono ?_; rintro e w1 ⟨rfl, rfl⟩)
        | (go_at_call 47; refine (cs _).mono ?_; rintro e w2 ⟨rfl, hb2⟩))
      go_ret2
      exact ⟨by rw [HFZ.out, hng, if_neg HN.out]; rfl, hb2⟩
theorem fixed_bad (b n : Int) (x : Nat) (hx : b = x) (hb : x < 18446744073709551616) (h : finB x = false) (w : World) :
    Calls Try.prog 22 #[.int .u64 b, .int .i64 n] w fun x w' => x = .returned (.tuple #[.string ⟨#[]⟩, .int .i64 251]) ∧ w = w' := by
  subst hx
  have cm := fun w => mfinite_calls x hb w
  rw [h] at cm
  have HB := Lib.hid hb
  clear hb
  go_enter Try.func22, Try.ntmps22
  go_wp2_with (go_at_call 40; refine (cm _).mono ?_; rintro e w1 ⟨rfl, rfl⟩)
  go_ret2
  exact ⟨rfl, rfl⟩
theorem fixed_range (n : Int) (x : Nat) (hb : x < 18446744073709551616) (h : finB x = true) (hn : n < 0 ∨ 9 < n) (w : World) :
    Calls Try.prog 22 #[.int .u64 x, .int .i64 n] w fun x w' => x = .returned (.tuple #[.string ⟨#[]⟩, .int .i64 10]) ∧ w = w' := by
  have cm := fun w => mfinite_calls x hb w
  rw [h] at cm
  have HB := Lib.hid hb
  clear hb
  rcases hn with hn | hn
  all_goals
    go_enter Try.func22, Try.ntmps22
    go_wp2_with (go_at_call 40; refine (cm _).mono ?_; rintro e w1 ⟨rfl, rfl⟩)
    go_ret2
    exact ⟨rfl, rfl⟩
end Go.Proofs.Ytpgflnjpohmldaa
