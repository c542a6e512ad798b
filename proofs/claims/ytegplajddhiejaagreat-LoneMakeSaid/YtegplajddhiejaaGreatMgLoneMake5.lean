import Derived.Test.YtegplajddhiejaaGreatBk11
import Derived.Deep.QuietTactic
import Derived.BigQuiet
set_option linter.unusedVariables false
namespace Go.Proofs.YtegplajddhiejaaGreat
open Go.RowKit
theorem parse_any (s : ByteArray) (v : Value) (hv : parseZ s = v) (hs : s.size < 9223372036854775807) (w : World) : Calls Tryz.prog 62 #[.string s] w fun e w' => e = .returned v ∧ Below w.heap.size w w' := by
  subst hv; exact parse_calls s hs w
/-- What is read of whatever bytes. -/
theorem parse_cases (b : ByteArray) : (∃ c, c ≠ 0 ∧ parseZ b = .tuple #[.int .i64 0, .int .i64 0, .string ⟨#[]⟩, .int .i64 c]) ∨
    ∃ (k n : Int) (p : ByteArray), parseZ b = .tuple #[.int .i64 k, .int .i64 n, .string p, .int .i64 0] ∧ frameZ k n p = b ∧ 1 ≤ k ∧ k ≤ 255 ∧ 0 ≤ n ∧ n ≤ 9223372036854775807 ∧ p.size ≤ 524288 := by
  by_cases h : ∀ j, j < 9 → wrongZ b j = false
  · obtain ⟨hf, h1, h2, h3, h4⟩ := parse_back b h
    exact .inr ⟨_, _, _, parse_right b h, hf, h1, h2, by omega, h3, h4⟩
  · left
    have hx : ∃ n, n < 9 ∧ wrongZ b n = true ∧ ∀ j, j < n → wrongZ b j = false := by
      have : ∃ n, n < 9 ∧ wrongZ b n = true := by
        apply Classical.byContradiction
        intro hn
        exact h fun j hj => by
          cases hw : wrongZ b j with
          | false => rfl
          | true => exact absurd ⟨j, hj, hw⟩ hn
      obtain ⟨n, hn, hw⟩ := this
      induction n using Nat.strongRecOn with
      | _ n ih =>
        by_cases hq : ∃ m, m < n ∧ wrongZ b m = true
        · obtain ⟨m, hm, hwm⟩ := hq
          exact ih m hm (by omega) hwm
        · refine ⟨n, hn, hw, fun j hj => ?_⟩
          cases hwj : wrongZ b j with
          | false => rfl
          | true => exact absurd ⟨j, hj, hwj⟩ hq
    obtain ⟨n, hn, hw, hb⟩ := hx
    refine ⟨codeZ n, ?_, parse_wrong b n hn hw hb⟩
    unfold codeZ; split <;> decide
end Go.Proofs.YtegplajddhiejaaGreat

set_option linter.unusedVariables false
set_option linter.unusedSimpArgs false
namespace Go.Proofs.YtegplajddhiejaaGreat
open Go.RowKit
/-! What a key names. -/
theorem results_tmp4 {fn : Func} {t u v x : Tmp} (h : fn.results = #[.tmp t, .tmp u, .tmp v, .tmp x]) (tmps : Array Value) (P : Program) (w : World) :
    (results fn tmps).run P w = .ok (.tuple #[tmps.getD t undef, tmps.getD u undef, tmps.getD v undef, tmps.getD x undef]) w := by
  simp [results, h]
def headN (b : ByteArray) : Bool := decide (b.size = 18 ∧ b.data.toList.getD 0 0 = 66 ∧ b.data.toList.getD 9 0 ≠ 0)
def okN (b : ByteArray) : Bool := headN b && decide (rdN b 1 8 < 9223372036854775808 ∧ rdN b 10 8 < 9223372036854775808)
def spN (b : ByteArray) : Int := if headN b then wrap64 (rdN b 1 8 : Nat) else 0
def kdN (b : ByteArray) : Int := if headN b then ((b.data.toList.getD 9 0).toNat : Nat) else 0
def nmN (b : ByteArray) : Int := if headN b then wrap64 (rdN b 10 8 : Nat) else 0
/-- What named answers. -/
def namedV (b : ByteArray) : Value := .tuple #[.int .i64 (spN b), .int .i64 (kdN b), .int .i64 (nmN b), .bool (okN b)]
theorem named_no {b : ByteArray} (h : headN b = false) : namedV b = .tuple #[.int .i64 0, .int .i64 0, .int .i64 0, .bool false] := by
  unfold namedV spN kdN nmN okN
  rw [h]; rfl
theorem named_yes {b : ByteArray} (h : headN b = true) : namedV b = .tuple #[.int .i64 (wrap64 (rdN b 1 8 : Nat)), .int .i64 ((b.data.toList.getD 9 0).toNat : Nat), .int .i64 (wrap64 (rdN b 10 8 : Nat)), .bool (decide (rdN b 1 8 < 9223372036854775808 ∧ rdN b 10 8 < 9223372036854775808))] := by
  unfold namedV spN kdN nmN okN
  simp only [h, if_true, Bool.true_and]
theorem divz {m P : Nat} (hP : P ≠ 0) : ((m : Int) / (P : Int) = 0 ↔ m < P) := by
  rw [← Int.natCast_ediv, Int.natCast_eq_zero, Nat.div_eq_zero_iff]
  exact ⟨fun h => h.resolve_left hP, fun h => .inr h⟩
theorem ne63 : (9223372036854775808 : Nat) ≠ 0 := by decide
theorem shift63 {m : Nat} : ((m : Int) / 9223372036854775808 = 0 ↔ m < 9223372036854775808) := divz ne63
theorem head1 (b : ByteArray) (h : 0 < b.size) : (b.extract 0 1).data.toList = [b.data.toList.getD 0 0] := by
  rw [extract_list]
  have hl : 0 < b.data.toList.length := by rw [size_list]; exact h
  cases hb : b.data.toList with
  | nil => rw [hb] at hl; simp at hl
  | cons x r => simp
theorem byte9 (b : ByteArray) (h : 9 < b.size) : b[9] = b.data.toList.getD 9 0 := by
  rw [List.getD_eq_getElem?_getD, List.getElem?_eq_getElem (by rw [size_list]; exact h)]
  rfl
set_option maxRecDepth 100000 in
set_option maxHeartbeats 1000000 in
theorem named_calls (b : ByteArray) (hs : b.size < 9223372036854775807) (w : World) : Calls Tryz.prog 63 #[.string b] w fun e w' => e = .returned (namedV b) ∧ ∃ n, w.drewN n = w' := by
  by_cases h18 : b.size = 18
  · have hx := head1 b (by omega)
    have hb9 := byte9 b (by omega)
    have C1 : Hid (∀ w, Calls Tryz.prog 75 #[.string b, .int .i64 1] w fun e w' => e = .returned (.int .u64 (rdN b 1 8 : Nat)) ∧ w = w') := Lib.hid (fun w => big64_calls b 1 (by omega) hs w)
    have C2 : Hid (∀ w, Calls Tryz.prog 75 #[.string b, .int .i64 10] w fun e w' => e = .returned (.int .u64 (rdN b 10 8 : Nat)) ∧ w = w') := Lib.hid (fun w => big64_calls b 10 (by omega) hs w)
    obtain ⟨m1, hm1⟩ : ∃ m, rdN b 1 8 = m := ⟨_, rfl⟩
    obtain ⟨m2, hm2⟩ : ∃ m, rdN b 10 8 = m := ⟨_, rfl⟩
    have s1 := shift63 (m := m1)
    have s2 := shift63 (m := m2)
    by_cases h0 : b.data.toList.getD 0 0 = 66
    · by_cases h9 : b.data.toList.getD 9 0 = 0
      · have hz : headN b = false := decide_eq_false (fun h => h.2.2 h9)
        rw [named_no hz]
        have hq : (b.extract 0 1).toList = [66] := by rw [ByteArray.toList_eq, hx, h0]
        have hq9 : b[9] = 0 := by rw [hb9, h9]
        have h9i : (9 : Int) < b.size := by omega
        clear hz h0 h9 hx C1 C2 hm1 hm2 s1 s2 hb9
        go_enter Tryz.func63, Tryz.ntmps63
        go_wp2
        (try simp only [Exit.inBlock, Exit.then])
        refine bodyPost_ret (results_tmp4 rfl _ _ _) rfl ?_
        exact ⟨rfl, 0, rfl⟩
      · have hz : headN b = true := decide_eq_true ⟨h18, h0, h9⟩
        rw [named_yes hz]
        have hq : (b.extract 0 1).toList = [66] := by rw [ByteArray.toList_eq, hx, h0]
        have hq9 : (b[9].toNat : Int) ≠ 0 := by
          rw [hb9]
          intro e
          exact h9 (UInt8.toNat_inj.1 (by simpa using e))
        have hbq : ((b[9].toNat : Int) == 0) = false := by rw [beq_eq_false_iff_ne]; exact hq9
        rw [hm1] at C1
        rw [hm2] at C2
        rw [hm1, hm2]
        rw [← hb9]
        clear hz h0 h9 hx hm1 hm2 hb9
        go_enter Tryz.func63, Tryz.ntmps63
        go_wp2_with (first
          | (go_at_call 75; (with_reducible refine (C1.out _).mono ?_); rintro e w1 ⟨rfl, rfl⟩)
          | (go_at_call 75; (with_reducible refine (C2.out _).mono ?_); rintro e w1 ⟨rfl, rfl⟩))
        have S1 := Lib.hid s1
        have S2 := Lib.hid s2
        clear s1 s2
        obtain ⟨d1, hd1⟩ : ∃ d, ((m1 : Int) / 9223372036854775808) = d := ⟨_, rfl⟩
        obtain ⟨d2, hd2⟩ : ∃ d, ((m2 : Int) / 9223372036854775808) = d := ⟨_, rfl⟩
        have h9i : (9 : Int) < b.size := by omega
        rw [hd1] at S1
        rw [hd2] at S2
        have u9 : wrap64 (b[9].toNat : Int) = b[9].toNat := IntWalk.wrap64_in _ (by have := b[9].toNat_lt; omega)
        go_wp2_with fail
        by_cases z1 : d1 = 0
        · by_cases z2 : d2 = 0
          · go_quiet (fail)
            go_wp2
            (try simp only [Exit.inBlock, Exit.then])
            refine bodyPost_ret (results_tmp4 rfl _ _ _) rfl ?_
            rw [decide_eq_true ⟨S1.out.1 z1, S2.out.1 z2⟩]
            have u1 : wrap64 (m1 : Int) = m1 := IntWalk.wrap64_in _ (by have := S1.out.1 z1; omega)
            have u2 : wrap64 (m2 : Int) = m2 := IntWalk.wrap64_in _ (by have := S2.out.1 z2; omega)
            refine ⟨?_, _, rfl⟩
            simp [u9, u1, u2]
          · have hq2 : (d2 == 0) = false := by rw [beq_eq_false_iff_ne]; exact z2
            go_quiet (fail)
            go_wp2
            (try simp only [Exit.inBlock, Exit.then])
            refine bodyPost_ret (results_tmp4 rfl _ _ _) rfl ?_
            rw [decide_eq_false (fun h => z2 (S2.out.2 h.2))]
            have u1 : wrap64 (m1 : Int) = m1 := IntWalk.wrap64_in _ (by have := S1.out.1 z1; omega)
            refine ⟨?_, _, rfl⟩
            simp [u9, u1]
        · have hq1 : (d1 == 0) = false := by rw [beq_eq_false_iff_ne]; exact z1
          go_quiet (fail)
          go_wp2
          (try simp only [Exit.inBlock, Exit.then])
          refine bodyPost_ret (results_tmp4 rfl _ _ _) rfl ?_
          rw [decide_eq_false (fun h => z1 (S1.out.2 h.1))]
          refine ⟨?_, _, rfl⟩
          simp [u9]
    · have hz : headN b = false := decide_eq_false (fun h => h0 h.2.1)
      rw [named_no hz]
      have hq : ¬ (b.extract 0 1).toList = [66] := by rw [ByteArray.toList_eq, hx]; simpa using h0
      clear hz h0 hx C1 C2 hm1 hm2 s1 s2 hb9
      go_enter Tryz.func63, Tryz.ntmps63
      go_wp2
      (try simp only [Exit.inBlock, Exit.then])
      refine bodyPost_ret (results_tmp4 rfl _ _ _) rfl ?_
      exact ⟨rfl, 0, rfl⟩
  · rw [named_no (decide_eq_false (fun h => h18 h.1))]
    have hne : ((b.size : Int) != 18) = true := by rw [bne_iff_ne]; omega
    go_enter Tryz.func63, Tryz.ntmps63
    go_wp2
    (try simp only [Exit.inBlock, Exit.then])
    refine bodyPost_ret (results_tmp4 rfl _ _ _) rfl ?_
    exact ⟨rfl, 0, rfl⟩
end Go.Proofs.YtegplajddhiejaaGreat
