import Derived.Test.YtpgflnjpohmldaaSamples1
set_option linter.unusedVariables false
namespace Go.Proofs.Ytpgflnjpohmldaa
open Go.RowKit
/-- The sum of a list's ints, if all sums on the way are ints. -/
def addS : List Int → Int → Option Int
  | [], s => some s
  | x :: r, s => if okI (s + x) then addS r (s + x) else none
def sqS : List Int → Int → Option Int
  | [], s => some s
  | x :: r, s => if okI (x * x) && okI (s + x * x) then sqS r (s + x * x) else none
def optV (o : Option Int) : Value := match o with | some s => .tuple #[.int .i64 s, .bool true] | none => .tuple #[.int .i64 0, .bool false]
set_option maxHeartbeats 1000000 in
theorem added_calls (v : Value) (l : List Int) (w : World) (hl : IntsIn w v l) (hne : l ≠ []) (hlen : l.length ≤ 1048576) :
    Calls Try.prog 70 #[v] w fun e w' => e = .returned (optV (addS l 0)) ∧ Below w.heap.size w w' := by
  have hpos : 0 < l.length := List.length_pos_iff.mpr hne
  obtain ⟨a, capv, rfl, hcs, hbnd⟩ := hl
  obtain ⟨b, off, rfl, hb, hcell⟩ := hcs hne
  obtain ⟨n, hnn⟩ : ∃ n, n = l.length := ⟨_, rfl⟩
  have HC := Lib.hid hcell
  have HD := Lib.hid hbnd
  rw [← hnn] at hlen hpos
  rw [← hnn]
  have HN := Lib.hid hnn
  clear hcell hcs hnn hbnd
  go_enter Try.func70, Try.ntmps70
  go_wp2
  go_loopw [4, 10] (fun sv iv wr => ∃ (j : Nat) (s : Int), j ≤ n ∧ iv = .int .i64 j ∧ sv = .int .i64 s ∧ okI s = true ∧ Hid (addS l 0 = addS (l.drop j) s) ∧ Hid (Below w.heap.size w wr)) (fun _ iv _ => n - (intOf iv).toNat)
  case atStart => exact ⟨0, 0, by omega, rfl, rfl, by decide, Lib.hid rfl, Lib.hid (Below.refl _ _)⟩
  case round =>
    obtain ⟨j, s, hj, rfl, rfl, hs, HS, HB⟩ := hrel
    by_cases hlt : j < n
    · have hjl : j < l.length := by rw [← HN.out]; exact hlt
      have hcell : wr.cell? ⟨b, off + j, none⟩ = some (.int .i64 l[j]) := (HB.out.cell (p := ⟨b, off + j, none⟩) hb).trans (HC.out j hjl)
      have hx : okI l[j] = true := by rw [okI_iff]; exact HD.out _ (List.getElem_mem _)
      have hst := HS.out
      rw [List.drop_eq_getElem_cons hjl, addS] at hst
      generalize l[j] = x at *
      have c := msum_calls s x hs hx
      have hb : (j : Int) < n := by omega
      have HX := Lib.hid hx
      have HZ := Lib.hid hs
      by_cases hok : okI (s + x) = true
      · rw [if_pos hok] at hst
        have hw : wrap64 (s + x) = s + x := IntWalk.wrap64_in _ ((okI_iff _).mp hok)
        rw [hok, hw] at c
        have HT := Lib.hid hst
        have HO := Lib.hid hok
        clear hst hok hx hs
        go_wp2_with (go_at_call 88; (with_reducible refine (c _).mono ?_); rintro e w1 ⟨rfl, rfl⟩)
        exact ⟨⟨j + 1, s + x, by omega, by go_num, rfl, HO.out, HT, HB⟩, by simp [intOf]; omega⟩
      · rw [if_neg hok] at hst
        rw [Bool.not_eq_true] at hok
        rw [hok] at c
        have HT := Lib.hid hst
        have HO := Lib.hid hok
        clear hst hok hx hs
        go_wp2_with (go_at_call 88; (with_reducible refine (c _).mono ?_); rintro e w1 ⟨rfl, rfl⟩)
        go_ret2
        exact ⟨by rw [HT.out]; rfl, HB.out⟩
    · obtain rfl : j = n := by omega
      have hst := HS.out
      rw [List.drop_of_length_le (by rw [← HN.out]; exact Nat.le_refl _), addS] at hst
      have HT := Lib.hid hst
      clear hst
      go_wp2
      go_ret2
      exact ⟨by rw [HT.out]; rfl, HB.out⟩
set_option maxHeartbeats 1000000 in
theorem squares_calls (v : Value) (l : List Int) (w : World) (hl : IntsIn w v l) (hne : l ≠ []) (hlen : l.length ≤ 1048576) :
    Calls Try.prog 71 #[v] w fun e w' => e = .returned (optV (sqS l 0)) ∧ Below w.heap.size w w' := by
  have hpos : 0 < l.length := List.length_pos_iff.mpr hne
  obtain ⟨a, capv, rfl, hcs, hbnd⟩ := hl
  obtain ⟨b, off, rfl, hb, hcell⟩ := hcs hne
  obtain ⟨n, hnn⟩ : ∃ n, n = l.length := ⟨_, rfl⟩
  have HC := Lib.hid hcell
  have HD := Lib.hid hbnd
  rw [← hnn] at hlen hpos
  rw [← hnn]
  have HN := Lib.hid hnn
  clear hcell hcs hnn hbnd
  go_enter Try.func71, Try.ntmps71
  go_wp2
  go_loopw [4, 11] (fun sv iv wr => ∃ (j : Nat) (s : Int), j ≤ n ∧ iv = .int .i64 j ∧ sv = .int .i64 s ∧ okI s = true ∧ Hid (sqS l 0 = sqS (l.drop j) s) ∧ Hid (Below w.heap.size w wr)) (fun _ iv _ => n - (intOf iv).toNat)
  case atStart => exact ⟨0, 0, by omega, rfl, rfl, by decide, Lib.hid rfl, Lib.hid (Below.refl _ _)⟩
  case round =>
    obtain ⟨j, s, hj, rfl, rfl, hs, HS, HB⟩ := hrel
    by_cases hlt : j < n
    · have hjl : j < l.length := by rw [← HN.out]; exact hlt
      have hcell : wr.cell? ⟨b, off + j, none⟩ = some (.int .i64 l[j]) := (HB.out.cell (p := ⟨b, off + j, none⟩) hb).trans (HC.out j hjl)
      have hx : okI l[j] = true := by rw [okI_iff]; exact HD.out _ (List.getElem_mem _)
      have hst := HS.out
      rw [List.drop_eq_getElem_cons hjl, sqS] at hst
      generalize l[j] = x at *
      have c1 := mprod_calls x x hx hx
      have hb : (j : Int) < n := by omega
      have HX := Lib.hid hx
      have HZ := Lib.hid hs
      by_cases hok1 : okI (x * x) = true
      · have c := msum_calls s (x * x) hs hok1
        have hw1 : wrap64 (x * x) = x * x := IntWalk.wrap64_in _ ((okI_iff _).mp hok1)
        rw [hok1, hw1] at c1
        rw [hok1, Bool.true_and] at hst
        have HO1 := Lib.hid hok1
        obtain ⟨q, hq⟩ : ∃ q, q = x * x := ⟨_, rfl⟩
        rw [← hq] at c c1 hst
        clear hok1 hw1 hx hq
        by_cases hok : okI (s + q) = true
        · rw [if_pos hok] at hst
          have hw : wrap64 (s + q) = s + q := IntWalk.wrap64_in _ ((okI_iff _).mp hok)
          rw [hok, hw] at c
          have HT := Lib.hid hst
          have HO := Lib.hid hok
          clear hst hok hs hw
          go_wp2_with (first
            | (go_at_call 72; (with_reducible refine (c1 _).mono ?_); rintro e w1 ⟨rfl, rfl⟩)
            | (go_at_call 88; (with_reducible refine (c _).mono ?_); rintro e w1 ⟨rfl, rfl⟩))
          exact ⟨⟨j + 1, s + q, by omega, by go_num, rfl, HO.out, HT, HB⟩, by simp [intOf]; omega⟩
        · rw [if_neg hok] at hst
          rw [Bool.not_eq_true] at hok
          rw [hok] at c
          have HT := Lib.hid hst
          have HO := Lib.hid hok
          clear hst hok hs
          go_wp2_with (first
            | (go_at_call 72; (with_reducible refine (c1 _).mono ?_); rintro e w1 ⟨rfl, rfl⟩)
            | (go_at_call 88; (with_reducible refine (c _).mono ?_); rintro e w1 ⟨rfl, rfl⟩))
          go_ret2
          exact ⟨by rw [HT.out]; rfl, HB.out⟩
      · rw [Bool.not_eq_true] at hok1
        rw [hok1] at c1
        rw [hok1, Bool.false_and, if_neg (by simp)] at hst
        have HT := Lib.hid hst
        have HO := Lib.hid hok1
        clear hst hok1 hx hs
        go_wp2_with (go_at_call 72; (with_reducible refine (c1 _).mono ?_); rintro e w1 ⟨rfl, rfl⟩)
        go_ret2
        exact ⟨by rw [HT.out]; rfl, HB.out⟩
    · obtain rfl : j = n := by omega
      have hst := HS.out
      rw [List.drop_of_length_le (by rw [← HN.out]; exact Nat.le_refl _), sqS] at hst
      have HT := Lib.hid hst
      clear hst
      go_wp2
      go_ret2
      exact ⟨by rw [HT.out]; rfl, HB.out⟩
/-- The mean: what both programs answer. -/
def meanZ (l : List Int) : Value := if l = [] then .tuple #[.int .u64 0, .int .i64 250] else match addS l 0 with
  | some s => .tuple #[.int .u64 (quotZ s l.length), .int .i64 0]
  | none => .tuple #[.int .u64 0, .int .i64 11]
theorem addS_ok : ∀ (l : List Int) (s r : Int), okI s = true → addS l s = some r → okI r = true
  | [], s, r, h, e => by rw [addS, Option.some.injEq] at e; rw [← e]; exact h
  | x :: l, s, r, h, e => by
    rw [addS] at e
    by_cases hx : okI (s + x) = true
    · rw [if_pos hx] at e; exact addS_ok l _ r hx e
    · rw [if_neg hx] at e; cases e
theorem sqS_ok : ∀ (l : List Int) (s r : Int), okI s = true → sqS l s = some r → okI r = true
  | [], s, r, h, e => by rw [sqS, Option.some.injEq] at e; rw [← e]; exact h
  | x :: l, s, r, h, e => by
    rw [sqS] at e
    by_cases hx : (okI (x * x) && okI (s + x * x)) = true
    · rw [if_pos hx] at e; rw [Bool.and_eq_true] at hx; exact sqS_ok l _ r hx.2 e
    · rw [if_neg hx] at e; cases e
set_option maxHeartbeats 1000000 in
theorem mean52_calls (v : Value) (l : List Int) (w : World) (hl : IntsIn w v l) (hne : l ≠ []) (hlen : l.length ≤ 1048576) :
    Calls Try.prog 52 #[v] w fun e w' => e = .returned (meanZ l) ∧ Below w.heap.size w w' := by
  have c1 := added_calls v l w hl hne hlen
  have hpos : 0 < l.length := List.length_pos_iff.mpr hne
  have hm : meanZ l = match addS l 0 with | some s => .tuple #[.int .u64 (quotZ s l.length), .int .i64 0] | none => .tuple #[.int .u64 0, .int .i64 11] := by rw [meanZ, if_neg hne]
  have hok := addS_ok l 0
  obtain ⟨a, capv, rfl, _, _⟩ := hl
  cases hs : addS l 0 with
  | none =>
    rw [hs] at hm c1
    simp only [optV] at hm c1
    have HM := Lib.hid hm
    clear hm
    clear hok
    go_enter Try.func52, Try.ntmps52
    go_wp2_with (go_at_call 70; (with_reducible refine c1.mono ?_); rintro e w1 ⟨rfl, hb1⟩)
    go_ret2
    exact ⟨by rw [HM.out]; rfl, hb1⟩
  | some s =>
    rw [hs] at hm c1
    simp only [optV] at hm c1
    have HM := Lib.hid hm
    clear hm
    have h1 := (okI_iff _).mp (hok s (by decide) hs)
    clear hok
    have cq := mquot_calls s l.length h1.1 h1.2 (by omega) (by omega) (by rw [beq_eq_false_iff_ne]; omega)
    go_enter Try.func52, Try.ntmps52
    go_wp2_with (first
      | (go_at_call 70; (with_reducible refine c1.mono ?_); rintro e w1 ⟨rfl, hb1⟩)
      | (go_at_call 16; (with_reducible refine (cq _).mono ?_); rintro e w1 ⟨rfl, rfl⟩))
    go_ret2
    exact ⟨by rw [HM.out]; rfl, hb1⟩
theorem mean_zero (l : List Int) (h : l = []) : meanZ l = .tuple #[.int .u64 0, .int .i64 250] := by rw [meanZ, if_pos h]
theorem mean_form (l : List Int) : ∃ x y, meanZ l = .tuple #[.int .u64 x, .int .i64 y] := by
  rw [meanZ]; split
  · exact ⟨_, _, rfl⟩
  · cases addS l 0 <;> exact ⟨_, _, rfl⟩
set_option maxRecDepth 100000 in
set_option maxHeartbeats 1000000 in
theorem measuredM_calls (v : Value) (l : List Int) (w : World) (hl : IntsIn w v l) (hlen : l.length ≤ 1048576) :
    Calls Try.prog 51 #[v, .func (.func 52) #[] #[]] w fun e w' => e = .returned (meanZ l) ∧ Below w.heap.size w w' := by
  by_cases hne : l = []
  · rw [mean_zero l hne]
    subst hne
    obtain ⟨a, capv, rfl, _, _⟩ := hl
    go_enter Try.func51, Try.ntmps51
    go_wp2
    go_ret2
    exact ⟨rfl, Below.refl _ _⟩
  · have c1 := mean52_calls v l w hl hne hlen
    have hpos : 0 < l.length := List.length_pos_iff.mpr hne
    have hz : ((l.length : Int) == 0) = false := by rw [beq_eq_false_iff_ne]; omega
    obtain ⟨x, y, hm⟩ := mean_form l
    rw [hm] at c1 ⊢
    clear hm
    obtain ⟨a, capv, rfl, _, _⟩ := hl
    go_enter Try.func51, Try.ntmps51
    go_wp2_with (go_at_call 52; (with_reducible refine c1.mono ?_); rintro e w1 ⟨rfl, hb1⟩)
    go_ret2
    exact ⟨rfl, hb1⟩
set_option maxRecDepth 100000 in
set_option maxHeartbeats 1000000 in
theorem mean_calls (v : Value) (l : List Int) (w : World) (hl : IntsIn w v l) (hlen : l.length ≤ 1048576) :
    Calls Try.prog 28 #[v] w fun e w' => e = .returned (meanZ l) ∧ Below w.heap.size w w' := by
  have c1 := measuredM_calls v l w hl hlen
  obtain ⟨x, y, hm⟩ := mean_form l
  rw [hm] at c1 ⊢
  clear hm
  obtain ⟨a, capv, rfl, _, _⟩ := hl
  go_enter Try.func28, Try.ntmps28
  go_wp2_with (go_at_call 51; (with_reducible refine c1.mono ?_); rintro e w1 ⟨rfl, hb1⟩)
  go_ret2
  exact ⟨rfl, hb1⟩
/-- The variance: what both programs answer. -/
def varZ (l : List Int) : Value := if l = [] then .tuple #[.int .u64 0, .int .i64 250] else match addS l 0, sqS l 0 with
  | some s, some q => if okI (l.length * q) && okI (s * s) && okI ((l.length : Int) * l.length) then .tuple #[.int .u64 (quotZ (wrap64 (l.length * q - s * s)) (l.length * l.length)), .int .i64 0] else .tuple #[.int .u64 0, .int .i64 11]
  | _, _ => .tuple #[.int .u64 0, .int .i64 11]
set_option maxRecDepth 100000 in
set_option maxHeartbeats 1000000 in
theorem var54_calls (v : Value) (l : List Int) (w : World) (hl : IntsIn w v l) (hne : l ≠ []) (hlen : l.length ≤ 1048576) :
    Calls Try.prog 54 #[v] w fun e w' => e = .returned (varZ l) ∧ Below w.heap.size w w' := by
  have hpos : 0 < l.length := List.length_pos_iff.mpr hne
  have c1 := added_calls v l w hl hne hlen
  have c2 := fun w hl => squares_calls v l w hl hne hlen
  have HL := Lib.hid hl
  have hm : varZ l = match addS l 0, sqS l 0 with
    | some s, some q => if okI (l.length * q) && okI (s * s) && okI ((l.length : Int) * l.length) then .tuple #[.int .u64 (quotZ (wrap64 (l.length * q - s * s)) (l.length * l.length)), .int .i64 0] else .tuple #[.int .u64 0, .int .i64 11]
    | _, _ => .tuple #[.int .u64 0, .int .i64 11] := by rw [varZ, if_neg hne]
  have ho1 := addS_ok l 0
  have ho2 := sqS_ok l 0
  obtain ⟨n, hnn⟩ : ∃ n, l.length = n := ⟨_, rfl⟩
  obtain ⟨a, capv, rfl, _, _⟩ := hl
  simp only [hnn] at hpos hlen hm c1 c2 HL
  rw [hnn]
  clear hnn
  have hn : okI (n : Int) = true := by rw [okI_iff]; omega
  have hq3 : okI ((n : Int) * n) = true := by
    rw [okI_iff]; have := Int.mul_le_mul (a := (n : Int)) (b := n) (c := 1048576) (d := 1048576) (by omega) (by omega) (by omega) (by omega)
    have := Int.mul_nonneg (a := (n : Int)) (b := n) (by omega) (by omega)
    omega
  have hnn0 : ((n : Int) * n == 0) = false := by
    have : 0 < (n : Int) * n := Int.mul_pos (by omega) (by omega)
    rw [beq_eq_false_iff_ne]; omega
  cases hs : addS l 0 with
  | none =>
    rw [hs] at hm c1
    have HM : Hid (varZ l = .tuple #[.int .u64 0, .int .i64 11]) := Lib.hid (by rw [hm])
    clear hm
    cases hs2 : sqS l 0 with
    | none =>
      rw [hs2] at c2
      simp only [optV] at c1 c2
      clear ho1 ho2
      go_enter Try.func54, Try.ntmps54
      go_wp2_with (first
        | (go_at_call 70; (with_reducible refine c1.mono ?_); rintro e w1 ⟨rfl, hb1⟩; have H1 := Lib.hid hb1; clear hb1)
        | (go_at_call 71; (with_reducible refine (c2 _ (HL.out.keep H1.out)).mono ?_); rintro e w2 ⟨rfl, hb2⟩; have H2 := Lib.hid (belowThen H1.out hb2); clear hb2))
      go_ret2
      exact ⟨by rw [HM.out]; rfl, H2.out⟩
    | some q =>
      rw [hs2] at c2
      simp only [optV] at c1 c2
      clear ho1 ho2
      go_enter Try.func54, Try.ntmps54
      go_wp2_with (first
        | (go_at_call 70; (with_reducible refine c1.mono ?_); rintro e w1 ⟨rfl, hb1⟩; have H1 := Lib.hid hb1; clear hb1)
        | (go_at_call 71; (with_reducible refine (c2 _ (HL.out.keep H1.out)).mono ?_); rintro e w2 ⟨rfl, hb2⟩; have H2 := Lib.hid (belowThen H1.out hb2); clear hb2))
      go_ret2
      exact ⟨by rw [HM.out]; rfl, H2.out⟩
  | some s =>
    rw [hs] at hm c1
    have hs1 := ho1 s (by decide) hs
    cases hs2 : sqS l 0 with
    | none =>
      rw [hs2] at c2 hm
      have HM : Hid (varZ l = .tuple #[.int .u64 0, .int .i64 11]) := Lib.hid (by rw [hm])
      simp only [optV] at c1 c2
      clear ho1 ho2 hm
      go_enter Try.func54, Try.ntmps54
      go_wp2_with (first
        | (go_at_call 70; (with_reducible refine c1.mono ?_); rintro e w1 ⟨rfl, hb1⟩; have H1 := Lib.hid hb1; clear hb1)
        | (go_at_call 71; (with_reducible refine (c2 _ (HL.out.keep H1.out)).mono ?_); rintro e w2 ⟨rfl, hb2⟩; have H2 := Lib.hid (belowThen H1.out hb2); clear hb2))
      go_ret2
      exact ⟨by rw [HM.out]; rfl, H2.out⟩
    | some q =>
      rw [hs2] at c2 hm
      simp only [optV] at c1 c2
      have hq1 := ho2 q (by decide) hs2
      have p1 := mprod_calls n q hn hq1
      have p2 := mprod_calls s s hs1 hs1
      have p3 := mprod_calls n n hn hn
      rw [hq3] at p3
      simp only [hq3, Bool.and_true] at hm
      have hw3 : wrap64 ((n : Int) * n) = n * n := IntWalk.wrap64_in _ ((okI_iff _).mp hq3)
      rw [hw3] at p3
      obtain ⟨nn, hnnv⟩ : ∃ x, (n : Int) * n = x := ⟨_, rfl⟩
      obtain ⟨nq, hnq⟩ : ∃ x, (n : Int) * q = x := ⟨_, rfl⟩
      obtain ⟨ss, hss⟩ : ∃ x, s * s = x := ⟨_, rfl⟩
      rw [hnnv] at p3 hm hq3 hnn0
      rw [hnq] at p1 hm
      rw [hss] at p2 hm
      have HW := Lib.hid (And.intro hnnv (And.intro hnq hss))
      clear ho1 ho2 hnnv hnq hss hw3
      by_cases k1 : (okI nq && okI ss) = true
      · rw [if_pos k1] at hm
        rw [Bool.and_eq_true] at k1
        rw [k1.1, IntWalk.wrap64_in _ ((okI_iff _).mp k1.1)] at p1
        rw [k1.2, IntWalk.wrap64_in _ ((okI_iff _).mp k1.2)] at p2
        obtain ⟨df, hdf⟩ : ∃ x, wrap64 (nq - ss) = x := ⟨_, rfl⟩
        have hdr : -9223372036854775808 ≤ df ∧ df ≤ 9223372036854775807 := by
          obtain ⟨_, _, h2, h3⟩ := wrap64_form (nq - ss); omega
        rw [hdf] at hm
        have hq4 := (okI_iff _).mp hq3
        have cq := mquot_calls df nn hdr.1 hdr.2 hq4.1 hq4.2 hnn0
        have HM := Lib.hid hm
        have HK := Lib.hid k1
        clear hm k1
        go_enter Try.func54, Try.ntmps54
        go_wp2_with (first
          | (go_at_call 70; (with_reducible refine c1.mono ?_); rintro e w1 ⟨rfl, hb1⟩; have H1 := Lib.hid hb1; clear hb1)
          | (go_at_call 71; (with_reducible refine (c2 _ (HL.out.keep H1.out)).mono ?_); rintro e w2 ⟨rfl, hb2⟩; have H2 := Lib.hid (belowThen H1.out hb2); clear hb2)
          | (go_at_call 72; first
            | ((with_reducible refine (p1 _).mono ?_); rintro e w3 ⟨rfl, rfl⟩)
            | ((with_reducible refine (p2 _).mono ?_); rintro e w3 ⟨rfl, rfl⟩)
            | ((with_reducible refine (p3 _).mono ?_); rintro e w3 ⟨rfl, rfl⟩))
          | (go_at_call 16; (with_reducible refine (cq _).mono ?_); rintro e w3 ⟨rfl, rfl⟩))
        go_ret2
        exact ⟨by rw [HM.out]; rfl, H2.out⟩
      · rw [if_neg k1] at hm
        have HM := Lib.hid hm
        generalize wrap64 nq = m1 at *
        generalize wrap64 ss = m2 at *
        generalize okI nq = b1 at *
        generalize okI ss = b2 at *
        clear hm
        cases b1
        · cases b2
          all_goals
            clear k1
            go_enter Try.func54, Try.ntmps54
            go_wp2_with (first
              | (go_at_call 70; (with_reducible refine c1.mono ?_); rintro e w1 ⟨rfl, hb1⟩; have H1 := Lib.hid hb1; clear hb1)
              | (go_at_call 71; (with_reducible refine (c2 _ (HL.out.keep H1.out)).mono ?_); rintro e w2 ⟨rfl, hb2⟩; have H2 := Lib.hid (belowThen H1.out hb2); clear hb2)
              | (go_at_call 72; first
                | ((with_reducible refine (p1 _).mono ?_); rintro e w3 ⟨rfl, rfl⟩)
                | ((with_reducible refine (p2 _).mono ?_); rintro e w3 ⟨rfl, rfl⟩)
                | ((with_reducible refine (p3 _).mono ?_); rintro e w3 ⟨rfl, rfl⟩)))
            go_ret2
            exact ⟨by rw [HM.out]; rfl, H2.out⟩
        · cases b2
          · clear k1
            go_enter Try.func54, Try.ntmps54
            go_wp2_with (first
              | (go_at_call 70; (with_reducible refine c1.mono ?_); rintro e w1 ⟨rfl, hb1⟩; have H1 := Lib.hid hb1; clear hb1)
              | (go_at_call 71; (with_reducible refine (c2 _ (HL.out.keep H1.out)).mono ?_); rintro e w2 ⟨rfl, hb2⟩; have H2 := Lib.hid (belowThen H1.out hb2); clear hb2)
              | (go_at_call 72; first
                | ((with_reducible refine (p1 _).mono ?_); rintro e w3 ⟨rfl, rfl⟩)
                | ((with_reducible refine (p2 _).mono ?_); rintro e w3 ⟨rfl, rfl⟩)
                | ((with_reducible refine (p3 _).mono ?_); rintro e w3 ⟨rfl, rfl⟩)))
            go_ret2
            exact ⟨by rw [HM.out]; rfl, H2.out⟩
          · exact absurd rfl k1
theorem var_zero (l : List Int) (h : l = []) : varZ l = .tuple #[.int .u64 0, .int .i64 250] := by rw [varZ, if_pos h]
theorem var_form (l : List Int) : ∃ x y, varZ l = .tuple #[.int .u64 x, .int .i64 y] := by
  rw [varZ]; split
  · exact ⟨_, _, rfl⟩
  · cases addS l 0 <;> cases sqS l 0 <;> first | exact ⟨_, _, rfl⟩ | (simp only []; split <;> exact ⟨_, _, rfl⟩)
set_option maxRecDepth 100000 in
set_option maxHeartbeats 1000000 in
theorem measuredV_calls (v : Value) (l : List Int) (w : World) (hl : IntsIn w v l) (hlen : l.length ≤ 1048576) :
    Calls Try.prog 51 #[v, .func (.func 54) #[] #[]] w fun e w' => e = .returned (varZ l) ∧ Below w.heap.size w w' := by
  by_cases hne : l = []
  · rw [var_zero l hne]
    subst hne
    obtain ⟨a, capv, rfl, _, _⟩ := hl
    go_enter Try.func51, Try.ntmps51
    go_wp2
    go_ret2
    exact ⟨rfl, Below.refl _ _⟩
  · have c1 := var54_calls v l w hl hne hlen
    have hpos : 0 < l.length := List.length_pos_iff.mpr hne
    have hz : ((l.length : Int) == 0) = false := by rw [beq_eq_false_iff_ne]; omega
    obtain ⟨x, y, hm⟩ := var_form l
    rw [hm] at c1 ⊢
    clear hm
    obtain ⟨a, capv, rfl, _, _⟩ := hl
    go_enter Try.func51, Try.ntmps51
    go_wp2_with (go_at_call 54; (with_reducible refine c1.mono ?_); rintro e w1 ⟨rfl, hb1⟩)
    go_ret2
    exact ⟨rfl, hb1⟩
set_option maxRecDepth 100000 in
set_option maxHeartbeats 1000000 in
theorem variance_calls (v : Value) (l : List Int) (w : World) (hl : IntsIn w v l) (hlen : l.length ≤ 1048576) :
    Calls Try.prog 31 #[v] w fun e w' => e = .returned (varZ l) ∧ Below w.heap.size w w' := by
  have c1 := measuredV_calls v l w hl hlen
  obtain ⟨x, y, hm⟩ := var_form l
  rw [hm] at c1 ⊢
  clear hm
  obtain ⟨a, capv, rfl, _, _⟩ := hl
  go_enter Try.func31, Try.ntmps31
  go_wp2_with (go_at_call 51; (with_reducible refine c1.mono ?_); rintro e w1 ⟨rfl, hb1⟩)
  go_ret2
  exact ⟨rfl, hb1⟩
end Go.Proofs.Ytpgflnjpohmldaa
