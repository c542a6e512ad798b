import Derived.Test.YtpgflnjpohmldaaSamples2
import Derived.Deep.RegionWith
set_option linter.unusedVariables false
namespace Go.Proofs.Ytpgflnjpohmldaa
open Go.RowKit
theorem plus_form (a b : Int) (ha : okI a) (hb : okI b) (w : World) :
    Calls Try.prog 53 #[.int .i64 a, .int .i64 b] w fun e w' => e = .returned (.tuple #[.int .i64 (if okI (a + b) then a + b else 0), .bool (okI (a + b))]) ∧ w = w' := by
  have c := plus_calls a b ha hb w
  by_cases h : okI (a + b) = true
  · rw [if_pos h] at c ⊢; rw [h]; exact c
  · rw [if_neg h] at c ⊢; rw [Bool.not_eq_true] at h; rw [h]; exact c
theorem times_form (a b : Int) (ha : okI a) (hb : okI b) (hp : 0 ≤ a * b) (w : World) :
    Calls Try.prog 55 #[.int .i64 a, .int .i64 b] w fun e w' => e = .returned (.tuple #[.int .i64 (if okI (a * b) then a * b else 0), .bool (okI (a * b))]) ∧ Below w.heap.size w w' := by
  have c := times_calls a b ha hb hp w
  by_cases h : okI (a * b) = true
  · rw [if_pos h] at c ⊢; rw [h]; exact c
  · rw [if_neg h] at c ⊢; rw [Bool.not_eq_true] at h; rw [h]; exact c
theorem okI_sel (x : Int) : okI (if okI x then x else 0) = true := by
  by_cases h : okI x = true
  · rw [if_pos h]; exact h
  · rw [if_neg h]; decide
theorem var_none1 (l : List Int) (hne : l ≠ []) (h : addS l 0 = none) : varZ l = .tuple #[.int .u64 0, .int .i64 11] := by rw [varZ, if_neg hne, h]
theorem var_none2 (l : List Int) (hne : l ≠ []) (h : sqS l 0 = none) : varZ l = .tuple #[.int .u64 0, .int .i64 11] := by rw [varZ, if_neg hne, h]; cases addS l 0 <;> rfl
theorem var_some (l : List Int) (n : Nat) (hn : n = l.length) (hne : l ≠ []) (s q : Int) (h1 : addS l 0 = some s) (h2 : sqS l 0 = some q) : varZ l = if okI (n * q) && okI (s * s) && okI ((n : Int) * n) then .tuple #[.int .u64 (quotZ (wrap64 (n * q - s * s)) (n * n)), .int .i64 0] else .tuple #[.int .u64 0, .int .i64 11] := by rw [varZ, if_neg hne, h1, h2, hn]
theorem sqS_nonneg : ∀ (l : List Int) (s r : Int), 0 ≤ s → sqS l s = some r → 0 ≤ r
  | [], s, r, h, e => by rw [sqS, Option.some.injEq] at e; rw [← e]; exact h
  | x :: l, s, r, h, e => by
    rw [sqS] at e
    by_cases hx : (okI (x * x) && okI (s + x * x)) = true
    · rw [if_pos hx] at e
      have : 0 ≤ x * x := by rcases Int.le_total 0 x with h | h; exact Int.mul_nonneg h h; exact Int.mul_nonneg_of_nonpos_of_nonpos h h
      exact sqS_nonneg l _ r (by omega) e
    · rw [if_neg hx] at e; cases e
theorem sq_nonneg' (x : Int) : 0 ≤ x * x := by rcases Int.le_total 0 x with h | h; exact Int.mul_nonneg h h; exact Int.mul_nonneg_of_nonpos_of_nonpos h h
set_option maxRecDepth 100000 in
set_option maxHeartbeats 1000000 in
theorem rmean_calls (v : Value) (l : List Int) (w : World) (hl : IntsIn w v l) (hlen : l.length ≤ 1048576) :
    Calls Try.prog 30 #[v] w fun e w' => e = .returned (meanZ l) ∧ Below w.heap.size w w' := by
  by_cases hne : l = []
  · rw [mean_zero l hne]
    subst hne
    obtain ⟨a, capv, rfl, _, _⟩ := hl
    go_enter Try.func30, Try.ntmps30
    go_wp2
    go_ret2
    exact ⟨rfl, Below.refl _ _⟩
  have hm : meanZ l = match addS l 0 with | some s => .tuple #[.int .u64 (quotZ s l.length), .int .i64 0] | none => .tuple #[.int .u64 0, .int .i64 11] := by rw [meanZ, if_neg hne]; rfl
  have hpos : 0 < l.length := List.length_pos_iff.mpr hne
  obtain ⟨a, capv, rfl, hcs, hbnd⟩ := hl
  obtain ⟨b, off, rfl, hb, hcell⟩ := hcs hne
  obtain ⟨n, hnn⟩ : ∃ n, n = l.length := ⟨_, rfl⟩
  have HC := Lib.hid hcell
  have HD := Lib.hid hbnd
  rw [← hnn] at hlen hpos hm
  rw [← hnn]
  have HM := Lib.hid hm
  have HN := Lib.hid hnn
  clear hcell hcs hnn hbnd hm
  have hz : ((n : Int) == 0) = false := by rw [beq_eq_false_iff_ne]; omega
  go_enter Try.func30, Try.ntmps30
  go_wp2
  go_loopw [4, 5] (fun sv iv wr => ∃ (j : Nat) (s : Int), j ≤ n ∧ iv = .int .i64 j ∧ sv = .int .i64 s ∧ okI s = true ∧ Hid (addS l 0 = addS (l.drop j) s) ∧ Hid (Below w.heap.size w wr)) (fun _ iv _ => n - (intOf iv).toNat)
  case atStart => exact ⟨0, 0, by omega, rfl, rfl, by decide, Lib.hid rfl, Lib.hid (Below.refl _ _)⟩
  case round =>
    obtain ⟨j, s, hj, rfl, rfl, hs, HS, HB⟩ := hrel
    by_cases hlt : j < n
    · have hjl : j < l.length := by rw [← HN.out]; exact hlt
      have hcell : wr.cell? ⟨b, off + j, none⟩ = some (.int .i64 l[j]) := (HB.out.cell (p := ⟨b, off + j, none⟩) hb).trans (HC.out j hjl)
      have hx : okI l[j] = true := by rw [okI_iff]; exact HD.out _ (List.getElem_mem _)
      have hst := HS.out
      rw [List.drop_eq_getElem_cons hjl, addS] at hst
      generalize l[j] = x at *
      have c := plus_calls s x hs hx
      have hb : (j : Int) < n := by omega
      have HX := Lib.hid hx
      have HZ := Lib.hid hs
      by_cases hok : okI (s + x) = true
      · rw [if_pos hok] at hst c
        have HT := Lib.hid hst
        have HO := Lib.hid hok
        clear hst hok hx hs
        go_wp2_with (go_at_call 53; (with_reducible refine (c _).mono ?_); rintro e w1 ⟨rfl, rfl⟩)
        exact ⟨⟨j + 1, s + x, by omega, by go_num, rfl, HO.out, HT, HB⟩, by simp [intOf]; omega⟩
      · rw [if_neg hok] at hst c
        have HT := Lib.hid (HM.out.trans (by rw [hst]))
        have HO := Lib.hid hok
        clear hst hok hx hs
        go_wp2_with (go_at_call 53; (with_reducible refine (c _).mono ?_); rintro e w1 ⟨rfl, rfl⟩)
        go_ret2
        exact ⟨by rw [HT.out]; rfl, HB.out⟩
    · obtain rfl : j = n := by omega
      have hst := HS.out
      rw [List.drop_of_length_le (by rw [← HN.out]; exact Nat.le_refl _), addS] at hst
      have HT := Lib.hid (HM.out.trans (by rw [hst]))
      clear hst
      have h1 := (okI_iff _).mp hs
      have cq := rquot_calls s j h1.1 h1.2 (by omega) (by omega) hz
      go_wp2_with (go_at_call 17; (with_reducible refine (cq _).mono ?_); rintro e w1 ⟨rfl, hb1⟩)
      go_ret2
      exact ⟨by rw [HT.out]; rfl, belowThen HB.out hb1⟩
set_option maxRecDepth 100000 in
set_option maxHeartbeats 8000000 in
theorem rvariance_calls (v : Value) (l : List Int) (w : World) (hl : IntsIn w v l) (hlen : l.length ≤ 1048576) :
    Calls Try.prog 32 #[v] w fun e w' => e = .returned (varZ l) ∧ Below w.heap.size w w' := by
  by_cases hne : l = []
  · rw [var_zero l hne]
    subst hne
    obtain ⟨a, capv, rfl, _, _⟩ := hl
    go_enter Try.func32, Try.ntmps32
    go_wp2
    go_ret2
    exact ⟨rfl, Below.refl _ _⟩
  have hpos : 0 < l.length := List.length_pos_iff.mpr hne
  obtain ⟨a, capv, rfl, hcs, hbnd⟩ := hl
  obtain ⟨b, off, rfl, hb, hcell⟩ := hcs hne
  obtain ⟨n, hnn⟩ : ∃ n, n = l.length := ⟨_, rfl⟩
  have HC := Lib.hid hcell
  have HD := Lib.hid hbnd
  rw [← hnn] at hlen hpos
  rw [← hnn]
  have HN := Lib.hid hnn
  clear hcell hcs hnn hbnd
  have hz : ((n : Int) == 0) = false := by rw [beq_eq_false_iff_ne]; omega
  go_enter Try.func32, Try.ntmps32
  go_wp2
  go_loopw [5, 6, 7] (fun sv qv iv wr => ∃ (j : Nat) (s q : Int), j ≤ n ∧ iv = .int .i64 j ∧ sv = .int .i64 s ∧ qv = .int .i64 q ∧ okI s = true ∧ okI q = true ∧ Hid (addS l 0 = addS (l.drop j) s) ∧ Hid (sqS l 0 = sqS (l.drop j) q) ∧ Hid (Below w.heap.size w wr)) (fun _ _ iv _ => n - (intOf iv).toNat)
  case atStart => exact ⟨0, 0, 0, by omega, rfl, rfl, rfl, by decide, by decide, Lib.hid rfl, Lib.hid rfl, Lib.hid (Below.refl _ _)⟩
  case round =>
    obtain ⟨j, s, q, hj, rfl, rfl, rfl, hs, hq, HS, HQ, HB⟩ := hrel
    by_cases hlt : j < n
    · have hjl : j < l.length := by rw [← HN.out]; exact hlt
      have hcell : wr.cell? ⟨b, off + j, none⟩ = some (.int .i64 l[j]) := (HB.out.cell (p := ⟨b, off + j, none⟩) hb).trans (HC.out j hjl)
      have hx : okI l[j] = true := by rw [okI_iff]; exact HD.out _ (List.getElem_mem _)
      have hst := HS.out
      have hsq := HQ.out
      rw [List.drop_eq_getElem_cons hjl, addS] at hst
      rw [List.drop_eq_getElem_cons hjl, sqS] at hsq
      generalize l[j] = x at *
      have c1 := plus_form s x hs hx
      have c2 := times_form x x hx hx (sq_nonneg' x)
      have c3 := plus_form q (if okI (x * x) then x * x else 0) hq (okI_sel _)
      have o1 := okI_sel (s + x)
      have o3 := okI_sel (q + (if okI (x * x) then x * x else 0))
      have hF : (okI (s + x) && okI (x * x) && okI (q + (if okI (x * x) then x * x else 0))) = false → varZ l = .tuple #[.int .u64 0, .int .i64 11] := by
        intro h
        by_cases h1 : okI (s + x) = true
        · by_cases h2 : okI (x * x) = true
          · rw [h1, h2, if_pos rfl, Bool.true_and, Bool.true_and] at h
            rw [h2, h, if_neg (by simp)] at hsq
            exact var_none2 l hne hsq
          · rw [Bool.not_eq_true] at h2
            rw [h2, Bool.false_and, if_neg (by simp)] at hsq
            exact var_none2 l hne hsq
        · rw [if_neg h1] at hst; exact var_none1 l hne hst
      have hT : (okI (s + x) && okI (x * x) && okI (q + (if okI (x * x) then x * x else 0))) = true → addS l 0 = addS (l.drop (j + 1)) (if okI (s + x) then s + x else 0) ∧ sqS l 0 = sqS (l.drop (j + 1)) (if okI (q + (if okI (x * x) then x * x else 0)) then q + (if okI (x * x) then x * x else 0) else 0) := by
        intro h
        rw [Bool.and_eq_true, Bool.and_eq_true] at h
        obtain ⟨⟨h1, h2⟩, h3⟩ := h
        rw [h2, if_pos rfl] at h3 ⊢
        rw [if_pos h1] at hst ⊢
        rw [h2, h3, if_pos (by rfl)] at hsq
        rw [h3, if_pos rfl]
        exact ⟨hst, hsq⟩
      generalize (if okI (q + (if okI (x * x) then x * x else 0)) then q + (if okI (x * x) then x * x else 0) else 0) = a3 at *
      generalize okI (q + (if okI (x * x) then x * x else 0)) = b3 at *
      generalize (if okI (x * x) then x * x else 0) = a2 at *
      generalize okI (x * x) = b2 at *
      generalize (if okI (s + x) then s + x else 0) = a1 at *
      generalize okI (s + x) = b1 at *
      have hb : (j : Int) < n := by omega
      have hF' := Lib.hid hF
      have hT' := Lib.hid hT
      have O := Lib.hid (And.intro o1 o3)
      clear hst hsq hx hs hq hF hT o1 o3
      cases b1 <;> cases b2 <;> cases b3
      case true.true.true =>
        go_wp2_with (go_at_call 53; (with_reducible refine (c1 _).mono ?_); rintro e w1 ⟨rfl, rfl⟩)
        go_region_with (go_at_call 55; refine (c2 _).mono ?_; rintro e w1 ⟨rfl, hb1⟩)
        all_goals (have H1 := Lib.hid (belowThen (belowDrew HB.out) hb1); clear hb1)
        all_goals go_wp2_with (go_at_call 53; (with_reducible refine (c3 _).mono ?_); rintro e w1 ⟨rfl, rfl⟩)
        all_goals exact ⟨⟨j + 1, a1, a3, by omega, by go_num, rfl, rfl, O.out.1, O.out.2, Lib.hid (hT'.out rfl).1, Lib.hid (hT'.out rfl).2, H1⟩, by simp [intOf]; omega⟩
      all_goals
        have HT := Lib.hid (hF'.out rfl)
        clear hF' hT'
        go_wp2_with (go_at_call 53; (with_reducible refine (c1 _).mono ?_); rintro e w1 ⟨rfl, rfl⟩)
        go_region_with (go_at_call 55; refine (c2 _).mono ?_; rintro e w1 ⟨rfl, hb1⟩)
        all_goals (have H1 := Lib.hid (belowThen (belowDrew HB.out) hb1); clear hb1)
        all_goals go_wp2_with (go_at_call 53; (with_reducible refine (c3 _).mono ?_); rintro e w1 ⟨rfl, rfl⟩)
        all_goals go_ret2
        all_goals exact ⟨by rw [HT.out]; rfl, H1.out⟩
    · obtain rfl : j = n := by omega
      have hst := HS.out
      have hsq := HQ.out
      rw [List.drop_of_length_le (by rw [← HN.out]; exact Nat.le_refl _), addS] at hst
      rw [List.drop_of_length_le (by rw [← HN.out]; exact Nat.le_refl _), sqS] at hsq
      have hm := var_some l j HN.out hne s q hst hsq
      have hq0 := sqS_nonneg l 0 q (Int.le_refl _) hsq
      have hj1 : okI (j : Int) = true := by rw [okI_iff]; omega
      have hq3 : okI ((j : Int) * j) = true := by
        rw [okI_iff]; have := Int.mul_le_mul (a := (j : Int)) (b := j) (c := 1048576) (d := 1048576) (by omega) (by omega) (by omega) (by omega)
        have := Int.mul_nonneg (a := (j : Int)) (b := j) (by omega) (by omega)
        omega
      have hnn0 : ((j : Int) * j == 0) = false := by
        have : 0 < (j : Int) * j := Int.mul_pos (by omega) (by omega)
        rw [beq_eq_false_iff_ne]; omega
      have p1 := times_form j q hj1 hq (Int.mul_nonneg (by omega) hq0)
      have p2 := times_form s s hs hs (sq_nonneg' s)
      have p3 := times_form j j hj1 hj1 (sq_nonneg' j)
      rw [hq3, if_pos rfl] at p3
      rw [hq3, Bool.and_true] at hm
      obtain ⟨nn, hnnv⟩ : ∃ x, (j : Int) * j = x := ⟨_, rfl⟩
      obtain ⟨nq, hnq⟩ : ∃ x, (j : Int) * q = x := ⟨_, rfl⟩
      obtain ⟨ss, hss⟩ : ∃ x, s * s = x := ⟨_, rfl⟩
      rw [hnnv] at p3 hm hq3 hnn0
      rw [hnq] at p1 hm
      rw [hss] at p2 hm
      clear hnnv hnq hss hst hsq
      have HS' := Lib.hid hs
      have HQ' := Lib.hid hq
      clear hs hq hj1
      by_cases k1 : (okI nq && okI ss) = true
      · rw [if_pos k1] at hm
        rw [Bool.and_eq_true] at k1
        rw [k1.1, if_pos rfl] at p1
        rw [k1.2, if_pos rfl] at p2
        obtain ⟨df, hdf⟩ : ∃ x, wrap64 (nq - ss) = x := ⟨_, rfl⟩
        have hdr : -9223372036854775808 ≤ df ∧ df ≤ 9223372036854775807 := by
          obtain ⟨_, _, h2, h3⟩ := wrap64_form (nq - ss); omega
        rw [hdf] at hm
        have hq4 := (okI_iff _).mp hq3
        have cq := rquot_calls df nn hdr.1 hdr.2 hq4.1 hq4.2 hnn0
        have HT := Lib.hid hm
        have HK := Lib.hid k1
        clear hm k1 hq3
        go_wp2_with (first
          | (go_at_call 55; first
            | ((with_reducible refine (p1 _).mono ?_); rintro e w1 ⟨rfl, hb1⟩; have H1 := Lib.hid (belowThen HB.out hb1); clear hb1)
            | ((with_reducible refine (p2 _).mono ?_); rintro e w2 ⟨rfl, hb2⟩; have H2 := Lib.hid (belowThen H1.out hb2); clear hb2)
            | ((with_reducible refine (p3 _).mono ?_); rintro e w3 ⟨rfl, hb3⟩; have H3 := Lib.hid (belowThen H2.out hb3); clear hb3))
          | (go_at_call 17; (with_reducible refine (cq _).mono ?_); rintro e w4 ⟨rfl, hb4⟩; have H4 := Lib.hid (belowThen H3.out hb4); clear hb4))
        go_ret2
        exact ⟨by rw [HT.out]; rfl, H4.out⟩
      · rw [if_neg k1] at hm
        have HT := Lib.hid hm
        generalize (if okI nq = true then nq else 0) = m1 at *
        generalize (if okI ss = true then ss else 0) = m2 at *
        generalize okI nq = b1 at *
        generalize okI ss = b2 at *
        clear hm hq3
        cases b1 <;> cases b2
        case true.true => exact absurd rfl k1
        all_goals
          clear k1
          go_wp2_with (go_at_call 55; first
            | ((with_reducible refine (p1 _).mono ?_); rintro e w1 ⟨rfl, hb1⟩; have H1 := Lib.hid (belowThen HB.out hb1); clear hb1)
            | ((with_reducible refine (p2 _).mono ?_); rintro e w2 ⟨rfl, hb2⟩; have H2 := Lib.hid (belowThen H1.out hb2); clear hb2)
            | ((with_reducible refine (p3 _).mono ?_); rintro e w3 ⟨rfl, hb3⟩; have H3 := Lib.hid (belowThen H2.out hb3); clear hb3))
          go_ret2
          exact ⟨by rw [HT.out]; rfl, H3.out⟩
end Go.Proofs.Ytpgflnjpohmldaa
