import Derived.Test.YtpgflnjpohmldaaSamples4
import Derived.Deep.QuietTactic
set_option linter.unusedVariables false
namespace Go.Proofs.Ytpgflnjpohmldaa
open Go.RowKit
theorem belowDrewM {B : Nat} {w W : World} (h : Below B w W) (n : Nat) : Below B w (W.drewN n) := ⟨h.os, h.tape, h.output, h.size, h.block⟩
set_option maxRecDepth 100000 in
set_option maxHeartbeats 4000000 in
theorem rrank_in (v : Value) (l : List Int) (num den : Nat) (w : World) (hl : IntsIn w v l) (hne : l ≠ []) (hlen : l.length ≤ 1048576) (hd0 : 0 < den) (hd1 : den ≤ 1000000) (hnd : num ≤ den) :
    Calls Try.prog 33 #[v, .int .i64 num, .int .i64 den] w fun e w' => e = .returned (.tuple #[.int .i64 (rankV l num den), .int .i64 0]) ∧ Below w.heap.size w w' := by
  have hpos : 0 < l.length := List.length_pos_iff.mpr hne
  have hT := rank_test l num den hne hd0 hnd
  have hK := rankK_eq l.length num den hd0
  have hKn : rankK l.length num den ≤ l.length := by
    have h1 := rankI_lt l.length num den hpos hd0 hnd
    unfold rankI at h1; omega
  obtain ⟨x, hx⟩ : ∃ x, rankV l num den = x := ⟨_, rfl⟩
  rw [hx] at hT ⊢
  have hxl : x ∈ l := by rw [← hx]; exact (rank_law l num den hne hd0 hnd).2.2
  obtain ⟨a, capv, rfl, hcs, hbnd⟩ := hl
  obtain ⟨b, off, rfl, hb, hcell⟩ := hcs hne
  obtain ⟨n, hnn⟩ : ∃ n, n = l.length := ⟨_, rfl⟩
  rw [← hnn] at hT hK hlen hpos hKn
  rw [← hnn]
  have HC := Lib.hid hcell
  have HN := Lib.hid hnn
  generalize rankK n num den = K at *
  have HT := Lib.hid hT
  have HX := Lib.hid (And.intro hx hxl)
  clear hcell hcs hnn hbnd hT hx hxl
  have hm0 : num * n ≤ 1000000 * 1048576 := Nat.mul_le_mul (by omega) hlen
  have hKe : wrap64 ((wrap64 (wrap64 (wrap64 ((num : Int) * n) + den) - 1)).tdiv den) = (K : Nat) := by
    have h3 : (num * n + den - 1) / den ≤ num * n + den - 1 := Nat.div_le_self _ _
    rw [show ((num : Int) * n) = ((num * n : Nat) : Int) from (Int.natCast_mul _ _).symm, w64 _ (by omega)]
    rw [show (((num * n : Nat) : Int) + den) = ((num * n + den : Nat) : Int) by omega, w64 _ (by omega)]
    rw [show (((num * n + den : Nat) : Int) - 1) = ((num * n + den - 1 : Nat) : Int) by omega, w64 _ (by omega)]
    rw [Int.tdiv_eq_ediv_of_nonneg (Int.natCast_nonneg _), show (((num * n + den - 1 : Nat) : Int) / den) = (((num * n + den - 1) / den : Nat) : Int) from (Int.natCast_ediv _ _).symm, w64 _ (by omega), hK]
  clear hK hm0
  have hdi : (1 : Int) ≤ den := by omega
  have hdi2 : (den : Int) ≤ 1000000 := by omega
  have hni : (n : Int) ≤ 1048576 := by omega
  have hnz : ((n : Int) == 0) = false := by rw [beq_eq_false_iff_ne]; omega
  have hnn0 : (0 : Int) ≤ num := by omega
  have hndi : (num : Int) ≤ den := by omega
  by_cases hK1 : 1 ≤ K
  · have hK2 : (1 : Int) ≤ K := by omega
    have hKi : (K : Int) ≤ n := by omega
    go_enter Try.func33, Try.ntmps33
    go_wp2
    rw [hKe]
    clear hKe
    simp only [show decide (den < num) = false from decide_eq_false (by omega), Bool.or_false]
    go_loopw [10] (fun iv wr => ∃ i : Nat, i ≤ n ∧ iv = .int .i64 i ∧ Hid (∀ j (h : j < l.length), j < i → l[j] ≠ x) ∧ Hid (Below w.heap.size w wr)) (fun iv _ => n - (intOf iv).toNat)
    case atStart => exact ⟨0, by omega, rfl, Lib.hid (fun j _ h => by omega), Lib.hid (Below.refl _ _)⟩
    case round =>
      obtain ⟨i, hi, rfl, HI, HB⟩ := hrel
      by_cases hlt : i < n
      · have hil : i < l.length := by rw [← HN.out]; exact hlt
        have hcy := HC.out i hil
        have hst : l[i] ≠ x → ∀ j (h : j < l.length), j < i + 1 → l[j] ≠ x := by
          intro h0 j h h1
          by_cases e : j = i
          · subst e; exact h0
          · exact HI.out j h (by omega)
        generalize l[i] = y at *
        have HS := Lib.hid hst
        have HY := Lib.hid hcy
        obtain ⟨wo, rfl⟩ : ∃ wo : World, wo = wr := ⟨_, rfl⟩
        clear hst hcy
        have hbi : (i : Int) < n := by omega
        go_wp2
        go_loopw [11, 12, 13] (fun pv qv jv wr => ∃ (j p q : Nat), j ≤ n ∧ p ≤ j ∧ q ≤ j ∧ pv = .int .i64 p ∧ qv = .int .i64 q ∧ jv = .int .i64 j ∧ Hid (p = (l.take j).countP (fun z => decide (z < y)) ∧ q = (l.take j).countP (fun z => z == y)) ∧ Hid (Below w.heap.size w wr)) (fun _ _ jv _ => n - (intOf jv).toNat)
        case atStart => exact ⟨0, 0, 0, by omega, by omega, by omega, rfl, rfl, rfl, Lib.hid ⟨rfl, rfl⟩, HB⟩
        case round =>
          obtain ⟨j, p, q, hj, hp, hq, rfl, rfl, rfl, HR, HB2⟩ := hrel
          by_cases hlt2 : j < n
          · have hjl : j < l.length := by rw [← HN.out]; exact hlt2
            have hc1 : wr.cell? ⟨b, off + i, none⟩ = some (.int .i64 y) := (HB2.out.cell (p := ⟨b, off + i, none⟩) hb).trans HY.out
            have hc2 : wr.cell? ⟨b, off + j, none⟩ = some (.int .i64 l[j]) := (HB2.out.cell (p := ⟨b, off + j, none⟩) hb).trans (HC.out j hjl)
            have hst1 : (l.take (j + 1)).countP (fun z => decide (z < y)) = p + (if l[j] < y then 1 else 0) := by
              rw [List.take_add_one, List.getElem?_eq_getElem hjl, List.countP_append, ← HR.out.1]; by_cases h : l[j] < y <;> simp [h]
            have hst2 : (l.take (j + 1)).countP (fun z => z == y) = q + (if l[j] = y then 1 else 0) := by
              rw [List.take_add_one, List.getElem?_eq_getElem hjl, List.countP_append, ← HR.out.2]; by_cases h : l[j] = y <;> simp [h]
            generalize l[j] = z at *
            have hbj : (j : Int) < n := by omega
            have H1 := Lib.hid hst1
            have H2 := Lib.hid hst2
            clear hst1 hst2
            rcases Int.lt_trichotomy z y with h | h | h
            · have hzy : (z == y) = false := by rw [beq_eq_false_iff_ne]; omega
              have E := And.intro H1.out H2.out
              rw [if_pos h, if_neg (by omega)] at E
              have HE := Lib.hid (And.intro E.1.symm E.2.symm)
              clear E
              go_wp2
              go_quiet (fail)
              go_wp2
              go_quiet (fail)
              go_wp2
              exact ⟨⟨j + 1, p + 1, q + 0, by omega, by omega, by omega, by go_num, rfl, by go_num, HE, Lib.hid (belowDrewM HB2.out _)⟩, by simp [intOf]; omega⟩
            · have hzy : (z == y) = true := by rw [beq_iff_eq]; exact h
              have h' : ¬ z < y := by omega
              have E := And.intro H1.out H2.out
              rw [if_neg h', if_pos h] at E
              have HE := Lib.hid (And.intro E.1.symm E.2.symm)
              clear E
              go_wp2
              go_quiet (fail)
              go_wp2
              go_quiet (fail)
              go_wp2
              go_roundw
              case rel => exact ⟨j + 1, p + 0, q + 1, by omega, by omega, by omega, rfl, by go_num, by go_num, HE, Lib.hid (belowDrewM HB2.out _)⟩
              case measure => simp [intOf]; omega
            · have hzy : (z == y) = false := by rw [beq_eq_false_iff_ne]; omega
              have E := And.intro H1.out H2.out
              rw [if_neg (by omega), if_neg (by omega)] at E
              have HE := Lib.hid (And.intro E.1.symm E.2.symm)
              clear E
              go_wp2
              go_quiet (fail)
              go_wp2
              go_quiet (fail)
              go_wp2
              exact ⟨⟨j + 1, p + 0, q + 0, by omega, by omega, by omega, rfl, rfl, by go_num, HE, Lib.hid (belowDrewM HB2.out _)⟩, by simp [intOf]; omega⟩
          · obtain rfl : j = n := by omega
            have hc1 : wr.cell? ⟨b, off + i, none⟩ = some (.int .i64 y) := (HB2.out.cell (p := ⟨b, off + i, none⟩) hb).trans HY.out
            have hr1 := HR.out
            rw [List.take_of_length_le (by rw [← HN.out]; exact Nat.le_refl _)] at hr1
            have ht := HT.out y
            rw [← hr1.1, ← hr1.2, show max K 1 = K by omega] at ht
            have HU := Lib.hid ht
            clear hr1 ht
            by_cases hcase : p < K ∧ K ≤ p + q
            · have e := HU.out.1 hcase
              subst e
              obtain ⟨k1, k2⟩ := hcase
              have k1i : (p : Int) < K := by omega
              have k2i : (K : Int) ≤ p + q := by omega
              go_wp2
              go_ret2
              exact ⟨rfl, HB2.out⟩
            · have HV := Lib.hid (HS.out (fun e => hcase (HU.out.2 e)))
              by_cases k1 : p < K
              · have k2i : (p : Int) + q < K := by omega
                go_wp2
                go_roundw
                case rel => exact ⟨i + 1, by omega, by go_num, HV, HB2⟩
                case measure => simp [intOf]; omega
              · have k2i : (K : Int) ≤ p := by omega
                go_wp2
                go_roundw
                case rel => exact ⟨i + 1, by omega, by go_num, HV, HB2⟩
                case measure => simp [intOf]; omega
      · obtain rfl : i = n := by omega
        exfalso
        obtain ⟨j, hj, e⟩ := List.getElem_of_mem HX.out.2
        exact HI.out j hj (by rw [HN.out]; exact hj) e
  · obtain rfl : K = 0 := by omega
    rw [show (((0 : Nat) : Int)) = 0 from rfl] at hKe
    go_enter Try.func33, Try.ntmps33
    go_wp2
    rw [hKe]
    clear hKe
    simp only [show decide (den < num) = false from decide_eq_false (by omega), Bool.or_false]
    go_loopw [10] (fun iv wr => ∃ i : Nat, i ≤ n ∧ iv = .int .i64 i ∧ Hid (∀ j (h : j < l.length), j < i → l[j] ≠ x) ∧ Hid (Below w.heap.size w wr)) (fun iv _ => n - (intOf iv).toNat)
    case atStart => exact ⟨0, by omega, rfl, Lib.hid (fun j _ h => by omega), Lib.hid (Below.refl _ _)⟩
    case round =>
      obtain ⟨i, hi, rfl, HI, HB⟩ := hrel
      by_cases hlt : i < n
      · have hil : i < l.length := by rw [← HN.out]; exact hlt
        have hcy := HC.out i hil
        have hst : l[i] ≠ x → ∀ j (h : j < l.length), j < i + 1 → l[j] ≠ x := by
          intro h0 j h h1
          by_cases e : j = i
          · subst e; exact h0
          · exact HI.out j h (by omega)
        generalize l[i] = y at *
        have HS := Lib.hid hst
        have HY := Lib.hid hcy
        obtain ⟨wo, rfl⟩ : ∃ wo : World, wo = wr := ⟨_, rfl⟩
        clear hst hcy
        have hbi : (i : Int) < n := by omega
        go_wp2
        go_loopw [11, 12, 13] (fun pv qv jv wr => ∃ (j p q : Nat), j ≤ n ∧ p ≤ j ∧ q ≤ j ∧ pv = .int .i64 p ∧ qv = .int .i64 q ∧ jv = .int .i64 j ∧ Hid (p = (l.take j).countP (fun z => decide (z < y)) ∧ q = (l.take j).countP (fun z => z == y)) ∧ Hid (Below w.heap.size w wr)) (fun _ _ jv _ => n - (intOf jv).toNat)
        case atStart => exact ⟨0, 0, 0, by omega, by omega, by omega, rfl, rfl, rfl, Lib.hid ⟨rfl, rfl⟩, HB⟩
        case round =>
          obtain ⟨j, p, q, hj, hp, hq, rfl, rfl, rfl, HR, HB2⟩ := hrel
          by_cases hlt2 : j < n
          · have hjl : j < l.length := by rw [← HN.out]; exact hlt2
            have hc1 : wr.cell? ⟨b, off + i, none⟩ = some (.int .i64 y) := (HB2.out.cell (p := ⟨b, off + i, none⟩) hb).trans HY.out
            have hc2 : wr.cell? ⟨b, off + j, none⟩ = some (.int .i64 l[j]) := (HB2.out.cell (p := ⟨b, off + j, none⟩) hb).trans (HC.out j hjl)
            have hst1 : (l.take (j + 1)).countP (fun z => decide (z < y)) = p + (if l[j] < y then 1 else 0) := by
              rw [List.take_add_one, List.getElem?_eq_getElem hjl, List.countP_append, ← HR.out.1]; by_cases h : l[j] < y <;> simp [h]
            have hst2 : (l.take (j + 1)).countP (fun z => z == y) = q + (if l[j] = y then 1 else 0) := by
              rw [List.take_add_one, List.getElem?_eq_getElem hjl, List.countP_append, ← HR.out.2]; by_cases h : l[j] = y <;> simp [h]
            generalize l[j] = z at *
            have hbj : (j : Int) < n := by omega
            have H1 := Lib.hid hst1
            have H2 := Lib.hid hst2
            clear hst1 hst2
            rcases Int.lt_trichotomy z y with h | h | h
            · have hzy : (z == y) = false := by rw [beq_eq_false_iff_ne]; omega
              have E := And.intro H1.out H2.out
              rw [if_pos h, if_neg (by omega)] at E
              have HE := Lib.hid (And.intro E.1.symm E.2.symm)
              clear E
              go_wp2
              go_quiet (fail)
              go_wp2
              go_quiet (fail)
              go_wp2
              exact ⟨⟨j + 1, p + 1, q + 0, by omega, by omega, by omega, by go_num, rfl, by go_num, HE, Lib.hid (belowDrewM HB2.out _)⟩, by simp [intOf]; omega⟩
            · have hzy : (z == y) = true := by rw [beq_iff_eq]; exact h
              have h' : ¬ z < y := by omega
              have E := And.intro H1.out H2.out
              rw [if_neg h', if_pos h] at E
              have HE := Lib.hid (And.intro E.1.symm E.2.symm)
              clear E
              go_wp2
              go_quiet (fail)
              go_wp2
              go_quiet (fail)
              go_wp2
              go_roundw
              case rel => exact ⟨j + 1, p + 0, q + 1, by omega, by omega, by omega, rfl, by go_num, by go_num, HE, Lib.hid (belowDrewM HB2.out _)⟩
              case measure => simp [intOf]; omega
            · have hzy : (z == y) = false := by rw [beq_eq_false_iff_ne]; omega
              have E := And.intro H1.out H2.out
              rw [if_neg (by omega), if_neg (by omega)] at E
              have HE := Lib.hid (And.intro E.1.symm E.2.symm)
              clear E
              go_wp2
              go_quiet (fail)
              go_wp2
              go_quiet (fail)
              go_wp2
              exact ⟨⟨j + 1, p + 0, q + 0, by omega, by omega, by omega, rfl, rfl, by go_num, HE, Lib.hid (belowDrewM HB2.out _)⟩, by simp [intOf]; omega⟩
          · obtain rfl : j = n := by omega
            have hc1 : wr.cell? ⟨b, off + i, none⟩ = some (.int .i64 y) := (HB2.out.cell (p := ⟨b, off + i, none⟩) hb).trans HY.out
            have hr1 := HR.out
            rw [List.take_of_length_le (by rw [← HN.out]; exact Nat.le_refl _)] at hr1
            have ht := HT.out y
            rw [← hr1.1, ← hr1.2, show max 0 1 = 1 by rfl] at ht
            have HU := Lib.hid ht
            clear hr1 ht
            by_cases hcase : p < 1 ∧ 1 ≤ p + q
            · have e := HU.out.1 hcase
              subst e
              obtain ⟨k1, k2⟩ := hcase
              have k1i : (p : Int) < 1 := by omega
              have k2i : (1 : Int) ≤ p + q := by omega
              go_wp2
              go_ret2
              exact ⟨rfl, HB2.out⟩
            · have HV := Lib.hid (HS.out (fun e => hcase (HU.out.2 e)))
              by_cases k1 : p < 1
              · have k2i : (p : Int) + q < 1 := by omega
                go_wp2
                go_roundw
                case rel => exact ⟨i + 1, by omega, by go_num, HV, HB2⟩
                case measure => simp [intOf]; omega
              · have k2i : (1 : Int) ≤ p := by omega
                go_wp2
                go_roundw
                case rel => exact ⟨i + 1, by omega, by go_num, HV, HB2⟩
                case measure => simp [intOf]; omega
      · obtain rfl : i = n := by omega
        exfalso
        obtain ⟨j, hj, e⟩ := List.getElem_of_mem HX.out.2
        exact HI.out j hj (by rw [HN.out]; exact hj) e
set_option maxRecDepth 100000 in
set_option maxHeartbeats 1000000 in
theorem rrankAll_calls (v : Value) (l : List Int) (num den : Int) (w : World) (hl : IntsIn w v l) (hlen : l.length ≤ 1048576) :
    Calls Try.prog 33 #[v, .int .i64 num, .int .i64 den] w fun e w' => e = .returned (rankZ l num den) ∧ Below w.heap.size w w' := by
  by_cases hne : l = []
  · rw [rankZ, if_pos hne]
    subst hne
    obtain ⟨a, cap, rfl, _, _⟩ := hl
    go_enter Try.func33, Try.ntmps33
    go_wp2
    go_ret2
    exact ⟨rfl, Below.refl _ _⟩
  by_cases hg : 1 ≤ den ∧ den ≤ 1000000 ∧ 0 ≤ num ∧ num ≤ den
  · rw [rankZ, if_neg hne, if_pos hg]
    have h := rrank_in v l num.toNat den.toNat w hl hne hlen (by omega) (by omega) (by omega)
    rwa [Int.toNat_of_nonneg hg.2.2.1, Int.toNat_of_nonneg (by omega)] at h
  · rw [rankZ, if_neg hne, if_neg hg]
    have hpos : 0 < l.length := List.length_pos_iff.mpr hne
    have hz : ((l.length : Int) == 0) = false := by rw [beq_eq_false_iff_ne]; omega
    obtain ⟨a, cap, rfl, _, _⟩ := hl
    by_cases h1 : 1 ≤ den
    · by_cases h2 : den ≤ 1000000
      · by_cases h3 : 0 ≤ num
        · have h4 : den < num := by omega
          go_enter Try.func33, Try.ntmps33
          go_wp2
          go_ret2
          exact ⟨rfl, Below.refl _ _⟩
        · have h4 : num < 0 := by omega
          go_enter Try.func33, Try.ntmps33
          go_wp2
          go_ret2
          exact ⟨rfl, Below.refl _ _⟩
      · have h4 : 1000000 < den := by omega
        go_enter Try.func33, Try.ntmps33
        go_wp2
        go_ret2
        exact ⟨rfl, Below.refl _ _⟩
    · have h4 : den < 1 := by omega
      go_enter Try.func33, Try.ntmps33
      go_wp2
      go_ret2
      exact ⟨rfl, Below.refl _ _⟩
end Go.Proofs.Ytpgflnjpohmldaa
