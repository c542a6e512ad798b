import Derived.Test.YtpgflnjpohmldaaRankC
set_option linter.unusedVariables false
namespace Go.Proofs.Ytpgflnjpohmldaa
open Go.RowKit
theorem rank_callsI (v : Value) (l : List Int) (num den : Int) (w : World) (hl : IntsIn w v l) (hne : l ≠ []) (hlen : l.length ≤ 1048576) (hd0 : 1 ≤ den) (hd1 : den ≤ 1000000) (hn0 : 0 ≤ num) (hnd : num ≤ den) :
    Calls Try.prog 26 #[v, .int .i64 num, .int .i64 den] w fun e w' => e = .returned (.tuple #[.int .i64 (rankV l num.toNat den.toNat), .int .i64 0]) ∧ Below w.heap.size w w' := by
  have h := rank_calls v l num.toNat den.toNat w hl hne hlen (by omega) (by omega) (by omega)
  rwa [Int.toNat_of_nonneg hn0, Int.toNat_of_nonneg (by omega)] at h
theorem ranks_zero (v : Value) (num den : Int) (w : World) (hl : IntsIn w v []) :
    Calls Try.prog 10 #[v, .int .i64 num, .int .i64 den] w fun e w' => e = .returned (.bool true) ∧ Below w.heap.size w w' := by
  have hr := rank_zero v 1 2 w hl
  obtain ⟨a, cap, rfl, _, _⟩ := hl
  simp only [List.length_nil] at hr
  go_enter Try.func10, Try.ntmps10
  go_wp2_with (go_at_call 26; (with_reducible refine hr.mono ?_); rintro e w1 ⟨rfl, rfl⟩)
  go_ret
  exact ⟨rfl, Below.refl _ _⟩
def cntR (l : List Int) (k : Int) (j p q : Nat) (t : Bool) : Prop :=
  p = (l.take j).countP (fun x => decide (x ≤ k)) ∧ q = (l.take j).countP (fun x => decide (k ≤ x)) ∧ t = (l.take j).any (fun x => x == k)
theorem cntR_zero (l : List Int) (k : Int) : cntR l k 0 0 0 false := ⟨rfl, rfl, rfl⟩
theorem cntR_step (l : List Int) (k : Int) (j p q : Nat) (t : Bool) (hj : j < l.length) (h : cntR l k j p q t) : cntR l k (j + 1) (if l[j] ≤ k then p + 1 else p) (if k ≤ l[j] then q + 1 else q) (t || (l[j] == k)) := by
  obtain ⟨rfl, rfl, rfl⟩ := h
  have e : l.take (j + 1) = l.take j ++ [l[j]] := by rw [List.take_add_one, List.getElem?_eq_getElem hj]; rfl
  refine ⟨?_, ?_, ?_⟩
  · rw [e, List.countP_append]; by_cases h : l[j] ≤ k <;> simp [h]
  · rw [e, List.countP_append]; by_cases h : k ≤ l[j] <;> simp [h]
  · rw [e, List.any_append]; simp
theorem w64a (x : Int) (h0 : 0 ≤ x) (h1 : x ≤ 9223372036854775807) : wrap64 x = x := IntWalk.wrap64_in _ (by omega)
theorem mul_bnd (a b : Int) (h0 : 0 ≤ a) (h1 : a ≤ 1048576) (h2 : 0 ≤ b) (h3 : b ≤ 1000000) : 0 ≤ a * b ∧ a * b ≤ 1048576000000 :=
  ⟨Int.mul_nonneg h0 h2, Int.le_trans (Int.mul_le_mul h1 h3 h2 (by omega)) (by omega)⟩
theorem ranks_end (l : List Int) (n : Nat) (num den k : Int) (p q : Nat) (t : Bool) (hnn : n = l.length) (h : cntR l k n p q t) (hk : k = rankV l num.toNat den.toNat) (hne : l ≠ []) (hlen : n ≤ 1048576) (hp : p ≤ n) (hq : q ≤ n) (hd0 : 1 ≤ den) (hd1 : den ≤ 1000000) (hn0 : 0 ≤ num) (hnd : num ≤ den) :
    t = true ∧ ∃ X1 X2 X3 X4 : Int, wrap64 (p * den) = X1 ∧ wrap64 (num * n) = X2 ∧ wrap64 (q * den) = X3 ∧ wrap64 ((den - num) * n) = X4 ∧ X2 ≤ X1 ∧ X4 ≤ X3 ∧ Hid (X1 = p * den ∧ X2 = num * n ∧ X3 = q * den ∧ X4 = (den - num) * n) := by
  obtain ⟨h1, h2, h3⟩ := rank_law l num.toNat den.toNat hne (by omega) (by omega)
  obtain ⟨hp', hq', ht⟩ := h
  rw [hnn, List.take_length] at hp' hq' ht
  rw [← hk] at h1 h2 h3
  rw [← hp', ← hnn] at h1
  rw [← hq', ← hnn] at h2
  obtain ⟨N, rfl⟩ := Int.eq_ofNat_of_zero_le hn0
  obtain ⟨D, rfl⟩ := Int.eq_ofNat_of_zero_le (by omega : 0 ≤ den)
  simp only [Int.toNat_natCast] at h1 h2
  have b1 := mul_bnd p D (by omega) (by omega) (by omega) (by omega)
  have b2 := mul_bnd n N (by omega) (by omega) (by omega) (by omega)
  have b3 := mul_bnd q D (by omega) (by omega) (by omega) (by omega)
  have b4 := mul_bnd n (D - N) (by omega) (by omega) (by omega) (by omega)
  rw [Int.mul_comm] at b2 b4
  have e : ((D : Int) - N) = ((D - N : Nat) : Int) := by omega
  refine ⟨?_, _, _, _, _, w64a _ b1.1 (by omega), w64a _ b2.1 (by omega), w64a _ b3.1 (by omega), w64a _ b4.1 (by omega), ?_, ?_, Lib.hid ⟨rfl, rfl, rfl, rfl⟩⟩
  · rw [ht, List.any_eq_true]; exact ⟨k, h3, by simp⟩
  · exact_mod_cast h1
  · rw [e]; exact_mod_cast h2
set_option maxRecDepth 100000 in
set_option maxHeartbeats 1000000 in
theorem ranks_A (v : Value) (l : List Int) (num den : Int) (w : World) (hl : IntsIn w v l) (hne : l ≠ []) (hlen : l.length ≤ 1048576) (hd0 : 1 ≤ den) (hd1 : den ≤ 1000000) (hn0 : 0 ≤ num) (hnd : num ≤ den) :
    Calls Try.prog 10 #[v, .int .i64 num, .int .i64 den] w fun e w' => e = .returned (.bool true) ∧ Below w.heap.size w w' := by
  have hpos : 0 < l.length := List.length_pos_iff.mpr hne
  have hl0 := hl
  obtain ⟨a, capv, rfl, hcs, _⟩ := hl0
  obtain ⟨b, off, rfl, hb, hcell⟩ := hcs hne
  have c := fun num den w (hl : IntsIn w (.slice (some ⟨b, off, none⟩) l.length capv) l) h1 h2 h3 h4 => rank_callsI (.slice (some ⟨b, off, none⟩) l.length capv) l num den w hl hne hlen h1 h2 h3 h4
  obtain ⟨n, hnn⟩ : ∃ n, n = l.length := ⟨_, rfl⟩
  have HL := Lib.hid hl
  have HC := Lib.hid hcell
  rw [← hnn] at hlen hpos HL
  simp only [← hnn] at c
  rw [← hnn]
  have HN := Lib.hid hnn
  clear hl hcell hcs hnn
  have hnz : ((n : Int) == 0) = false := by rw [beq_eq_false_iff_ne]; omega
  obtain ⟨lo, hlo⟩ : ∃ lo, lo = rankV l 0 1 := ⟨_, rfl⟩
  obtain ⟨hi, hhi⟩ : ∃ hi, hi = rankV l 1 1 := ⟨_, rfl⟩
  obtain ⟨k, hk⟩ : ∃ k, k = rankV l num.toNat den.toNat := ⟨_, rfl⟩
  have c0 := fun w hl => c 0 1 w hl (by omega) (by omega) (by omega) (by omega)
  have c1 := fun w hl => c 1 1 w hl (by omega) (by omega) (by omega) (by omega)
  have ck := fun w hl => c num den w hl (by omega) (by omega) (by omega) (by omega)
  rw [show ((0 : Int).toNat) = 0 from rfl, show ((1 : Int).toNat) = 1 from rfl, ← hlo] at c0
  rw [show ((1 : Int).toNat) = 1 from rfl, ← hhi] at c1
  rw [← hk] at ck
  have HK := Lib.hid (And.intro hlo (And.intro hhi hk))
  clear hlo hhi hk c
  go_enter Try.func10, Try.ntmps10
  go_wp2_with (first
    | (go_at_call 26; first
      | ((with_reducible refine (ck _ HL.out).mono ?_); rintro e w1 ⟨rfl, hb1⟩; have H1 := Lib.hid (And.intro hb1 (HL.out.keep hb1)); clear hb1)
      | ((with_reducible refine (c0 _ H1.out.2).mono ?_); rintro e w2 ⟨rfl, hb2⟩; have H2 := Lib.hid (And.intro (belowThen H1.out.1 hb2) (H1.out.2.keep hb2)); clear hb2)
      | ((with_reducible refine (c1 _ H2.out.2).mono ?_); rintro e w3 ⟨rfl, hb3⟩; have H3 := Lib.hid (And.intro (belowThen H2.out.1 hb3) (H2.out.2.keep hb3)); clear hb3)))
  go_loopw [15, 16, 17, 18] (fun bv av tv iv wr => ∃ (j p q : Nat) (t : Bool), j ≤ n ∧ p ≤ j ∧ q ≤ j ∧ iv = .int .i64 j ∧ bv = .int .i64 p ∧ av = .int .i64 q ∧ tv = .bool t ∧ Hid (cntR l k j p q t) ∧ Hid (Below w.heap.size w wr)) (fun _ _ _ iv _ => n - (intOf iv).toNat)
  case atStart => exact ⟨0, 0, 0, false, by omega, by omega, by omega, rfl, rfl, rfl, rfl, Lib.hid (cntR_zero l k), Lib.hid H3.out.1⟩
  case round =>
    obtain ⟨j, p, q, t, hj, hp, hq, rfl, rfl, rfl, rfl, HR, HB⟩ := hrel
    by_cases hlt : j < n
    · have hjl : j < l.length := by rw [← HN.out]; exact hlt
      have hcell : wr.cell? ⟨b, off + j, none⟩ = some (.int .i64 l[j]) := (HB.out.cell (p := ⟨b, off + j, none⟩) hb).trans (HC.out j hjl)
      have hxl : l[j] ∈ l := List.getElem_mem _
      have hx1 : lo ≤ l[j] := by rw [HK.out.1]; exact rank_least l _ hxl
      have hx2 : l[j] ≤ hi := by rw [HK.out.2.1]; exact rank_greatest l _ hxl
      have hst := cntR_step l k j p q t hjl HR.out
      generalize l[j] = x at *
      have HS := Lib.hid hst
      clear hst hxl
      have hb : (j : Int) < n := by omega
      rcases Int.lt_trichotomy x k with hlk | rfl | hlk
      · rw [if_pos (by omega), if_neg (by omega)] at HS
        cases t
        all_goals
          go_wp2
          refine ⟨⟨j + 1, p + 1, q, _, by omega, by omega, by omega, by go_num, by go_num, rfl, rfl, Lib.hid (by simpa using HS.out), HB⟩, by simp [intOf]; omega⟩
      · rw [if_pos (by omega), if_pos (by omega)] at HS
        cases t
        all_goals
          go_wp2
          refine ⟨⟨j + 1, p + 1, q + 1, _, by omega, by omega, by omega, by go_num, by go_num, by go_num, rfl, Lib.hid (by simpa using HS.out), HB⟩, by simp [intOf]; omega⟩
      · rw [if_neg (by omega), if_pos (by omega)] at HS
        cases t
        all_goals
          go_wp2
          refine ⟨⟨j + 1, p, q + 1, _, by omega, by omega, by omega, by go_num, rfl, by go_num, rfl, Lib.hid (by simpa using HS.out), HB⟩, by simp [intOf]; omega⟩
    · obtain rfl : j = n := by omega
      obtain ⟨rfl, X1, X2, X3, X4, w1, w2, w3, w4, o1, o2, HX⟩ := ranks_end l j num den k p q t HN.out HR.out HK.out.2.2 hne hlen hp hq hd0 hd1 hn0 hnd
      go_wp2
      go_ret
      exact ⟨rfl, HB.out⟩
set_option maxRecDepth 100000 in
set_option maxHeartbeats 1000000 in
theorem ranks_B1 (v : Value) (l : List Int) (num0 den : Int) (w : World) (hl : IntsIn w v l) (hne : l ≠ []) (hlen : l.length ≤ 1048576) (hd0 : 1 ≤ den) (hd1 : den ≤ 1000000) (hbad : num0 < 0) :
    Calls Try.prog 10 #[v, .int .i64 num0, .int .i64 den] w fun e w' => e = .returned (.bool true) ∧ Below w.heap.size w w' := by
  obtain ⟨num, hq2⟩ : ∃ num : Int, den / 2 = num := ⟨_, rfl⟩
  have hn0 : 0 ≤ num := by omega
  have hnd : num ≤ den := by omega
  have hq3 : den.tdiv 2 = num := by rw [Int.tdiv_eq_ediv_of_nonneg (by omega)]; exact hq2
  have hpos : 0 < l.length := List.length_pos_iff.mpr hne
  have hl0 := hl
  obtain ⟨a, capv, rfl, hcs, _⟩ := hl0
  obtain ⟨b, off, rfl, hb, hcell⟩ := hcs hne
  have c := fun num den w (hl : IntsIn w (.slice (some ⟨b, off, none⟩) l.length capv) l) h1 h2 h3 h4 => rank_callsI (.slice (some ⟨b, off, none⟩) l.length capv) l num den w hl hne hlen h1 h2 h3 h4
  obtain ⟨n, hnn⟩ : ∃ n, n = l.length := ⟨_, rfl⟩
  have HL := Lib.hid hl
  have HC := Lib.hid hcell
  rw [← hnn] at hlen hpos HL
  simp only [← hnn] at c
  rw [← hnn]
  have HN := Lib.hid hnn
  clear hl hcell hcs hnn
  have hnz : ((n : Int) == 0) = false := by rw [beq_eq_false_iff_ne]; omega
  obtain ⟨lo, hlo⟩ : ∃ lo, lo = rankV l 0 1 := ⟨_, rfl⟩
  obtain ⟨hi, hhi⟩ : ∃ hi, hi = rankV l 1 1 := ⟨_, rfl⟩
  obtain ⟨k, hk⟩ : ∃ k, k = rankV l (num : Int).toNat (den : Int).toNat := ⟨_, rfl⟩
  have c0 := fun w hl => c 0 1 w hl (by omega) (by omega) (by omega) (by omega)
  have c1 := fun w hl => c 1 1 w hl (by omega) (by omega) (by omega) (by omega)
  have ck := fun w hl => c num den w hl (by omega) (by omega) (by omega) (by omega)
  rw [show ((0 : Int).toNat) = 0 from rfl, show ((1 : Int).toNat) = 1 from rfl, ← hlo] at c0
  rw [show ((1 : Int).toNat) = 1 from rfl, ← hhi] at c1
  rw [← hk] at ck
  have HK := Lib.hid (And.intro hlo (And.intro hhi hk))
  clear hlo hhi hk c
  go_enter Try.func10, Try.ntmps10
  go_wp2_with (first
    | (go_at_call 26; first
      | ((with_reducible refine (ck _ HL.out).mono ?_); rintro e w1 ⟨rfl, hb1⟩; have H1 := Lib.hid (And.intro hb1 (HL.out.keep hb1)); clear hb1)
      | ((with_reducible refine (c0 _ H1.out.2).mono ?_); rintro e w2 ⟨rfl, hb2⟩; have H2 := Lib.hid (And.intro (belowThen H1.out.1 hb2) (H1.out.2.keep hb2)); clear hb2)
      | ((with_reducible refine (c1 _ H2.out.2).mono ?_); rintro e w3 ⟨rfl, hb3⟩; have H3 := Lib.hid (And.intro (belowThen H2.out.1 hb3) (H2.out.2.keep hb3)); clear hb3)))
  go_loopw [15, 16, 17, 18] (fun bv av tv iv wr => ∃ (j p q : Nat) (t : Bool), j ≤ n ∧ p ≤ j ∧ q ≤ j ∧ iv = .int .i64 j ∧ bv = .int .i64 p ∧ av = .int .i64 q ∧ tv = .bool t ∧ Hid (cntR l k j p q t) ∧ Hid (Below w.heap.size w wr)) (fun _ _ _ iv _ => n - (intOf iv).toNat)
  case atStart => exact ⟨0, 0, 0, false, by omega, by omega, by omega, rfl, rfl, rfl, rfl, Lib.hid (cntR_zero l k), Lib.hid H3.out.1⟩
  case round =>
    obtain ⟨j, p, q, t, hj, hp, hq, rfl, rfl, rfl, rfl, HR, HB⟩ := hrel
    by_cases hlt : j < n
    · have hjl : j < l.length := by rw [← HN.out]; exact hlt
      have hcell : wr.cell? ⟨b, off + j, none⟩ = some (.int .i64 l[j]) := (HB.out.cell (p := ⟨b, off + j, none⟩) hb).trans (HC.out j hjl)
      have hxl : l[j] ∈ l := List.getElem_mem _
      have hx1 : lo ≤ l[j] := by rw [HK.out.1]; exact rank_least l _ hxl
      have hx2 : l[j] ≤ hi := by rw [HK.out.2.1]; exact rank_greatest l _ hxl
      have hst := cntR_step l k j p q t hjl HR.out
      generalize l[j] = x at *
      have HS := Lib.hid hst
      clear hst hxl
      have hb : (j : Int) < n := by omega
      rcases Int.lt_trichotomy x k with hlk | rfl | hlk
      · rw [if_pos (by omega), if_neg (by omega)] at HS
        cases t
        all_goals
          go_wp2
          refine ⟨⟨j + 1, p + 1, q, _, by omega, by omega, by omega, by go_num, by go_num, rfl, rfl, Lib.hid (by simpa using HS.out), HB⟩, by simp [intOf]; omega⟩
      · rw [if_pos (by omega), if_pos (by omega)] at HS
        cases t
        all_goals
          go_wp2
          refine ⟨⟨j + 1, p + 1, q + 1, _, by omega, by omega, by omega, by go_num, by go_num, by go_num, rfl, Lib.hid (by simpa using HS.out), HB⟩, by simp [intOf]; omega⟩
      · rw [if_neg (by omega), if_pos (by omega)] at HS
        cases t
        all_goals
          go_wp2
          refine ⟨⟨j + 1, p, q + 1, _, by omega, by omega, by omega, by go_num, rfl, by go_num, rfl, Lib.hid (by simpa using HS.out), HB⟩, by simp [intOf]; omega⟩
    · obtain rfl : j = n := by omega
      obtain ⟨rfl, X1, X2, X3, X4, w1, w2, w3, w4, o1, o2, HX⟩ := ranks_end l j num den k p q t HN.out HR.out HK.out.2.2 hne hlen hp hq hd0 hd1 hn0 hnd
      go_wp2
      go_ret
      exact ⟨rfl, HB.out⟩
set_option maxRecDepth 100000 in
set_option maxHeartbeats 1000000 in
theorem ranks_B2 (v : Value) (l : List Int) (num0 den : Int) (w : World) (hl : IntsIn w v l) (hne : l ≠ []) (hlen : l.length ≤ 1048576) (hd0 : 1 ≤ den) (hd1 : den ≤ 1000000) (hbad : den < num0) :
    Calls Try.prog 10 #[v, .int .i64 num0, .int .i64 den] w fun e w' => e = .returned (.bool true) ∧ Below w.heap.size w w' := by
  obtain ⟨num, hq2⟩ : ∃ num : Int, den / 2 = num := ⟨_, rfl⟩
  have hn0 : 0 ≤ num := by omega
  have hnd : num ≤ den := by omega
  have hq3 : den.tdiv 2 = num := by rw [Int.tdiv_eq_ediv_of_nonneg (by omega)]; exact hq2
  have hpos : 0 < l.length := List.length_pos_iff.mpr hne
  have hl0 := hl
  obtain ⟨a, capv, rfl, hcs, _⟩ := hl0
  obtain ⟨b, off, rfl, hb, hcell⟩ := hcs hne
  have c := fun num den w (hl : IntsIn w (.slice (some ⟨b, off, none⟩) l.length capv) l) h1 h2 h3 h4 => rank_callsI (.slice (some ⟨b, off, none⟩) l.length capv) l num den w hl hne hlen h1 h2 h3 h4
  obtain ⟨n, hnn⟩ : ∃ n, n = l.length := ⟨_, rfl⟩
  have HL := Lib.hid hl
  have HC := Lib.hid hcell
  rw [← hnn] at hlen hpos HL
  simp only [← hnn] at c
  rw [← hnn]
  have HN := Lib.hid hnn
  clear hl hcell hcs hnn
  have hnz : ((n : Int) == 0) = false := by rw [beq_eq_false_iff_ne]; omega
  obtain ⟨lo, hlo⟩ : ∃ lo, lo = rankV l 0 1 := ⟨_, rfl⟩
  obtain ⟨hi, hhi⟩ : ∃ hi, hi = rankV l 1 1 := ⟨_, rfl⟩
  obtain ⟨k, hk⟩ : ∃ k, k = rankV l (num : Int).toNat (den : Int).toNat := ⟨_, rfl⟩
  have c0 := fun w hl => c 0 1 w hl (by omega) (by omega) (by omega) (by omega)
  have c1 := fun w hl => c 1 1 w hl (by omega) (by omega) (by omega) (by omega)
  have ck := fun w hl => c num den w hl (by omega) (by omega) (by omega) (by omega)
  rw [show ((0 : Int).toNat) = 0 from rfl, show ((1 : Int).toNat) = 1 from rfl, ← hlo] at c0
  rw [show ((1 : Int).toNat) = 1 from rfl, ← hhi] at c1
  rw [← hk] at ck
  have HK := Lib.hid (And.intro hlo (And.intro hhi hk))
  clear hlo hhi hk c
  go_enter Try.func10, Try.ntmps10
  go_wp2_with (first
    | (go_at_call 26; first
      | ((with_reducible refine (ck _ HL.out).mono ?_); rintro e w1 ⟨rfl, hb1⟩; have H1 := Lib.hid (And.intro hb1 (HL.out.keep hb1)); clear hb1)
      | ((with_reducible refine (c0 _ H1.out.2).mono ?_); rintro e w2 ⟨rfl, hb2⟩; have H2 := Lib.hid (And.intro (belowThen H1.out.1 hb2) (H1.out.2.keep hb2)); clear hb2)
      | ((with_reducible refine (c1 _ H2.out.2).mono ?_); rintro e w3 ⟨rfl, hb3⟩; have H3 := Lib.hid (And.intro (belowThen H2.out.1 hb3) (H2.out.2.keep hb3)); clear hb3)))
  go_loopw [15, 16, 17, 18] (fun bv av tv iv wr => ∃ (j p q : Nat) (t : Bool), j ≤ n ∧ p ≤ j ∧ q ≤ j ∧ iv = .int .i64 j ∧ bv = .int .i64 p ∧ av = .int .i64 q ∧ tv = .bool t ∧ Hid (cntR l k j p q t) ∧ Hid (Below w.heap.size w wr)) (fun _ _ _ iv _ => n - (intOf iv).toNat)
  case atStart => exact ⟨0, 0, 0, false, by omega, by omega, by omega, rfl, rfl, rfl, rfl, Lib.hid (cntR_zero l k), Lib.hid H3.out.1⟩
  case round =>
    obtain ⟨j, p, q, t, hj, hp, hq, rfl, rfl, rfl, rfl, HR, HB⟩ := hrel
    by_cases hlt : j < n
    · have hjl : j < l.length := by rw [← HN.out]; exact hlt
      have hcell : wr.cell? ⟨b, off + j, none⟩ = some (.int .i64 l[j]) := (HB.out.cell (p := ⟨b, off + j, none⟩) hb).trans (HC.out j hjl)
      have hxl : l[j] ∈ l := List.getElem_mem _
      have hx1 : lo ≤ l[j] := by rw [HK.out.1]; exact rank_least l _ hxl
      have hx2 : l[j] ≤ hi := by rw [HK.out.2.1]; exact rank_greatest l _ hxl
      have hst := cntR_step l k j p q t hjl HR.out
      generalize l[j] = x at *
      have HS := Lib.hid hst
      clear hst hxl
      have hb : (j : Int) < n := by omega
      rcases Int.lt_trichotomy x k with hlk | rfl | hlk
      · rw [if_pos (by omega), if_neg (by omega)] at HS
        cases t
        all_goals
          go_wp2
          refine ⟨⟨j + 1, p + 1, q, _, by omega, by omega, by omega, by go_num, by go_num, rfl, rfl, Lib.hid (by simpa using HS.out), HB⟩, by simp [intOf]; omega⟩
      · rw [if_pos (by omega), if_pos (by omega)] at HS
        cases t
        all_goals
          go_wp2
          refine ⟨⟨j + 1, p + 1, q + 1, _, by omega, by omega, by omega, by go_num, by go_num, by go_num, rfl, Lib.hid (by simpa using HS.out), HB⟩, by simp [intOf]; omega⟩
      · rw [if_neg (by omega), if_pos (by omega)] at HS
        cases t
        all_goals
          go_wp2
          refine ⟨⟨j + 1, p, q + 1, _, by omega, by omega, by omega, by go_num, rfl, by go_num, rfl, Lib.hid (by simpa using HS.out), HB⟩, by simp [intOf]; omega⟩
    · obtain rfl : j = n := by omega
      obtain ⟨rfl, X1, X2, X3, X4, w1, w2, w3, w4, o1, o2, HX⟩ := ranks_end l j num den k p q t HN.out HR.out HK.out.2.2 hne hlen hp hq hd0 hd1 hn0 hnd
      go_wp2
      go_ret
      exact ⟨rfl, HB.out⟩
set_option maxRecDepth 100000 in
set_option maxHeartbeats 1000000 in
theorem ranks_C1 (v : Value) (l : List Int) (num den0 : Int) (w : World) (hl : IntsIn w v l) (hne : l ≠ []) (hlen : l.length ≤ 1048576) (hbad : den0 < 1) (hn0 : 0 ≤ num) (hnd : num ≤ 100) :
    Calls Try.prog 10 #[v, .int .i64 num, .int .i64 den0] w fun e w' => e = .returned (.bool true) ∧ Below w.heap.size w w' := by
  have hd0 : (1 : Int) ≤ 100 := by omega
  have hd1 : (100 : Int) ≤ 1000000 := by omega
  have hpos : 0 < l.length := List.length_pos_iff.mpr hne
  have hl0 := hl
  obtain ⟨a, capv, rfl, hcs, _⟩ := hl0
  obtain ⟨b, off, rfl, hb, hcell⟩ := hcs hne
  have c := fun num den w (hl : IntsIn w (.slice (some ⟨b, off, none⟩) l.length capv) l) h1 h2 h3 h4 => rank_callsI (.slice (some ⟨b, off, none⟩) l.length capv) l num den w hl hne hlen h1 h2 h3 h4
  obtain ⟨n, hnn⟩ : ∃ n, n = l.length := ⟨_, rfl⟩
  have HL := Lib.hid hl
  have HC := Lib.hid hcell
  rw [← hnn] at hlen hpos HL
  simp only [← hnn] at c
  rw [← hnn]
  have HN := Lib.hid hnn
  clear hl hcell hcs hnn
  have hnz : ((n : Int) == 0) = false := by rw [beq_eq_false_iff_ne]; omega
  obtain ⟨lo, hlo⟩ : ∃ lo, lo = rankV l 0 1 := ⟨_, rfl⟩
  obtain ⟨hi, hhi⟩ : ∃ hi, hi = rankV l 1 1 := ⟨_, rfl⟩
  obtain ⟨k, hk⟩ : ∃ k, k = rankV l (num : Int).toNat (100 : Int).toNat := ⟨_, rfl⟩
  have c0 := fun w hl => c 0 1 w hl (by omega) (by omega) (by omega) (by omega)
  have c1 := fun w hl => c 1 1 w hl (by omega) (by omega) (by omega) (by omega)
  have ck := fun w hl => c num 100 w hl (by omega) (by omega) (by omega) (by omega)
  rw [show ((0 : Int).toNat) = 0 from rfl, show ((1 : Int).toNat) = 1 from rfl, ← hlo] at c0
  rw [show ((1 : Int).toNat) = 1 from rfl, ← hhi] at c1
  rw [← hk] at ck
  have HK := Lib.hid (And.intro hlo (And.intro hhi hk))
  clear hlo hhi hk c
  go_enter Try.func10, Try.ntmps10
  go_wp2_with (first
    | (go_at_call 26; first
      | ((with_reducible refine (ck _ HL.out).mono ?_); rintro e w1 ⟨rfl, hb1⟩; have H1 := Lib.hid (And.intro hb1 (HL.out.keep hb1)); clear hb1)
      | ((with_reducible refine (c0 _ H1.out.2).mono ?_); rintro e w2 ⟨rfl, hb2⟩; have H2 := Lib.hid (And.intro (belowThen H1.out.1 hb2) (H1.out.2.keep hb2)); clear hb2)
      | ((with_reducible refine (c1 _ H2.out.2).mono ?_); rintro e w3 ⟨rfl, hb3⟩; have H3 := Lib.hid (And.intro (belowThen H2.out.1 hb3) (H2.out.2.keep hb3)); clear hb3)))
  go_loopw [15, 16, 17, 18] (fun bv av tv iv wr => ∃ (j p q : Nat) (t : Bool), j ≤ n ∧ p ≤ j ∧ q ≤ j ∧ iv = .int .i64 j ∧ bv = .int .i64 p ∧ av = .int .i64 q ∧ tv = .bool t ∧ Hid (cntR l k j p q t) ∧ Hid (Below w.heap.size w wr)) (fun _ _ _ iv _ => n - (intOf iv).toNat)
  case atStart => exact ⟨0, 0, 0, false, by omega, by omega, by omega, rfl, rfl, rfl, rfl, Lib.hid (cntR_zero l k), Lib.hid H3.out.1⟩
  case round =>
    obtain ⟨j, p, q, t, hj, hp, hq, rfl, rfl, rfl, rfl, HR, HB⟩ := hrel
    by_cases hlt : j < n
    · have hjl : j < l.length := by rw [← HN.out]; exact hlt
      have hcell : wr.cell? ⟨b, off + j, none⟩ = some (.int .i64 l[j]) := (HB.out.cell (p := ⟨b, off + j, none⟩) hb).trans (HC.out j hjl)
      have hxl : l[j] ∈ l := List.getElem_mem _
      have hx1 : lo ≤ l[j] := by rw [HK.out.1]; exact rank_least l _ hxl
      have hx2 : l[j] ≤ hi := by rw [HK.out.2.1]; exact rank_greatest l _ hxl
      have hst := cntR_step l k j p q t hjl HR.out
      generalize l[j] = x at *
      have HS := Lib.hid hst
      clear hst hxl
      have hb : (j : Int) < n := by omega
      rcases Int.lt_trichotomy x k with hlk | rfl | hlk
      · rw [if_pos (by omega), if_neg (by omega)] at HS
        cases t
        all_goals
          go_wp2
          refine ⟨⟨j + 1, p + 1, q, _, by omega, by omega, by omega, by go_num, by go_num, rfl, rfl, Lib.hid (by simpa using HS.out), HB⟩, by simp [intOf]; omega⟩
      · rw [if_pos (by omega), if_pos (by omega)] at HS
        cases t
        all_goals
          go_wp2
          refine ⟨⟨j + 1, p + 1, q + 1, _, by omega, by omega, by omega, by go_num, by go_num, by go_num, rfl, Lib.hid (by simpa using HS.out), HB⟩, by simp [intOf]; omega⟩
      · rw [if_neg (by omega), if_pos (by omega)] at HS
        cases t
        all_goals
          go_wp2
          refine ⟨⟨j + 1, p, q + 1, _, by omega, by omega, by omega, by go_num, rfl, by go_num, rfl, Lib.hid (by simpa using HS.out), HB⟩, by simp [intOf]; omega⟩
    · obtain rfl : j = n := by omega
      obtain ⟨rfl, X1, X2, X3, X4, w1, w2, w3, w4, o1, o2, HX⟩ := ranks_end l j num 100 k p q t HN.out HR.out HK.out.2.2 hne hlen hp hq hd0 hd1 hn0 hnd
      have f1 : X2 ≤ (p : Int) * 100 := by have := HX.out; omega
      have f2 : X4 ≤ (q : Int) * 100 := by have := HX.out; omega
      go_wp2
      go_ret
      exact ⟨by first | rfl | (show Ending.returned (.bool (decide (X4 ≤ ↑q * 100))) = _; rw [decide_eq_true (by omega)]), HB.out⟩
set_option maxRecDepth 100000 in
set_option maxHeartbeats 1000000 in
theorem ranks_C2 (v : Value) (l : List Int) (num den0 : Int) (w : World) (hl : IntsIn w v l) (hne : l ≠ []) (hlen : l.length ≤ 1048576) (hbad : 1000000 < den0) (hn0 : 0 ≤ num) (hnd : num ≤ 100) :
    Calls Try.prog 10 #[v, .int .i64 num, .int .i64 den0] w fun e w' => e = .returned (.bool true) ∧ Below w.heap.size w w' := by
  have hd0 : (1 : Int) ≤ 100 := by omega
  have hd1 : (100 : Int) ≤ 1000000 := by omega
  have hpos : 0 < l.length := List.length_pos_iff.mpr hne
  have hl0 := hl
  obtain ⟨a, capv, rfl, hcs, _⟩ := hl0
  obtain ⟨b, off, rfl, hb, hcell⟩ := hcs hne
  have c := fun num den w (hl : IntsIn w (.slice (some ⟨b, off, none⟩) l.length capv) l) h1 h2 h3 h4 => rank_callsI (.slice (some ⟨b, off, none⟩) l.length capv) l num den w hl hne hlen h1 h2 h3 h4
  obtain ⟨n, hnn⟩ : ∃ n, n = l.length := ⟨_, rfl⟩
  have HL := Lib.hid hl
  have HC := Lib.hid hcell
  rw [← hnn] at hlen hpos HL
  simp only [← hnn] at c
  rw [← hnn]
  have HN := Lib.hid hnn
  clear hl hcell hcs hnn
  have hnz : ((n : Int) == 0) = false := by rw [beq_eq_false_iff_ne]; omega
  obtain ⟨lo, hlo⟩ : ∃ lo, lo = rankV l 0 1 := ⟨_, rfl⟩
  obtain ⟨hi, hhi⟩ : ∃ hi, hi = rankV l 1 1 := ⟨_, rfl⟩
  obtain ⟨k, hk⟩ : ∃ k, k = rankV l (num : Int).toNat (100 : Int).toNat := ⟨_, rfl⟩
  have c0 := fun w hl => c 0 1 w hl (by omega) (by omega) (by omega) (by omega)
  have c1 := fun w hl => c 1 1 w hl (by omega) (by omega) (by omega) (by omega)
  have ck := fun w hl => c num 100 w hl (by omega) (by omega) (by omega) (by omega)
  rw [show ((0 : Int).toNat) = 0 from rfl, show ((1 : Int).toNat) = 1 from rfl, ← hlo] at c0
  rw [show ((1 : Int).toNat) = 1 from rfl, ← hhi] at c1
  rw [← hk] at ck
  have HK := Lib.hid (And.intro hlo (And.intro hhi hk))
  clear hlo hhi hk c
  go_enter Try.func10, Try.ntmps10
  go_wp2_with (first
    | (go_at_call 26; first
      | ((with_reducible refine (ck _ HL.out).mono ?_); rintro e w1 ⟨rfl, hb1⟩; have H1 := Lib.hid (And.intro hb1 (HL.out.keep hb1)); clear hb1)
      | ((with_reducible refine (c0 _ H1.out.2).mono ?_); rintro e w2 ⟨rfl, hb2⟩; have H2 := Lib.hid (And.intro (belowThen H1.out.1 hb2) (H1.out.2.keep hb2)); clear hb2)
      | ((with_reducible refine (c1 _ H2.out.2).mono ?_); rintro e w3 ⟨rfl, hb3⟩; have H3 := Lib.hid (And.intro (belowThen H2.out.1 hb3) (H2.out.2.keep hb3)); clear hb3)))
  go_loopw [15, 16, 17, 18] (fun bv av tv iv wr => ∃ (j p q : Nat) (t : Bool), j ≤ n ∧ p ≤ j ∧ q ≤ j ∧ iv = .int .i64 j ∧ bv = .int .i64 p ∧ av = .int .i64 q ∧ tv = .bool t ∧ Hid (cntR l k j p q t) ∧ Hid (Below w.heap.size w wr)) (fun _ _ _ iv _ => n - (intOf iv).toNat)
  case atStart => exact ⟨0, 0, 0, false, by omega, by omega, by omega, rfl, rfl, rfl, rfl, Lib.hid (cntR_zero l k), Lib.hid H3.out.1⟩
  case round =>
    obtain ⟨j, p, q, t, hj, hp, hq, rfl, rfl, rfl, rfl, HR, HB⟩ := hrel
    by_cases hlt : j < n
    · have hjl : j < l.length := by rw [← HN.out]; exact hlt
      have hcell : wr.cell? ⟨b, off + j, none⟩ = some (.int .i64 l[j]) := (HB.out.cell (p := ⟨b, off + j, none⟩) hb).trans (HC.out j hjl)
      have hxl : l[j] ∈ l := List.getElem_mem _
      have hx1 : lo ≤ l[j] := by rw [HK.out.1]; exact rank_least l _ hxl
      have hx2 : l[j] ≤ hi := by rw [HK.out.2.1]; exact rank_greatest l _ hxl
      have hst := cntR_step l k j p q t hjl HR.out
      generalize l[j] = x at *
      have HS := Lib.hid hst
      clear hst hxl
      have hb : (j : Int) < n := by omega
      rcases Int.lt_trichotomy x k with hlk | rfl | hlk
      · rw [if_pos (by omega), if_neg (by omega)] at HS
        cases t
        all_goals
          go_wp2
          refine ⟨⟨j + 1, p + 1, q, _, by omega, by omega, by omega, by go_num, by go_num, rfl, rfl, Lib.hid (by simpa using HS.out), HB⟩, by simp [intOf]; omega⟩
      · rw [if_pos (by omega), if_pos (by omega)] at HS
        cases t
        all_goals
          go_wp2
          refine ⟨⟨j + 1, p + 1, q + 1, _, by omega, by omega, by omega, by go_num, by go_num, by go_num, rfl, Lib.hid (by simpa using HS.out), HB⟩, by simp [intOf]; omega⟩
      · rw [if_neg (by omega), if_pos (by omega)] at HS
        cases t
        all_goals
          go_wp2
          refine ⟨⟨j + 1, p, q + 1, _, by omega, by omega, by omega, by go_num, rfl, by go_num, rfl, Lib.hid (by simpa using HS.out), HB⟩, by simp [intOf]; omega⟩
    · obtain rfl : j = n := by omega
      obtain ⟨rfl, X1, X2, X3, X4, w1, w2, w3, w4, o1, o2, HX⟩ := ranks_end l j num 100 k p q t HN.out HR.out HK.out.2.2 hne hlen hp hq hd0 hd1 hn0 hnd
      have f1 : X2 ≤ (p : Int) * 100 := by have := HX.out; omega
      have f2 : X4 ≤ (q : Int) * 100 := by have := HX.out; omega
      go_wp2
      go_ret
      exact ⟨by first | rfl | (show Ending.returned (.bool (decide (X4 ≤ ↑q * 100))) = _; rw [decide_eq_true (by omega)]), HB.out⟩
set_option maxRecDepth 100000 in
set_option maxHeartbeats 1000000 in
theorem ranks_D1 (v : Value) (l : List Int) (num0 den0 : Int) (w : World) (hl : IntsIn w v l) (hne : l ≠ []) (hlen : l.length ≤ 1048576) (hbad : den0 < 1) (hbad2 : num0 < 0) :
    Calls Try.prog 10 #[v, .int .i64 num0, .int .i64 den0] w fun e w' => e = .returned (.bool true) ∧ Below w.heap.size w w' := by
  have hd0 : (1 : Int) ≤ 100 := by omega
  have hd1 : (100 : Int) ≤ 1000000 := by omega
  have hn0 : (0 : Int) ≤ 50 := by omega
  have hnd : (50 : Int) ≤ 100 := by omega
  have hpos : 0 < l.length := List.length_pos_iff.mpr hne
  have hl0 := hl
  obtain ⟨a, capv, rfl, hcs, _⟩ := hl0
  obtain ⟨b, off, rfl, hb, hcell⟩ := hcs hne
  have c := fun num den w (hl : IntsIn w (.slice (some ⟨b, off, none⟩) l.length capv) l) h1 h2 h3 h4 => rank_callsI (.slice (some ⟨b, off, none⟩) l.length capv) l num den w hl hne hlen h1 h2 h3 h4
  obtain ⟨n, hnn⟩ : ∃ n, n = l.length := ⟨_, rfl⟩
  have HL := Lib.hid hl
  have HC := Lib.hid hcell
  rw [← hnn] at hlen hpos HL
  simp only [← hnn] at c
  rw [← hnn]
  have HN := Lib.hid hnn
  clear hl hcell hcs hnn
  have hnz : ((n : Int) == 0) = false := by rw [beq_eq_false_iff_ne]; omega
  obtain ⟨lo, hlo⟩ : ∃ lo, lo = rankV l 0 1 := ⟨_, rfl⟩
  obtain ⟨hi, hhi⟩ : ∃ hi, hi = rankV l 1 1 := ⟨_, rfl⟩
  obtain ⟨k, hk⟩ : ∃ k, k = rankV l (50 : Int).toNat (100 : Int).toNat := ⟨_, rfl⟩
  have c0 := fun w hl => c 0 1 w hl (by omega) (by omega) (by omega) (by omega)
  have c1 := fun w hl => c 1 1 w hl (by omega) (by omega) (by omega) (by omega)
  have ck := fun w hl => c 50 100 w hl (by omega) (by omega) (by omega) (by omega)
  rw [show ((0 : Int).toNat) = 0 from rfl, show ((1 : Int).toNat) = 1 from rfl, ← hlo] at c0
  rw [show ((1 : Int).toNat) = 1 from rfl, ← hhi] at c1
  rw [← hk] at ck
  have HK := Lib.hid (And.intro hlo (And.intro hhi hk))
  clear hlo hhi hk c
  go_enter Try.func10, Try.ntmps10
  go_wp2_with (first
    | (go_at_call 26; first
      | ((with_reducible refine (ck _ HL.out).mono ?_); rintro e w1 ⟨rfl, hb1⟩; have H1 := Lib.hid (And.intro hb1 (HL.out.keep hb1)); clear hb1)
      | ((with_reducible refine (c0 _ H1.out.2).mono ?_); rintro e w2 ⟨rfl, hb2⟩; have H2 := Lib.hid (And.intro (belowThen H1.out.1 hb2) (H1.out.2.keep hb2)); clear hb2)
      | ((with_reducible refine (c1 _ H2.out.2).mono ?_); rintro e w3 ⟨rfl, hb3⟩; have H3 := Lib.hid (And.intro (belowThen H2.out.1 hb3) (H2.out.2.keep hb3)); clear hb3)))
  go_loopw [15, 16, 17, 18] (fun bv av tv iv wr => ∃ (j p q : Nat) (t : Bool), j ≤ n ∧ p ≤ j ∧ q ≤ j ∧ iv = .int .i64 j ∧ bv = .int .i64 p ∧ av = .int .i64 q ∧ tv = .bool t ∧ Hid (cntR l k j p q t) ∧ Hid (Below w.heap.size w wr)) (fun _ _ _ iv _ => n - (intOf iv).toNat)
  case atStart => exact ⟨0, 0, 0, false, by omega, by omega, by omega, rfl, rfl, rfl, rfl, Lib.hid (cntR_zero l k), Lib.hid H3.out.1⟩
  case round =>
    obtain ⟨j, p, q, t, hj, hp, hq, rfl, rfl, rfl, rfl, HR, HB⟩ := hrel
    by_cases hlt : j < n
    · have hjl : j < l.length := by rw [← HN.out]; exact hlt
      have hcell : wr.cell? ⟨b, off + j, none⟩ = some (.int .i64 l[j]) := (HB.out.cell (p := ⟨b, off + j, none⟩) hb).trans (HC.out j hjl)
      have hxl : l[j] ∈ l := List.getElem_mem _
      have hx1 : lo ≤ l[j] := by rw [HK.out.1]; exact rank_least l _ hxl
      have hx2 : l[j] ≤ hi := by rw [HK.out.2.1]; exact rank_greatest l _ hxl
      have hst := cntR_step l k j p q t hjl HR.out
      generalize l[j] = x at *
      have HS := Lib.hid hst
      clear hst hxl
      have hb : (j : Int) < n := by omega
      rcases Int.lt_trichotomy x k with hlk | rfl | hlk
      · rw [if_pos (by omega), if_neg (by omega)] at HS
        cases t
        all_goals
          go_wp2
          refine ⟨⟨j + 1, p + 1, q, _, by omega, by omega, by omega, by go_num, by go_num, rfl, rfl, Lib.hid (by simpa using HS.out), HB⟩, by simp [intOf]; omega⟩
      · rw [if_pos (by omega), if_pos (by omega)] at HS
        cases t
        all_goals
          go_wp2
          refine ⟨⟨j + 1, p + 1, q + 1, _, by omega, by omega, by omega, by go_num, by go_num, by go_num, rfl, Lib.hid (by simpa using HS.out), HB⟩, by simp [intOf]; omega⟩
      · rw [if_neg (by omega), if_pos (by omega)] at HS
        cases t
        all_goals
          go_wp2
          refine ⟨⟨j + 1, p, q + 1, _, by omega, by omega, by omega, by go_num, rfl, by go_num, rfl, Lib.hid (by simpa using HS.out), HB⟩, by simp [intOf]; omega⟩
    · obtain rfl : j = n := by omega
      obtain ⟨rfl, X1, X2, X3, X4, w1, w2, w3, w4, o1, o2, HX⟩ := ranks_end l j 50 100 k p q t HN.out HR.out HK.out.2.2 hne hlen hp hq hd0 hd1 hn0 hnd
      have f1 : 50 * (j : Int) ≤ (p : Int) * 100 := by have := HX.out; omega
      have f2 : 50 * (j : Int) ≤ (q : Int) * 100 := by have := HX.out; omega
      go_wp2
      go_ret
      exact ⟨by first | rfl | (show Ending.returned (.bool (decide (50 * (↑j : Int) ≤ ↑q * 100))) = _; rw [decide_eq_true (by omega)]), HB.out⟩
set_option maxRecDepth 100000 in
set_option maxHeartbeats 1000000 in
theorem ranks_D2 (v : Value) (l : List Int) (num0 den0 : Int) (w : World) (hl : IntsIn w v l) (hne : l ≠ []) (hlen : l.length ≤ 1048576) (hbad : den0 < 1) (hbad2 : 100 < num0) :
    Calls Try.prog 10 #[v, .int .i64 num0, .int .i64 den0] w fun e w' => e = .returned (.bool true) ∧ Below w.heap.size w w' := by
  have hd0 : (1 : Int) ≤ 100 := by omega
  have hd1 : (100 : Int) ≤ 1000000 := by omega
  have hn0 : (0 : Int) ≤ 50 := by omega
  have hnd : (50 : Int) ≤ 100 := by omega
  have hpos : 0 < l.length := List.length_pos_iff.mpr hne
  have hl0 := hl
  obtain ⟨a, capv, rfl, hcs, _⟩ := hl0
  obtain ⟨b, off, rfl, hb, hcell⟩ := hcs hne
  have c := fun num den w (hl : IntsIn w (.slice (some ⟨b, off, none⟩) l.length capv) l) h1 h2 h3 h4 => rank_callsI (.slice (some ⟨b, off, none⟩) l.length capv) l num den w hl hne hlen h1 h2 h3 h4
  obtain ⟨n, hnn⟩ : ∃ n, n = l.length := ⟨_, rfl⟩
  have HL := Lib.hid hl
  have HC := Lib.hid hcell
  rw [← hnn] at hlen hpos HL
  simp only [← hnn] at c
  rw [← hnn]
  have HN := Lib.hid hnn
  clear hl hcell hcs hnn
  have hnz : ((n : Int) == 0) = false := by rw [beq_eq_false_iff_ne]; omega
  obtain ⟨lo, hlo⟩ : ∃ lo, lo = rankV l 0 1 := ⟨_, rfl⟩
  obtain ⟨hi, hhi⟩ : ∃ hi, hi = rankV l 1 1 := ⟨_, rfl⟩
  obtain ⟨k, hk⟩ : ∃ k, k = rankV l (50 : Int).toNat (100 : Int).toNat := ⟨_, rfl⟩
  have c0 := fun w hl => c 0 1 w hl (by omega) (by omega) (by omega) (by omega)
  have c1 := fun w hl => c 1 1 w hl (by omega) (by omega) (by omega) (by omega)
  have ck := fun w hl => c 50 100 w hl (by omega) (by omega) (by omega) (by omega)
  rw [show ((0 : Int).toNat) = 0 from rfl, show ((1 : Int).toNat) = 1 from rfl, ← hlo] at c0
  rw [show ((1 : Int).toNat) = 1 from rfl, ← hhi] at c1
  rw [← hk] at ck
  have HK := Lib.hid (And.intro hlo (And.intro hhi hk))
  clear hlo hhi hk c
  go_enter Try.func10, Try.ntmps10
  go_wp2_with (first
    | (go_at_call 26; first
      | ((with_reducible refine (ck _ HL.out).mono ?_); rintro e w1 ⟨rfl, hb1⟩; have H1 := Lib.hid (And.intro hb1 (HL.out.keep hb1)); clear hb1)
      | ((with_reducible refine (c0 _ H1.out.2).mono ?_); rintro e w2 ⟨rfl, hb2⟩; have H2 := Lib.hid (And.intro (belowThen H1.out.1 hb2) (H1.out.2.keep hb2)); clear hb2)
      | ((with_reducible refine (c1 _ H2.out.2).mono ?_); rintro e w3 ⟨rfl, hb3⟩; have H3 := Lib.hid (And.intro (belowThen H2.out.1 hb3) (H2.out.2.keep hb3)); clear hb3)))
  go_loopw [15, 16, 17, 18] (fun bv av tv iv wr => ∃ (j p q : Nat) (t : Bool), j ≤ n ∧ p ≤ j ∧ q ≤ j ∧ iv = .int .i64 j ∧ bv = .int .i64 p ∧ av = .int .i64 q ∧ tv = .bool t ∧ Hid (cntR l k j p q t) ∧ Hid (Below w.heap.size w wr)) (fun _ _ _ iv _ => n - (intOf iv).toNat)
  case atStart => exact ⟨0, 0, 0, false, by omega, by omega, by omega, rfl, rfl, rfl, rfl, Lib.hid (cntR_zero l k), Lib.hid H3.out.1⟩
  case round =>
    obtain ⟨j, p, q, t, hj, hp, hq, rfl, rfl, rfl, rfl, HR, HB⟩ := hrel
    by_cases hlt : j < n
    · have hjl : j < l.length := by rw [← HN.out]; exact hlt
      have hcell : wr.cell? ⟨b, off + j, none⟩ = some (.int .i64 l[j]) := (HB.out.cell (p := ⟨b, off + j, none⟩) hb).trans (HC.out j hjl)
      have hxl : l[j] ∈ l := List.getElem_mem _
      have hx1 : lo ≤ l[j] := by rw [HK.out.1]; exact rank_least l _ hxl
      have hx2 : l[j] ≤ hi := by rw [HK.out.2.1]; exact rank_greatest l _ hxl
      have hst := cntR_step l k j p q t hjl HR.out
      generalize l[j] = x at *
      have HS := Lib.hid hst
      clear hst hxl
      have hb : (j : Int) < n := by omega
      rcases Int.lt_trichotomy x k with hlk | rfl | hlk
      · rw [if_pos (by omega), if_neg (by omega)] at HS
        cases t
        all_goals
          go_wp2
          refine ⟨⟨j + 1, p + 1, q, _, by omega, by omega, by omega, by go_num, by go_num, rfl, rfl, Lib.hid (by simpa using HS.out), HB⟩, by simp [intOf]; omega⟩
      · rw [if_pos (by omega), if_pos (by omega)] at HS
        cases t
        all_goals
          go_wp2
          refine ⟨⟨j + 1, p + 1, q + 1, _, by omega, by omega, by omega, by go_num, by go_num, by go_num, rfl, Lib.hid (by simpa using HS.out), HB⟩, by simp [intOf]; omega⟩
      · rw [if_neg (by omega), if_pos (by omega)] at HS
        cases t
        all_goals
          go_wp2
          refine ⟨⟨j + 1, p, q + 1, _, by omega, by omega, by omega, by go_num, rfl, by go_num, rfl, Lib.hid (by simpa using HS.out), HB⟩, by simp [intOf]; omega⟩
    · obtain rfl : j = n := by omega
      obtain ⟨rfl, X1, X2, X3, X4, w1, w2, w3, w4, o1, o2, HX⟩ := ranks_end l j 50 100 k p q t HN.out HR.out HK.out.2.2 hne hlen hp hq hd0 hd1 hn0 hnd
      have f1 : 50 * (j : Int) ≤ (p : Int) * 100 := by have := HX.out; omega
      have f2 : 50 * (j : Int) ≤ (q : Int) * 100 := by have := HX.out; omega
      go_wp2
      go_ret
      exact ⟨by first | rfl | (show Ending.returned (.bool (decide (50 * (↑j : Int) ≤ ↑q * 100))) = _; rw [decide_eq_true (by omega)]), HB.out⟩
set_option maxRecDepth 100000 in
set_option maxHeartbeats 1000000 in
theorem ranks_D3 (v : Value) (l : List Int) (num0 den0 : Int) (w : World) (hl : IntsIn w v l) (hne : l ≠ []) (hlen : l.length ≤ 1048576) (hbad : 1000000 < den0) (hbad2 : num0 < 0) :
    Calls Try.prog 10 #[v, .int .i64 num0, .int .i64 den0] w fun e w' => e = .returned (.bool true) ∧ Below w.heap.size w w' := by
  have hd0 : (1 : Int) ≤ 100 := by omega
  have hd1 : (100 : Int) ≤ 1000000 := by omega
  have hn0 : (0 : Int) ≤ 50 := by omega
  have hnd : (50 : Int) ≤ 100 := by omega
  have hpos : 0 < l.length := List.length_pos_iff.mpr hne
  have hl0 := hl
  obtain ⟨a, capv, rfl, hcs, _⟩ := hl0
  obtain ⟨b, off, rfl, hb, hcell⟩ := hcs hne
  have c := fun num den w (hl : IntsIn w (.slice (some ⟨b, off, none⟩) l.length capv) l) h1 h2 h3 h4 => rank_callsI (.slice (some ⟨b, off, none⟩) l.length capv) l num den w hl hne hlen h1 h2 h3 h4
  obtain ⟨n, hnn⟩ : ∃ n, n = l.length := ⟨_, rfl⟩
  have HL := Lib.hid hl
  have HC := Lib.hid hcell
  rw [← hnn] at hlen hpos HL
  simp only [← hnn] at c
  rw [← hnn]
  have HN := Lib.hid hnn
  clear hl hcell hcs hnn
  have hnz : ((n : Int) == 0) = false := by rw [beq_eq_false_iff_ne]; omega
  obtain ⟨lo, hlo⟩ : ∃ lo, lo = rankV l 0 1 := ⟨_, rfl⟩
  obtain ⟨hi, hhi⟩ : ∃ hi, hi = rankV l 1 1 := ⟨_, rfl⟩
  obtain ⟨k, hk⟩ : ∃ k, k = rankV l (50 : Int).toNat (100 : Int).toNat := ⟨_, rfl⟩
  have c0 := fun w hl => c 0 1 w hl (by omega) (by omega) (by omega) (by omega)
  have c1 := fun w hl => c 1 1 w hl (by omega) (by omega) (by omega) (by omega)
  have ck := fun w hl => c 50 100 w hl (by omega) (by omega) (by omega) (by omega)
  rw [show ((0 : Int).toNat) = 0 from rfl, show ((1 : Int).toNat) = 1 from rfl, ← hlo] at c0
  rw [show ((1 : Int).toNat) = 1 from rfl, ← hhi] at c1
  rw [← hk] at ck
  have HK := Lib.hid (And.intro hlo (And.intro hhi hk))
  clear hlo hhi hk c
  go_enter Try.func10, Try.ntmps10
  go_wp2_with (first
    | (go_at_call 26; first
      | ((with_reducible refine (ck _ HL.out).mono ?_); rintro e w1 ⟨rfl, hb1⟩; have H1 := Lib.hid (And.intro hb1 (HL.out.keep hb1)); clear hb1)
      | ((with_reducible refine (c0 _ H1.out.2).mono ?_); rintro e w2 ⟨rfl, hb2⟩; have H2 := Lib.hid (And.intro (belowThen H1.out.1 hb2) (H1.out.2.keep hb2)); clear hb2)
      | ((with_reducible refine (c1 _ H2.out.2).mono ?_); rintro e w3 ⟨rfl, hb3⟩; have H3 := Lib.hid (And.intro (belowThen H2.out.1 hb3) (H2.out.2.keep hb3)); clear hb3)))
  go_loopw [15, 16, 17, 18] (fun bv av tv iv wr => ∃ (j p q : Nat) (t : Bool), j ≤ n ∧ p ≤ j ∧ q ≤ j ∧ iv = .int .i64 j ∧ bv = .int .i64 p ∧ av = .int .i64 q ∧ tv = .bool t ∧ Hid (cntR l k j p q t) ∧ Hid (Below w.heap.size w wr)) (fun _ _ _ iv _ => n - (intOf iv).toNat)
  case atStart => exact ⟨0, 0, 0, false, by omega, by omega, by omega, rfl, rfl, rfl, rfl, Lib.hid (cntR_zero l k), Lib.hid H3.out.1⟩
  case round =>
    obtain ⟨j, p, q, t, hj, hp, hq, rfl, rfl, rfl, rfl, HR, HB⟩ := hrel
    by_cases hlt : j < n
    · have hjl : j < l.length := by rw [← HN.out]; exact hlt
      have hcell : wr.cell? ⟨b, off + j, none⟩ = some (.int .i64 l[j]) := (HB.out.cell (p := ⟨b, off + j, none⟩) hb).trans (HC.out j hjl)
      have hxl : l[j] ∈ l := List.getElem_mem _
      have hx1 : lo ≤ l[j] := by rw [HK.out.1]; exact rank_least l _ hxl
      have hx2 : l[j] ≤ hi := by rw [HK.out.2.1]; exact rank_greatest l _ hxl
      have hst := cntR_step l k j p q t hjl HR.out
      generalize l[j] = x at *
      have HS := Lib.hid hst
      clear hst hxl
      have hb : (j : Int) < n := by omega
      rcases Int.lt_trichotomy x k with hlk | rfl | hlk
      · rw [if_pos (by omega), if_neg (by omega)] at HS
        cases t
        all_goals
          go_wp2
          refine ⟨⟨j + 1, p + 1, q, _, by omega, by omega, by omega, by go_num, by go_num, rfl, rfl, Lib.hid (by simpa using HS.out), HB⟩, by simp [intOf]; omega⟩
      · rw [if_pos (by omega), if_pos (by omega)] at HS
        cases t
        all_goals
          go_wp2
          refine ⟨⟨j + 1, p + 1, q + 1, _, by omega, by omega, by omega, by go_num, by go_num, by go_num, rfl, Lib.hid (by simpa using HS.out), HB⟩, by simp [intOf]; omega⟩
      · rw [if_neg (by omega), if_pos (by omega)] at HS
        cases t
        all_goals
          go_wp2
          refine ⟨⟨j + 1, p, q + 1, _, by omega, by omega, by omega, by go_num, rfl, by go_num, rfl, Lib.hid (by simpa using HS.out), HB⟩, by simp [intOf]; omega⟩
    · obtain rfl : j = n := by omega
      obtain ⟨rfl, X1, X2, X3, X4, w1, w2, w3, w4, o1, o2, HX⟩ := ranks_end l j 50 100 k p q t HN.out HR.out HK.out.2.2 hne hlen hp hq hd0 hd1 hn0 hnd
      have f1 : 50 * (j : Int) ≤ (p : Int) * 100 := by have := HX.out; omega
      have f2 : 50 * (j : Int) ≤ (q : Int) * 100 := by have := HX.out; omega
      go_wp2
      go_ret
      exact ⟨by first | rfl | (show Ending.returned (.bool (decide (50 * (↑j : Int) ≤ ↑q * 100))) = _; rw [decide_eq_true (by omega)]), HB.out⟩
set_option maxRecDepth 100000 in
set_option maxHeartbeats 1000000 in
theorem ranks_D4 (v : Value) (l : List Int) (num0 den0 : Int) (w : World) (hl : IntsIn w v l) (hne : l ≠ []) (hlen : l.length ≤ 1048576) (hbad : 1000000 < den0) (hbad2 : 100 < num0) :
    Calls Try.prog 10 #[v, .int .i64 num0, .int .i64 den0] w fun e w' => e = .returned (.bool true) ∧ Below w.heap.size w w' := by
  have hd0 : (1 : Int) ≤ 100 := by omega
  have hd1 : (100 : Int) ≤ 1000000 := by omega
  have hn0 : (0 : Int) ≤ 50 := by omega
  have hnd : (50 : Int) ≤ 100 := by omega
  have hpos : 0 < l.length := List.length_pos_iff.mpr hne
  have hl0 := hl
  obtain ⟨a, capv, rfl, hcs, _⟩ := hl0
  obtain ⟨b, off, rfl, hb, hcell⟩ := hcs hne
  have c := fun num den w (hl : IntsIn w (.slice (some ⟨b, off, none⟩) l.length capv) l) h1 h2 h3 h4 => rank_callsI (.slice (some ⟨b, off, none⟩) l.length capv) l num den w hl hne hlen h1 h2 h3 h4
  obtain ⟨n, hnn⟩ : ∃ n, n = l.length := ⟨_, rfl⟩
  have HL := Lib.hid hl
  have HC := Lib.hid hcell
  rw [← hnn] at hlen hpos HL
  simp only [← hnn] at c
  rw [← hnn]
  have HN := Lib.hid hnn
  clear hl hcell hcs hnn
  have hnz : ((n : Int) == 0) = false := by rw [beq_eq_false_iff_ne]; omega
  obtain ⟨lo, hlo⟩ : ∃ lo, lo = rankV l 0 1 := ⟨_, rfl⟩
  obtain ⟨hi, hhi⟩ : ∃ hi, hi = rankV l 1 1 := ⟨_, rfl⟩
  obtain ⟨k, hk⟩ : ∃ k, k = rankV l (50 : Int).toNat (100 : Int).toNat := ⟨_, rfl⟩
  have c0 := fun w hl => c 0 1 w hl (by omega) (by omega) (by omega) (by omega)
  have c1 := fun w hl => c 1 1 w hl (by omega) (by omega) (by omega) (by omega)
  have ck := fun w hl => c 50 100 w hl (by omega) (by omega) (by omega) (by omega)
  rw [show ((0 : Int).toNat) = 0 from rfl, show ((1 : Int).toNat) = 1 from rfl, ← hlo] at c0
  rw [show ((1 : Int).toNat) = 1 from rfl, ← hhi] at c1
  rw [← hk] at ck
  have HK := Lib.hid (And.intro hlo (And.intro hhi hk))
  clear hlo hhi hk c
  go_enter Try.func10, Try.ntmps10
  go_wp2_with (first
    | (go_at_call 26; first
      | ((with_reducible refine (ck _ HL.out).mono ?_); rintro e w1 ⟨rfl, hb1⟩; have H1 := Lib.hid (And.intro hb1 (HL.out.keep hb1)); clear hb1)
      | ((with_reducible refine (c0 _ H1.out.2).mono ?_); rintro e w2 ⟨rfl, hb2⟩; have H2 := Lib.hid (And.intro (belowThen H1.out.1 hb2) (H1.out.2.keep hb2)); clear hb2)
      | ((with_reducible refine (c1 _ H2.out.2).mono ?_); rintro e w3 ⟨rfl, hb3⟩; have H3 := Lib.hid (And.intro (belowThen H2.out.1 hb3) (H2.out.2.keep hb3)); clear hb3)))
  go_loopw [15, 16, 17, 18] (fun bv av tv iv wr => ∃ (j p q : Nat) (t : Bool), j ≤ n ∧ p ≤ j ∧ q ≤ j ∧ iv = .int .i64 j ∧ bv = .int .i64 p ∧ av = .int .i64 q ∧ tv = .bool t ∧ Hid (cntR l k j p q t) ∧ Hid (Below w.heap.size w wr)) (fun _ _ _ iv _ => n - (intOf iv).toNat)
  case atStart => exact ⟨0, 0, 0, false, by omega, by omega, by omega, rfl, rfl, rfl, rfl, Lib.hid (cntR_zero l k), Lib.hid H3.out.1⟩
  case round =>
    obtain ⟨j, p, q, t, hj, hp, hq, rfl, rfl, rfl, rfl, HR, HB⟩ := hrel
    by_cases hlt : j < n
    · have hjl : j < l.length := by rw [← HN.out]; exact hlt
      have hcell : wr.cell? ⟨b, off + j, none⟩ = some (.int .i64 l[j]) := (HB.out.cell (p := ⟨b, off + j, none⟩) hb).trans (HC.out j hjl)
      have hxl : l[j] ∈ l := List.getElem_mem _
      have hx1 : lo ≤ l[j] := by rw [HK.out.1]; exact rank_least l _ hxl
      have hx2 : l[j] ≤ hi := by rw [HK.out.2.1]; exact rank_greatest l _ hxl
      have hst := cntR_step l k j p q t hjl HR.out
      generalize l[j] = x at *
      have HS := Lib.hid hst
      clear hst hxl
      have hb : (j : Int) < n := by omega
      rcases Int.lt_trichotomy x k with hlk | rfl | hlk
      · rw [if_pos (by omega), if_neg (by omega)] at HS
        cases t
        all_goals
          go_wp2
          refine ⟨⟨j + 1, p + 1, q, _, by omega, by omega, by omega, by go_num, by go_num, rfl, rfl, Lib.hid (by simpa using HS.out), HB⟩, by simp [intOf]; omega⟩
      · rw [if_pos (by omega), if_pos (by omega)] at HS
        cases t
        all_goals
          go_wp2
          refine ⟨⟨j + 1, p + 1, q + 1, _, by omega, by omega, by omega, by go_num, by go_num, by go_num, rfl, Lib.hid (by simpa using HS.out), HB⟩, by simp [intOf]; omega⟩
      · rw [if_neg (by omega), if_pos (by omega)] at HS
        cases t
        all_goals
          go_wp2
          refine ⟨⟨j + 1, p, q + 1, _, by omega, by omega, by omega, by go_num, rfl, by go_num, rfl, Lib.hid (by simpa using HS.out), HB⟩, by simp [intOf]; omega⟩
    · obtain rfl : j = n := by omega
      obtain ⟨rfl, X1, X2, X3, X4, w1, w2, w3, w4, o1, o2, HX⟩ := ranks_end l j 50 100 k p q t HN.out HR.out HK.out.2.2 hne hlen hp hq hd0 hd1 hn0 hnd
      have f1 : 50 * (j : Int) ≤ (p : Int) * 100 := by have := HX.out; omega
      have f2 : 50 * (j : Int) ≤ (q : Int) * 100 := by have := HX.out; omega
      go_wp2
      go_ret
      exact ⟨by first | rfl | (show Ending.returned (.bool (decide (50 * (↑j : Int) ≤ ↑q * 100))) = _; rw [decide_eq_true (by omega)]), HB.out⟩
theorem meterRanks_walk (v : Value) (l : List Int) (num den : Int) (w : World) (hl : IntsIn w v l) (hlen : l.length ≤ 1048576) (h1 : -9223372036854775808 ≤ num ∧ num ≤ 9223372036854775807) (h2 : -9223372036854775808 ≤ den ∧ den ≤ 9223372036854775807) :
    Calls Try.prog 10 #[v, .int .i64 num, .int .i64 den] w fun e w' => e = .returned (.bool true) ∧ Below w.heap.size w w' := by
  by_cases hne : l = []
  · subst hne; exact ranks_zero v num den w hl
  by_cases hd1 : den < 1
  · by_cases hn1 : num < 0
    · exact ranks_D1 v l num den w hl hne hlen hd1 hn1
    by_cases hn2 : 100 < num
    · exact ranks_D2 v l num den w hl hne hlen hd1 hn2
    exact ranks_C1 v l num den w hl hne hlen hd1 (by omega) (by omega)
  by_cases hd2 : 1000000 < den
  · by_cases hn1 : num < 0
    · exact ranks_D3 v l num den w hl hne hlen hd2 hn1
    by_cases hn2 : 100 < num
    · exact ranks_D4 v l num den w hl hne hlen hd2 hn2
    exact ranks_C2 v l num den w hl hne hlen hd2 (by omega) (by omega)
  by_cases hn1 : num < 0
  · exact ranks_B1 v l num den w hl hne hlen (by omega) (by omega) hn1
  by_cases hn2 : den < num
  · exact ranks_B2 v l num den w hl hne hlen (by omega) (by omega) hn2
  exact ranks_A v l num den w hl hne hlen (by omega) (by omega) (by omega) (by omega)
end Go.Proofs.Ytpgflnjpohmldaa
