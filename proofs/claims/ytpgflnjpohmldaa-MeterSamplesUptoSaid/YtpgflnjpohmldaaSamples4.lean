import Derived.Test.YtpgflnjpohmldaaSamples2
import Derived.Test.YtpgflnjpohmldaaRankC
set_option linter.unusedVariables false
namespace Go.Proofs.Ytpgflnjpohmldaa
open Go.RowKit
theorem rankK_eq (n num den : Nat) (hd : 0 < den) : (num * n + den - 1) / den = rankK n num den := by
  obtain ⟨h1, h2⟩ := rankK_bounds n num den hd
  rw [Nat.div_eq_iff hd]
  omega
/-- The reference's test: so many are less, so many are not above. -/
theorem rank_test (l : List Int) (num den : Nat) (hl : l ≠ []) (hd : 0 < den) (hnd : num ≤ den) (y : Int) :
    ((l.countP (fun x => decide (x < y)) < max (rankK l.length num den) 1 ∧ max (rankK l.length num den) 1 ≤ l.countP (fun x => decide (x < y)) + l.countP (fun x => x == y)) → y = rankV l num den) ∧
    (y = rankV l num den → l.countP (fun x => decide (x < y)) < max (rankK l.length num den) 1 ∧ max (rankK l.length num den) 1 ≤ l.countP (fun x => decide (x < y)) + l.countP (fun x => x == y)) := by
  have hn : 0 < l.length := List.length_pos_iff.mpr hl
  have hi := rankI_lt l.length num den hn hd hnd
  have hi' : rankI l.length num den < (sortI l).length := by rw [sortI_len]; exact hi
  have hv : rankV l num den = (sortI l)[rankI l.length num den] := by
    rw [rankV, List.getD_eq_getElem?_getD, List.getElem?_eq_getElem hi']; rfl
  have hb := count_below (sortI_sorted l) _ hi'
  have ha := count_above (sortI_sorted l) _ hi'
  rw [← hv, (sortI_perm l).countP_eq] at hb ha
  rw [sortI_len] at ha
  have hk : max (rankK l.length num den) 1 = rankI l.length num den + 1 := by unfold rankI; omega
  rw [hk]
  have hle : ∀ y, l.countP (fun x => decide (x < y)) + l.countP (fun x => x == y) = l.countP (fun x => decide (x ≤ y)) := by
    intro y; clear hb ha hv hi' hi hk hn hl
    induction l with
    | nil => rfl
    | cons a r ih =>
      simp only [List.countP_cons]
      by_cases h1 : a < y
      · have : a ≤ y := by omega
        have : a ≠ y := by omega
        simp [*]; omega
      · by_cases h2 : a = y
        · subst h2; simp; omega
        · have : ¬ a ≤ y := by omega
          simp [*]
  have hgt : ∀ y, l.countP (fun x => decide (x < y)) + l.countP (fun x => decide (y ≤ x)) = l.length := by
    intro y; clear hle hb ha hv hi' hi hk hn hl
    induction l with
    | nil => rfl
    | cons a r ih =>
      simp only [List.countP_cons, List.length_cons]
      by_cases h1 : a < y
      · have : ¬ y ≤ a := by omega
        simp [*]; omega
      · have : y ≤ a := by omega
        simp [*]; omega
  have hge : ∀ y, l.countP (fun x => decide (x ≤ y)) + l.countP (fun x => decide (y < x)) = l.length := by
    intro y; clear hle hgt hb ha hv hi' hi hk hn hl
    induction l with
    | nil => rfl
    | cons a r ih =>
      simp only [List.countP_cons, List.length_cons]
      by_cases h1 : a ≤ y
      · have : ¬ y < a := by omega
        simp [*]; omega
      · have : y < a := by omega
        simp [*]; omega
  rw [hle]
  constructor
  · rintro ⟨h1, h2⟩
    rcases Int.lt_trichotomy (rankV l num den) y with h | h | h
    · exfalso
      have : l.countP (fun x => decide (x ≤ rankV l num den)) ≤ l.countP (fun x => decide (x < y)) := List.countP_mono_left (fun x _ hx => by simp at hx ⊢; omega)
      omega
    · exact h.symm
    · exfalso
      have : l.countP (fun x => decide (rankV l num den ≤ x)) ≤ l.countP (fun x => decide (y < x)) := List.countP_mono_left (fun x _ hx => by simp at hx ⊢; omega)
      have := hge y
      omega
  · rintro rfl
    have := hgt (rankV l num den)
    exact ⟨by omega, by omega⟩
def rankZ (l : List Int) (num den : Int) : Value := if l = [] then .tuple #[.int .i64 0, .int .i64 250] else if 1 ≤ den ∧ den ≤ 1000000 ∧ 0 ≤ num ∧ num ≤ den then .tuple #[.int .i64 (rankV l num.toNat den.toNat), .int .i64 0] else .tuple #[.int .i64 0, .int .i64 10]
set_option maxRecDepth 100000 in
set_option maxHeartbeats 1000000 in
theorem rankAll_calls (v : Value) (l : List Int) (num den : Int) (w : World) (hl : IntsIn w v l) (hlen : l.length ≤ 1048576) :
    Calls Try.prog 26 #[v, .int .i64 num, .int .i64 den] w fun e w' => e = .returned (rankZ l num den) ∧ Below w.heap.size w w' := by
  by_cases hne : l = []
  · rw [rankZ, if_pos hne]
    subst hne
    obtain ⟨a, cap, rfl, _, _⟩ := hl
    go_enter Try.func26, Try.ntmps26
    go_wp2
    go_ret2
    exact ⟨rfl, Below.refl _ _⟩
  by_cases hg : 1 ≤ den ∧ den ≤ 1000000 ∧ 0 ≤ num ∧ num ≤ den
  · rw [rankZ, if_neg hne, if_pos hg]
    have h := rank_calls v l num.toNat den.toNat w hl hne hlen (by omega) (by omega) (by omega)
    rwa [Int.toNat_of_nonneg hg.2.2.1, Int.toNat_of_nonneg (by omega)] at h
  · rw [rankZ, if_neg hne, if_neg hg]
    have hpos : 0 < l.length := List.length_pos_iff.mpr hne
    have hz : ((l.length : Int) == 0) = false := by rw [beq_eq_false_iff_ne]; omega
    obtain ⟨a, cap, rfl, _, _⟩ := hl
    by_cases h1 : 1 ≤ den
    · by_cases h2 : den ≤ 1000000
      · by_cases h3 : 0 ≤ num
        · have h4 : den < num := by omega
          go_enter Try.func26, Try.ntmps26
          go_wp2
          go_ret2
          exact ⟨rfl, Below.refl _ _⟩
        · have h4 : num < 0 := by omega
          go_enter Try.func26, Try.ntmps26
          go_wp2
          go_ret2
          exact ⟨rfl, Below.refl _ _⟩
      · have h4 : 1000000 < den := by omega
        go_enter Try.func26, Try.ntmps26
        go_wp2
        go_ret2
        exact ⟨rfl, Below.refl _ _⟩
    · have h4 : den < 1 := by omega
      go_enter Try.func26, Try.ntmps26
      go_wp2
      go_ret2
      exact ⟨rfl, Below.refl _ _⟩
end Go.Proofs.Ytpgflnjpohmldaa
