/- Plain: decimal digits, the lowest first; doubling, halving, one more; the text of a number with a point; rounding to the even one. -/
namespace Go.Proofs.Ytpgflnjpohmldaa
def digs (n : Nat) : List Nat := if h : n = 0 then [] else n % 10 :: digs (n / 10)
termination_by n
decreasing_by omega
theorem digs_zero : digs 0 = [] := by rw [digs]; rfl
theorem digs_pos (n : Nat) (h : 0 < n) : digs n = n % 10 :: digs (n / 10) := by
  rw [digs]; exact dif_neg (by omega)
def padTo (l : List Nat) (k : Nat) : List Nat := l ++ List.replicate (k - l.length) 0
theorem padTo_step (n k : Nat) (h : 0 < n ∨ 0 < k) : padTo (digs n) k = n % 10 :: padTo (digs (n / 10)) (k - 1) := by
  rcases Nat.eq_zero_or_pos n with h0 | h0
  · subst h0
    obtain ⟨j, rfl⟩ : ∃ j, k = j + 1 := ⟨k - 1, by omega⟩
    rw [Nat.zero_div, digs_zero]; rfl
  · rw [digs_pos n h0]
    unfold padTo
    rw [List.cons_append, List.length_cons, show k - ((digs (n / 10)).length + 1) = k - 1 - (digs (n / 10)).length by omega]
theorem padTo_end : padTo (digs 0) 0 = [] := by rw [digs_zero]; rfl
theorem padTo_zero (l : List Nat) : padTo l 0 = l := by unfold padTo; rw [Nat.zero_sub]; simp
def vald (l : List Nat) : Nat := l.foldr (fun d a => d + 10 * a) 0
theorem vald_cons (d : Nat) (l : List Nat) : vald (d :: l) = d + 10 * vald l := rfl
def allDig (l : List Nat) : Prop := ∀ d ∈ l, d < 10
theorem allDig_cons {d : Nat} {l : List Nat} : allDig (d :: l) ↔ d < 10 ∧ allDig l := by
  unfold allDig; simp
theorem digs_dig (n : Nat) : allDig (digs n) := by
  induction n using Nat.strongRecOn with
  | _ n ih =>
    rcases Nat.eq_zero_or_pos n with h | h
    · subst h; rw [digs_zero]; intro d hd; cases hd
    · rw [digs_pos n h, allDig_cons]; exact ⟨by omega, ih _ (by omega)⟩
theorem vald_digs (n : Nat) : vald (digs n) = n := by
  induction n using Nat.strongRecOn with
  | _ n ih =>
    rcases Nat.eq_zero_or_pos n with h | h
    · subst h; rw [digs_zero]; rfl
    · rw [digs_pos n h, vald_cons, ih _ (by omega)]; omega
theorem digs_of (l : List Nat) (h : allDig l) : ∃ z, l = digs (vald l) ++ List.replicate z 0 := by
  induction l with
  | nil => exact ⟨0, by show [] = digs 0 ++ _; rw [digs_zero]; rfl⟩
  | cons d t ih =>
    obtain ⟨hd, ht⟩ := allDig_cons.mp h
    obtain ⟨z, hz⟩ := ih ht
    rcases Nat.eq_zero_or_pos (vald (d :: t)) with h0 | h0
    · rw [vald_cons] at h0
      have h1 : vald t = 0 := by omega
      have h2 : d = 0 := by omega
      rw [h1, digs_zero] at hz
      refine ⟨z + 1, ?_⟩
      rw [vald_cons, h1, h2, digs_zero, hz, List.replicate_succ]; simp
    · refine ⟨z, ?_⟩
      rw [digs_pos _ h0, vald_cons, show (d + 10 * vald t) % 10 = d by omega, show (d + 10 * vald t) / 10 = vald t by omega, List.cons_append, ← hz]
/-- Twice as much. -/
def dblR : List Nat → Nat → List Nat
  | [], c => if c = 0 then [] else [c]
  | d :: t, c => (2 * d + c) % 10 :: dblR t ((2 * d + c) / 10)
theorem dblR_digs (v : Nat) : ∀ c, c ≤ 1 → dblR (digs v) c = digs (2 * v + c) := by
  induction v using Nat.strongRecOn with
  | _ v ih =>
    intro c hc
    rcases Nat.eq_zero_or_pos v with h | h
    · subst h
      rw [digs_zero, dblR]
      have : c = 0 ∨ c = 1 := by omega
      rcases this with rfl | rfl
      · rw [if_pos rfl, digs_zero]
      · rw [if_neg (by omega), digs_pos _ (by omega), show (2 * 0 + 1) / 10 = 0 by omega, digs_zero]
    · rw [digs_pos v h, dblR, ih _ (by omega) _ (by omega), digs_pos (2 * v + c) (by omega)]
      rw [show (2 * (v % 10) + c) % 10 = (2 * v + c) % 10 by omega, show 2 * (v / 10) + (2 * (v % 10) + c) / 10 = (2 * v + c) / 10 by omega]
theorem dblR_val (l : List Nat) : ∀ c, c ≤ 1 → allDig l → vald (dblR l c) = 2 * vald l + c ∧ allDig (dblR l c) := by
  induction l with
  | nil =>
    intro c hc _
    rw [dblR]
    split
    · subst_vars; exact ⟨rfl, by intro d hd; cases hd⟩
    · exact ⟨by simp [vald], by intro d hd; simp at hd; omega⟩
  | cons d t ih =>
    intro c hc h
    obtain ⟨hd, ht⟩ := allDig_cons.mp h
    obtain ⟨h1, h2⟩ := ih ((2 * d + c) / 10) (by omega) ht
    rw [dblR, vald_cons, vald_cons, h1, allDig_cons]
    exact ⟨by omega, by omega, h2⟩
/-- Half as much, and what was left over. -/
def hlvR : List Nat → List Nat × Nat
  | [] => ([], 0)
  | d :: t => ((10 * (hlvR t).2 + d) / 2 :: (hlvR t).1, (10 * (hlvR t).2 + d) % 2)
theorem hlvR_val (l : List Nat) (h : allDig l) : (hlvR l).1.length = l.length ∧ vald (hlvR l).1 = vald l / 2 ∧ (hlvR l).2 = vald l % 2 ∧ allDig (hlvR l).1 := by
  induction l with
  | nil => exact ⟨rfl, rfl, rfl, by intro d hd; cases hd⟩
  | cons d t ih =>
    obtain ⟨hd, ht⟩ := allDig_cons.mp h
    obtain ⟨h1, h2, h3, h4⟩ := ih ht
    rw [hlvR, vald_cons, List.length_cons, List.length_cons, vald_cons, allDig_cons, h2, h3]
    refine ⟨by omega, by omega, by omega, by omega, h4⟩
/-- So much more. -/
def nxtR : List Nat → Nat → List Nat
  | [], c => if c = 0 then [] else [c]
  | d :: t, c => (d + c) % 10 :: nxtR t ((d + c) / 10)
theorem nxtR_val (l : List Nat) : ∀ c, c ≤ 1 → allDig l → vald (nxtR l c) = vald l + c ∧ allDig (nxtR l c) := by
  induction l with
  | nil =>
    intro c hc _
    rw [nxtR]
    split
    · subst_vars; exact ⟨rfl, by intro d hd; cases hd⟩
    · exact ⟨by simp [vald], by intro d hd; simp at hd; omega⟩
  | cons d t ih =>
    intro c hc h
    obtain ⟨hd, ht⟩ := allDig_cons.mp h
    obtain ⟨h1, h2⟩ := ih ((d + c) / 10) (by omega) ht
    rw [nxtR, vald_cons, vald_cons, h1, allDig_cons]
    exact ⟨by omega, by omega, h2⟩
/-- To the nearest, of two the even one. -/
def rhe (N k : Nat) : Nat := if 0 < k ∧ N / 2 ^ (k - 1) % 2 = 1 ∧ (N % 2 ^ (k - 1) ≠ 0 ∨ N / 2 ^ k % 2 = 1) then N / 2 ^ k + 1 else N / 2 ^ k
/-- The digits of a number with n places behind the point, as a text has them. -/
def digT (l : List Nat) : List UInt8 := l.reverse.map fun d => UInt8.ofNat (48 + d)
def txtR (Q n : Nat) : List UInt8 := digT ((padTo (digs Q) (n + 1)).drop n) ++ (if n = 0 then [] else 46 :: digT ((padTo (digs Q) (n + 1)).take n))
theorem padTo_split (n : Nat) : ∀ W q, q < 10 ^ n → (padTo (digs (W * 10 ^ n + q)) (n + 1)).drop n = padTo (digs W) 1 ∧ (padTo (digs (W * 10 ^ n + q)) (n + 1)).take n = padTo (digs q) n := by
  induction n with
  | zero =>
    intro W q hq
    have : q = 0 := by simpa using hq
    subst this
    simp [digs_zero, padTo]
  | succ n ih =>
    intro W q hq
    obtain ⟨h1, h2⟩ := ih W (q / 10) (by rw [Nat.pow_succ] at hq; omega)
    have e : (W * 10 ^ (n + 1) + q) / 10 = W * 10 ^ n + q / 10 := by
      rw [Nat.pow_succ, ← Nat.mul_assoc, Nat.mul_comm _ 10, Nat.mul_add_div (by omega)]
    have e2 : (W * 10 ^ (n + 1) + q) % 10 = q % 10 := by
      rw [Nat.pow_succ, ← Nat.mul_assoc, Nat.mul_comm _ 10, Nat.mul_add_mod]
    rw [padTo_step (W * 10 ^ (n + 1) + q) (n + 1 + 1) (by omega), e, e2, padTo_step q (n + 1) (by omega)]
    exact ⟨h1, by rw [List.take_succ_cons, show n + 1 - 1 = n by omega, show n + 1 + 1 - 1 = n + 1 by omega, h2]⟩
theorem txtR_split (W q n : Nat) (hq : q < 10 ^ n) : txtR (W * 10 ^ n + q) n = digT (padTo (digs W) 1) ++ (if n = 0 then [] else 46 :: digT (padTo (digs q) n)) := by
  obtain ⟨h1, h2⟩ := padTo_split n W q hq
  unfold txtR; rw [h1, h2]
end Go.Proofs.Ytpgflnjpohmldaa
