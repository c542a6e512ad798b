/- Plain: the sample of a rank in a sorted list; how many are not above and not below. -/
namespace Go.Proofs.Ytpgflnjpohmldaa
def sortI (l : List Int) : List Int := l.mergeSort fun x y => decide (x ≤ y)
theorem sortI_perm (l : List Int) : (sortI l).Perm l := List.mergeSort_perm _ _
theorem sortI_len (l : List Int) : (sortI l).length = l.length := (sortI_perm l).length_eq
theorem sortI_sorted (l : List Int) : (sortI l).Pairwise (· ≤ ·) := by
  have := List.pairwise_mergeSort (le := fun x y : Int => decide (x ≤ y)) (fun a b c h1 h2 => by simp at *; omega) (fun a b => by simp; omega) l
  exact this.imp (fun h => by simpa using h)
/-- The place of a rank. -/
def rankK (n num den : Nat) : Nat := n / den * num + (n % den * num + den - 1) / den
def rankI (n num den : Nat) : Nat := max (rankK n num den) 1 - 1
def rankV (l : List Int) (num den : Nat) : Int := (sortI l).getD (rankI l.length num den) 0
theorem rankK_bounds (n num den : Nat) (hd : 0 < den) : num * n ≤ rankK n num den * den ∧ rankK n num den * den < num * n + den := by
  have h1 : num * n = den * (n / den * num) + n % den * num := by
    have h := Nat.div_add_mod n den
    have h2 : num * n = (den * (n / den) + n % den) * num := by rw [h, Nat.mul_comm]
    rw [h2, Nat.add_mul, Nat.mul_assoc]
  have h2 : (n % den * num + den - 1) / den * den ≤ n % den * num + den - 1 := Nat.div_mul_le_self _ _
  have h3 : n % den * num + den - 1 < ((n % den * num + den - 1) / den + 1) * den := by
    have := Nat.lt_mul_div_succ (n % den * num + den - 1) hd
    rw [Nat.mul_comm _ den]; exact this
  unfold rankK
  rw [Nat.add_mul, Nat.mul_comm (n / den * num) den]
  rw [Nat.add_mul, Nat.one_mul] at h3
  generalize (n % den * num + den - 1) / den * den = A at *
  generalize den * (n / den * num) = B at *
  generalize n % den * num = C at *
  omega
theorem rankI_lt (n num den : Nat) (hn : 0 < n) (hd : 0 < den) (hnd : num ≤ den) : rankI n num den < n := by
  obtain ⟨h1, h2⟩ := rankK_bounds n num den hd
  have h3 : num * n ≤ den * n := Nat.mul_le_mul_right n hnd
  have h4 : rankK n num den < n + 1 := by
    apply Nat.lt_of_mul_lt_mul_right (a := den)
    rw [Nat.add_mul, Nat.one_mul, Nat.mul_comm n den]
    omega
  unfold rankI; omega
theorem sorted_le {l : List Int} (h : l.Pairwise (· ≤ ·)) (i j : Nat) (hij : i ≤ j) (hj : j < l.length) : l[i] ≤ l[j] := by
  rcases Nat.lt_or_ge i j with h1 | h1
  · exact (List.pairwise_iff_getElem.mp h) i j (by omega) hj h1
  · have : i = j := by omega
    subst this; exact Int.le_refl _
theorem count_below {l : List Int} (h : l.Pairwise (· ≤ ·)) (i : Nat) (hi : i < l.length) : i + 1 ≤ l.countP (fun x => decide (x ≤ l[i])) := by
  have e : l.countP (fun x => decide (x ≤ l[i])) = (l.take (i + 1)).countP (fun x => decide (x ≤ l[i])) + (l.drop (i + 1)).countP (fun x => decide (x ≤ l[i])) := by
    rw [← List.countP_append, List.take_append_drop]
  have h1 : (l.take (i + 1)).countP (fun x => decide (x ≤ l[i])) = (l.take (i + 1)).length := by
    rw [List.countP_eq_length]
    intro x hx
    obtain ⟨j, hj, rfl⟩ := List.getElem_of_mem hx
    rw [List.length_take] at hj
    rw [List.getElem_take, decide_eq_true_iff]
    exact sorted_le h j i (by omega) hi
  rw [e, h1, List.length_take]; omega
theorem count_above {l : List Int} (h : l.Pairwise (· ≤ ·)) (i : Nat) (hi : i < l.length) : l.length - i ≤ l.countP (fun x => decide (l[i] ≤ x)) := by
  have e : l.countP (fun x => decide (l[i] ≤ x)) = (l.take i).countP (fun x => decide (l[i] ≤ x)) + (l.drop i).countP (fun x => decide (l[i] ≤ x)) := by
    rw [← List.countP_append, List.take_append_drop]
  have h1 : (l.drop i).countP (fun x => decide (l[i] ≤ x)) = (l.drop i).length := by
    rw [List.countP_eq_length]
    intro x hx
    obtain ⟨j, hj, rfl⟩ := List.getElem_of_mem hx
    rw [List.length_drop] at hj
    rw [List.getElem_drop, decide_eq_true_iff]
    exact sorted_le h i (i + j) (by omega) (by omega)
  rw [e, h1, List.length_drop]; omega
/-- So many of the samples are not above the one that is told, and so many not below; it is one of them. -/
theorem rank_law (l : List Int) (num den : Nat) (hl : l ≠ []) (hd : 0 < den) (hnd : num ≤ den) :
    num * l.length ≤ l.countP (fun x => decide (x ≤ rankV l num den)) * den ∧ (den - num) * l.length ≤ l.countP (fun x => decide (rankV l num den ≤ x)) * den ∧ rankV l num den ∈ l := by
  have hn : 0 < l.length := List.length_pos_iff.mpr hl
  have hi := rankI_lt l.length num den hn hd hnd
  have hi' : rankI l.length num den < (sortI l).length := by rw [sortI_len]; exact hi
  have hv : rankV l num den = (sortI l)[rankI l.length num den] := by
    unfold rankV; rw [List.getD_eq_getElem?_getD, List.getElem?_eq_getElem hi']; rfl
  obtain ⟨k1, k2⟩ := rankK_bounds l.length num den hd
  have hb := count_below (sortI_sorted l) _ hi'
  have ha := count_above (sortI_sorted l) _ hi'
  rw [← hv, (sortI_perm l).countP_eq] at hb ha
  rw [sortI_len] at ha
  refine ⟨?_, ?_, ?_⟩
  · have h1 : rankK l.length num den ≤ l.countP (fun x => decide (x ≤ rankV l num den)) := by unfold rankI at hb; omega
    exact Nat.le_trans k1 (Nat.mul_le_mul_right den h1)
  · have h2 : (l.length - rankI l.length num den) * den ≤ l.countP (fun x => decide (rankV l num den ≤ x)) * den := Nat.mul_le_mul_right den ha
    refine Nat.le_trans ?_ h2
    rw [Nat.sub_mul, Nat.sub_mul, Nat.mul_comm den l.length]
    apply Nat.sub_le_sub_left
    unfold rankI
    rcases Nat.eq_zero_or_pos (rankK l.length num den) with h0 | h0
    · rw [h0]; simp
    · rw [show max (rankK l.length num den) 1 - 1 = rankK l.length num den - 1 by omega, Nat.sub_mul, Nat.one_mul]; omega
  · rw [hv]; exact (sortI_perm l).mem_iff.mp (List.getElem_mem _)
theorem rank_least (l : List Int) (x : Int) (hx : x ∈ l) : rankV l 0 1 ≤ x := by
  have hn : 0 < l.length := List.length_pos_of_mem hx
  have hm := (sortI_perm l).mem_iff.mpr hx
  obtain ⟨j, hj, rfl⟩ := List.getElem_of_mem hm
  have h0 : rankI l.length 0 1 = 0 := by unfold rankI rankK; simp
  unfold rankV
  rw [h0, List.getD_eq_getElem?_getD, List.getElem?_eq_getElem (by rw [sortI_len]; exact hn)]
  exact sorted_le (sortI_sorted l) 0 j (by omega) hj
theorem rank_greatest (l : List Int) (x : Int) (hx : x ∈ l) : x ≤ rankV l 1 1 := by
  have hn : 0 < l.length := List.length_pos_of_mem hx
  have hm := (sortI_perm l).mem_iff.mpr hx
  obtain ⟨j, hj, rfl⟩ := List.getElem_of_mem hm
  have h0 : rankI l.length 1 1 = l.length - 1 := by unfold rankI rankK; simp [Nat.mod_one]; omega
  unfold rankV
  rw [h0, List.getD_eq_getElem?_getD, List.getElem?_eq_getElem (by rw [sortI_len]; omega)]
  rw [sortI_len] at hj
  exact sorted_le (sortI_sorted l) j (l.length - 1) (by omega) (by rw [sortI_len]; omega)
end Go.Proofs.Ytpgflnjpohmldaa
