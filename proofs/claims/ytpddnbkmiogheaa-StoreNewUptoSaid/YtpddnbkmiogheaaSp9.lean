import Derived.Test.YtpddnbkmiogheaaSp8
set_option linter.unusedVariables false
namespace Go.Proofs.Ytpddnbkmiogheaa
theorem end_or (x : Fld) : endZ x = 0 ∨ endZ x = 124 := by
  unfold endZ
  split
  · exact .inr rfl
  · exact .inl rfl
theorem can_same (key : ByteArray) {x y : Fld} (h1 : y.dur = x.dur) (h2 : y.pend = x.pend) : canZ key y = canZ key x := by
  unfold canZ
  rw [h1, h2]
theorem can_step {K : Nat} {x : Fld} (hf : Fine K x) (key : ByteArray) (o : OpZ) :
    canZ key (doZ x o).2 = (if settledB o (doZ x o).1.e then [seenL key (doZ x o).2.now] else if wroteB key o x.off (doZ x o).1.e then canZ key x ++ [leftZ o] else canZ key x) ∧ (settledB o (doZ x o).1.e = true → (doZ x o).2.off = false) := by
  unfold doZ
  by_cases h1 : o.kind = 1
  · rw [if_pos h1]
    simp only
    have hs : ∀ e, settledB o e = false := fun e => by simp [settledB, h1]
    simp only [hs, Bool.false_eq_true, if_false, false_implies, and_true]
    unfold putZ
    by_cases ho : x.off = true
    · rw [if_pos ho]
      simp [wroteB, ho]
    rw [if_neg ho]
    have ho' : x.off = false := by simpa using ho
    by_cases hk : keyedB o.key = false
    · rw [if_pos hk]; simp [wroteB]
    rw [if_neg hk]
    by_cases hd : 1048576 < o.data.size
    · rw [if_pos hd]; simp [wroteB]
    rw [if_neg hd]
    by_cases hr : x.room < thenZ x o.key o.data ∧ x.used < thenZ x o.key o.data
    · rw [if_pos hr]; simp [wroteB]
    rw [if_neg hr]
    simp only
    rw [can_wrote]
    by_cases he : o.key = key
    · rw [if_pos he]
      rcases end_or x with e | e <;> simp [wroteB, h1, he, ho', e, seenW, leftZ]
    · rw [if_neg he]
      simp [wroteB, he]
  rw [if_neg h1]
  by_cases h2 : o.kind = 2
  · rw [if_pos h2]
    simp only
    have hs : ∀ e, settledB o e = false := fun e => by simp [settledB, h2]
    simp only [hs, Bool.false_eq_true, if_false, false_implies, and_true]
    unfold cutZ
    by_cases ho : x.off = true
    · rw [if_pos ho]
      simp [wroteB, ho]
    rw [if_neg ho]
    have ho' : x.off = false := by simpa using ho
    by_cases hk : keyedB o.key = false
    · rw [if_pos hk]; simp [wroteB]
    rw [if_neg hk]
    cases hfi : findL o.key x.now with
    | none => simp [wroteB]
    | some r =>
      simp only
      rw [can_wrote]
      by_cases he : o.key = key
      · rw [if_pos he]
        rcases end_or x with e | e <;> simp [wroteB, h2, he, ho', e, seenW, leftZ]
      · rw [if_neg he]
        simp [wroteB, he]
  rw [if_neg h2]
  have hw : ∀ e, wroteB key o x.off e = false := fun e => by simp [wroteB, h1, h2]
  simp only [hw, Bool.false_eq_true, if_false]
  obtain ⟨s1, s2, s3, _⟩ := struck_is x
  by_cases h3 : o.kind = 3
  · rw [if_pos h3]
    simp only
    unfold syncZ
    by_cases ho : x.off = true
    · rw [if_pos ho]; simp [settledB, h3]
    rw [if_neg ho]
    have ho' : x.off = false := by simpa using ho
    by_cases hst : strikesB x.left = true
    · rw [if_pos hst]
      simp only [settledB, h3]
      exact ⟨can_same key s2 s1, fun h => by simp at h⟩
    rw [if_neg hst]
    have hst' : x.left ≠ 1 := by simpa [strikesB] using hst
    refine ⟨?_, fun _ => ?_⟩
    · simp only [settledB, h3]
      show [seenL key (x.pend.foldl doW x.dur)] = [seenL key x.struck.now]
      rw [s3, hf.now]
    · show x.struck.off = false
      unfold Fld.struck
      split
      · exact ho'
      · simpa using hst'
  rw [if_neg h3]
  by_cases h4 : o.kind = 4
  · rw [if_pos h4]
    have hs : ∀ e, settledB o e = false := fun e => by simp [settledB, h4]
    simp only [hs, Bool.false_eq_true, if_false, false_implies, and_true]
    unfold armZ
    split <;> rfl
  rw [if_neg h4]
  by_cases h5 : o.kind = 5
  · rw [if_pos h5]
    have hs : ∀ e, settledB o e = true := fun e => by simp [settledB, h5]
    simp only [hs, if_true]
    exact ⟨rfl, fun _ => rfl⟩
  rw [if_neg h5]
  have hs : ∀ e, settledB o e = false := fun e => by simp [settledB, h3, h5]
  simp only [hs, Bool.false_eq_true, if_false, false_implies, and_true]
  split; rfl
  split; rfl
  split; rfl
  split; rfl
  rfl
end Go.Proofs.Ytpddnbkmiogheaa
