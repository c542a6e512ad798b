import Derived.Test.YtegplajddhiejaaGreatRg5
set_option linter.unusedVariables false
set_option linter.unusedSimpArgs false
namespace Go.Proofs.YtegplajddhiejaaGreat
/-! How much a store may hold behind so many steps: plain. A wipe is many writes, but it takes out no more than was put in. -/
def putsN (l : List Wr) : Nat := (l.filter fun p => !p.cut).length
def cutsN (l : List Wr) : Nat := (l.filter fun p => p.cut).length
theorem puts_cuts : ∀ l : List Wr, putsN l + cutsN l = l.length
  | [] => rfl
  | p :: l => by
    have ih := puts_cuts l
    unfold putsN cutsN at *
    rw [List.filter_cons, List.filter_cons]
    cases p.cut <;> simp <;> omega
theorem puts_snoc (l : List Wr) (p : Wr) : putsN (l ++ [p]) = putsN l + if p.cut then 0 else 1 := by
  unfold putsN
  rw [List.filter_append, List.length_append, List.filter_cons, List.filter_nil]
  cases p.cut <;> rfl
theorem cuts_snoc (l : List Wr) (p : Wr) : cutsN (l ++ [p]) = cutsN l + if p.cut then 1 else 0 := by
  unfold cutsN
  rw [List.filter_append, List.length_append, List.filter_cons, List.filter_nil]
  cases p.cut <;> rfl
theorem do_len2 (p : Wr) (l : List Rec) : (doW l p).length ≤ l.length + if p.cut then 0 else 1 := by
  unfold doW
  cases hc : p.cut
  · simp only [Bool.false_eq_true, if_false]
    unfold putL
    rw [len_ins]
    have := len_cut p.key l
    omega
  · simp only [if_true]
    exact len_cut _ _
theorem puts_cons (p : Wr) (l : List Wr) : putsN (p :: l) = putsN l + if p.cut then 0 else 1 := by
  unfold putsN
  rw [List.filter_cons]
  cases p.cut <;> simp
theorem fold_len2 : ∀ (ps : List Wr) (l : List Rec), (ps.foldl doW l).length ≤ l.length + putsN ps
  | [], l => by simp [putsN]
  | p :: ps, l => by
    have h1 := fold_len2 ps (doW l p)
    have h2 := do_len2 p l
    have h3 := puts_cons p ps
    simp only [List.foldl_cons]
    omega
theorem crash_len2 (keep : ByteArray) : ∀ (ps : List Wr) (i : Nat) (l : List Rec), (crashL keep ps i l).length ≤ l.length + putsN ps
  | [], _, l => by simp [crashL, putsN]
  | p :: ps, i, l => by
    unfold crashL
    have h1 := crash_len2 keep ps (i + 1) (if survB keep i then doW l p else l)
    have h2 := do_len2 p l
    have h3 := puts_cons p ps
    have h4 : (if survB keep i then doW l p else l).length ≤ l.length + if p.cut then 0 else 1 := by split <;> omega
    omega
structure Tidy (J : Nat) (x : Fld) : Prop where
  fine : Fine (2 * J) x
  d : x.dur.length + putsN x.pend ≤ J
  c : cutsN x.pend + x.now.length ≤ x.dur.length + putsN x.pend
theorem Fine.relen {K K' : Nat} {x : Fld} (h : Fine K x) (hl : x.dur.length + x.pend.length ≤ K') (ha : x.age ≤ K') : Fine K' x := ⟨h.fd, h.fp, h.sd, hl, h.now, h.used, h.room, h.left, ⟨h.age.1, ha⟩⟩
theorem Tidy.of {J K : Nat} {x : Fld} (h : Fine K x) (ha : x.age ≤ (2 * J : Nat)) (d : x.dur.length + putsN x.pend ≤ J) (c : cutsN x.pend + x.now.length ≤ x.dur.length + putsN x.pend) : Tidy J x := by
  have h1 := puts_cuts x.pend
  exact ⟨h.relen (by omega) ha, d, c⟩
theorem Tidy.mono {J J' : Nat} {x : Fld} (h : Tidy J x) (hJ : J ≤ J') : Tidy J' x := ⟨h.fine.mono (by omega), by have := h.d; omega, h.c⟩
theorem tidy_new {c : Int} (h : goesB c = true) : Tidy 0 (newF c) := ⟨newF_fine h, by simp [newF, putsN], by simp [newF, putsN, cutsN]⟩
theorem wrote_is (x : Fld) (p : Wr) (u : Int) : (x.wrote p u).dur = x.dur ∧ (x.wrote p u).pend = x.pend ++ [p] ∧ (x.wrote p u).now = doW x.now p ∧ (x.wrote p u).age = x.age := by
  unfold Fld.wrote
  obtain ⟨s1, s2, s3, _, _, s6⟩ := struck_is { x with now := doW x.now p, pend := x.pend ++ [p], used := u }
  exact ⟨s2, s1, s3, s6⟩
theorem put_tidy {J : Nat} {x : Fld} (h : Tidy J x) (k d : ByteArray) : Tidy (J + 1) (putZ x k d).2 := by
  have hf := put_fine h.fine k d
  have hd := h.d
  have hc := h.c
  have ha := h.fine.age.2
  have main : putZ x k d = (endZ x, x.wrote ⟨k, d, false⟩ (thenZ x k d)) → Tidy (J + 1) (putZ x k d).2 := by
    intro e
    rw [e] at hf ⊢
    obtain ⟨w1, w2, w3, w4⟩ := wrote_is x ⟨k, d, false⟩ (thenZ x k d)
    refine Tidy.of hf ?_ ?_ ?_
    · rw [w4]; omega
    · rw [w1, w2, puts_snoc]; simp only [Bool.false_eq_true, if_false]; omega
    · rw [w1, w2, w3, puts_snoc, cuts_snoc]
      have := do_len2 ⟨k, d, false⟩ x.now
      simp only [Bool.false_eq_true, if_false] at this ⊢
      omega
  have same : putZ x k d = putZ x k d → ∀ e, putZ x k d = (e, x) → Tidy (J + 1) (putZ x k d).2 := fun _ e he => by rw [he]; exact h.mono (by omega)
  by_cases c1 : x.off = true
  · exact same rfl 124 (by unfold putZ; rw [if_pos c1])
  · by_cases c2 : keyedB k = false
    · exact same rfl 120 (by unfold putZ; rw [if_neg c1, if_pos c2])
    · by_cases c3 : 1048576 < d.size
      · exact same rfl 121 (by unfold putZ; rw [if_neg c1, if_neg c2, if_pos c3])
      · by_cases c4 : x.room < thenZ x k d ∧ x.used < thenZ x k d
        · exact same rfl 122 (by unfold putZ; rw [if_neg c1, if_neg c2, if_neg c3, if_pos c4])
        · exact main (by unfold putZ; rw [if_neg c1, if_neg c2, if_neg c3, if_neg c4])
theorem cut_len1 {k : ByteArray} {r : Rec} : ∀ {l : List Rec}, r ∈ l → r.1 = k → (cutL k l).length + 1 ≤ l.length
  | y :: l, hm, hk => by
    unfold cutL
    rw [List.filter_cons]
    rcases List.mem_cons.1 hm with rfl | hm
    · rw [if_neg (by simp [hk])]
      have := len_cut k l
      unfold cutL at this
      simp only [List.length_cons]; omega
    · have ih := cut_len1 hm hk
      unfold cutL at ih
      split
      · simp only [List.length_cons]; omega
      · simp only [List.length_cons]; omega
theorem cut_tidy {J : Nat} {x : Fld} (h : Tidy J x) (k : ByteArray) : Tidy J (cutZ x k).2 := by
  have hf := cut_fine h.fine k
  have hd := h.d
  have hc := h.c
  have ha := h.fine.age.2
  by_cases c1 : x.off = true
  · rw [show cutZ x k = (124, x) by unfold cutZ; rw [if_pos c1]]; exact h
  · by_cases c2 : keyedB k = false
    · rw [show cutZ x k = (120, x) by unfold cutZ; rw [if_neg c1, if_pos c2]]; exact h
    · cases hfd : findL k x.now with
      | none => rw [show cutZ x k = (123, x) by unfold cutZ; rw [if_neg c1, if_neg c2, hfd]]; exact h
      | some r =>
        have e : cutZ x k = (endZ x, x.wrote ⟨k, ⟨#[]⟩, true⟩ (x.used - (costR r : Nat))) := by unfold cutZ; rw [if_neg c1, if_neg c2, hfd]
        rw [e] at hf ⊢
        obtain ⟨w1, w2, w3, w4⟩ := wrote_is x ⟨k, ⟨#[]⟩, true⟩ (x.used - (costR r : Nat))
        obtain ⟨hr, hk⟩ := find_some hfd
        refine Tidy.of hf ?_ ?_ ?_
        · rw [w4]; exact ha
        · rw [w1, w2, puts_snoc]; simp only [if_true]; omega
        · rw [w1, w2, w3, puts_snoc, cuts_snoc]
          have : (doW x.now ⟨k, ⟨#[]⟩, true⟩).length + 1 ≤ x.now.length := cut_len1 hr hk
          simp only [if_true]
          omega
theorem wipeL_tidy {J : Nat} : ∀ (ks : List ByteArray) {x : Fld}, Tidy J x → Tidy J (wipeL ks x).2
  | [], x, h => h
  | k :: ks, x, h => by
    unfold wipeL
    split
    · exact cut_tidy h k
    · exact wipeL_tidy ks (cut_tidy h k)
theorem wipeG_tidy {J : Nat} {x : Fld} (h : Tidy J x) (s : Int) : Tidy J (wipeG x s).2.2 := by
  have h1 := wipeL_tidy (keysZ x (prefZ s)) h
  unfold wipeG wipeZ
  split
  · exact h
  · split
    · exact h
    · split
      · exact h1
      · exact h1
theorem sync_tidy {J : Nat} {x : Fld} (h : Tidy J x) : Tidy J (syncZ x).2 := by
  have hf := sync_fine h.fine
  have hd := h.d
  have hc := h.c
  have ha := h.fine.age.2
  obtain ⟨s1, s2, s3, _, _, s6⟩ := struck_is x
  by_cases c1 : x.off = true
  · rw [show syncZ x = (124, x) by unfold syncZ; rw [if_pos c1]]; exact h
  · by_cases c2 : strikesB x.left = true
    · rw [show syncZ x = (124, x.struck) by unfold syncZ; rw [if_neg c1, if_pos c2]] at hf ⊢
      exact Tidy.of hf (by rw [s6]; exact ha) (by rw [s1, s2]; exact hd) (by rw [s1, s2, s3]; exact hc)
    · have e : syncZ x = (0, { x.struck with dur := x.pend.foldl doW x.dur, pend := [] }) := by unfold syncZ; rw [if_neg c1, if_neg c2]
      rw [e] at hf ⊢
      have hl := fold_len2 x.pend x.dur
      have hn : x.struck.now.length = (x.pend.foldl doW x.dur).length := by rw [s3, h.fine.now]
      refine Tidy.of hf (by show x.struck.age ≤ _; rw [s6]; exact ha) ?_ ?_
      · show (x.pend.foldl doW x.dur).length + 0 ≤ J
        omega
      · show 0 + x.struck.now.length ≤ (x.pend.foldl doW x.dur).length + 0
        omega
theorem arm_tidy {J : Nat} {x : Fld} (h : Tidy J x) (n : Int) (hn : n ≤ 9223372036854775807) : Tidy J (armZ x n) := by
  have hf := arm_fine h.fine n hn
  unfold armZ at hf ⊢
  split
  · exact h
  · rename_i c
    rw [if_neg c] at hf
    exact Tidy.of hf h.fine.age.2 h.d h.c
theorem crash_tidy {J : Nat} {x : Fld} (h : Tidy J x) (keep : ByteArray) : Tidy (J + 1) (crashZ x keep) := by
  have hf := crash_fine h.fine keep
  have hd := h.d
  have ha := h.fine.age.2
  have hl := crash_len2 keep x.pend 0 x.dur
  refine Tidy.of hf ?_ ?_ ?_
  · show x.age + 1 ≤ _
    omega
  · show (crashL keep x.pend 0 x.dur).length + 0 ≤ J + 1
    omega
  · show 0 + (crashL keep x.pend 0 x.dur).length ≤ (crashL keep x.pend 0 x.dur).length + 0
    omega
/-! What a step does to the fields. -/
end Go.Proofs.YtegplajddhiejaaGreat
