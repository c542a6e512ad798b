import Derived.Test.YtpddnbkmiogheaaLd2
set_option linter.unusedVariables false
namespace Go.Proofs.Ytpddnbkmiogheaa
/-! What a key has, behind writes: plain. -/
theorem find_none_of {k : ByteArray} {l : List Rec} (h : ∀ y ∈ l, y.1 ≠ k) : findL k l = none := by
  unfold findL
  rw [List.find?_eq_none]
  intro x hx
  simpa using h x hx
theorem find_do {key : ByteArray} {l : List Rec} (hs : Sorted l) (p : Wr) : findL key (doW l p) = if p.key = key then (if p.cut then none else some (p.key, p.data)) else findL key l := by
  have hs2 := sorted_do (w := p) hs
  by_cases hk : p.key = key
  · rw [if_pos hk]
    cases hc : p.cut
    · simp only [Bool.false_eq_true, if_false]
      refine find_of_mem hs2 ?_ hk
      unfold doW
      rw [hc]
      exact mem_ins.2 (.inl rfl)
    · simp only [if_true]
      refine find_none_of fun y hy => ?_
      unfold doW at hy
      rw [hc] at hy
      have h := (mem_cut.1 hy).2
      rwa [hk] at h
  · rw [if_neg hk]
    cases hf : findL key l with
    | none =>
      refine find_none_of fun y hy => ?_
      unfold doW at hy
      split at hy
      · exact find_none hf y (mem_cut.1 hy).1
      · rcases mem_ins.1 hy with rfl | hy
        · exact hk
        · exact find_none hf y (mem_cut.1 hy).1
    | some r =>
      have hr := find_some hf
      have hm : r ∈ cutL p.key l := mem_cut.2 ⟨hr.1, by rw [hr.2]; exact fun e => hk e.symm⟩
      refine find_of_mem hs2 ?_ hr.2
      unfold doW
      split
      · exact hm
      · exact mem_ins.2 (.inr hm)
theorem find_fold {key : ByteArray} : ∀ (ps : List Wr) {l : List Rec}, Sorted l → (∀ p ∈ ps, p.key ≠ key) → findL key (ps.foldl doW l) = findL key l
  | [], _, _, _ => rfl
  | p :: ps, l, hs, h => by
    rw [List.foldl_cons, find_fold ps (sorted_do hs) (fun q hq => h q (by simp [hq])), find_do hs, if_neg (h p (by simp))]
theorem find_crash {key : ByteArray} (keep : ByteArray) : ∀ (ps : List Wr) (i : Nat) {l : List Rec}, Sorted l → (∀ p ∈ ps, p.key ≠ key) → findL key (crashL keep ps i l) = findL key l
  | [], _, _, _, _ => rfl
  | p :: ps, i, l, hs, h => by
    unfold crashL
    split
    · rw [find_crash keep ps (i + 1) (sorted_do hs) (fun q hq => h q (by simp [hq])), find_do hs, if_neg (h p (by simp))]
    · rw [find_crash keep ps (i + 1) hs (fun q hq => h q (by simp [hq]))]
/-- What was synced is there, and no pending write is to its key. -/
structure Has (key data : ByteArray) (x : Fld) : Prop where
  dur : findL key x.dur = some (key, data)
  pend : ∀ p ∈ x.pend, p.key ≠ key
theorem Has.now {K : Nat} {key data : ByteArray} {x : Fld} (h : Has key data x) (hf : Fine K x) : findL key x.now = some (key, data) := by
  rw [hf.now, find_fold _ hf.sd h.pend, h.dur]
theorem struck_is (x : Fld) : x.struck.pend = x.pend ∧ x.struck.dur = x.dur ∧ x.struck.now = x.now ∧ x.struck.room = x.room ∧ x.struck.used = x.used ∧ x.struck.age = x.age := by unfold Fld.struck; split <;> exact ⟨rfl, rfl, rfl, rfl, rfl, rfl⟩
theorem Has.wrote {key data : ByteArray} {x : Fld} (h : Has key data x) (p : Wr) (hp : p.key ≠ key) (u : Int) : Has key data (x.wrote p u) := by
  unfold Fld.wrote
  obtain ⟨s1, s2, _⟩ := struck_is { x with now := doW x.now p, pend := x.pend ++ [p], used := u }
  refine ⟨by rw [s2]; exact h.dur, by rw [s1]; intro q hq; rcases List.mem_append.1 hq with hq | hq; exact h.pend q hq; simp at hq; subst hq; exact hp⟩
theorem Has.do {K : Nat} {key data : ByteArray} {x : Fld} (h : Has key data x) (hf : Fine K x) (o : OpZ) (ho : ¬ ((o.kind = 1 ∨ o.kind = 2) ∧ o.key = key)) : Has key data (doZ x o).2 := by
  unfold doZ
  split
  · rename_i hk
    have hne : o.key ≠ key := fun e => ho ⟨.inl hk, e⟩
    simp only
    unfold putZ
    split; exact h
    split; exact h
    split; exact h
    split; exact h
    exact h.wrote _ hne _
  split
  · rename_i hk
    have hne : o.key ≠ key := fun e => ho ⟨.inr hk, e⟩
    simp only
    unfold cutZ
    split; exact h
    split; exact h
    split; exact h
    exact h.wrote _ hne _
  split
  · simp only
    unfold syncZ
    obtain ⟨s1, s2, _⟩ := struck_is x
    split; exact h
    split; exact ⟨by rw [s2]; exact h.dur, by rw [s1]; exact h.pend⟩
    refine ⟨?_, fun p hp => (by cases hp)⟩
    show findL key (x.pend.foldl doW x.dur) = _
    rw [find_fold _ hf.sd h.pend, h.dur]
  split
  · simp only
    unfold armZ
    split; exact h
    exact ⟨h.dur, h.pend⟩
  split
  · refine ⟨?_, fun p hp => (by cases hp)⟩
    show findL key (crashL o.data x.pend 0 x.dur) = _
    rw [find_crash _ _ _ hf.sd h.pend, h.dur]
  split; exact h
  split; exact h
  split; exact h
  split; exact h
  exact h
theorem Has.keyed {K : Nat} {key data : ByteArray} {x : Fld} (h : Has key data x) (hf : Fine K x) : keyedB key = true := by
  have hm := (find_some h.dur).1
  have hfi := hf.fd _ hm
  exact decide_eq_true ⟨hfi.1, hfi.2.1⟩
theorem Has.get {K : Nat} {key data : ByteArray} {x : Fld} (h : Has key data x) (hf : Fine K x) : getZ x key = if x.off then (⟨#[]⟩, 124) else (data, 0) := by
  unfold getZ
  split
  · rfl
  · rw [if_neg (by rw [h.keyed hf]; simp), h.now hf]
theorem Has.crash {K : Nat} {key data : ByteArray} {x : Fld} (h : Has key data x) (hf : Fine K x) (keep : ByteArray) : Has key data (crashZ x keep) := by
  refine ⟨?_, fun p hp => (by cases hp)⟩
  show findL key (crashL keep x.pend 0 x.dur) = _
  rw [find_crash _ _ _ hf.sd h.pend, h.dur]
/-- A put and a sync on a quiet store. -/
theorem put_sync {K : Nat} {key data : ByteArray} {x : Fld} (hf : Fine K x) (h0 : x.off = false) (h1 : x.left = 0) (h2 : x.pend = []) (he : (putZ x key data).1 = 0) :
    (syncZ (putZ x key data).2).1 = 0 ∧ Has key data (syncZ (putZ x key data).2).2 := by
  unfold putZ at he ⊢
  rw [if_neg (by rw [h0]; simp)] at he ⊢
  split at he
  · cases he
  · rename_i hk
    rw [if_neg hk]
    split at he
    · cases he
    · rename_i hd
      rw [if_neg hd]
      split at he
      · cases he
      · rename_i hr
        rw [if_neg hr]
        simp only
        have e1 : x.wrote ⟨key, data, false⟩ (thenZ x key data) = { x with now := doW x.now ⟨key, data, false⟩, pend := [⟨key, data, false⟩], used := thenZ x key data } := by
          unfold Fld.wrote Fld.struck
          rw [if_pos h1, h2]; rfl
        rw [e1]
        unfold syncZ
        rw [if_neg (by simp [h0]), if_neg (by simp [strikesB, h1])]
        refine ⟨rfl, ?_, fun p hp => (by cases hp)⟩
        show findL key (doW x.dur ⟨key, data, false⟩) = _
        rw [find_do hf.sd, if_pos rfl]
        rfl
end Go.Proofs.Ytpddnbkmiogheaa
