import Derived.Test.YtegplajddhiejaaGreatMgLoneMake6
set_option linter.unusedVariables false
namespace Go.Proofs.YtegplajddhiejaaGreat
/-! What a key may have behind a cut of the power: plain (Sp5, Sp8 without the law of chapter 12). -/
theorem find_none_of {k : ByteArray} {l : List Rec} (h : ∀ y ∈ l, y.1 ≠ k) : findL k l = none := by
  unfold findL
  rw [List.find?_eq_none]
  intro x hx
  simpa using h x hx
theorem find_do {key : ByteArray} {l : List Rec} (hs : Sorted l) (p : Wr) : findL key (doW l p) = if p.key = key then (if p.cut then none else some (p.key, p.data)) else findL key l := by
  have hs2 := sorted_do (w := p) hs
  by_cases hk : p.key = key
  · rw [if_pos hk]
    cases hc : p.cut
    · simp only [Bool.false_eq_true, if_false]
      refine find_of_mem hs2 ?_ hk
      unfold doW
      rw [hc]
      exact mem_ins.2 (.inl rfl)
    · simp only [if_true]
      refine find_none_of fun y hy => ?_
      unfold doW at hy
      rw [hc] at hy
      have h := (mem_cut.1 hy).2
      rwa [hk] at h
  · rw [if_neg hk]
    cases hf : findL key l with
    | none =>
      refine find_none_of fun y hy => ?_
      unfold doW at hy
      split at hy
      · exact find_none hf y (mem_cut.1 hy).1
      · rcases mem_ins.1 hy with rfl | hy
        · exact hk
        · exact find_none hf y (mem_cut.1 hy).1
    | some r =>
      have hr := find_some hf
      have hm : r ∈ cutL p.key l := mem_cut.2 ⟨hr.1, by rw [hr.2]; exact fun e => hk e.symm⟩
      refine find_of_mem hs2 ?_ hr.2
      unfold doW
      split
      · exact hm
      · exact mem_ins.2 (.inr hm)
theorem find_fold {key : ByteArray} : ∀ (ps : List Wr) {l : List Rec}, Sorted l → (∀ p ∈ ps, p.key ≠ key) → findL key (ps.foldl doW l) = findL key l
  | [], _, _, _ => rfl
  | p :: ps, l, hs, h => by
    rw [List.foldl_cons, find_fold ps (sorted_do hs) (fun q hq => h q (by simp [hq])), find_do hs, if_neg (h p (by simp))]
theorem find_crash {key : ByteArray} (keep : ByteArray) : ∀ (ps : List Wr) (i : Nat) {l : List Rec}, Sorted l → (∀ p ∈ ps, p.key ≠ key) → findL key (crashL keep ps i l) = findL key l
  | [], _, _, _, _ => rfl
  | p :: ps, i, l, hs, h => by
    unfold crashL
    split
    · rw [find_crash keep ps (i + 1) (sorted_do hs) (fun q hq => h q (by simp [hq])), find_do hs, if_neg (h p (by simp))]
    · rw [find_crash keep ps (i + 1) hs (fun q hq => h q (by simp [hq]))]
/-- What was synced is there, and no pending write is to its key. -/
structure Has (key data : ByteArray) (x : Fld) : Prop where
  dur : findL key x.dur = some (key, data)
  pend : ∀ p ∈ x.pend, p.key ≠ key
theorem Has.now {K : Nat} {key data : ByteArray} {x : Fld} (h : Has key data x) (hf : Fine K x) : findL key x.now = some (key, data) := by
  rw [hf.now, find_fold _ hf.sd h.pend, h.dur]
theorem struck_is (x : Fld) : x.struck.pend = x.pend ∧ x.struck.dur = x.dur ∧ x.struck.now = x.now ∧ x.struck.room = x.room ∧ x.struck.used = x.used ∧ x.struck.age = x.age := by unfold Fld.struck; split <;> exact ⟨rfl, rfl, rfl, rfl, rfl, rfl⟩
def seenL (key : ByteArray) (l : List Rec) : Bool × ByteArray := match findL key l with | some r => (true, r.2) | none => (false, ⟨#[]⟩)
def seenW (p : Wr) : Bool × ByteArray := if p.cut then (false, ⟨#[]⟩) else (true, p.data)
theorem seen_do {key : ByteArray} {l : List Rec} (hs : Sorted l) (p : Wr) : seenL key (doW l p) = if p.key = key then seenW p else seenL key l := by
  unfold seenL
  rw [find_do hs]
  by_cases hk : p.key = key
  · rw [if_pos hk, if_pos hk]
    unfold seenW
    cases p.cut <;> rfl
  · rw [if_neg hk, if_neg hk]
/-- What the law's list holds: what is durable, then each pending write to the key. -/
def canZ (key : ByteArray) (x : Fld) : List (Bool × ByteArray) := seenL key x.dur :: (x.pend.filter fun p => decide (p.key = key)).map seenW
theorem can_ne (key : ByteArray) (x : Fld) : canZ key x ≠ [] := by unfold canZ; simp
theorem seen_crash {key : ByteArray} (keep : ByteArray) : ∀ (ps : List Wr) (i : Nat) {l : List Rec}, Sorted l → seenL key (crashL keep ps i l) ∈ seenL key l :: (ps.filter fun p => decide (p.key = key)).map seenW
  | [], _, l, _ => by simp [crashL]
  | p :: ps, i, l, hs => by
    unfold crashL
    split
    · have h := seen_crash (key := key) keep ps (i + 1) (sorted_do (w := p) hs)
      rw [seen_do hs] at h
      by_cases hk : p.key = key
      · rw [if_pos hk] at h
        rw [List.filter_cons, if_pos (by simpa using hk), List.map_cons]
        exact List.mem_cons_of_mem _ h
      · rw [if_neg hk] at h
        rw [List.filter_cons, if_neg (by simpa using hk)]
        exact h
    · have h := seen_crash (key := key) keep ps (i + 1) hs
      rw [List.filter_cons]
      rcases List.mem_cons.1 h with h | h
      · rw [h]; exact List.mem_cons_self
      · split
        · exact List.mem_cons_of_mem _ (by rw [List.map_cons]; exact List.mem_cons_of_mem _ h)
        · exact List.mem_cons_of_mem _ h
theorem surv_one (i : Nat) : survB ⟨#[1]⟩ i = true := by
  unfold survB
  have : i % (⟨#[1]⟩ : ByteArray).size = 0 := by show i % 1 = 0; omega
  rw [this]; rfl
theorem crash_all : ∀ (ps : List Wr) (i : Nat) (l : List Rec), crashL ⟨#[1]⟩ ps i l = ps.foldl doW l
  | [], _, _ => rfl
  | p :: ps, i, l => by
    unfold crashL
    rw [surv_one]
    simp only [if_true, List.foldl_cons]
    exact crash_all ps (i + 1) (doW l p)
theorem seen_fold {key : ByteArray} : ∀ (ps : List Wr) {l : List Rec}, Sorted l → seenL key (ps.foldl doW l) = ((ps.filter fun p => decide (p.key = key)).map seenW).getLast?.getD (seenL key l)
  | [], l, _ => rfl
  | p :: ps, l, hs => by
    rw [List.foldl_cons, seen_fold ps (sorted_do hs), seen_do hs, List.filter_cons]
    by_cases hk : p.key = key
    · rw [if_pos hk, if_pos (by simpa using hk), List.map_cons]
      cases h : (ps.filter fun p => decide (p.key = key)).map seenW with
      | nil => rfl
      | cons a r => simp [List.getLast?_cons]
    · rw [if_neg hk, if_neg (by simpa using hk)]
theorem see_now {K : Nat} {x : Fld} (hf : Fine K x) (h : x.off = false) (key : ByteArray) : (decide ((getZ x key).2 = 0), (getZ x key).1) = seenL key x.now := by
  unfold getZ seenL
  rw [if_neg (by rw [h]; simp)]
  by_cases hk : keyedB key = false
  · rw [if_pos hk]
    have : findL key x.now = none := find_none_of fun y hy e => by
      have h1 := hf.fn y hy
      have : keyedB key = true := by rw [← e]; exact decide_eq_true ⟨h1.1, h1.2.1⟩
      rw [hk] at this; cases this
    rw [this]; rfl
  · rw [if_neg hk]
    cases findL key x.now <;> rfl
theorem last_cons {α : Type} : ∀ (l : List α) (a : α) (h : a :: l ≠ []), (a :: l).getLast h = l.getLast?.getD a
  | [], a, _ => rfl
  | b :: r, a, h => by
    have ih := last_cons r b (List.cons_ne_nil b r)
    rw [List.getLast_cons (List.cons_ne_nil b r), ih, List.getLast?_cons]
    rfl
theorem can_last {K : Nat} {x : Fld} (hf : Fine K x) (key : ByteArray) : (canZ key x).getLast (can_ne key x) = seenL key x.now := by
  rw [hf.now, seen_fold _ hf.sd]
  exact last_cons _ _ _
theorem can_wrote (key : ByteArray) (x : Fld) (p : Wr) (u : Int) : canZ key (x.wrote p u) = if p.key = key then canZ key x ++ [seenW p] else canZ key x := by
  unfold Fld.wrote canZ
  obtain ⟨s1, s2, _⟩ := struck_is { x with now := doW x.now p, pend := x.pend ++ [p], used := u }
  rw [s1, s2, List.filter_append, List.map_append]
  by_cases hk : p.key = key
  · rw [if_pos hk]
    simp [hk]
  · rw [if_neg hk]
    simp [hk]
theorem can_len {K : Nat} {x : Fld} (h : Fine K x) (key : ByteArray) : (canZ key x).length ≤ K + 1 := by
  have h1 := h.len
  have h2 := List.length_filter_le (fun p : Wr => decide (p.key = key)) x.pend
  unfold canZ
  simp only [List.length_cons, List.length_map]
  omega
/-- A Put that has room. -/
theorem put_room {K : Nat} {x : Fld} (hf : Fine K x) {k d : ByteArray} (ho : x.off = false) (hl : x.left = 0) (hk : keyedB k = true) (hd : d.size ≤ 1048576) (hr : (K + 1) * 1048656 ≤ x.room) :
    (putZ x k d).1 = 0 ∧ (putZ x k d).2.off = false ∧ (putZ x k d).2.left = 0 ∧ (putZ x k d).2.room = x.room ∧ (∀ key, canZ key (putZ x k d).2 = if k = key then canZ key x ++ [(true, d)] else canZ key x) ∧ (putZ x k d).2.now = doW x.now ⟨k, d, false⟩ := by
  have hu := hf.used_le
  have ht : thenZ x k d ≤ x.used + 1048656 := by
    unfold thenZ costR
    have := (of_decide_eq_true hk).2
    simp only
    omega
  have hz : putZ x k d = (endZ x, x.wrote ⟨k, d, false⟩ (thenZ x k d)) := by
    unfold putZ
    rw [if_neg (by rw [ho]; simp), if_neg (by rw [hk]; simp), if_neg (by omega), if_neg (by omega)]
  rw [hz]
  have he : endZ x = 0 := by unfold endZ strikesB; rw [hl]; rfl
  have hst : ∀ y : Fld, y.left = 0 → y.struck = y := fun y h => by unfold Fld.struck; rw [if_pos h]
  have hw : x.wrote ⟨k, d, false⟩ (thenZ x k d) = { x with now := doW x.now ⟨k, d, false⟩, pend := x.pend ++ [⟨k, d, false⟩], used := thenZ x k d } := by
    unfold Fld.wrote
    exact hst _ hl
  refine ⟨he, by rw [hw]; exact ho, by rw [hw]; exact hl, by rw [hw], fun key => ?_, by rw [hw]⟩
  rw [can_wrote]
  rfl
end Go.Proofs.YtegplajddhiejaaGreat
