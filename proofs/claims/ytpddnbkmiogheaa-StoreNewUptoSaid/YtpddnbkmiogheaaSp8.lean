import Derived.Test.YtpddnbkmiogheaaSp5
set_option linter.unusedVariables false
namespace Go.Proofs.Ytpddnbkmiogheaa
/-! What a key may have behind a cut of the power: plain. -/
def seenL (key : ByteArray) (l : List Rec) : Bool × ByteArray := match findL key l with | some r => (true, r.2) | none => (false, ⟨#[]⟩)
def seenW (p : Wr) : Bool × ByteArray := if p.cut then (false, ⟨#[]⟩) else (true, p.data)
theorem seen_do {key : ByteArray} {l : List Rec} (hs : Sorted l) (p : Wr) : seenL key (doW l p) = if p.key = key then seenW p else seenL key l := by
  unfold seenL
  rw [find_do hs]
  by_cases hk : p.key = key
  · rw [if_pos hk, if_pos hk]
    unfold seenW
    cases p.cut <;> rfl
  · rw [if_neg hk, if_neg hk]
/-- What the law's list holds: what is durable, then each pending write to the key. -/
def canZ (key : ByteArray) (x : Fld) : List (Bool × ByteArray) := seenL key x.dur :: (x.pend.filter fun p => decide (p.key = key)).map seenW
theorem can_ne (key : ByteArray) (x : Fld) : canZ key x ≠ [] := by unfold canZ; simp
theorem seen_crash {key : ByteArray} (keep : ByteArray) : ∀ (ps : List Wr) (i : Nat) {l : List Rec}, Sorted l → seenL key (crashL keep ps i l) ∈ seenL key l :: (ps.filter fun p => decide (p.key = key)).map seenW
  | [], _, l, _ => by simp [crashL]
  | p :: ps, i, l, hs => by
    unfold crashL
    split
    · have h := seen_crash (key := key) keep ps (i + 1) (sorted_do (w := p) hs)
      rw [seen_do hs] at h
      by_cases hk : p.key = key
      · rw [if_pos hk] at h
        rw [List.filter_cons, if_pos (by simpa using hk), List.map_cons]
        exact List.mem_cons_of_mem _ h
      · rw [if_neg hk] at h
        rw [List.filter_cons, if_neg (by simpa using hk)]
        exact h
    · have h := seen_crash (key := key) keep ps (i + 1) hs
      rw [List.filter_cons]
      rcases List.mem_cons.1 h with h | h
      · rw [h]; exact List.mem_cons_self
      · split
        · exact List.mem_cons_of_mem _ (by rw [List.map_cons]; exact List.mem_cons_of_mem _ h)
        · exact List.mem_cons_of_mem _ h
theorem surv_one (i : Nat) : survB ⟨#[1]⟩ i = true := by
  unfold survB
  have : i % (⟨#[1]⟩ : ByteArray).size = 0 := by show i % 1 = 0; omega
  rw [this]; rfl
theorem crash_all : ∀ (ps : List Wr) (i : Nat) (l : List Rec), crashL ⟨#[1]⟩ ps i l = ps.foldl doW l
  | [], _, _ => rfl
  | p :: ps, i, l => by
    unfold crashL
    rw [surv_one]
    simp only [if_true, List.foldl_cons]
    exact crash_all ps (i + 1) (doW l p)
theorem seen_fold {key : ByteArray} : ∀ (ps : List Wr) {l : List Rec}, Sorted l → seenL key (ps.foldl doW l) = ((ps.filter fun p => decide (p.key = key)).map seenW).getLast?.getD (seenL key l)
  | [], l, _ => rfl
  | p :: ps, l, hs => by
    rw [List.foldl_cons, seen_fold ps (sorted_do hs), seen_do hs, List.filter_cons]
    by_cases hk : p.key = key
    · rw [if_pos hk, if_pos (by simpa using hk), List.map_cons]
      cases h : (ps.filter fun p => decide (p.key = key)).map seenW with
      | nil => rfl
      | cons a r => simp [List.getLast?_cons]
    · rw [if_neg hk, if_neg (by simpa using hk)]
theorem see_now {K : Nat} {x : Fld} (hf : Fine K x) (h : x.off = false) (key : ByteArray) : (decide ((getZ x key).2 = 0), (getZ x key).1) = seenL key x.now := by
  unfold getZ seenL
  rw [if_neg (by rw [h]; simp)]
  by_cases hk : keyedB key = false
  · rw [if_pos hk]
    have : findL key x.now = none := find_none_of fun y hy e => by
      have h1 := hf.fn y hy
      have : keyedB key = true := by rw [← e]; exact decide_eq_true ⟨h1.1, h1.2.1⟩
      rw [hk] at this; cases this
    rw [this]; rfl
  · rw [if_neg hk]
    cases findL key x.now <;> rfl
theorem last_cons {α : Type} : ∀ (l : List α) (a : α) (h : a :: l ≠ []), (a :: l).getLast h = l.getLast?.getD a
  | [], a, _ => rfl
  | b :: r, a, h => by
    have ih := last_cons r b (List.cons_ne_nil b r)
    rw [List.getLast_cons (List.cons_ne_nil b r), ih, List.getLast?_cons]
    rfl
theorem can_last {K : Nat} {x : Fld} (hf : Fine K x) (key : ByteArray) : (canZ key x).getLast (can_ne key x) = seenL key x.now := by
  rw [hf.now, seen_fold _ hf.sd]
  exact last_cons _ _ _
/-- Behind one call: the law's list. -/
def settledB (o : OpZ) (e : Int) : Bool := (decide (o.kind = 3) && decide (e = 0)) || decide (o.kind = 5)
def wroteB (key : ByteArray) (o : OpZ) (off : Bool) (e : Int) : Bool := decide (o.kind = 1 ∨ o.kind = 2) && decide (o.key = key) && !off && (decide (e = 0) || decide (e = 124))
def leftZ (o : OpZ) : Bool × ByteArray := (decide (o.kind = 1), if o.kind = 1 then o.data else ⟨#[]⟩)
theorem can_wrote (key : ByteArray) (x : Fld) (p : Wr) (u : Int) : canZ key (x.wrote p u) = if p.key = key then canZ key x ++ [seenW p] else canZ key x := by
  unfold Fld.wrote canZ
  obtain ⟨s1, s2, _⟩ := struck_is { x with now := doW x.now p, pend := x.pend ++ [p], used := u }
  rw [s1, s2, List.filter_append, List.map_append]
  by_cases hk : p.key = key
  · rw [if_pos hk]
    simp [hk]
  · rw [if_neg hk]
    simp [hk]
end Go.Proofs.Ytpddnbkmiogheaa
