import Derived.Test.YtpddnbkmiogheaaSp5
set_option linter.unusedVariables false
namespace Go.Proofs.Ytpddnbkmiogheaa
/-! A store whose power is never cut: plain. -/
structure Calm (c : Int) (x : Fld) : Prop where
  off : x.off = false
  left : x.left = 0
  room : x.room = c
  used : x.used ≤ c
theorem Calm.new {c : Int} (h : goesB c = true) : Calm c (newF c) := by
  have h1 : 0 ≤ c ∧ c ≤ 1073741824 := of_decide_eq_true h
  exact ⟨rfl, rfl, rfl, h1.1⟩
theorem struck_calm {x : Fld} (h : x.left = 0) : x.struck = x := by unfold Fld.struck; rw [if_pos h]
theorem Calm.do {K : Nat} {c : Int} {x : Fld} (h : Calm c x) (hf : Fine K x) (o : OpZ) (h4 : o.kind ≠ 4) (h5 : o.kind ≠ 5) : Calm c (doZ x o).2 ∧ ((doZ x o).1.e ≠ 0 → (doZ x o).2.used = x.used) := by
  have hend : endZ x = 0 := by unfold endZ strikesB; rw [h.left]; rfl
  unfold doZ
  split
  · simp only
    unfold putZ
    rw [if_neg (by rw [h.off]; simp)]
    split
    · exact ⟨h, fun _ => rfl⟩
    split
    · exact ⟨h, fun _ => rfl⟩
    split
    · exact ⟨h, fun _ => rfl⟩
    · rename_i hn
      have hu := h.used
      have hr := h.room
      refine ⟨?_, fun he => absurd hend he⟩
      unfold Fld.wrote
      rw [struck_calm (by exact h.left)]
      exact ⟨h.off, h.left, h.room, by show thenZ x o.key o.data ≤ c; omega⟩
  split
  · simp only
    unfold cutZ
    rw [if_neg (by rw [h.off]; simp)]
    split
    · exact ⟨h, fun _ => rfl⟩
    split
    · exact ⟨h, fun _ => rfl⟩
    · refine ⟨?_, fun he => absurd hend he⟩
      unfold Fld.wrote
      rw [struck_calm (by exact h.left)]
      have hu := h.used
      exact ⟨h.off, h.left, h.room, by show x.used - _ ≤ c; omega⟩
  split
  · simp only
    unfold syncZ
    rw [if_neg (by rw [h.off]; simp), if_neg (by unfold strikesB; rw [h.left]; simp), struck_calm h.left]
    exact ⟨⟨h.off, h.left, h.room, h.used⟩, fun _ => rfl⟩
  split; exact ⟨h, fun _ => rfl⟩
  split; exact ⟨h, fun _ => rfl⟩
  split; exact ⟨h, fun _ => rfl⟩
  split; exact ⟨h, fun _ => rfl⟩
  exact ⟨h, fun _ => rfl⟩
theorem keys_all {x : Fld} (h : x.off = false) : keysZ x ⟨#[]⟩ = x.now.map (·.1) := by
  unfold keysZ
  rw [if_neg (by rw [h]; simp)]
  refine List.filter_eq_self.2 fun y hy => ?_
  simp [isPre]
theorem get_at {K : Nat} {x : Fld} (hf : Fine K x) (h : x.off = false) (i : Nat) (hi : i < x.now.length) : getZ x x.now[i].1 = (x.now[i].2, 0) := by
  have hm := List.getElem_mem hi
  have hfi := hf.fn _ hm
  unfold getZ
  rw [if_neg (by rw [h]; simp), if_neg (by have : keyedB x.now[i].1 = true := decide_eq_true ⟨hfi.1, hfi.2.1⟩; rw [this]; simp), find_of_mem hf.sn hm rfl]
theorem cost_take {l : List Rec} {k : Nat} (h : k < l.length) : costL (l.take (k + 1)) = costL (l.take k) + costR l[k] := by
  rw [List.take_succ_eq_append_getElem h]
  unfold costL
  rw [List.map_append, List.sum_append]
  simp
theorem costL_take_le : ∀ (l : List Rec) (k : Nat), costL (l.take k) ≤ costL l
  | [], k => by simp
  | r :: l, 0 => by simp [costL]
  | r :: l, k + 1 => by
    rw [List.take_succ_cons, cost_cons, cost_cons]
    have := costL_take_le l k
    omega
theorem sorted_next {l : List Rec} (h : Sorted l) {i : Nat} (hi : i + 1 < l.length) : kLt l[i].1 l[i + 1].1 = true := List.pairwise_iff_getElem.1 h i (i + 1) (by omega) hi (by omega)
end Go.Proofs.Ytpddnbkmiogheaa
