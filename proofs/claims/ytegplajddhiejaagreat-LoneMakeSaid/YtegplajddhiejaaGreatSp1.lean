import Derived.Maps.StringElems
import Derived.Maps.Ext
import Derived.WalkKit
set_option linter.unusedVariables false
namespace Go.Proofs.YtegplajddhiejaaGreat
/-! The plain model of a store's records: a list of keys and data, the keys rising. -/
abbrev Rec := ByteArray × ByteArray
theorem before_dec : ∀ (x y : List UInt8), bytesBefore x y = decide (x < y)
  | [], [] => by simp [bytesBefore]
  | _ :: _, [] => by simp [bytesBefore]
  | [], _ :: _ => by simp [bytesBefore]
  | a :: x, b :: y => by
    rw [bytesBefore, before_dec x y]
    simp only [List.cons_lt_cons_iff]
    by_cases h1 : a < b <;> by_cases h2 : a = b <;> by_cases h3 : x < y <;> simp [h1, h2, h3]
theorem less_dec : ∀ (x y : List UInt8), Op.bytesLess x y = decide (x < y)
  | [], [] => by simp [Op.bytesLess]
  | _ :: _, [] => by simp [Op.bytesLess]
  | [], _ :: _ => by simp [Op.bytesLess]
  | a :: x, b :: y => by
    rw [Op.bytesLess, less_dec x y]
    simp only [List.cons_lt_cons_iff]
    by_cases h1 : a < b <;> by_cases h2 : a = b <;> by_cases h3 : x < y <;> simp [h1, h2, h3]
def kLt (a b : ByteArray) : Bool := bytesBefore a.data.toList b.data.toList
theorem kLt_dec (a b : ByteArray) : kLt a b = decide (a.data.toList < b.data.toList) := before_dec _ _
theorem less_kLt (a b : ByteArray) : Op.bytesLess a.toList b.toList = kLt a b := by rw [kLt_dec, less_dec, ByteArray.toList_eq, ByteArray.toList_eq]
theorem kLt_irrefl (a : ByteArray) : kLt a a = false := by rw [kLt_dec]; simp
theorem kLt_ne {a b : ByteArray} (h : kLt a b = true) : a ≠ b := by rintro rfl; rw [kLt_irrefl] at h; cases h
theorem kLt_trans {a b c : ByteArray} (h : kLt a b = true) (h' : kLt b c = true) : kLt a c = true := by
  rw [kLt_dec, decide_eq_true_eq] at *
  exact List.lt_trans h h'
theorem kLt_asymm {a b : ByteArray} (h : kLt a b = true) : kLt b a = false := by
  cases h' : kLt b a
  · rfl
  · have := kLt_trans h h'
    rw [kLt_irrefl] at this; cases this
theorem kLt_or {a b : ByteArray} (h : a ≠ b) : kLt a b = true ∨ kLt b a = true := by
  rw [kLt_dec, kLt_dec, decide_eq_true_eq, decide_eq_true_eq]
  have hn : a.data.toList ≠ b.data.toList := fun e => h (ByteArray.ext (Array.toList_inj.1 e))
  by_cases h1 : a.data.toList < b.data.toList
  · exact .inl h1
  · right
    by_cases h2 : b.data.toList < a.data.toList
    · exact h2
    · exact absurd (List.le_antisymm (List.not_lt.1 h2) (List.not_lt.1 h1)) hn
def insL (x : Rec) : List Rec → List Rec
  | [] => [x]
  | y :: r => if kLt x.1 y.1 then x :: y :: r else y :: insL x r
def cutL (k : ByteArray) (l : List Rec) : List Rec := l.filter fun r => !decide (r.1 = k)
def putL (k d : ByteArray) (l : List Rec) : List Rec := insL (k, d) (cutL k l)
def findL (k : ByteArray) (l : List Rec) : Option Rec := l.find? fun r => decide (r.1 = k)
def Sorted (l : List Rec) : Prop := l.Pairwise fun a b => kLt a.1 b.1 = true
def costR (r : Rec) : Nat := r.1.size + r.2.size + 16
def costL (l : List Rec) : Nat := (l.map costR).sum
/-- A write that is pending. -/
structure Wr where
  key : ByteArray
  data : ByteArray
  cut : Bool
def doW (l : List Rec) (w : Wr) : List Rec := if w.cut then cutL w.key l else putL w.key w.data l
theorem mem_ins {x y : Rec} : ∀ {l : List Rec}, y ∈ insL x l ↔ y = x ∨ y ∈ l
  | [] => by simp [insL]
  | z :: r => by
    unfold insL
    split
    · simp
    · rw [List.mem_cons, mem_ins, List.mem_cons]
      constructor
      · rintro (h | h | h)
        · exact .inr (.inl h)
        · exact .inl h
        · exact .inr (.inr h)
      · rintro (h | h | h)
        · exact .inr (.inl h)
        · exact .inl h
        · exact .inr (.inr h)
theorem mem_cut {k : ByteArray} {y : Rec} {l : List Rec} : y ∈ cutL k l ↔ y ∈ l ∧ y.1 ≠ k := by simp [cutL]
theorem sorted_ins {x : Rec} : ∀ {l : List Rec}, Sorted l → (∀ y ∈ l, y.1 ≠ x.1) → Sorted (insL x l)
  | [], _, _ => by simp [insL, Sorted]
  | z :: r, h, hn => by
    obtain ⟨h1, h2⟩ := List.pairwise_cons.1 h
    unfold insL
    split
    · rename_i hx
      refine List.pairwise_cons.2 ⟨fun y hy => ?_, h⟩
      rcases List.mem_cons.1 hy with rfl | hy
      · exact hx
      · exact kLt_trans hx (h1 y hy)
    · rename_i hx
      have hzx : kLt z.1 x.1 = true := by
        rcases kLt_or (hn z (by simp)) with h' | h'
        · exact h'
        · exact absurd h' hx
      refine List.pairwise_cons.2 ⟨fun y hy => ?_, sorted_ins h2 (fun y hy => hn y (by simp [hy]))⟩
      rcases mem_ins.1 hy with rfl | hy
      · exact hzx
      · exact h1 y hy
theorem sorted_cut {k : ByteArray} {l : List Rec} (h : Sorted l) : Sorted (cutL k l) := h.filter _
theorem sorted_put {k d : ByteArray} {l : List Rec} (h : Sorted l) : Sorted (putL k d l) := sorted_ins (sorted_cut h) fun y hy => (mem_cut.1 hy).2
theorem sorted_do {w : Wr} {l : List Rec} (h : Sorted l) : Sorted (doW l w) := by
  unfold doW
  split
  · exact sorted_cut h
  · exact sorted_put h
theorem len_ins (x : Rec) : ∀ l : List Rec, (insL x l).length = l.length + 1
  | [] => rfl
  | z :: r => by
    unfold insL
    split
    · rfl
    · simp [len_ins x r]
theorem len_cut (k : ByteArray) (l : List Rec) : (cutL k l).length ≤ l.length := List.length_filter_le _ _
theorem len_do (w : Wr) (l : List Rec) : (doW l w).length ≤ l.length + 1 := by
  unfold doW
  split
  · exact Nat.le_succ_of_le (len_cut _ _)
  · unfold putL; rw [len_ins]; exact Nat.succ_le_succ (len_cut _ _)
/-- Two sorted lists with the same members are one. -/
theorem sorted_ext : ∀ {l l' : List Rec}, Sorted l → Sorted l' → (∀ y, y ∈ l ↔ y ∈ l') → l = l'
  | [], [], _, _, _ => rfl
  | [], y :: r, _, _, h => by have := (h y).2 (by simp); simp at this
  | y :: r, [], _, _, h => by have := (h y).1 (by simp); simp at this
  | y :: r, z :: s, h1, h2, h => by
    obtain ⟨a1, b1⟩ := List.pairwise_cons.1 h1
    obtain ⟨a2, b2⟩ := List.pairwise_cons.1 h2
    have hyz : y = z := by
      rcases List.mem_cons.1 ((h y).1 (by simp)) with e | hy
      · exact e
      · rcases List.mem_cons.1 ((h z).2 (by simp)) with e | hz
        · exact e.symm
        · have k1 := a2 y hy
          have k2 := a1 z hz
          rw [kLt_asymm k1] at k2; cases k2
    subst hyz
    congr 1
    refine sorted_ext b1 b2 (fun x => ?_)
    constructor
    · intro hx
      rcases List.mem_cons.1 ((h x).1 (by simp [hx])) with e | hx'
      · subst e; have := a1 x hx; rw [kLt_irrefl] at this; cases this
      · exact hx'
    · intro hx
      rcases List.mem_cons.1 ((h x).2 (by simp [hx])) with e | hx'
      · subst e; have := a2 x hx; rw [kLt_irrefl] at this; cases this
      · exact hx'
theorem find_none {k : ByteArray} {l : List Rec} (h : findL k l = none) : ∀ y ∈ l, y.1 ≠ k := by
  intro y hy e
  have := List.find?_eq_none.1 h y hy
  simp [e] at this
theorem find_some {k : ByteArray} {l : List Rec} {r : Rec} (h : findL k l = some r) : r ∈ l ∧ r.1 = k := by
  have h1 := List.mem_of_find?_eq_some h
  have h2 := List.find?_some h
  exact ⟨h1, by simpa using h2⟩
theorem find_of_mem {k : ByteArray} {l : List Rec} {r : Rec} (hs : Sorted l) (hr : r ∈ l) (hk : r.1 = k) : findL k l = some r := by
  cases h : findL k l with
  | none => exact absurd hk (find_none h r hr)
  | some x =>
    obtain ⟨h1, h2⟩ := find_some h
    have hp : l.Pairwise (fun a b : Rec => a.1 ≠ b.1) := List.Pairwise.imp (fun h => kLt_ne h) hs
    have key : ∀ {l : List Rec}, l.Pairwise (fun a b : Rec => a.1 ≠ b.1) → ∀ {a b : Rec}, a ∈ l → b ∈ l → a.1 = b.1 → a = b := by
      intro l hp
      induction hp with
      | nil => intro a b ha; simp at ha
      | cons h1 h2 ih =>
        intro a b ha hb e
        rcases List.mem_cons.1 ha with ha1 | ha1
        · rcases List.mem_cons.1 hb with hb1 | hb1
          · rw [ha1, hb1]
          · rw [ha1] at e; exact absurd e (h1 _ hb1)
        · rcases List.mem_cons.1 hb with hb1 | hb1
          · rw [hb1] at e; exact absurd e.symm (h1 _ ha1)
          · exact ih ha1 hb1 e
    rw [key hp h1 hr (by rw [h2, hk])]
theorem cut_of_none {k : ByteArray} {l : List Rec} (h : findL k l = none) : cutL k l = l := by
  unfold cutL
  refine List.filter_eq_self.2 (fun y hy => ?_)
  simp [find_none h y hy]
theorem cost_cons (r : Rec) (l : List Rec) : costL (r :: l) = costR r + costL l := by simp [costL]
theorem cost_ins (x : Rec) : ∀ l : List Rec, costL (insL x l) = costR x + costL l
  | [] => by simp [insL, costL]
  | z :: r => by
    unfold insL
    split
    · simp [cost_cons]
    · rw [cost_cons, cost_cons, cost_ins x r]; omega
theorem cost_cut {k : ByteArray} : ∀ {l : List Rec}, Sorted l → costL (cutL k l) + (match findL k l with | some r => costR r | none => 0) = costL l
  | [], _ => by simp [cutL, findL, costL]
  | z :: r, h => by
    obtain ⟨h1, h2⟩ := List.pairwise_cons.1 h
    by_cases e : z.1 = k
    · have hn : findL k r = none := by
        refine List.find?_eq_none.2 (fun y hy => ?_)
        have := kLt_ne (h1 y hy)
        simp only [decide_eq_true_eq]
        intro e'; exact this (by rw [e, e'])
      have hc : cutL k (z :: r) = r := by
        have := cut_of_none hn
        unfold cutL at *
        rw [List.filter_cons, if_neg (by simp [e])]; exact this
      have hf : findL k (z :: r) = some z := by unfold findL; rw [List.find?_cons]; simp [e]
      rw [hc, hf, cost_cons]; exact Nat.add_comm _ _
    · have hc : cutL k (z :: r) = z :: cutL k r := by unfold cutL; rw [List.filter_cons, if_pos (by simp [e])]
      have hf : findL k (z :: r) = findL k r := by unfold findL; rw [List.find?_cons]; simp [e]
      rw [hc, hf, cost_cons, cost_cons]
      have := cost_cut (k := k) h2
      omega
theorem cost_put {k d : ByteArray} {l : List Rec} (h : Sorted l) : costL (putL k d l) + (match findL k l with | some r => costR r | none => 0) = costL l + costR (k, d) := by
  unfold putL
  rw [cost_ins]
  have := cost_cut (k := k) h
  omega
/-- The reference's way: the list is gone through, the write is done at its place. -/
def refDo (w : Wr) : Bool → List Rec → List Rec
  | put, [] => if put then [] else [(w.key, w.data)]
  | put, y :: r =>
    (if put = false ∧ kLt y.1 w.key = false then [(w.key, w.data)] else []) ++ (if y.1 = w.key then [] else [y]) ++ refDo w (put || (put = false ∧ kLt y.1 w.key = false)) r
theorem refDo_true (w : Wr) : ∀ l : List Rec, refDo w true l = cutL w.key l
  | [] => by simp [refDo, cutL]
  | y :: r => by
    have ih := refDo_true w r
    unfold refDo
    simp only [Bool.true_eq_false, false_and, if_false, Bool.true_or, List.nil_append, ih]
    by_cases e : y.1 = w.key
    · rw [if_pos e]; unfold cutL; rw [List.filter_cons, if_neg (by simp [e])]; rfl
    · rw [if_neg e]; unfold cutL; rw [List.filter_cons, if_pos (by simp [e])]; rfl
theorem refDo_false (w : Wr) : ∀ {l : List Rec}, Sorted l → refDo w false l = putL w.key w.data l
  | [], _ => by simp [refDo, putL, cutL, insL]
  | y :: r, h => by
    obtain ⟨h1, h2⟩ := List.pairwise_cons.1 h
    cases hk : kLt y.1 w.key
    · have e1 : refDo w false (y :: r) = (w.key, w.data) :: ((if y.1 = w.key then [] else [y]) ++ refDo w true r) := by
        rw [refDo]; simp [hk]
      rw [e1, refDo_true]
      have hcut : (if y.1 = w.key then [] else [y]) ++ cutL w.key r = cutL w.key (y :: r) := by
        by_cases e : y.1 = w.key
        · rw [if_pos e]; unfold cutL; rw [List.filter_cons, if_neg (by simp [e])]; rfl
        · rw [if_neg e]; unfold cutL; rw [List.filter_cons, if_pos (by simp [e])]; rfl
      rw [hcut]
      have hall : ∀ z ∈ cutL w.key (y :: r), kLt w.key z.1 = true := by
        intro z hz
        obtain ⟨hz1, hz2⟩ := mem_cut.1 hz
        rcases kLt_or hz2 with h' | h'
        · exfalso
          rcases List.mem_cons.1 hz1 with rfl | hz1
          · rw [hk] at h'; cases h'
          · have := kLt_trans (h1 z hz1) h'
            rw [hk] at this; cases this
        · exact h'
      unfold putL
      cases hc : cutL w.key (y :: r) with
      | nil => rfl
      | cons z s => rw [insL, if_pos (hall z (by rw [hc]; simp))]
    · have hne := kLt_ne hk
      have e1 : refDo w false (y :: r) = y :: refDo w false r := by
        rw [refDo]; simp [hk, hne]
      rw [e1, refDo_false w h2]
      unfold putL
      have hc : cutL w.key (y :: r) = y :: cutL w.key r := by unfold cutL; rw [List.filter_cons, if_pos (by simp [hne])]
      rw [hc, insL, if_neg (by rw [kLt_asymm hk]; simp)]
theorem refDo_eq (w : Wr) {l : List Rec} (h : Sorted l) : refDo w w.cut l = doW l w := by
  unfold doW
  cases hw : w.cut
  · simp [refDo_false w h]
  · simp [refDo_true]
end Go.Proofs.YtegplajddhiejaaGreat
