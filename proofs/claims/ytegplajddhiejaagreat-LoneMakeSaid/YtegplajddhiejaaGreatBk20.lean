import Derived.Test.YtegplajddhiejaaGreatBk17
set_option linter.unusedVariables false
set_option linter.unusedSimpArgs false
namespace Go.Proofs.YtegplajddhiejaaGreat
open Go.RowKit Go.WideMaps Go.Maps Go.MapKept
/-! Keys of records: plain. -/
theorem unique_by {α : Type} (R : α → α → Prop) (asym : ∀ a b, R a b → ¬ R b a) : ∀ {l l' : List α}, l.Pairwise R → l'.Pairwise R → (∀ y, y ∈ l ↔ y ∈ l') → l = l'
  | [], [], _, _, _ => rfl
  | [], y :: r, _, _, h => by have := (h y).2 (by simp); simp at this
  | y :: r, [], _, _, h => by have := (h y).1 (by simp); simp at this
  | y :: r, z :: s, h1, h2, h => by
    have irr : ∀ a, ¬ R a a := fun a ha => asym a a ha ha
    obtain ⟨a1, b1⟩ := List.pairwise_cons.1 h1
    obtain ⟨a2, b2⟩ := List.pairwise_cons.1 h2
    have hyz : y = z := by
      rcases List.mem_cons.1 ((h y).1 (by simp)) with e | hy
      · exact e
      · rcases List.mem_cons.1 ((h z).2 (by simp)) with e | hz
        · exact e.symm
        · exact absurd (a2 y hy) (asym _ _ (a1 z hz))
    subst hyz
    congr 1
    refine unique_by R asym b1 b2 (fun x => ?_)
    constructor
    · intro hx
      rcases List.mem_cons.1 ((h x).1 (by simp [hx])) with e | hx'
      · subst e; exact absurd (a1 x hx) (irr x)
      · exact hx'
    · intro hx
      rcases List.mem_cons.1 ((h x).2 (by simp [hx])) with e | hx'
      · subst e; exact absurd (a2 x hx) (irr x)
      · exact hx'
theorem key_eq {s k n t l m : Int} (h : InB s k n) (h' : InB t l m) : keyZ s k n = keyZ t l m ↔ s = t ∧ k = l ∧ n = m := by
  rw [← (key_law s k n t l m h.s0 h.s1 h.n0 h.n1 h'.s0 h'.s1 h'.n0 h'.n1 h.k0 h.k1 h'.k0 h'.k1).1]
  constructor
  · rintro e; rw [e]
  · intro e
    rw [ByteArray.toList_eq, ByteArray.toList_eq] at e
    exact ByteArray.ext (Array.toList_inj.1 e)
theorem key_lt {s k n t l m : Int} (h : InB s k n) (h' : InB t l m) : kLt (keyZ s k n) (keyZ t l m) = decide (s < t ∨ (s = t ∧ (k < l ∨ (k = l ∧ n < m)))) := by
  rw [← less_kLt]
  exact (key_law s k n t l m h.s0 h.s1 h.n0 h.n1 h'.s0 h'.s1 h'.n0 h'.n1 h.k0 h.k1 h'.k0 h'.k1).2
theorem data_app (a b : ByteArray) : (a ++ b).data.toList = a.data.toList ++ b.data.toList := by
  rw [ByteArray.data_append, Array.toList_append]
theorem pre_same {p q r : ByteArray} (h : p.size = q.size) : isPre p (q ++ r) = decide (p = q) := by
  unfold isPre
  rw [data_app]
  have hl : p.data.toList.length = q.data.toList.length := by rw [size_list, size_list, h]
  by_cases e : p = q
  · subst e
    simp
  · rw [decide_eq_false e, decide_eq_false]
    rintro ⟨t, ht⟩
    have := (List.append_inj ht hl).1
    exact e (ByteArray.ext (Array.toList_inj.1 this))
theorem app_inj {a b c d : ByteArray} (h : a.size = b.size) (e : a ++ c = b ++ d) : a = b := by
  have h1 := congrArg (fun z : ByteArray => z.data.toList) e
  simp only [data_app] at h1
  exact ByteArray.ext (Array.toList_inj.1 (List.append_inj h1 (by rw [size_list, size_list, h])).1)
theorem pref_eq {s t : Int} (s0 : 0 ≤ s) (s1 : s ≤ 9223372036854775807) (t0 : 0 ≤ t) (t1 : t ≤ 9223372036854775807) : prefZ s = prefZ t ↔ s = t := by
  constructor
  · intro e
    have h1 : keyZ s 1 0 = keyZ t 1 0 := by unfold keyZ; rw [e]
    exact ((key_eq (⟨s0, s1, by omega, by omega, by omega, by omega⟩) (⟨t0, t1, by omega, by omega, by omega, by omega⟩)).1 h1).1
  · rintro rfl; rfl
theorem pre_space {s t k n : Int} (s0 : 0 ≤ s) (s1 : s ≤ 9223372036854775807) (h : InB t k n) : isPre (prefZ s) (keyZ t k n) = decide (s = t) := by
  have e : keyZ t k n = prefZ t ++ (oneZ k ++ be8Z n) := by unfold keyZ; rw [ByteArray.append_assoc]
  rw [e, pre_same (by rw [pref_size, pref_size])]
  simp only [pref_eq s0 s1 h.s0 h.s1]
theorem pre_kind {s t k n : Int} (s0 : 0 ≤ s) (s1 : s ≤ 9223372036854775807) (h : InB t k n) : isPre (prefZ s ++ oneZ k) (keyZ t k n) = decide (s = t) := by
  unfold keyZ
  rw [pre_same (by rw [ByteArray.size_append, ByteArray.size_append, pref_size, pref_size])]
  have : prefZ s ++ oneZ k = prefZ t ++ oneZ k ↔ s = t := ⟨fun e => (pref_eq s0 s1 h.s0 h.s1).1 (app_inj (by rw [pref_size, pref_size]) e), by rintro rfl; rfl⟩
  simp only [this]
theorem key_data (s k n : Int) : (keyZ s k n).data.toList = 66 :: (toB (dig 8 s) ++ (toB [k] ++ toB (dig 8 n))) := by
  have h := key_list s k n
  rw [ByteArray.toList_eq] at h
  rw [h]; rfl
theorem pow8 : (256 : Int) ^ 8 = 18446744073709551616 := by decide
/-- The numbers that the keys of one space and kind tell. -/
theorem okN_key {s k n : Int} (h : InB s k n) : okN (keyZ s k n) = true ∧ nmN (keyZ s k n) = n ∧ spN (keyZ s k n) = s ∧ kdN (keyZ s k n) = k := by
  have hd := key_data s k n
  have hl1 : (toB (dig 8 s)).length = 8 := by rw [toB_len, dig_len]
  have hl2 : (toB (dig 8 n)).length = 8 := by rw [toB_len, dig_len]
  have hlen : (keyZ s k n).data.toList.length = 18 := by rw [size_list, keyz_size]
  have h9 : (keyZ s k n).data.toList.getD 9 0 = UInt8.ofNat k.toNat := by
    rw [hd, List.getD_eq_getElem?_getD, List.getElem?_cons_succ, List.getElem?_append_right (by omega), hl1]
    rfl
  have hs : (rdN (keyZ s k n) 1 8 : Int) = s := by
    rw [rdN_list _ _ _ (by omega), hd, List.drop_one, List.tail_cons, List.take_append_of_le_length (by omega), List.take_of_length_le (by omega), rdL_dig, pow8]
    have := h.s0; have := h.s1; omega
  have hn : (rdN (keyZ s k n) 10 8 : Int) = n := by
    have e : (keyZ s k n).data.toList.drop 10 = toB (dig 8 n) := by
      rw [hd, show (10 : Nat) = 9 + 1 by rfl, List.drop_succ_cons, List.drop_append, hl1, List.drop_of_length_le (by omega)]
      rfl
    rw [rdN_list _ _ _ (by omega), e, List.take_of_length_le (by omega), rdL_dig, pow8]
    have := h.n0; have := h.n1; omega
  have hb := byte_of k h.k0 h.k1
  have hh : headN (keyZ s k n) = true := decide_eq_true ⟨keyz_size s k n, by rw [hd]; rfl, fun e => by
    rw [h9] at e
    rw [e] at hb
    have := h.k0
    have e2 : ((0 : UInt8).toNat : Int) = 0 := rfl
    omega⟩
  have s1 := h.s1
  have n1 := h.n1
  refine ⟨?_, ?_, ?_, ?_⟩
  · unfold okN
    rw [hh, Bool.true_and, decide_eq_true_eq]
    omega
  · unfold nmN
    rw [if_pos hh, hn]
    exact IntWalk.wrap64_in _ (by have := h.n0; omega)
  · unfold spN
    rw [if_pos hh, hs]
    exact IntWalk.wrap64_in _ (by have := h.s0; omega)
  · unfold kdN
    rw [if_pos hh, h9, hb]
/-- Whatever key names a record is that record's. -/
theorem okN_form {b : ByteArray} (h : okN b = true) : ∃ s k n, InB s k n ∧ b = keyZ s k n := by
  unfold okN at h
  rw [Bool.and_eq_true, decide_eq_true_eq] at h
  obtain ⟨hh, h1, h2⟩ := h
  have hd := of_decide_eq_true hh
  obtain ⟨h18, h0, h9⟩ := hd
  have hlen : b.data.toList.length = 18 := by rw [size_list]; exact h18
  rw [rdN_list b 1 8 (by omega)] at h1
  rw [rdN_list b 10 8 (by omega)] at h2
  obtain ⟨l, hl⟩ : ∃ l, b.data.toList = l := ⟨_, rfl⟩
  rw [hl] at h0 h9 h1 h2 hlen
  have e1 := dig_rdL ((l.drop 1).take 8)
  have e2 := dig_rdL ((l.drop 10).take 8)
  have l1 : ((l.drop 1).take 8).length = 8 := by rw [List.length_take, List.length_drop]; omega
  have l2 : ((l.drop 10).take 8).length = 8 := by rw [List.length_take, List.length_drop]; omega
  rw [l1] at e1
  rw [l2] at e2
  have hx := (l.getD 9 0).toNat_lt
  have hx9 : (l.getD 9 0).toNat ≠ 0 := fun e => h9 (UInt8.toNat_inj.1 (by simpa using e))
  refine ⟨(rdL ((l.drop 1).take 8) : Nat), ((l.getD 9 0).toNat : Nat), (rdL ((l.drop 10).take 8) : Nat), ⟨by omega, by omega, by omega, by omega, by omega, by omega⟩, ?_⟩
  refine ByteArray.ext (Array.toList_inj.1 ?_)
  rw [key_data, e1, e2, hl]
  have t9 : toB [((l.getD 9 0).toNat : Int)] = [l.getD 9 0] := by
    simp [toB]
  rw [t9]
  have d0 : l = l.getD 0 0 :: l.drop 1 := by
    rw [List.getD_eq_getElem?_getD, List.getElem?_eq_getElem (by omega)]
    have := List.drop_eq_getElem_cons (l := l) (i := 0) (by omega)
    simpa using this
  have d1 : l.drop 1 = (l.drop 1).take 8 ++ l.drop 9 := by
    have := (List.take_append_drop 8 (l.drop 1)).symm
    rw [List.drop_drop] at this
    exact this
  have d9 : l.drop 9 = l.getD 9 0 :: l.drop 10 := by
    rw [List.getD_eq_getElem?_getD, List.getElem?_eq_getElem (by omega)]
    exact List.drop_eq_getElem_cons (by omega)
  have d10 : (l.drop 10).take 8 = l.drop 10 := List.take_of_length_le (by rw [List.length_drop]; omega)
  rw [d10]
  conv => lhs; rw [d0, h0, d1, d9]
  simp
theorem pre_letter {s k n : Int} : isPre ⟨#[66]⟩ (keyZ s k n) = true := by
  have e : keyZ s k n = ⟨#[66]⟩ ++ (be8Z s ++ (oneZ k ++ be8Z n)) := by unfold keyZ prefZ; rw [ByteArray.append_assoc, ByteArray.append_assoc]
  rw [e, pre_same rfl]
  simp
theorem pre_both {s t k l n : Int} (s0 : 0 ≤ s) (s1 : s ≤ 9223372036854775807) (k0 : 1 ≤ k) (k1 : k ≤ 255) (h : InB t l n) : isPre (prefZ s ++ oneZ k) (keyZ t l n) = decide (s = t ∧ k = l) := by
  unfold keyZ
  rw [pre_same (by rw [ByteArray.size_append, ByteArray.size_append, pref_size, pref_size, one_size, one_size])]
  have : prefZ s ++ oneZ k = prefZ t ++ oneZ l ↔ s = t ∧ k = l := by
    constructor
    · intro e
      have h1 : keyZ s k 0 = keyZ t l 0 := by unfold keyZ; rw [e]
      have h2 := (key_eq (⟨s0, s1, k0, k1, by omega, by omega⟩) (⟨h.s0, h.s1, h.k0, h.k1, by omega, by omega⟩)).1 h1
      exact ⟨h2.1, h2.2.1⟩
    · rintro ⟨rfl, rfl⟩; rfl
  simp only [this]
end Go.Proofs.YtegplajddhiejaaGreat
