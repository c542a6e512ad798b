import Derived.Test.YtkpfbjlbllpahaaDoorHs1
import Derived.WalkLawsBesides
import Derived.WalkSpells
import Derived.Deep.QuietTactic
import Derived.Laws.BytesArg
set_option linter.unusedVariables false
namespace Go.Proofs.YtkpfbjlbllpahaaDoor
open Go.RowKit
/-- Bit number d of a place. -/
def bitN (p : ByteArray) (d : Nat) : Nat := (p.data.toList.getD (d / 8) 0).toNat / 2 ^ (7 - d % 8) % 2
theorem and1_u8 : ∀ n, n < 256 → bits BinOp.and IntKind.u8 ((n : Nat) : Int) 1 = ((n % 2 : Nat) : Int) := by decide +kernel
theorem and1_i64 : ∀ n, n < 256 → bits BinOp.and IntKind.i64 (wrap64 ((n : Nat) : Int)) 1 = ((n % 2 : Nat) : Int) := by decide +kernel
theorem shr_lt (x : UInt8) (k : Nat) : x.toNat / 2 ^ k < 256 := Nat.lt_of_le_of_lt (Nat.div_le_self _ _) x.toNat_lt
theorem bit_at (p : ByteArray) (q r : Nat) (hr : r < 8) (hq : q < p.size) : bitN p (8 * q + r) = p[q].toNat / 2 ^ (7 - r % 8) % 2 := by
  have hl : p.data.toList.length = p.size := by simp
  unfold bitN
  rw [show (8 * q + r) / 8 = q by omega, show (8 * q + r) % 8 = r % 8 by omega, List.getD_eq_getElem?_getD, List.getElem?_eq_getElem (by omega)]
  simp [ByteArray.getElem_eq_getElem_data]
theorem bitN_lt (p : ByteArray) (d : Nat) : bitN p d < 2 := Nat.mod_lt _ (by omega)
theorem mright_calls (p : ByteArray) (d : Nat) (hd : d < 8 * p.size) (hp : p.size ≤ 32) (w : World) : Calls Tryd.prog 79 #[.string p, .int .i64 d] w fun e w' => e = .returned (.bool (decide (bitN p d = 1))) ∧ Below w.heap.size w w' := by
  obtain ⟨q, hq⟩ : ∃ q, d / 8 = q := ⟨_, rfl⟩
  obtain ⟨r, hr⟩ : ∃ r, d % 8 = r := ⟨_, rfl⟩
  have hr8 : r < 8 := by omega
  have hqs : q < p.size := by omega
  have hqi : (q : Int) < p.size := by omega
  obtain rfl : d = 8 * q + r := by omega
  have e1 : ((8 * q + r : Nat) : Int).tdiv 8 = q := by rw [Int.tdiv_eq_ediv_of_nonneg (by omega)]; omega
  have e2 : ((8 * q + r : Nat) : Int).tmod 8 = r := by rw [Int.tmod_eq_emod_of_nonneg (by omega)]; omega
  go_enter Tryd.func79, Tryd.ntmps79
  go_wp2
  go_ret
  refine ⟨congrArg (fun z => Ending.returned (.bool z)) ?_, Below.refl _ _⟩
  have h := and1_u8 _ (shr_lt p[q] (7 - r % 8))
  rw [bit_at p q r hr8 hqs, show ((p[q].toNat : Int) / 2 ^ (7 - r % 8)) = ((p[q].toNat / 2 ^ (7 - r % 8) : Nat) : Int) by simp, h]
  generalize p[q].toNat / 2 ^ (7 - r % 8) % 2 = x
  by_cases hx : x = 1
  · subst hx; rfl
  · rw [decide_eq_false hx, beq_eq_false_iff_ne]; omega
theorem mrefbit_calls (p : ByteArray) (d : Nat) (hd : d < 8 * p.size) (hp : p.size ≤ 32) (w : World) : Calls Tryd.prog 51 #[.string p, .int .i64 d] w fun e w' => e = .returned (.int .i64 (bitN p d)) ∧ Below w.heap.size w w' := by
  obtain ⟨q, hq⟩ : ∃ q, d / 8 = q := ⟨_, rfl⟩
  obtain ⟨r, hr⟩ : ∃ r, d % 8 = r := ⟨_, rfl⟩
  have hr8 : r < 8 := by omega
  have hqs : q < p.size := by omega
  have hqi : (q : Int) < p.size := by omega
  obtain rfl : d = 8 * q + r := by omega
  have e1 : ((8 * q + r : Nat) : Int).tdiv 8 = q := by rw [Int.tdiv_eq_ediv_of_nonneg (by omega)]; omega
  have e2 : ((8 * q + r : Nat) : Int).tmod 8 = r := by rw [Int.tmod_eq_emod_of_nonneg (by omega)]; omega
  go_enter Tryd.func51, Tryd.ntmps51
  go_wp2
  go_ret
  refine ⟨congrArg (fun z => Ending.returned (.int .i64 z)) ?_, Below.refl _ _⟩
  have h := and1_i64 _ (shr_lt p[q] (7 - r % 8))
  rw [bit_at p q r hr8 hqs, show ((p[q].toNat : Int) / 2 ^ (7 - r % 8)) = ((p[q].toNat / 2 ^ (7 - r % 8) : Nat) : Int) by simp, h]
def oneB : ByteArray := ⟨#[1]⟩
/-- The text of a part with these halves. -/
def aboveB (W : Int) (l r : ByteArray) : ByteArray := if l = emptyB W ∧ r = emptyB W then ⟨#[]⟩ else oneB ++ l ++ r
/-- The hash of a part with these halves. -/
def joinB (W : Int) (l r : ByteArray) : ByteArray := if l = emptyB W ∧ r = emptyB W then emptyB W else cutB (oneB ++ l ++ r) W
theorem cut_above (W : Int) (l r : ByteArray) : cutB (aboveB W l r) W = joinB W l r := by unfold aboveB joinB; split <;> rfl
theorem above_size (W : Int) (l r : ByteArray) (hl : l.size ≤ 32) (hr : r.size ≤ 32) : (aboveB W l r).size ≤ 65 := by
  unfold aboveB
  split
  · exact Nat.zero_le _
  · have h1 : oneB.size = 1 := rfl
    simp only [ByteArray.size_append]; omega
theorem join_size (W : Int) (l r : ByteArray) : (joinB W l r).size = widN W := by unfold joinB; split <;> exact cutB_size _ _
theorem seq_no {a b : ByteArray} (h : ¬ a = b) : (a.toList == b.toList) = false := by
  rw [beq_eq_false_iff_ne]
  intro e
  rw [ByteArray.toList_eq, ByteArray.toList_eq] at e
  exact h (ByteArray.ext (Array.toList_inj.1 e))
set_option maxRecDepth 100000 in
set_option maxHeartbeats 1000000 in
theorem mabove_calls (W : Int) (l r : ByteArray) (hl : l.size ≤ 32) (hr : r.size ≤ 32) (w : World) (hL : Laid w) : Calls Tryd.prog 89 #[.int .i64 W, .string l, .string r] w fun e w' => e = .returned (.string (aboveB W l r)) ∧ Below w.heap.size w w' := by
  have h1 : l = emptyB W → r = emptyB W → aboveB W l r = ⟨#[]⟩ := fun h1 h2 => by unfold aboveB; rw [if_pos ⟨h1, h2⟩]
  have h2 : ¬ (l = emptyB W ∧ r = emptyB W) → aboveB W l r = (⟨#[1]⟩ : ByteArray) ++ l ++ r := fun h => by unfold aboveB; rw [if_neg h]; rfl
  have CE := Lib.hid (empty_calls W w hL)
  have HZ := Lib.hid (And.intro h1 h2)
  clear h1 h2 hL
  generalize emptyB W = x at *
  have q1 : ¬ 9223372036854775807 < 1 + l.size := by omega
  have q2 : ¬ 9223372036854775807 < 1 + l.size + r.size := by omega
  by_cases e1 : l = x
  · by_cases e2 : r = x
    · have hz := HZ.out.1 e1 e2
      rw [hz]
      clear HZ hz
      subst e1
      subst e2
      go_enter Tryd.func89, Tryd.ntmps89
      go_wp2_with (go_at_call 80; (with_reducible refine CE.out.mono ?_); rintro e w1 ⟨rfl, hb1⟩)
      go_ret
      exact ⟨rfl, by assumption⟩
    · have hz := HZ.out.2 (fun h => e2 h.2)
      rw [hz]
      clear HZ hz
      have n2 := seq_no e2
      subst e1
      go_enter Tryd.func89, Tryd.ntmps89
      go_wp2_with (go_at_call 80; (with_reducible refine CE.out.mono ?_); rintro e w1 ⟨rfl, hb1⟩)
      go_ret
      exact ⟨rfl, by assumption⟩
  · have hz := HZ.out.2 (fun h => e1 h.1)
    rw [hz]
    clear HZ hz
    have n1 := seq_no e1
    go_enter Tryd.func89, Tryd.ntmps89
    go_wp2_with (go_at_call 80; (with_reducible refine CE.out.mono ?_); rintro e w1 ⟨rfl, hb1⟩)
    go_ret
    exact ⟨rfl, by assumption⟩
set_option maxRecDepth 100000 in
set_option maxHeartbeats 1000000 in
theorem refnode_calls (W : Int) (l r : ByteArray) (hl : l.size ≤ 32) (hr : r.size ≤ 32) (w : World) (hL : Laid w) : Calls Tryd.prog 91 #[.int .i64 W, .string l, .string r] w fun e w' => e = .returned (.string (cutB (oneB ++ l ++ r) W)) ∧ Below w.heap.size w w' := by
  have q1 : ¬ 9223372036854775807 < 1 + l.size := by omega
  have q2 : ¬ 9223372036854775807 < 1 + l.size + r.size := by omega
  have hs : (oneB ++ l ++ r).size + 80 ≤ 140737488355328 := by
    have h1 : oneB.size = 1 := rfl
    simp only [ByteArray.size_append]; omega
  have CC := Lib.hid (refcut_calls (oneB ++ l ++ r) W w hL hs)
  unfold oneB at CC hs ⊢
  clear hs hL
  go_enter Tryd.func91, Tryd.ntmps91
  go_wp2_with (go_at_call 49; refine CC.out.mono ?_; rintro e w1 ⟨rfl, hb1⟩)
  go_ret
  exact ⟨rfl, by assumption⟩
set_option maxRecDepth 100000 in
set_option maxHeartbeats 1000000 in
theorem mrefjoined_calls (W : Int) (l r : ByteArray) (hl : l.size ≤ 32) (hr : r.size ≤ 32) (w : World) (hL : Laid w) : Calls Tryd.prog 52 #[.int .i64 W, .string l, .string r] w fun e w' => e = .returned (.string (joinB W l r)) ∧ Below w.heap.size w w' := by
  have h4 := hL.size
  have h1 : l = emptyB W → r = emptyB W → joinB W l r = emptyB W := fun h1 h2 => by unfold joinB; rw [if_pos ⟨h1, h2⟩]
  have h2 : ¬ (l = emptyB W ∧ r = emptyB W) → joinB W l r = cutB (oneB ++ l ++ r) W := fun h => by unfold joinB; rw [if_neg h]
  have CE := Lib.hid (refempty_calls W w hL)
  have CN := Lib.hid (fun w h => refnode_calls W l r hl hr w h)
  have HL := Lib.hid hL
  have HZ := Lib.hid (And.intro h1 h2)
  clear h1 h2 hL
  generalize emptyB W = x at *
  by_cases e1 : l = x
  · by_cases e2 : r = x
    · have hz := HZ.out.1 e1 e2
      rw [hz]
      clear HZ hz
      subst e1
      subst e2
      go_enter Tryd.func52, Tryd.ntmps52
      go_wp2_with (go_at_call 48; (with_reducible refine CE.out.mono ?_); rintro e w1 ⟨rfl, hb1⟩)
      go_ret
      exact ⟨rfl, by assumption⟩
    · have hz := HZ.out.2 (fun h => e2 h.2)
      rw [hz]
      clear HZ hz
      have n2 := seq_no e2
      subst e1
      go_enter Tryd.func52, Tryd.ntmps52
      go_wp2_with (first
        | (go_at_call 48; (with_reducible refine CE.out.mono ?_); rintro e w1 ⟨rfl, hb1⟩; have HB1 := Lib.hid hb1; clear hb1)
        | (go_at_call 91; (with_reducible refine (CN.out _ (HL.out.below HB1.out h4)).mono ?_); rintro e w2 ⟨rfl, hb2⟩; have HB2 := Lib.hid (HB1.out.trans (hb2.mono HB1.out.size)); clear hb2))
      go_ret
      exact ⟨rfl, HB2.out⟩
  · have hz := HZ.out.2 (fun h => e1 h.1)
    rw [hz]
    clear HZ hz
    have n1 := seq_no e1
    go_enter Tryd.func52, Tryd.ntmps52
    go_wp2_with (first
      | (go_at_call 48; (with_reducible refine CE.out.mono ?_); rintro e w1 ⟨rfl, hb1⟩; have HB1 := Lib.hid hb1; clear hb1)
      | (go_at_call 91; (with_reducible refine (CN.out _ (HL.out.below HB1.out h4)).mono ?_); rintro e w2 ⟨rfl, hb2⟩; have HB2 := Lib.hid (HB1.out.trans (hb2.mono HB1.out.size)); clear hb2))
    go_ret
    exact ⟨rfl, HB2.out⟩
theorem mrefplace_calls (W : Int) (s : ByteArray) (w : World) (hL : Laid w) (hn : s.size + 80 ≤ 140737488355328) : Calls Tryd.prog 46 #[.int .i64 W, .string s] w fun e w' => e = .returned (.string (cutB s W)) ∧ Below w.heap.size w w' := by
  have CC := Lib.hid (refcut_calls s W w hL hn)
  clear hL
  go_enter Tryd.func46, Tryd.ntmps46
  go_wp2_with (go_at_call 49; (with_reducible refine CC.out.mono ?_); rintro e w1 ⟨rfl, hb1⟩)
  go_ret
  exact ⟨rfl, by assumption⟩
end Go.Proofs.YtkpfbjlbllpahaaDoor
