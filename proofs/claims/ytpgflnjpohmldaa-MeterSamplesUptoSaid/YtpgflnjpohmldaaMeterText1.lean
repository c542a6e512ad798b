import Derived.Test.YtpgflnjpohmldaaProg
import Derived.Test.YtpgflnjpohmldaaDigs
import Derived.WalkKit
import Derived.WalkSpells
import Derived.WalkLawsBesides
import Derived.Laws.OwnMore
import Derived.Laws.IdiomStrings
import Derived.Lib.Hide
set_option linter.unusedVariables false
namespace Go.Proofs.Ytpgflnjpohmldaa
open Go.RowKit
theorem infoByte : (Try.prog.info? 5).map (fun i => (i.zero, i.size, i.bytes)) = some (some (.int .u8 0), 1, 1) := by kernel_rfl
/-- Bytes as cells. -/
def byteV (d : Nat) : Value := .int .u8 (d : Int)
def byteC (l : List Nat) : List Value := l.map byteV
theorem byteC_len (l : List Nat) : (byteC l).length = l.length := by simp [byteC]
theorem byteC_append (a b : List Nat) : byteC (a ++ b) = byteC a ++ byteC b := by simp [byteC]
theorem byteC_at (l : List Nat) (j : Nat) (h : j < l.length) : (byteC l)[j]? = some (.int .u8 (l.getD j 0 : Nat)) := by
  simp [byteC, byteV, List.getD_eq_getElem?_getD, List.getElem?_eq_getElem h]
theorem byteC_set (l : List Nat) (j x : Nat) : byteC (l.set j x) = (byteC l).set j (.int .u8 (x : Int)) := by
  simp [byteC, byteV]
theorem belowThen {w w1 w2 : World} (h : Below w.heap.size w w1) (k : Below w1.heap.size w1 w2) : Below w.heap.size w w2 := h.trans (k.mono h.size)
theorem belowAlloc {w x : World} (h : Below w.heap.size w x) (o : Obj) : Below w.heap.size w (x.alloc o) := h.alloc h.size o
theorem belowDrew {w x : World} (h : Below w.heap.size w x) : Below w.heap.size w x.drew := h.drew
theorem grownDrew {a b : World} {row : Option Nat} (h : a.grownBy b row) : a.grownBy b.drew row := ⟨h.os, h.tape, h.output, h.size, h.block⟩
theorem drewGrown {a b : World} {row : Option Nat} (h : a.drew.grownBy b row) : a.grownBy b row := ⟨h.os, h.tape, h.output, h.size, h.block⟩
/-- A list that is turned round from both ends, k places each. -/
def revAt (l : List Nat) (k : Nat) : List Nat := (List.range l.length).map fun p => if p < k ∨ l.length - k ≤ p then l.getD (l.length - 1 - p) 0 else l.getD p 0
theorem revAt_len (l : List Nat) (k : Nat) : (revAt l k).length = l.length := by simp [revAt]
theorem revAt_get (l : List Nat) (k p : Nat) (h : p < l.length) : (revAt l k)[p]? = some (if p < k ∨ l.length - k ≤ p then l.getD (l.length - 1 - p) 0 else l.getD p 0) := by
  simp [revAt, h]
theorem revAt_zero (l : List Nat) : revAt l 0 = l := by
  apply List.ext_getElem?
  intro p
  rcases Nat.lt_or_ge p l.length with h | h
  · rw [revAt_get l 0 p h, if_neg (by omega), List.getD_eq_getElem?_getD, List.getElem?_eq_getElem h]; rfl
  · rw [List.getElem?_eq_none (by rw [revAt_len]; exact h), List.getElem?_eq_none h]
theorem revAt_end (l : List Nat) (k : Nat) (hk : l.length ≤ 2 * k + 1) : revAt l k = l.reverse := by
  apply List.ext_getElem?
  intro p
  rcases Nat.lt_or_ge p l.length with h | h
  · rw [revAt_get l k p h, List.getElem?_reverse h]
    have e : l[l.length - 1 - p]? = some (l.getD (l.length - 1 - p) 0) := by
      rw [List.getD_eq_getElem?_getD, List.getElem?_eq_getElem (by omega)]; rfl
    rw [e]
    split
    · rfl
    · rw [show l.length - 1 - p = p by omega]
  · rw [List.getElem?_eq_none (by rw [revAt_len]; exact h), List.getElem?_eq_none (by simpa using h)]
theorem revAt_step (l : List Nat) (k : Nat) (h : 2 * k + 1 < l.length) : ((revAt l k).set k (l.getD (l.length - 1 - k) 0)).set (l.length - 1 - k) (l.getD k 0) = revAt l (k + 1) := by
  apply List.ext_getElem?
  intro p
  rcases Nat.lt_or_ge p l.length with hp | hp
  · rw [revAt_get l (k + 1) p hp, List.getElem?_set]
    by_cases a : l.length - 1 - k = p
    · rw [if_pos a, if_pos (by rw [List.length_set, revAt_len]; omega), if_pos (by omega)]
      rw [show l.length - 1 - p = k by omega]
    · rw [if_neg a, List.getElem?_set]
      by_cases b : k = p
      · rw [if_pos b, if_pos (by rw [revAt_len]; omega), if_pos (by omega), b]
      · rw [if_neg b, revAt_get l k p hp]
        by_cases c : p < k ∨ l.length - k ≤ p
        · rw [if_pos c, if_pos (by omega)]
        · rw [if_neg c, if_neg (by omega)]
  · rw [List.getElem?_eq_none (by rw [List.length_set, List.length_set, revAt_len]; exact hp), List.getElem?_eq_none (by rw [revAt_len]; exact hp)]
theorem revAt_at (l : List Nat) (k : Nat) (h : 2 * k + 1 < l.length) : (revAt l k)[k]? = some (l.getD k 0) ∧ (revAt l k)[l.length - 1 - k]? = some (l.getD (l.length - 1 - k) 0) := by
  rw [revAt_get l k k (by omega), revAt_get l k _ (by omega), if_neg (by omega), if_neg (by omega)]
  exact ⟨rfl, rfl⟩
theorem set_swap (l : List Value) (i j : Nat) (x y : Value) (h : i ≠ j) : (l.set j y).set i x = (l.set i x).set j y := List.set_comm y x (Ne.symm h)
set_option maxHeartbeats 1000000 in
/-- slices.Reverse at a row of bytes of the call's own. -/
theorem reverse_own (base g cap n : Nat) (l : List Nat) (hn : l.length = n) (hlen : n ≤ 140737488355328) (w : World) (hown : w.ownsRow base 5 1 (.slice (some ⟨g, 0, none⟩) n cap) n (byteC l)) :
    Calls Try.prog 75 #[.slice (some ⟨g, 0, none⟩) n cap] w fun e w' => e = .returned (.tuple #[]) ∧ w'.ownsRow base 5 1 (.slice (some ⟨g, 0, none⟩) n cap) n (byteC l.reverse) ∧ w.grownBy w' (some g) := by
  go_enter Try.func75, Try.ntmps75
  go_wp2
  go_loopw [2, 3] (fun i j wr => ∃ k : Nat, 2 * k ≤ n + 1 ∧ i = .int .i64 k ∧ j = .int .i64 ((n : Int) - 1 - k) ∧ Hid (wr.ownsRow base 5 1 (.slice (some ⟨g, 0, none⟩) n cap) n (byteC (revAt l k))) ∧ Hid (w.grownBy wr (some g))) (fun i _ _ => n - (intOf i).toNat)
  case atStart => exact ⟨0, by omega, rfl, by go_num, Lib.hid (by rw [revAt_zero]; exact hown), Lib.hid ⟨rfl, rfl, rfl, Nat.le_refl _, fun _ _ _ => rfl⟩⟩
  case round =>
    obtain ⟨k, hk, rfl, rfl, HO, HG⟩ := hrel
    by_cases hlt : 2 * k + 1 < n
    · obtain ⟨m, hm⟩ : ∃ m : Nat, n = m + 1 + k := ⟨n - 1 - k, by omega⟩
      obtain ⟨e1, e2⟩ := revAt_at l k (by omega)
      have hst := revAt_step l k (by omega)
      rw [hn, show n - 1 - k = m by omega] at e2 hst
      have a1 : (byteC (revAt l k))[k]? = some (.int .u8 (l.getD k 0 : Nat)) := by unfold byteC; rw [List.getElem?_map, e1]; rfl
      have a2 : (byteC (revAt l k))[m]? = some (.int .u8 (l.getD m 0 : Nat)) := by unfold byteC; rw [List.getElem?_map, e2]; rfl
      have c1 := HO.out.cellAt k (by omega)
      have c2 := HO.out.cellAt m (by omega)
      rw [a1] at c1
      rw [a2] at c2
      have f1 := HO.out.frozenAt k
      have f2 := HO.out.frozenAt m
      have hnm : ((n : Int) - 1 - k) = (m : Int) := by omega
      have hkm : k < m := by omega
      have b1 : (k : Int) < n := by omega
      have b2 : (m : Int) < n := by omega
      rw [hnm]
      generalize hx : l.getD k 0 = x at *
      generalize hy : l.getD m 0 = y at *
      have HS := Lib.hid hst
      have HM := Lib.hid hm
      clear hst e1 e2 a1 a2 hx hy hnm hm
      have n1 : (k : Nat) ≠ m := by omega
      have n2 : (m : Nat) ≠ k := by omega
      have c1' : ∀ v, (wr.setCell ⟨g, m, none⟩ v).cell? ⟨g, k, none⟩ = some (.int .u8 x) := fun v => (World.cell?_setCell_other _ _ _ _ (by intro h; injection h; omega)).trans c1
      have c2' : ∀ v, (wr.setCell ⟨g, k, none⟩ v).cell? ⟨g, m, none⟩ = some (.int .u8 y) := fun v => (World.cell?_setCell_other _ _ _ _ (by intro h; injection h; omega)).trans c2
      go_wp2
      go_region
      go_wp2
      go_roundw
      case rel =>
        refine ⟨k + 1, by omega, by go_num, ?_, Lib.hid ?_, Lib.hid ?_⟩
        · have := HM.out; go_num
        · have h1 := (HO.out.stored k (.int .u8 y)).1
          have h2 := (h1.stored m (.int .u8 x)).1
          rw [← HS.out, byteC_set, byteC_set]
          exact h2
        · have h1 := HO.out.stored k (.int .u8 y)
          have h2 := (h1.1.stored m (.int .u8 x)).2
          exact grownDrew ((HG.out.trans h1.2).trans h2)
      case measure => simp [intOf]; omega
    · go_wp2
      go_end0
      refine ⟨rfl, ?_, HG.out⟩
      rw [← revAt_end l k (by omega)]; exact HO.out
theorem reverse_none (w : World) : Calls Try.prog 75 #[.slice none 0 0] w fun e w' => e = .returned (.tuple #[]) ∧ w = w' := by
  go_enter Try.func75, Try.ntmps75
  go_wp2
  refine wp_loop_rounds 1 ?_
  rw [rounds_succ]
  go_wp2
  go_end0
  exact ⟨rfl, rfl⟩
/-- The bytes of a row as a string. -/
theorem row_str (base g cap n : Nat) (l : List Nat) (w : World) (hown : w.ownsRow base 5 1 (.slice (some ⟨g, 0, none⟩) n cap) n (byteC l)) (h256 : ∀ d ∈ l, d < 256) :
    (convert 77 9 (.slice (some ⟨g, 0, none⟩) n cap)).run Try.prog w = .ok (.string ⟨(l.map UInt8.ofNat).toArray⟩) w := by
  have hn : l.length = n := by have := hown.1; rw [byteC_len] at this; omega
  subst hn
  have := run_convert_bytes_back (P := Try.prog) w 77 9 5 ⟨g, 0, none⟩ cap (l.map UInt8.ofNat) Try.underlying77 Try.underlying5 Try.underlying9 (fun j hj => by
    rw [List.length_map] at hj
    rw [show (⟨g, 0, none⟩ : Addr).add j = ⟨g, j, none⟩ by simp [Addr.add]; omega]
    rw [hown.cellAt j (by omega), byteC_at l j hj, List.getElem_map, UInt8.toNat_ofNat', Nat.mod_eq_of_lt (h256 _ (List.getElem_mem hj))]
    rw [List.getD_eq_getElem?_getD, List.getElem?_eq_getElem hj]; rfl)
  rw [List.length_map] at this
  exact this
end Go.Proofs.Ytpgflnjpohmldaa
