import Derived.Test.YtkpfbjlbllpahaaDoorByt
import Derived.LoopTactic
import Derived.Deep.QuietTactic
set_option linter.unusedVariables false
namespace Go.Proofs.YtkpfbjlbllpahaaDoor
open Go.RowKit
/-- A list of one-cell elements that came in: a slice whose cells are xs. -/
def Held (w : World) (v : Value) (xs : List Value) : Prop :=
  ∃ a cap, v = .slice a xs.length cap ∧ xs.length ≤ cap ∧ (xs ≠ [] → ∃ g o, a = some ⟨g, o, none⟩ ∧ g < w.heap.size ∧ ∀ j (h : j < xs.length), w.cell? ⟨g, o + j, none⟩ = some xs[j])
theorem Held.nil (w : World) : Held w (.slice none 0 0) [] := ⟨none, 0, rfl, Nat.le_refl _, fun h => absurd rfl h⟩
theorem Held.keep {w w' : World} {v : Value} {xs : List Value} (h : Held w v xs) (hb : Below w.heap.size w w') : Held w' v xs := by
  obtain ⟨a, cap, rfl, hc, hx⟩ := h
  refine ⟨a, cap, rfl, hc, fun hne => ?_⟩
  obtain ⟨g, o, rfl, hg, hcs⟩ := hx hne
  exact ⟨g, o, rfl, Nat.lt_of_lt_of_le hg hb.size, fun j hj => (hb.cell (p := ⟨g, o + j, none⟩) hg).trans (hcs j hj)⟩
theorem Held.alloc {w : World} {v : Value} {xs : List Value} (h : Held w v xs) (o : Obj) : Held (w.alloc o) v xs := h.keep ((Below.refl _ _).alloc (Nat.le_refl _) o)
theorem Held.below {w w' : World} {B : Nat} {v : Value} {xs : List Value} (h : Held w v xs) (hs : w.heap.size ≤ B) (hb : Below B w w') : Held w' v xs := h.keep (hb.mono hs)
def bV (l : List Bool) : List Value := l.map Value.bool
def tV (l : List ByteArray) : List Value := l.map Value.string
theorem bV_len (l : List Bool) : (bV l).length = l.length := by simp [bV]
theorem tV_len (l : List ByteArray) : (tV l).length = l.length := by simp [tV]
theorem bV_ne {l : List Bool} (j : Nat) (h : j < l.length) : bV l ≠ [] := by intro e; have := bV_len l; rw [e] at this; simp at this; omega
theorem tV_ne {l : List ByteArray} (j : Nat) (h : j < l.length) : tV l ≠ [] := by intro e; have := tV_len l; rw [e] at this; simp at this; omega
theorem Held.bool {w : World} {v : Value} {l : List Bool} (h : Held w v (bV l)) : ∃ a cap, v = .slice a l.length cap ∧ l.length ≤ cap ∧ ∀ j (hj : j < l.length), ∃ g o, a = some ⟨g, o, none⟩ ∧ g < w.heap.size ∧ w.cell? ⟨g, o + j, none⟩ = some (.bool l[j]) := by
  obtain ⟨a, cap, rfl, hc, hx⟩ := h
  rw [bV_len] at hc ⊢
  refine ⟨a, cap, rfl, hc, fun j hj => ?_⟩
  obtain ⟨g, o, ha, hg, hcs⟩ := hx (bV_ne j hj)
  exact ⟨g, o, ha, hg, by rw [hcs j (by rw [bV_len]; exact hj)]; simp [bV]⟩
theorem Held.text {w : World} {v : Value} {l : List ByteArray} (h : Held w v (tV l)) : ∃ a cap, v = .slice a l.length cap ∧ l.length ≤ cap ∧ ∀ j (hj : j < l.length), ∃ g o, a = some ⟨g, o, none⟩ ∧ g < w.heap.size ∧ w.cell? ⟨g, o + j, none⟩ = some (.string l[j]) := by
  obtain ⟨a, cap, rfl, hc, hx⟩ := h
  rw [tV_len] at hc ⊢
  refine ⟨a, cap, rfl, hc, fun j hj => ?_⟩
  obtain ⟨g, o, ha, hg, hcs⟩ := hx (tV_ne j hj)
  exact ⟨g, o, ha, hg, by rw [hcs j (by rw [tV_len]; exact hj)]; simp [tV]⟩
theorem belowDrewN {B : Nat} {w W : World} (h : Below B w W) (n : Nat) : Below B w (W.drewN n) := ⟨h.os, h.tape, h.output, h.size, h.block⟩
set_option maxRecDepth 100000 in
set_option maxHeartbeats 1000000 in
theorem samebits_calls (v u : Value) (l : List Bool) (w : World) (hv : Held w v (bV l)) (hu : Held w u (bV l)) (hlen : l.length ≤ 1048576) :
    Calls Tryd.prog 69 #[v, u] w fun e w' => e = .returned (.bool true) ∧ Below w.heap.size w w' := by
  obtain ⟨a, c1, rfl, _, hc⟩ := hv.bool
  obtain ⟨b, c2, rfl, _, hd⟩ := hu.bool
  obtain ⟨n, hnn⟩ : ∃ n, n = l.length := ⟨_, rfl⟩
  have HC := Lib.hid hc
  have HD := Lib.hid hd
  rw [← hnn] at hlen
  rw [← hnn]
  have HN := Lib.hid hnn
  clear hc hd hnn hv hu
  go_enter Tryd.func69, Tryd.ntmps69
  go_wp2
  go_loopw [5] (fun iv wr => ∃ k : Nat, k ≤ n ∧ iv = .int .i64 k ∧ Hid (Below w.heap.size w wr)) (fun iv _ => n - (intOf iv).toNat)
  case atStart => exact ⟨0, by omega, rfl, Lib.hid (Below.refl _ _)⟩
  case round =>
    obtain ⟨k, hk, rfl, HB⟩ := hrel
    by_cases hlt : k < n
    · have hkl : k < l.length := by rw [← HN.out]; exact hlt
      obtain ⟨g, o, rfl, hg, hcell⟩ := HC.out k hkl
      obtain ⟨g2, o2, rfl, hg2, hcell2⟩ := HD.out k hkl
      have hc1 : wr.cell? ⟨g, o + k, none⟩ = some (.bool l[k]) := (HB.out.cell (p := ⟨g, o + k, none⟩) hg).trans hcell
      have hc2 : wr.cell? ⟨g2, o2 + k, none⟩ = some (.bool l[k]) := (HB.out.cell (p := ⟨g2, o2 + k, none⟩) hg2).trans hcell2
      clear hcell hcell2
      generalize l[k] = x at *
      have hbk : (k : Int) < n := by omega
      go_wp2
      go_quiet (fail)
      go_wp2
      go_roundw
      case rel => exact ⟨k + 1, by omega, by go_num, Lib.hid (belowDrewN HB.out _)⟩
      case measure => simp [intOf]; omega
    · obtain rfl : k = n := by omega
      go_wp2
      go_ret
      exact ⟨rfl, HB.out⟩
set_option maxRecDepth 100000 in
set_option maxHeartbeats 1000000 in
theorem sametexts_calls (v u : Value) (l : List ByteArray) (w : World) (hv : Held w v (tV l)) (hu : Held w u (tV l)) (hlen : l.length ≤ 1048576) :
    Calls Tryd.prog 23 #[v, u] w fun e w' => e = .returned (.bool true) ∧ Below w.heap.size w w' := by
  obtain ⟨a, c1, rfl, _, hc⟩ := hv.text
  obtain ⟨b, c2, rfl, _, hd⟩ := hu.text
  obtain ⟨n, hnn⟩ : ∃ n, n = l.length := ⟨_, rfl⟩
  have HC := Lib.hid hc
  have HD := Lib.hid hd
  rw [← hnn] at hlen
  rw [← hnn]
  have HN := Lib.hid hnn
  clear hc hd hnn hv hu
  go_enter Tryd.func23, Tryd.ntmps23
  go_wp2
  go_loopw [5] (fun iv wr => ∃ k : Nat, k ≤ n ∧ iv = .int .i64 k ∧ Hid (Below w.heap.size w wr)) (fun iv _ => n - (intOf iv).toNat)
  case atStart => exact ⟨0, by omega, rfl, Lib.hid (Below.refl _ _)⟩
  case round =>
    obtain ⟨k, hk, rfl, HB⟩ := hrel
    by_cases hlt : k < n
    · have hkl : k < l.length := by rw [← HN.out]; exact hlt
      obtain ⟨g, o, rfl, hg, hcell⟩ := HC.out k hkl
      obtain ⟨g2, o2, rfl, hg2, hcell2⟩ := HD.out k hkl
      have hc1 : wr.cell? ⟨g, o + k, none⟩ = some (.string l[k]) := (HB.out.cell (p := ⟨g, o + k, none⟩) hg).trans hcell
      have hc2 : wr.cell? ⟨g2, o2 + k, none⟩ = some (.string l[k]) := (HB.out.cell (p := ⟨g2, o2 + k, none⟩) hg2).trans hcell2
      clear hcell hcell2
      generalize l[k] = x at *
      have hbk : (k : Int) < n := by omega
      go_wp2
      go_quiet (fail)
      go_wp2
      go_roundw
      case rel => exact ⟨k + 1, by omega, by go_num, Lib.hid (belowDrewN HB.out _)⟩
      case measure => simp [intOf]; omega
    · obtain rfl : k = n := by omega
      go_wp2
      go_ret
      exact ⟨rfl, HB.out⟩
end Go.Proofs.YtkpfbjlbllpahaaDoor
