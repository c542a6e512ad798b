import Derived.Test.YtcicdgajhheipaaProg
import Derived.WalkKit
import Derived.Lib.Hide
import Derived.Below
import Derived.Deep.QuietTactic
set_option linter.unusedVariables false
namespace Go.Proofs.Ytcicdgajhheipaa
open Go.RowKit
/-- A list of one-cell elements that came in: a slice whose cells are xs. -/
def Held (w : World) (v : Value) (xs : List Value) : Prop :=
  ∃ a cap, v = .slice a xs.length cap ∧ xs.length ≤ cap ∧ (xs ≠ [] → ∃ g o, a = some ⟨g, o, none⟩ ∧ g < w.heap.size ∧ ∀ j (h : j < xs.length), w.cell? ⟨g, o + j, none⟩ = some xs[j])
theorem Held.nil (w : World) : Held w (.slice none 0 0) [] := ⟨none, 0, rfl, Nat.le_refl _, fun h => absurd rfl h⟩
theorem Held.keep {w w' : World} {v : Value} {xs : List Value} (h : Held w v xs) (hb : Below w.heap.size w w') : Held w' v xs := by
  obtain ⟨a, cap, rfl, hc, hx⟩ := h
  refine ⟨a, cap, rfl, hc, fun hne => ?_⟩
  obtain ⟨g, o, rfl, hg, hcs⟩ := hx hne
  exact ⟨g, o, rfl, Nat.lt_of_lt_of_le hg hb.size, fun j hj => (hb.cell (p := ⟨g, o + j, none⟩) hg).trans (hcs j hj)⟩
theorem Held.alloc {w : World} {v : Value} {xs : List Value} (h : Held w v xs) (o : Obj) : Held (w.alloc o) v xs := h.keep ((Below.refl _ _).alloc (Nat.le_refl _) o)
theorem Held.below {w w' : World} {B : Nat} {v : Value} {xs : List Value} (h : Held w v xs) (hs : w.heap.size ≤ B) (hb : Below B w w') : Held w' v xs := h.keep (hb.mono hs)
def bV (l : List Bool) : List Value := l.map Value.bool
def tV (l : List ByteArray) : List Value := l.map Value.string
def iV (l : List Int) : List Value := l.map (Value.int .i64)
theorem bV_len (l : List Bool) : (bV l).length = l.length := by simp [bV]
theorem tV_len (l : List ByteArray) : (tV l).length = l.length := by simp [tV]
theorem iV_len (l : List Int) : (iV l).length = l.length := by simp [iV]
theorem bV_ne {l : List Bool} (j : Nat) (h : j < l.length) : bV l ≠ [] := by intro e; have := bV_len l; rw [e] at this; simp at this; omega
theorem tV_ne {l : List ByteArray} (j : Nat) (h : j < l.length) : tV l ≠ [] := by intro e; have := tV_len l; rw [e] at this; simp at this; omega
theorem iV_ne {l : List Int} (j : Nat) (h : j < l.length) : iV l ≠ [] := by intro e; have := iV_len l; rw [e] at this; simp at this; omega
theorem Held.bool {w : World} {v : Value} {l : List Bool} (h : Held w v (bV l)) : ∃ a cap, v = .slice a l.length cap ∧ l.length ≤ cap ∧ ∀ j (hj : j < l.length), ∃ g o, a = some ⟨g, o, none⟩ ∧ g < w.heap.size ∧ w.cell? ⟨g, o + j, none⟩ = some (.bool l[j]) := by
  obtain ⟨a, cap, rfl, hc, hx⟩ := h
  rw [bV_len] at hc ⊢
  refine ⟨a, cap, rfl, hc, fun j hj => ?_⟩
  obtain ⟨g, o, ha, hg, hcs⟩ := hx (bV_ne j hj)
  exact ⟨g, o, ha, hg, by rw [hcs j (by rw [bV_len]; exact hj)]; simp [bV]⟩
theorem Held.text {w : World} {v : Value} {l : List ByteArray} (h : Held w v (tV l)) : ∃ a cap, v = .slice a l.length cap ∧ l.length ≤ cap ∧ ∀ j (hj : j < l.length), ∃ g o, a = some ⟨g, o, none⟩ ∧ g < w.heap.size ∧ w.cell? ⟨g, o + j, none⟩ = some (.string l[j]) := by
  obtain ⟨a, cap, rfl, hc, hx⟩ := h
  rw [tV_len] at hc ⊢
  refine ⟨a, cap, rfl, hc, fun j hj => ?_⟩
  obtain ⟨g, o, ha, hg, hcs⟩ := hx (tV_ne j hj)
  exact ⟨g, o, ha, hg, by rw [hcs j (by rw [tV_len]; exact hj)]; simp [tV]⟩
theorem Held.int {w : World} {v : Value} {l : List Int} (h : Held w v (iV l)) : ∃ a cap, v = .slice a l.length cap ∧ l.length ≤ cap ∧ ∀ j (hj : j < l.length), ∃ g o, a = some ⟨g, o, none⟩ ∧ g < w.heap.size ∧ w.cell? ⟨g, o + j, none⟩ = some (.int .i64 l[j]) := by
  obtain ⟨a, cap, rfl, hc, hx⟩ := h
  rw [iV_len] at hc ⊢
  refine ⟨a, cap, rfl, hc, fun j hj => ?_⟩
  obtain ⟨g, o, ha, hg, hcs⟩ := hx (iV_ne j hj)
  exact ⟨g, o, ha, hg, by rw [hcs j (by rw [iV_len]; exact hj)]; simp [iV]⟩
theorem belowDrewN {B : Nat} {w W : World} (h : Below B w W) (n : Nat) : Below B w (W.drewN n) := ⟨h.os, h.tape, h.output, h.size, h.block⟩
end Go.Proofs.Ytcicdgajhheipaa
