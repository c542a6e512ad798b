import Derived.Test.YtpgflnjpohmldaaMeterText7
import Derived.ProofKit
set_option linter.unusedVariables false
namespace Go.Proofs.Ytpgflnjpohmldaa
open Go.RowKit
/-- A slice of ints that came in: what it reads as. -/
def IntsIn (w : World) (v : Value) (l : List Int) : Prop :=
  ∃ a cap, v = .slice a l.length cap ∧ (l ≠ [] → ∃ b off, a = some ⟨b, off, none⟩ ∧ b < w.heap.size ∧ ∀ j (h : j < l.length), w.cell? ⟨b, off + j, none⟩ = some (.int .i64 l[j])) ∧ ∀ n ∈ l, -9223372036854775808 ≤ n ∧ n ≤ 9223372036854775807
theorem ints_nil (w : World) : IntsIn w (.slice none 0 0) [] := ⟨none, 0, rfl, fun h => absurd rfl h, fun n hn => by cases hn⟩
theorem ints_of {w : World} {len cap : Nat} (zs : List Int) (x : Addr) (hl : len ≤ zs.length) (hcell : ∀ i, i < zs.length → w.cell? (x.add i) = some (.int .i64 (zs.getD i 0))) (hwf : ∀ n ∈ zs, (Lit.int .i64 n).wf = true) : IntsIn w (.slice (some x) len cap) (zs.take len) := by
  have hlen : (zs.take len).length = len := by rw [List.length_take]; omega
  refine ⟨some x, cap, by rw [hlen], fun hne => ?_, fun n hn => ?_⟩
  · have hpos : 0 < len := by
      rw [← hlen]; exact List.length_pos_iff.mpr hne
    obtain ⟨b, off, spot⟩ := x
    have hspot : spot = none := by simpa [Addr.add] using World.cell?_spot (hcell 0 (by omega))
    subst hspot
    refine ⟨b, off, rfl, ?_, fun j hj => ?_⟩
    · have h0 := hcell 0 (by omega)
      have := World.block_lt_of_cell? w _ h0
      simpa [Addr.add] using this
    · rw [hlen] at hj
      rw [← Go.WideShapes.add_plain, hcell j (by omega), List.getElem_take, List.getD_eq_getElem?_getD, List.getElem?_eq_getElem (by omega)]; rfl
  · have := hwf n (List.mem_of_mem_take hn)
    simp [Lit.wf, IntKind.min, IntKind.max, IntKind.signed, IntKind.bits] at this
    omega
theorem IntsIn.keep {w w' : World} {v : Value} {l : List Int} (h : IntsIn w v l) (hb : Below w.heap.size w w') : IntsIn w' v l := by
  obtain ⟨a, cap, rfl, hc, hw⟩ := h
  refine ⟨a, cap, rfl, fun hne => ?_, hw⟩
  obtain ⟨b, off, rfl, hlt, hcs⟩ := hc hne
  exact ⟨b, off, rfl, Nat.lt_of_lt_of_le hlt hb.size, fun j hj => (hb.cell (p := ⟨b, off + j, none⟩) hlt).trans (hcs j hj)⟩
end Go.Proofs.Ytpgflnjpohmldaa
