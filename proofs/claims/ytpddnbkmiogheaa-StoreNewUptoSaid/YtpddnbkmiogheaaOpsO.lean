import Derived.Test.YtpddnbkmiogheaaRows
import Derived.Test.YtpddnbkmiogheaaLd5
import Derived.ProofKit
import Derived.OpenShut
import Derived.Lib.SmallJoins
import Derived.Deep.Slices
import Derived.SliceStrings
set_option linter.unusedVariables false
namespace Go.Proofs.Ytpddnbkmiogheaa
open Go.ChangeShapes Go.WideShapes Go.ChangeAt Go.RowKit Go.Deep Go.Joins
section
variable {H : Type} {enc : TypeId × Value → H} {W : World} {b : Nat} {sp : Nat → Bool} {hd : Bool} {n t e : Nat} {v : Value} {y : DataW H × List MemPlace}
theorem strO (ht : Try.prog.underlying t = some .string) (h : DataW.trod enc Try.prog W b sp hd n t [v] = some y) : ∃ s : ByteArray, v = .string s ∧ y = (.lit (.string s.data.toList), []) ∧ s.size ≤ maxLen := by
  obtain ⟨s, h1, h2, h3⟩ := DataW.trod_string ht h
  exact ⟨s, by simpa using h1, h2, h3⟩
theorem intO (ht : Try.prog.underlying t = some (.int .i64)) (h : DataW.trod enc Try.prog W b sp hd n t [v] = some y) : ∃ z : Int, v = .int .i64 z ∧ y = (.lit (.int .i64 z), []) ∧ (Lit.int .i64 z).wf = true := by
  obtain ⟨s, h1, h2, h3⟩ := DataW.trod_int ht h
  exact ⟨s, by simpa using h1, h2, h3⟩
theorem bulkO_mem : ∀ {l : List (DataW H)} {d : DataW H}, d ∈ l → Rows.uptoBulk d ≤ Rows.uptoBulkAll l
  | a :: r, d, h => by
    rw [Rows.uptoBulkAll]
    rcases List.mem_cons.1 h with rfl | h
    · omega
    · have := bulkO_mem h; omega
theorem bulkO_pos (d : DataW H) : 1 ≤ Rows.uptoBulk d := by
  cases d with
  | lit l => cases l <;> simp [Rows.uptoBulk]
  | _ => simp [Rows.uptoBulk]
theorem bulkO_len : ∀ l : List (DataW H), l.length ≤ Rows.uptoBulkAll l
  | [] => Nat.zero_le _
  | a :: r => by
    rw [Rows.uptoBulkAll]
    have := bulkO_len r
    have := bulkO_pos a
    simp only [List.length_cons]; omega
theorem bulkO_str (s : ByteArray) : Rows.uptoBulk (DataW.lit (.string s.data.toList) : DataW H) = s.size + 1 := by
  rw [Rows.uptoBulk]; simp
theorem four {α : Type} {l : List α} (h : l.length = 4) : ∃ c0 c1 c2 c3, l = [c0, c1, c2, c3] := by
  match l, h with
  | [c0, c1, c2, c3], _ => exact ⟨c0, c1, c2, c3, rfl⟩
/-- One call of a script, from its four cells. -/
theorem op_of {f0 f1 f2 f3 : Field} {cs : List Value} (hs : Try.prog.underlying t = some (.struct #[f0, f1, f2, f3])) (hone : oneCellFields Try.prog #[f0, f1, f2, f3] = true) (hC : Try.prog.cellsOf t = 4)
    (t0 : Try.prog.underlying f0.type = some (.int .i64)) (t1 : Try.prog.underlying f1.type = some .string) (t2 : Try.prog.underlying f2.type = some .string) (t3 : Try.prog.underlying f3.type = some (.int .i64))
    (h : DataW.trod enc Try.prog W b sp hd n t cs = some y) :
    ∃ o : OpZ, cs = [.int .i64 o.kind, .string o.key, .string o.data, .int .i64 o.n] ∧ o.key.size + o.data.size ≤ Rows.uptoBulk y.1 ∧ o.n ≤ 9223372036854775807 := by
  obtain ⟨xs, m, _, hx, hl, hlen, hf⟩ := DataW.trod_struct hs h
  obtain ⟨c0, c1, c2, c3, rfl⟩ := four (hl.trans hC)
  obtain ⟨y0, y1, y2, y3, rfl⟩ := four (l := xs) (by simpa using hlen)
  obtain ⟨o0, k0⟩ := hone_of hone 0 f0 rfl
  obtain ⟨o1, k1⟩ := hone_of hone 1 f1 rfl
  obtain ⟨o2, k2⟩ := hone_of hone 2 f2 rfl
  obtain ⟨o3, k3⟩ := hone_of hone 3 f3 rfl
  have g0 := hf 0 f0 rfl
  have g1 := hf 1 f1 rfl
  have g2 := hf 2 f2 rfl
  have g3 := hf 3 f3 rfl
  simp only [o0, k0, o1, k1, o2, k2, o3, k3] at g0 g1 g2 g3
  obtain ⟨kd, rfl, rfl, _⟩ := intO t0 (by simpa using g0)
  obtain ⟨key, rfl, rfl, _⟩ := strO t1 (by simpa using g1)
  obtain ⟨dat, rfl, rfl, _⟩ := strO t2 (by simpa using g2)
  obtain ⟨nn, rfl, rfl, hw⟩ := intO t3 (by simpa using g3)
  refine ⟨⟨kd, key, dat, nn⟩, rfl, ?_, (bounds_i64 hw).2⟩
  rw [hx]
  simp only [List.map_cons, List.map_nil, Rows.uptoBulk, Rows.uptoBulkAll, Array.length_toList]
  show key.data.size + dat.data.size ≤ _
  omega
theorem ops_pick {p : Nat → OpZ → Prop} : ∀ (n : Nat), (∀ i, i < n → ∃ o, p i o) → ∃ l : List OpZ, l.length = n ∧ ∀ i (h : i < l.length), p i l[i]
  | 0, _ => ⟨[], rfl, fun i h => absurd h (Nat.not_lt_zero _)⟩
  | n + 1, h => by
    obtain ⟨l, h1, h2⟩ := ops_pick n (fun i hi => h i (by omega))
    obtain ⟨o, ho⟩ := h n (by omega)
    refine ⟨l ++ [o], by simp [h1], fun i hi => ?_⟩
    by_cases e : i < l.length
    · rw [List.getElem_append_left e]; exact h2 i e
    · have : i = n := by simp at hi; omega
      subst this
      rw [List.getElem_append_right (by omega)]
      simpa [h1] using ho
/-- A script that came in. -/
theorem ops_of {f0 f1 f2 f3 : Field} (ht : Try.prog.underlying t = some (.slice e)) (hs : Try.prog.underlying e = some (.struct #[f0, f1, f2, f3])) (hone : oneCellFields Try.prog #[f0, f1, f2, f3] = true) (hC : Try.prog.cellsOf e = 4)
    (t0 : Try.prog.underlying f0.type = some (.int .i64)) (t1 : Try.prog.underlying f1.type = some .string) (t2 : Try.prog.underlying f2.type = some .string) (t3 : Try.prog.underlying f3.type = some (.int .i64))
    (h : DataW.trod enc Try.prog W b sp hd n t [v] = some y) (hk : Rows.uptoBulk y.1 ≤ 1048576) : ∃ l : List OpZ, OpsIn W.heap.size W v l ∧ l.length ≤ Rows.uptoBulk y.1 := by
  rcases open_slice ht h with ⟨hcs, hx⟩ | ⟨a, len, cap, m, k, D, Pl, hcs, _, hl, hm, hmm, hx, hall⟩
  · obtain rfl : v = .slice none 0 0 := by simpa using hcs
    exact ⟨[], ⟨⟨_, _, rfl⟩, (fun o ho => by cases ho), (fun i hi => absurd hi (Nat.not_lt_zero _))⟩, Nat.zero_le _⟩
  · obtain rfl : v = .slice (some a) len cap := by simpa using hcs
    subst hx
    have hle : len ≤ m := by rw [hmm]; split <;> omega
    have hD : ∀ i, i < len → Rows.uptoBulk (D i) ≤ 1048576 := fun i hi => by
      have h1 := bulkO_mem (l := (List.range len).map D) (d := D i) (List.mem_map.2 ⟨i, by simpa using hi, rfl⟩)
      simp only [Rows.uptoBulk] at hk
      omega
    have hlen : len ≤ Rows.uptoBulk (DataW.slice ((List.range len).map D) ((List.range (m - len)).map fun j => D (len + j))) := by
      have h1 := bulkO_len ((List.range len).map D)
      simp only [Rows.uptoBulk]
      simp only [List.length_map, List.length_range] at h1
      omega
    have hsp0 : 0 < len → a.spot = none := fun h0 => by
      obtain ⟨cs', h1, h2⟩ := hall 0 (by omega)
      rw [hC] at h1
      obtain ⟨_, hn4, hcell⟩ := World.cells?_some h1
      have q0 := hcell 0 (by omega)
      obtain ⟨c0, c1, c2, c3, rfl⟩ := four hn4
      exact World.cell?_spot (v := c0) (by simpa [Addr.add] using q0)
    obtain ⟨l, hl1, hl2⟩ := ops_pick (p := fun i o => o.Ok ∧ ∃ g off, a = ⟨g, off, none⟩ ∧ g < W.heap.size ∧ W.cell? ⟨g, off + i * 4, none⟩ = some (.int .i64 o.kind) ∧ W.cell? ⟨g, off + i * 4 + 1, none⟩ = some (.string o.key) ∧
      W.cell? ⟨g, off + i * 4 + 2, none⟩ = some (.string o.data) ∧ W.cell? ⟨g, off + i * 4 + 3, none⟩ = some (.int .i64 o.n)) len (fun i hi => by
        obtain ⟨cs', h1, h2⟩ := hall i (by omega)
        rw [hC] at h1
        obtain ⟨_, hn4, hcell⟩ := World.cells?_some h1
        obtain ⟨o, rfl, ho1, ho2⟩ := op_of hs hone hC t0 t1 t2 t3 h2
        have hb := hD i hi
        simp only at ho1
        have q0 := hcell 0 (by omega)
        have q1 := hcell 1 (by omega)
        have q2 := hcell 2 (by omega)
        have q3 := hcell 3 (by omega)
        obtain ⟨g, off, spot⟩ := a
        have hspot : spot = none := hsp0 (by omega)
        subst hspot
        rw [add_plain] at q0 q1 q2 q3
        rw [add_plain] at q0 q1 q2 q3
        have hbl := World.block_lt_of_cell? W _ (u := .int .i64 o.kind) (by simpa using q0)
        exact ⟨o, ⟨by omega, by omega, ho2⟩, g, off, rfl, hbl, by simpa using q0, by simpa using q1, by simpa using q2, by simpa using q3⟩)
    refine ⟨l, ⟨⟨_, _, by rw [hl1]⟩, fun o ho => ?_, fun i hi => ?_⟩, by rw [hl1]; exact hlen⟩
    · obtain ⟨i, hi, rfl⟩ := List.getElem_of_mem ho
      exact (hl2 i hi).1
    · obtain ⟨_, g, off, rfl, hg, r0, r1, r2, r3⟩ := hl2 i hi
      exact ⟨g, off, cap, by rw [hl1], hg, r0, r1, r2, r3⟩
end
end Go.Proofs.Ytpddnbkmiogheaa
