import Derived.Test.YtkpfbjlbllpahaaDoorRows
import Derived.Test.YtkpfbjlbllpahaaDoorMl1
import Derived.ProofKit
import Derived.OpenShut
import Derived.Lib.SmallJoins
import Derived.Deep.Slices
import Derived.SliceStrings
set_option linter.unusedVariables false
namespace Go.Proofs.YtkpfbjlbllpahaaDoor
open Go.ChangeShapes Go.WideShapes Go.ChangeAt Go.RowKit Go.Deep Go.Joins
section
variable {H : Type} {enc : TypeId × Value → H} {W : World} {b : Nat} {sp : Nat → Bool} {hd : Bool} {n t e : Nat} {v : Value} {y : DataW H × List MemPlace}
theorem str_of (ht : Tryd.prog.underlying t = some .string) (h : DataW.trod enc Tryd.prog W b sp hd n t [v] = some y) : ∃ s : ByteArray, v = .string s ∧ y = (.lit (.string s.data.toList), []) ∧ s.size ≤ maxLen := by
  obtain ⟨s, h1, h2, h3⟩ := DataW.trod_string ht h
  exact ⟨s, by simpa using h1, h2, h3⟩
theorem int_of (ht : Tryd.prog.underlying t = some (.int .i64)) (h : DataW.trod enc Tryd.prog W b sp hd n t [v] = some y) : ∃ z : Int, v = .int .i64 z ∧ y = (.lit (.int .i64 z), []) ∧ (Lit.int .i64 z).wf = true := by
  obtain ⟨s, h1, h2, h3⟩ := DataW.trod_int ht h
  exact ⟨s, by simpa using h1, h2, h3⟩
theorem bool_of (ht : Tryd.prog.underlying t = some .bool) (h : DataW.trod enc Tryd.prog W b sp hd n t [v] = some y) : ∃ z : Bool, v = .bool z ∧ y = (.lit (.bool z), []) := by
  obtain ⟨s, h1, h2⟩ := DataW.trod_bool ht h
  exact ⟨s, by simpa using h1, h2⟩
/-- The bulk of a member is no more than the bulk of all; a list is no longer than its bulk. -/
theorem bulk_mem : ∀ {l : List (DataW H)} {d : DataW H}, d ∈ l → Rows.uptoBulk d ≤ Rows.uptoBulkAll l
  | a :: r, d, h => by
    rw [Rows.uptoBulkAll]
    rcases List.mem_cons.1 h with rfl | h
    · omega
    · have := bulk_mem h; omega
theorem bulk_pos (d : DataW H) : 1 ≤ Rows.uptoBulk d := by
  cases d with
  | lit l => cases l <;> simp [Rows.uptoBulk]
  | _ => simp [Rows.uptoBulk]
theorem bulk_len : ∀ l : List (DataW H), l.length ≤ Rows.uptoBulkAll l
  | [] => Nat.zero_le _
  | a :: r => by
    rw [Rows.uptoBulkAll]
    have := bulk_len r
    have := bulk_pos a
    simp only [List.length_cons]; omega
theorem bulk_str (s : ByteArray) : Rows.uptoBulk (DataW.lit (.string s.data.toList) : DataW H) = s.size + 1 := by
  rw [Rows.uptoBulk]; simp
/-- A list of one-cell elements that came in. -/
theorem list_of (ht : Tryd.prog.underlying t = some (.slice e)) (hc : Tryd.prog.cellsOf e = 1) (h : DataW.trod enc Tryd.prog W b sp hd n t [v] = some y) :
    ∃ (l : List Value) (D : Nat → DataW H), Held W v l ∧ l.length ≤ Rows.uptoBulk y.1 ∧ (∀ i, i < l.length → Rows.uptoBulk (D i) ≤ Rows.uptoBulk y.1) ∧
      ∀ i (hi : i < l.length), ∃ m Pl, DataW.trod enc Tryd.prog W b sp hd m e [l[i]] = some (D i, Pl) := by
  rcases open_slice1 ht hc h with ⟨hcs, hx⟩ | ⟨a, len, cap, m, k, V, D, Pl, hcs, _, hl, hm, hmm, hx, hall⟩
  · obtain rfl : v = .slice none 0 0 := by simpa using hcs
    exact ⟨[], fun _ => .nil, Held.nil W, Nat.zero_le _, fun i hi => absurd hi (Nat.not_lt_zero _), fun i hi => absurd hi (Nat.not_lt_zero _)⟩
  · obtain rfl : v = .slice (some a) len cap := by simpa using hcs
    subst hx
    have hle : len ≤ m := by rw [hmm]; split <;> omega
    have hL : ((List.range len).map V).length = len := by simp
    refine ⟨(List.range len).map V, D, ⟨some a, cap, by rw [hL], by rw [hL]; exact hl, fun hne => ?_⟩, ?_, fun i hi => ?_, fun i hi => ?_⟩
    · have hpos : 0 < len := by rw [← hL]; exact List.length_pos_iff.mpr hne
      have h0 := (hall 0 (by omega)).1
      obtain ⟨g, off, spot⟩ := a
      have hspot : spot = none := by simpa [Addr.add] using World.cell?_spot h0
      subst hspot
      refine ⟨g, off, rfl, ?_, fun j hj => ?_⟩
      · have := World.block_lt_of_cell? W _ h0
        simpa [Addr.add] using this
      · rw [hL] at hj
        rw [← Go.WideShapes.add_plain, (hall j (by omega)).1]; simp
    · rw [hL]
      have h1 := bulk_len ((List.range len).map D)
      simp only [Rows.uptoBulk]
      simp only [List.length_map, List.length_range] at h1
      omega
    · rw [hL] at hi
      have h1 := bulk_mem (l := (List.range len).map D) (d := D i) (List.mem_map.2 ⟨i, by simpa using hi, rfl⟩)
      simp only [Rows.uptoBulk]
      omega
    · rw [hL] at hi
      exact ⟨k, Pl i, by have := (hall i (by omega)).2; simpa using this⟩
theorem forms_of {α : Type} [Inhabited α] (mk : α → Value) : ∀ (l : List Value), (∀ i (hi : i < l.length), ∃ x, l[i] = mk x) → ∃ xs : List α, l = xs.map mk
  | [], _ => ⟨[], rfl⟩
  | a :: r, h => by
    obtain ⟨x, hx⟩ := h 0 (by simp)
    obtain ⟨xs, rfl⟩ := forms_of mk r (fun i hi => by have := h (i + 1) (by simp; omega); simpa using this)
    exact ⟨x :: xs, by simp at hx; simp [hx]⟩
theorem bools_of (ht : Tryd.prog.underlying t = some (.slice e)) (he : Tryd.prog.underlying e = some .bool) (hc : Tryd.prog.cellsOf e = 1) (h : DataW.trod enc Tryd.prog W b sp hd n t [v] = some y) :
    ∃ l : List Bool, Held W v (bV l) ∧ l.length ≤ Rows.uptoBulk y.1 := by
  obtain ⟨l, D, h1, h2, h3, h4⟩ := list_of ht hc h
  obtain ⟨xs, rfl⟩ := forms_of Value.bool l (fun i hi => by
    obtain ⟨m, Pl, hm⟩ := h4 i hi
    obtain ⟨z, hz, _⟩ := bool_of he hm
    exact ⟨z, hz⟩)
  exact ⟨xs, h1, by simpa using h2⟩
theorem texts_of (ht : Tryd.prog.underlying t = some (.slice e)) (he : Tryd.prog.underlying e = some .string) (hc : Tryd.prog.cellsOf e = 1) (h : DataW.trod enc Tryd.prog W b sp hd n t [v] = some y) :
    ∃ l : List ByteArray, Held W v (tV l) ∧ l.length ≤ Rows.uptoBulk y.1 ∧ ∀ i (hi : i < l.length), l[i].size ≤ Rows.uptoBulk y.1 := by
  obtain ⟨l, D, h1, h2, h3, h4⟩ := list_of ht hc h
  obtain ⟨xs, rfl⟩ := forms_of Value.string l (fun i hi => by
    obtain ⟨m, Pl, hm⟩ := h4 i hi
    obtain ⟨z, hz, _⟩ := str_of he hm
    exact ⟨z, hz⟩)
  refine ⟨xs, h1, by simpa using h2, fun i hi => ?_⟩
  obtain ⟨m, Pl, hm⟩ := h4 i (by simpa using hi)
  obtain ⟨z, hz, hy, _⟩ := str_of he hm
  simp at hz
  subst hz
  have h5 := h3 i (by simpa using hi)
  simp only [Prod.mk.injEq] at hy
  rw [hy.1, bulk_str] at h5
  omega
theorem array7 {α : Type} {cs : Array α} (h : cs.size = 7) : ∃ c0 c1 c2 c3 c4 c5 c6, cs = #[c0, c1, c2, c3, c4, c5, c6] := by
  obtain ⟨l⟩ := cs
  match l, h with
  | [c0, c1, c2, c3, c4, c5, c6], _ => exact ⟨c0, c1, c2, c3, c4, c5, c6, rfl⟩
theorem list7 {α : Type} {l : List α} (h : l.length = 7) : ∃ c0 c1 c2 c3 c4 c5 c6, l = [c0, c1, c2, c3, c4, c5, c6] := by
  match l, h with
  | [c0, c1, c2, c3, c4, c5, c6], _ => exact ⟨c0, c1, c2, c3, c4, c5, c6, rfl⟩
/-- A struct of seven one-cell fields, by value, opened. -/
theorem open_agg7 {P : Program} {r : Reach} {b0 : Nat} {f0 f1 f2 f3 f4 f5 f6 : Field} {d : DataW H} {p : List MemPlace} (hs : P.underlying t = some (.struct #[f0, f1, f2, f3, f4, f5, f6])) (hone : oneCellFields P #[f0, f1, f2, f3, f4, f5, f6] = true) (hC : P.cellsOf t = 7)
    (hv : Value.okWide P W r b0 t v) (h : DataW.Trod enc P W b sp hd t v d p) :
    ∃ (v0 v1 v2 v3 v4 v5 v6 : Value) (y0 y1 y2 y3 y4 y5 y6 : DataW H × List MemPlace) (n : Nat), v = .agg #[v0, v1, v2, v3, v4, v5, v6] ∧ d = .agg [y0.1, y1.1, y2.1, y3.1, y4.1, y5.1, y6.1] ∧
      DataW.trod enc P W b sp hd n f0.type [v0] = some y0 ∧ DataW.trod enc P W b sp hd n f1.type [v1] = some y1 ∧ DataW.trod enc P W b sp hd n f2.type [v2] = some y2 ∧ DataW.trod enc P W b sp hd n f3.type [v3] = some y3 ∧
      DataW.trod enc P W b sp hd n f4.type [v4] = some y4 ∧ DataW.trod enc P W b sp hd n f5.type [v5] = some y5 ∧ DataW.trod enc P W b sp hd n f6.type [v6] = some y6 := by
  obtain ⟨cs, rfl, hsz⟩ := okWide_struct hs hv
  obtain ⟨c0, c1, c2, c3, c4, c5, c6, rfl⟩ := array7 (hsz.trans hC)
  obtain ⟨fuel, hf⟩ := h
  obtain ⟨xs, n, _, hx, hl, hlen, hf⟩ := DataW.trod_struct hs hf
  obtain ⟨y0, y1, y2, y3, y4, y5, y6, rfl⟩ := list7 (l := xs) (by simpa using hlen)
  obtain ⟨o0, k0⟩ := hone_of hone 0 f0 rfl
  obtain ⟨o1, k1⟩ := hone_of hone 1 f1 rfl
  obtain ⟨o2, k2⟩ := hone_of hone 2 f2 rfl
  obtain ⟨o3, k3⟩ := hone_of hone 3 f3 rfl
  obtain ⟨o4, k4⟩ := hone_of hone 4 f4 rfl
  obtain ⟨o5, k5⟩ := hone_of hone 5 f5 rfl
  obtain ⟨o6, k6⟩ := hone_of hone 6 f6 rfl
  have g0 := hf 0 f0 rfl
  have g1 := hf 1 f1 rfl
  have g2 := hf 2 f2 rfl
  have g3 := hf 3 f3 rfl
  have g4 := hf 4 f4 rfl
  have g5 := hf 5 f5 rfl
  have g6 := hf 6 f6 rfl
  simp only [Value.cells, o0, k0, o1, k1, o2, k2, o3, k3, o4, k4, o5, k5, o6, k6] at g0 g1 g2 g3 g4 g5 g6
  simp only [Prod.mk.injEq] at hx
  refine ⟨c0, c1, c2, c3, c4, c5, c6, y0, y1, y2, y3, y4, y5, y6, n, rfl, by simpa using hx.1, ?_, ?_, ?_, ?_, ?_, ?_, ?_⟩
  · simpa using g0
  · simpa using g1
  · simpa using g2
  · simpa using g3
  · simpa using g4
  · simpa using g5
  · simpa using g6
end
end Go.Proofs.YtkpfbjlbllpahaaDoor
