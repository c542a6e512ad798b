import Derived.Test.YtcicdgajhheipaaGreatRows
import Derived.Test.YtcicdgajhheipaaGreatMgBookFresh21
import Derived.ProofKit
import Derived.OpenShut
import Derived.Lib.SmallJoins
import Derived.Deep.Slices
import Derived.SliceStrings
set_option linter.unusedVariables false
set_option linter.unusedSimpArgs false
namespace Go.Proofs.YtcicdgajhheipaaGreat
open Go.ChangeShapes Go.WideShapes Go.ChangeAt Go.RowKit Go.Deep Go.Joins
section
variable {H : Type} {enc : TypeId × Value → H} {W : World} {b : Nat} {sp : Nat → Bool} {hd : Bool} {n t e : Nat} {v : Value} {y : DataW H × List MemPlace}
theorem strO (ht : Tryz.prog.underlying t = some .string) (h : DataW.trod enc Tryz.prog W b sp hd n t [v] = some y) : ∃ s : ByteArray, v = .string s ∧ y = (.lit (.string s.data.toList), []) ∧ s.size ≤ maxLen := by
  obtain ⟨s, h1, h2, h3⟩ := DataW.trod_string ht h
  exact ⟨s, by simpa using h1, h2, h3⟩
theorem intO (ht : Tryz.prog.underlying t = some (.int .i64)) (h : DataW.trod enc Tryz.prog W b sp hd n t [v] = some y) : ∃ z : Int, v = .int .i64 z ∧ y = (.lit (.int .i64 z), []) ∧ (Lit.int .i64 z).wf = true := by
  obtain ⟨s, h1, h2, h3⟩ := DataW.trod_int ht h
  exact ⟨s, by simpa using h1, h2, h3⟩
theorem bulkO_mem : ∀ {l : List (DataW H)} {d : DataW H}, d ∈ l → Rows.uptoBulk d ≤ Rows.uptoBulkAll l
  | a :: r, d, h => by
    rw [Rows.uptoBulkAll]
    rcases List.mem_cons.1 h with rfl | h
    · omega
    · have := bulkO_mem h; omega
theorem bulkO_len7 : ∀ l : List (DataW H), (∀ d ∈ l, 7 ≤ Rows.uptoBulk d) → l.length * 7 ≤ Rows.uptoBulkAll l
  | [], _ => Nat.zero_le _
  | a :: r, h => by
    rw [Rows.uptoBulkAll]
    have := bulkO_len7 r (fun d hd => h d (by simp [hd]))
    have := h a (by simp)
    simp only [List.length_cons]; omega
theorem bulkO_str (s : ByteArray) : Rows.uptoBulk (DataW.lit (.string s.data.toList) : DataW H) = s.size + 1 := by
  rw [Rows.uptoBulk]; simp
theorem seven {α : Type} {l : List α} (h : l.length = 7) : ∃ c0 c1 c2 c3 c4 c5 c6, l = [c0, c1, c2, c3, c4, c5, c6] := by
  match l, h with
  | [c0, c1, c2, c3, c4, c5, c6], _ => exact ⟨c0, c1, c2, c3, c4, c5, c6, rfl⟩
/-- One step of a script, from its seven cells. -/
theorem step_of {f0 f1 f2 f3 f4 f5 f6 : Field} {cs : List Value} (hs : Tryz.prog.underlying t = some (.struct #[f0, f1, f2, f3, f4, f5, f6])) (hone : oneCellFields Tryz.prog #[f0, f1, f2, f3, f4, f5, f6] = true) (hC : Tryz.prog.cellsOf t = 7)
    (t0 : Tryz.prog.underlying f0.type = some (.int .i64)) (t1 : Tryz.prog.underlying f1.type = some (.int .i64)) (t2 : Tryz.prog.underlying f2.type = some (.int .i64)) (t3 : Tryz.prog.underlying f3.type = some (.int .i64)) (t4 : Tryz.prog.underlying f4.type = some (.int .i64))
    (t5 : Tryz.prog.underlying f5.type = some .string) (t6 : Tryz.prog.underlying f6.type = some .string)
    (h : DataW.trod enc Tryz.prog W b sp hd n t cs = some y) :
    ∃ o : StepZ, cs = [.int .i64 o.what, .int .i64 o.sp, .int .i64 o.kd, .int .i64 o.nm, .int .i64 o.n, .string o.key, .string o.text] ∧ o.key.size + o.text.size + 7 ≤ Rows.uptoBulk y.1 ∧ o.sp ≤ 9223372036854775807 ∧ o.nm ≤ 9223372036854775807 ∧ o.n ≤ 9223372036854775807 := by
  obtain ⟨xs, m, _, hx, hl, hlen, hf⟩ := DataW.trod_struct hs h
  obtain ⟨c0, c1, c2, c3, c4, c5, c6, rfl⟩ := seven (hl.trans hC)
  obtain ⟨y0, y1, y2, y3, y4, y5, y6, rfl⟩ := seven (l := xs) (by simpa using hlen)
  obtain ⟨o0, k0⟩ := hone_of hone 0 f0 rfl
  obtain ⟨o1, k1⟩ := hone_of hone 1 f1 rfl
  obtain ⟨o2, k2⟩ := hone_of hone 2 f2 rfl
  obtain ⟨o3, k3⟩ := hone_of hone 3 f3 rfl
  obtain ⟨o4, k4⟩ := hone_of hone 4 f4 rfl
  obtain ⟨o5, k5⟩ := hone_of hone 5 f5 rfl
  obtain ⟨o6, k6⟩ := hone_of hone 6 f6 rfl
  have g0 := hf 0 f0 rfl
  have g1 := hf 1 f1 rfl
  have g2 := hf 2 f2 rfl
  have g3 := hf 3 f3 rfl
  have g4 := hf 4 f4 rfl
  have g5 := hf 5 f5 rfl
  have g6 := hf 6 f6 rfl
  simp only [o0, k0, o1, k1, o2, k2, o3, k3, o4, k4, o5, k5, o6, k6] at g0 g1 g2 g3 g4 g5 g6
  obtain ⟨z0, rfl, rfl, w0⟩ := intO t0 (by simpa using g0)
  obtain ⟨z1, rfl, rfl, w1⟩ := intO t1 (by simpa using g1)
  obtain ⟨z2, rfl, rfl, w2⟩ := intO t2 (by simpa using g2)
  obtain ⟨z3, rfl, rfl, w3⟩ := intO t3 (by simpa using g3)
  obtain ⟨z4, rfl, rfl, w4⟩ := intO t4 (by simpa using g4)
  obtain ⟨z5, rfl, rfl, _⟩ := strO t5 (by simpa using g5)
  obtain ⟨z6, rfl, rfl, _⟩ := strO t6 (by simpa using g6)
  refine ⟨⟨z0, z1, z2, z3, z4, z5, z6⟩, rfl, ?_, (bounds_i64 w1).2, (bounds_i64 w3).2, (bounds_i64 w4).2⟩
  rw [hx]
  simp only [List.map_cons, List.map_nil, Rows.uptoBulk, Rows.uptoBulkAll, Array.length_toList]
  show z5.data.size + z6.data.size + 7 ≤ _
  omega
theorem steps_pick {p : Nat → StepZ → Prop} : ∀ (n : Nat), (∀ i, i < n → ∃ o, p i o) → ∃ l : List StepZ, l.length = n ∧ ∀ i (h : i < l.length), p i l[i]
  | 0, _ => ⟨[], rfl, fun i h => absurd h (Nat.not_lt_zero _)⟩
  | n + 1, h => by
    obtain ⟨l, h1, h2⟩ := steps_pick n (fun i hi => h i (by omega))
    obtain ⟨o, ho⟩ := h n (by omega)
    refine ⟨l ++ [o], by simp [h1], fun i hi => ?_⟩
    by_cases e : i < l.length
    · rw [List.getElem_append_left e]; exact h2 i e
    · have : i = n := by simp at hi; omega
      subst this
      rw [List.getElem_append_right (by omega)]
      simpa [h1] using ho
/-- A script that came in. -/
theorem steps_of {f0 f1 f2 f3 f4 f5 f6 : Field} (ht : Tryz.prog.underlying t = some (.slice e)) (hs : Tryz.prog.underlying e = some (.struct #[f0, f1, f2, f3, f4, f5, f6])) (hone : oneCellFields Tryz.prog #[f0, f1, f2, f3, f4, f5, f6] = true) (hC : Tryz.prog.cellsOf e = 7)
    (t0 : Tryz.prog.underlying f0.type = some (.int .i64)) (t1 : Tryz.prog.underlying f1.type = some (.int .i64)) (t2 : Tryz.prog.underlying f2.type = some (.int .i64)) (t3 : Tryz.prog.underlying f3.type = some (.int .i64)) (t4 : Tryz.prog.underlying f4.type = some (.int .i64))
    (t5 : Tryz.prog.underlying f5.type = some .string) (t6 : Tryz.prog.underlying f6.type = some .string)
    (h : DataW.trod enc Tryz.prog W b sp hd n t [v] = some y) (hk : Rows.uptoBulk y.1 ≤ 1048576) : ∃ l : List StepZ, StepsIn W.heap.size W v l ∧ l.length ≤ 150000 := by
  rcases open_slice ht h with ⟨hcs, hx⟩ | ⟨a, len, cap, m, k, D, Pl, hcs, _, hl, hm, hmm, hx, hall⟩
  · obtain rfl : v = .slice none 0 0 := by simpa using hcs
    exact ⟨[], ⟨⟨_, _, rfl⟩, (fun o ho => by cases ho), (fun i hi => absurd hi (Nat.not_lt_zero _))⟩, Nat.zero_le _⟩
  · obtain rfl : v = .slice (some a) len cap := by simpa using hcs
    subst hx
    have hle : len ≤ m := by rw [hmm]; split <;> omega
    have hD : ∀ i, i < len → Rows.uptoBulk (D i) ≤ 1048576 := fun i hi => by
      have h1 := bulkO_mem (l := (List.range len).map D) (d := D i) (List.mem_map.2 ⟨i, by simpa using hi, rfl⟩)
      simp only [Rows.uptoBulk] at hk
      omega
    have hone7 : ∀ i, i < len → ∃ o : StepZ, 7 ≤ Rows.uptoBulk (D i) := fun i hi => by
      obtain ⟨cs', h1, h2⟩ := hall i (by omega)
      rw [hC] at h1
      obtain ⟨o, _, ho1, _⟩ := step_of hs hone hC t0 t1 t2 t3 t4 t5 t6 h2
      simp only at ho1
      exact ⟨o, by omega⟩
    have hlen : len ≤ 150000 := by
      have h1 := bulkO_len7 ((List.range len).map D) (fun d hd => by
        obtain ⟨i, hi, rfl⟩ := List.mem_map.1 hd
        obtain ⟨_, h⟩ := hone7 i (by simpa using hi)
        exact h)
      simp only [Rows.uptoBulk] at hk
      simp only [List.length_map, List.length_range] at h1
      omega
    have hsp0 : 0 < len → a.spot = none := fun h0 => by
      obtain ⟨cs', h1, h2⟩ := hall 0 (by omega)
      rw [hC] at h1
      obtain ⟨_, hn4, hcell⟩ := World.cells?_some h1
      have q0 := hcell 0 (by omega)
      obtain ⟨c0, c1, c2, c3, c4, c5, c6, rfl⟩ := seven hn4
      exact World.cell?_spot (v := c0) (by simpa [Addr.add] using q0)
    obtain ⟨l, hl1, hl2⟩ := steps_pick (p := fun i o => o.Ok ∧ ∃ g off, a = ⟨g, off, none⟩ ∧ g < W.heap.size ∧ W.cell? ⟨g, off + i * 7, none⟩ = some (.int .i64 o.what) ∧ W.cell? ⟨g, off + i * 7 + 1, none⟩ = some (.int .i64 o.sp) ∧
      W.cell? ⟨g, off + i * 7 + 2, none⟩ = some (.int .i64 o.kd) ∧ W.cell? ⟨g, off + i * 7 + 3, none⟩ = some (.int .i64 o.nm) ∧ W.cell? ⟨g, off + i * 7 + 4, none⟩ = some (.int .i64 o.n) ∧
      W.cell? ⟨g, off + i * 7 + 5, none⟩ = some (.string o.key) ∧ W.cell? ⟨g, off + i * 7 + 6, none⟩ = some (.string o.text)) len (fun i hi => by
        obtain ⟨cs', h1, h2⟩ := hall i (by omega)
        rw [hC] at h1
        obtain ⟨_, hn4, hcell⟩ := World.cells?_some h1
        obtain ⟨o, rfl, ho1, s1, s2, s3⟩ := step_of hs hone hC t0 t1 t2 t3 t4 t5 t6 h2
        have hb := hD i hi
        simp only at ho1
        have q0 := hcell 0 (by omega)
        have q1 := hcell 1 (by omega)
        have q2 := hcell 2 (by omega)
        have q3 := hcell 3 (by omega)
        have q4 := hcell 4 (by omega)
        have q5 := hcell 5 (by omega)
        have q6 := hcell 6 (by omega)
        obtain ⟨g, off, spot⟩ := a
        have hspot : spot = none := hsp0 (by omega)
        subst hspot
        rw [add_plain] at q0 q1 q2 q3 q4 q5 q6
        rw [add_plain] at q0 q1 q2 q3 q4 q5 q6
        have hbl := World.block_lt_of_cell? W _ (u := .int .i64 o.what) (by simpa using q0)
        exact ⟨o, ⟨s1, s2, s3, by omega, by omega⟩, g, off, rfl, hbl, by simpa using q0, by simpa using q1, by simpa using q2, by simpa using q3, by simpa using q4, by simpa using q5, by simpa using q6⟩)
    refine ⟨l, ⟨⟨_, _, by rw [hl1]⟩, fun o ho => ?_, fun i hi => ?_⟩, by rw [hl1]; exact hlen⟩
    · obtain ⟨i, hi, rfl⟩ := List.getElem_of_mem ho
      exact (hl2 i hi).1
    · obtain ⟨_, g, off, rfl, hg, r0, r1, r2, r3, r4, r5, r6⟩ := hl2 i hi
      exact ⟨g, off, cap, by rw [hl1], hg, r0, r1, r2, r3, r4, r5, r6⟩
end
end Go.Proofs.YtcicdgajhheipaaGreat
