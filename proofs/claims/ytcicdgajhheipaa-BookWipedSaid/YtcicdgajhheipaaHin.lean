import Derived.Test.YtcicdgajhheipaaRows
import Derived.Test.YtcicdgajhheipaaHld
import Derived.ProofKit
import Derived.OpenShut
import Derived.Lib.SmallJoins
import Derived.Deep.Slices
import Derived.SliceStrings
import Derived.SizedLaws
set_option linter.unusedVariables false
namespace Go.Proofs.Ytcicdgajhheipaa
open Go.ChangeShapes Go.WideShapes Go.ChangeAt Go.RowKit Go.Deep Go.Joins
/-! Lists that came in, in the full form: their sizes come out of the reach. -/
section
variable {H : Type} {enc : TypeId × Value → H} {W : World} {b : Nat} {sp : Nat → Bool} {hd : Bool} {n t e : Nat} {v : Value} {y : DataW H × List MemPlace}
theorem strI (ht : Try.prog.underlying t = some .string) (h : DataW.trod enc Try.prog W b sp hd n t [v] = some y) : ∃ s : ByteArray, v = .string s ∧ y = (.lit (.string s.data.toList), []) ∧ s.size ≤ maxLen := by
  obtain ⟨s, h1, h2, h3⟩ := DataW.trod_string ht h
  exact ⟨s, by simpa using h1, h2, h3⟩
theorem intI (ht : Try.prog.underlying t = some (.int .i64)) (h : DataW.trod enc Try.prog W b sp hd n t [v] = some y) : ∃ z : Int, v = .int .i64 z ∧ y = (.lit (.int .i64 z), []) ∧ (Lit.int .i64 z).wf = true := by
  obtain ⟨s, h1, h2, h3⟩ := DataW.trod_int ht h
  exact ⟨s, by simpa using h1, h2, h3⟩
theorem weights_all {P : Program} {d : DataW H} {m : Nat} : ∀ {l : List (DataW H)}, d ∈ l → m ∈ d.weights P e → m ∈ DataW.weightsAll P e l
  | a :: r, h, hm => by
    rw [DataW.weightsAll, List.mem_append]
    rcases List.mem_cons.1 h with rfl | h
    · exact .inl hm
    · exact .inr (weights_all h hm)
/-- A list of one-cell elements that came in, with its members' data. -/
theorem listW_of (ht : Try.prog.underlying t = some (.slice e)) (hc : Try.prog.cellsOf e = 1) (h : DataW.trod enc Try.prog W b sp hd n t [v] = some y) :
    ∃ (l : List Value) (D : Nat → DataW H), Held W v l ∧ (l = [] ∨ ∃ spare, y.1 = .slice ((List.range l.length).map D) spare) ∧
      ∀ i (hi : i < l.length), ∃ m Pl, DataW.trod enc Try.prog W b sp hd m e [l[i]] = some (D i, Pl) := by
  rcases open_slice1 ht hc h with ⟨hcs, hx⟩ | ⟨a, len, cap, m, k, V, D, Pl, hcs, _, hl, hm, hmm, hx, hall⟩
  · obtain rfl : v = .slice none 0 0 := by simpa using hcs
    exact ⟨[], fun _ => .nil, Held.nil W, .inl rfl, fun i hi => absurd hi (Nat.not_lt_zero _)⟩
  · obtain rfl : v = .slice (some a) len cap := by simpa using hcs
    subst hx
    have hle : len ≤ m := by rw [hmm]; split <;> omega
    have hL : ((List.range len).map V).length = len := by simp
    refine ⟨(List.range len).map V, D, ⟨some a, cap, by rw [hL], by rw [hL]; exact hl, fun hne => ?_⟩, .inr ⟨_, by rw [hL]⟩, fun i hi => ?_⟩
    · have hpos : 0 < len := by rw [← hL]; exact List.length_pos_iff.mpr hne
      have h0 := (hall 0 (by omega)).1
      obtain ⟨g, off, spot⟩ := a
      have hspot : spot = none := by simpa [Addr.add] using World.cell?_spot h0
      subst hspot
      refine ⟨g, off, rfl, ?_, fun j hj => ?_⟩
      · have := World.block_lt_of_cell? W _ h0
        simpa [Addr.add] using this
      · rw [hL] at hj
        rw [← Go.WideShapes.add_plain, (hall j (by omega)).1]; simp
    · rw [hL] at hi
      exact ⟨k, Pl i, by have := (hall i (by omega)).2; simpa using this⟩
theorem formsI {α : Type} [Inhabited α] (mk : α → Value) : ∀ (l : List Value), (∀ i (hi : i < l.length), ∃ x, l[i] = mk x) → ∃ xs : List α, l = xs.map mk
  | [], _ => ⟨[], rfl⟩
  | a :: r, h => by
    obtain ⟨x, hx⟩ := h 0 (by simp)
    obtain ⟨xs, rfl⟩ := formsI mk r (fun i hi => by have := h (i + 1) (by simp; omega); simpa using this)
    exact ⟨x :: xs, by simp at hx; simp [hx]⟩
variable {ts : List TypeId} {ds : List (DataW H)}
theorem textsW_of (ht : Try.prog.underlying t = some (.slice e)) (he : Try.prog.underlying e = some .string) (hc : Try.prog.cellsOf e = 1) (hby : Try.prog.bytesOf e = 16) (h : DataW.trod enc Try.prog W b sp hd n t [v] = some y)
    (hsz : (DataW.weightsEach Try.prog ts ds).all (· ≤ reachBytes) = true) {j : Nat} (htj : ts[j]? = some t) (hdj : ds[j]? = some y.1) :
    ∃ l : List ByteArray, Held W v (tV l) ∧ l.length * 16 ≤ 140737488351232 ∧ ∀ s ∈ l, s.size ≤ 140737488351232 := by
  obtain ⟨l, D, h1, h2, h4⟩ := listW_of ht hc h
  obtain ⟨xs, rfl⟩ := formsI Value.string l (fun i hi => by
    obtain ⟨m, Pl, hm⟩ := h4 i hi
    obtain ⟨z, hz, _⟩ := strI he hm
    exact ⟨z, hz⟩)
  refine ⟨xs, h1, ?_, fun s hs => ?_⟩
  · rcases h2 with h2 | ⟨spare, h2⟩
    · have : xs = [] := by simpa using h2
      subst this
      exact Nat.zero_le _
    · rw [h2] at hdj
      have h5 := sized_slice hsz htj hdj ht
      rw [hby] at h5
      simp only [List.length_map, List.length_range] at h5
      unfold reachBytes at h5
      omega
  · obtain ⟨i, hi, rfl⟩ := List.getElem_of_mem hs
    obtain ⟨m, Pl, hm⟩ := h4 i (by simpa using hi)
    obtain ⟨z, hz, hy, _⟩ := strI he hm
    simp at hz
    subst hz
    rcases h2 with h2 | ⟨spare, h2⟩
    · have : xs = [] := by simpa using h2
      subst this
      exact absurd hi (Nat.not_lt_zero _)
    · rw [h2] at hdj
      simp only [Prod.mk.injEq] at hy
      have hm2 : D i ∈ (List.range (xs.map Value.string).length).map D := List.mem_map.2 ⟨i, by simpa using hi, rfl⟩
      have h6 : (xs[i]).data.toList.length ∈ (D i).weights Try.prog e := by rw [hy.1]; simp [DataW.weights]
      have h5 := List.all_eq_true.1 hsz _ (DataW.weights_mem_each htj hdj (xs[i]).data.toList.length (by
        rw [DataW.weights, ht]
        exact List.mem_cons_of_mem _ (List.mem_append.2 (.inl (weights_all hm2 h6)))))
      have h7 : (xs[i]).data.toList.length ≤ reachBytes := by simpa using h5
      unfold reachBytes at h7
      have e1 : (xs[i]).data.toList.length = (xs[i]).size := by simp
      omega
theorem intsW_of (ht : Try.prog.underlying t = some (.slice e)) (he : Try.prog.underlying e = some (.int .i64)) (hc : Try.prog.cellsOf e = 1) (hby : Try.prog.bytesOf e = 8) (h : DataW.trod enc Try.prog W b sp hd n t [v] = some y)
    (hsz : (DataW.weightsEach Try.prog ts ds).all (· ≤ reachBytes) = true) {j : Nat} (htj : ts[j]? = some t) (hdj : ds[j]? = some y.1) :
    ∃ l : List Int, Held W v (iV l) ∧ l.length * 8 ≤ 140737488351232 ∧ ∀ z ∈ l, -9223372036854775808 ≤ z ∧ z ≤ 9223372036854775807 := by
  obtain ⟨l, D, h1, h2, h4⟩ := listW_of ht hc h
  obtain ⟨xs, rfl⟩ := formsI (Value.int .i64) l (fun i hi => by
    obtain ⟨m, Pl, hm⟩ := h4 i hi
    obtain ⟨z, hz, _⟩ := intI he hm
    exact ⟨z, hz⟩)
  refine ⟨xs, h1, ?_, fun s hs => ?_⟩
  · rcases h2 with h2 | ⟨spare, h2⟩
    · have : xs = [] := by simpa using h2
      subst this
      exact Nat.zero_le _
    · rw [h2] at hdj
      have h5 := sized_slice hsz htj hdj ht
      rw [hby] at h5
      simp only [List.length_map, List.length_range] at h5
      unfold reachBytes at h5
      omega
  · obtain ⟨i, hi, rfl⟩ := List.getElem_of_mem hs
    obtain ⟨m, Pl, hm⟩ := h4 i (by simpa using hi)
    obtain ⟨z, hz, hy, hw⟩ := intI he hm
    simp at hz
    subst hz
    exact bounds_i64 hw
end
end Go.Proofs.Ytcicdgajhheipaa
