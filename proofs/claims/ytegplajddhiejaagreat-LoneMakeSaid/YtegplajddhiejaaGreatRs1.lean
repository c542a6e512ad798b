import Derived.Test.YtegplajddhiejaaGreatMgLoneMake10
import Derived.Test.YtegplajddhiejaaGreatMgLoneMake6
import Derived.IntWalk
set_option linter.unusedVariables false
namespace Go.Proofs.YtegplajddhiejaaGreat
open Go.RowKit
/-! The reference's lists of records. -/
def recV2 (r : Rec) : List Value := [.string r.1, .string r.2]
def recsV (l : List Rec) : List Value := l.flatMap recV2
theorem recsV_len : ∀ l : List Rec, (recsV l).length = l.length * 2
  | [] => rfl
  | x :: r => by
    have ih := recsV_len r
    unfold recsV at *
    rw [List.flatMap_cons, List.length_append, ih]; simp [recV2]; omega
theorem recsV_snoc (l : List Rec) (x : Rec) : recsV (l ++ [x]) = recsV l ++ recV2 x := by simp [recsV]
theorem recsV_one : ∀ (l : List Rec), ∀ u ∈ recsV l, u.oneCell' = true := by
  intro l u hu
  simp only [recsV, List.mem_flatMap] at hu
  obtain ⟨x, _, hx⟩ := hu
  simp only [recV2, List.mem_cons, List.not_mem_nil, or_false] at hx
  rcases hx with rfl | rfl <;> rfl
theorem recsV_at : ∀ (l : List Rec) (j : Nat) (h : j < l.length), (recsV l)[j * 2]? = some (.string l[j].1) ∧ (recsV l)[j * 2 + 1]? = some (.string l[j].2)
  | x :: r, 0, _ => ⟨rfl, rfl⟩
  | x :: r, j + 1, h => by
    have ih := recsV_at r j (by simpa using h)
    have e : recsV (x :: r) = recV2 x ++ recsV r := by simp [recsV]
    have h3 : (recV2 x).length = 2 := rfl
    rw [e, List.getElem?_append_right (by omega), List.getElem?_append_right (by omega), h3,
      show (j + 1) * 2 - 2 = j * 2 by omega, show (j + 1) * 2 + 1 - 2 = j * 2 + 1 by omega]
    simpa using ih
/-- A list of records in memory. -/
def RecL (w : World) (v : Value) (l : List Rec) : Prop := Row w 0 2 v l.length (recsV l)
theorem RecL.nil (w : World) : RecL w (.slice none 0 0) [] := Row.nil w 0 2
theorem RecL.slice {w : World} {v : Value} {l : List Rec} (h : RecL w v l) : ∃ a c, v = .slice a l.length c := Row.slice h
theorem RecL.keep {w w' : World} {v : Value} {l : List Rec} (h : RecL w v l) (hb : Below w.heap.size w w') : RecL w' v l := Row.keep h hb
theorem RecL.at {w : World} {v : Value} {l : List Rec} (h : RecL w v l) (k : Nat) (hk : k < l.length) : ∃ g c, v = .slice (some ⟨g, 0, none⟩) l.length c ∧ g < w.heap.size ∧ w.cell? ⟨g, k * 2, none⟩ = some (.string l[k].1) ∧ w.cell? ⟨g, k * 2 + 1, none⟩ = some (.string l[k].2) := by
  obtain ⟨q1, q2⟩ := recsV_at l k hk
  rcases Row.form h with ⟨_, h0, _⟩ | ⟨g, cap, rfl, _, hg, _, _, hx, _⟩
  · omega
  · exact ⟨g, cap, rfl, hg, hx _ _ q1, hx _ _ q2⟩
theorem infoRec : (Tryz.prog.info? 102).map (fun i => (i.zero, i.size, i.bytes)) = some (some (.agg #[.string ⟨#[]⟩, .string ⟨#[]⟩]), 2, 32) := by kernel_rfl
theorem rgoes_calls (k : ByteArray) (hk : k.size ≤ 4611686018427387904) (w : World) : Calls Tryz.prog 57 #[.string k] w fun e w' => e = .returned (.bool (keyedB k)) ∧ w = w' := by
  by_cases h1 : 1 ≤ k.size
  · by_cases h2 : k.size ≤ 64
    · have hz : keyedB k = true := decide_eq_true ⟨h1, h2⟩
      rw [hz]
      clear hz
      go_enter Tryz.func57, Tryz.ntmps57
      go_wp2
      go_ret
      exact ⟨congrArg (fun z => Ending.returned (.bool z)) (decide_eq_true (by omega)), rfl⟩
    · have hz : keyedB k = false := decide_eq_false (fun h => h2 h.2)
      rw [hz]
      clear hz
      go_enter Tryz.func57, Tryz.ntmps57
      go_wp2
      go_ret
      exact ⟨congrArg (fun z => Ending.returned (.bool z)) (decide_eq_false (by omega)), rfl⟩
  · have hz : keyedB k = false := decide_eq_false (fun h => h1 h.1)
    rw [hz]
    clear hz
    go_enter Tryz.func57, Tryz.ntmps57
    go_wp2
    go_ret
    exact ⟨rfl, rfl⟩
theorem take_rec2 {l : List Rec} {k : Nat} (h : k < l.length) : l.take (k + 1) = l.take k ++ [l[k]] := by rw [List.take_succ_eq_append_getElem h]
end Go.Proofs.YtegplajddhiejaaGreat
