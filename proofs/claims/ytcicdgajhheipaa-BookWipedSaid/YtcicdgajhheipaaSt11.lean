import Derived.Test.YtcicdgajhheipaaSt9
import Derived.Test.YtcicdgajhheipaaShelf
import Derived.Sort.OwnSorted
import Derived.Sort.KeysCollected
set_option linter.unusedVariables false
namespace Go.Proofs.Ytcicdgajhheipaa
open Go.RowKit Go.WideMaps Go.Maps Go.MapKept Go.Sort Go.Shelf
def keyL (l : List ByteArray) : List (List UInt8) := l.map fun k => k.data.toList
def strV (l : List ByteArray) : List Value := l.map Value.string
theorem strV_len (l : List ByteArray) : (strV l).length = l.length := by simp [strV]
theorem enc_key (l : List ByteArray) : (keyL l).map encStr = strV l := by
  unfold keyL strV
  rw [List.map_map]
  refine List.map_congr_left (fun k _ => ?_)
  show Value.string ⟨k.data.toList.toArray⟩ = _
  simp
theorem Row.ofOwns {w : World} {base size n : Nat} {e : TypeId} {v : Value} {xs : List Value} (h : w.ownsRow base e size v n xs) : Row w base size v n xs := by
  refine ⟨h.1, ?_⟩
  rcases h.2 with h2 | ⟨g, cap, cur, rfl, hb, hk, hn, hc, hs, ht⟩
  · exact .inl h2
  · refine .inr ⟨g, cap, rfl, hb, (Array.getElem?_eq_some_iff.1 hk).1, hn, hc, fun j u hu => ?_, fun j hj => ?_⟩
    · have hj : j < n * size := by
        rw [← ht] at hu
        have h1 := (List.getElem?_eq_some_iff.1 hu).1
        rw [List.length_take] at h1; omega
      rw [← ht, List.getElem?_take_of_lt hj] at hu
      simp [World.cell?, hk, ← Array.getElem?_toList, hu]
    · refine ⟨?_, by simp [World.frozen?, hk]⟩
      simp [World.cell?, hk, hs, hj]
/-- Keys in whatever order, sorted by the library. -/
theorem sorted_keys {l : List ByteArray} (hs : l.Pairwise fun a b => kLt a b = true) {ss : List (List UInt8)} (hp : ss.Perm (keyL l)) : ss.mergeSort (fun x y => decide (x ≤ y)) = keyL l := by
  have tr : ∀ a b c : List UInt8, leB a b = true → leB b c = true → leB a c = true := fun a b c h1 h2 => by simp only [leB, decide_eq_true_eq] at *; exact List.le_trans h1 h2
  have to : ∀ a b : List UInt8, (leB a b || leB b a) = true := fun a b => by simp only [leB, Bool.or_eq_true, decide_eq_true_eq]; exact List.le_total a b
  have hpw : (keyL l).Pairwise fun a b => leB a b = true := by
    unfold keyL
    rw [List.pairwise_map]
    refine hs.imp (fun {a b} h => ?_)
    rw [kLt_dec, decide_eq_true_eq] at h
    exact decide_eq_true (List.le_of_lt h)
  refine List.Perm.eq_of_pairwise (le := fun a b => leB a b = true) (fun a b _ _ h1 h2 => ?_) (List.pairwise_mergeSort tr to ss) hpw ((List.mergeSort_perm ss leB).trans hp)
  simp only [leB, decide_eq_true_eq] at h1 h2
  exact List.le_antisymm h1 h2
theorem sorted_fst {l : List Rec} (h : Sorted l) : (l.map (·.1)).Pairwise fun a b => kLt a b = true := by
  rw [List.pairwise_map]; exact h
theorem keys_toD (l : List Rec) : strKeys (toD l) = keyL (l.map (·.1)) := by
  unfold toD keyL
  simp only [strKeys, List.map_map]
  rfl
end Go.Proofs.Ytcicdgajhheipaa
