import Derived.Test.YtcicdgajhheipaaSp2
set_option linter.unusedVariables false
namespace Go.Proofs.Ytcicdgajhheipaa
/-! Images: plain. -/
def be4L (n : Nat) : List UInt8 := [UInt8.ofNat (n / 16777216), UInt8.ofNat (n / 65536), UInt8.ofNat (n / 256), UInt8.ofNat n]
def recL (r : Rec) : List UInt8 := [UInt8.ofNat r.1.size] ++ r.1.data.toList ++ be4L r.2.size ++ r.2.data.toList
def imageL (l : List Rec) : List UInt8 := [83] ++ l.flatMap recL
theorem recL_len (r : Rec) : (recL r).length = 5 + r.1.size + r.2.size := by
  have h1 : r.1.data.toList.length = r.1.size := by simp
  have h2 : r.2.data.toList.length = r.2.size := by simp
  simp only [recL, be4L, List.length_append, List.length_cons, List.length_nil, h1, h2]; omega
theorem imageL_snoc (l : List Rec) (r : Rec) : imageL (l ++ [r]) = imageL l ++ recL r := by simp [imageL]
theorem imageL_len : ∀ {l : List Rec}, (∀ r ∈ l, Fit r) → (imageL l).length ≤ 1 + l.length * 1048645
  | [], _ => by simp [imageL]
  | r :: l, h => by
    have h1 := imageL_len (l := l) (fun r hr => h r (by simp [hr]))
    have h2 := h r (by simp)
    have h3 := recL_len r
    unfold Fit at h2
    unfold imageL at *
    simp only [List.flatMap_cons, List.length_append, List.length_cons, List.length_nil] at h1 ⊢
    omega
theorem take_rec {l : List Rec} {k : Nat} (h : k < l.length) : l.take (k + 1) = l.take k ++ [l[k]] := by rw [List.take_succ_eq_append_getElem h]
end Go.Proofs.Ytcicdgajhheipaa
