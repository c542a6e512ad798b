import Derived.Test.YtegplajddhiejaaGreatMgLoneMake6
set_option linter.unusedVariables false
namespace Go.Proofs.YtegplajddhiejaaGreat
/-! Images: plain. -/
def be4L (n : Nat) : List UInt8 := [UInt8.ofNat (n / 16777216), UInt8.ofNat (n / 65536), UInt8.ofNat (n / 256), UInt8.ofNat n]
def recL (r : Rec) : List UInt8 := [UInt8.ofNat r.1.size] ++ r.1.data.toList ++ be4L r.2.size ++ r.2.data.toList
def imageL (l : List Rec) : List UInt8 := [83] ++ l.flatMap recL
theorem recL_len (r : Rec) : (recL r).length = 5 + r.1.size + r.2.size := by
  have h1 : r.1.data.toList.length = r.1.size := by simp
  have h2 : r.2.data.toList.length = r.2.size := by simp
  simp only [recL, be4L, List.length_append, List.length_cons, List.length_nil, h1, h2]; omega
theorem imageL_snoc (l : List Rec) (r : Rec) : imageL (l ++ [r]) = imageL l ++ recL r := by simp [imageL]
theorem imageL_len : ∀ {l : List Rec}, (∀ r ∈ l, Fit r) → (imageL l).length ≤ 1 + l.length * 1048645
  | [], _ => by simp [imageL]
  | r :: l, h => by
    have h1 := imageL_len (l := l) (fun r hr => h r (by simp [hr]))
    have h2 := h r (by simp)
    have h3 := recL_len r
    unfold Fit at h2
    unfold imageL at *
    simp only [List.flatMap_cons, List.length_append, List.length_cons, List.length_nil] at h1 ⊢
    omega
theorem take_rec {l : List Rec} {k : Nat} (h : k < l.length) : l.take (k + 1) = l.take k ++ [l[k]] := by rw [List.take_succ_eq_append_getElem h]
end Go.Proofs.YtegplajddhiejaaGreat

set_option linter.unusedVariables false
namespace Go.Proofs.YtegplajddhiejaaGreat
/-! Images read: plain. -/
def beN4 (a b c d : Nat) : Nat := ((a * 256 + b) * 256 + c) * 256 + d
def num4 : List UInt8 → Nat
  | a :: b :: c :: d :: _ => beN4 a.toNat b.toNat c.toNat d.toNat
  | _ => 0
/-- The record at the beginning of a rest: key, data, what is behind. -/
def oneL : List UInt8 → Option (List UInt8 × List UInt8 × List UInt8)
  | [] => none
  | c :: r =>
    if c.toNat < 1 ∨ 64 < c.toNat ∨ r.length < c.toNat + 4 then none
    else if 1048576 < num4 (r.drop c.toNat) ∨ (r.drop c.toNat).length < 4 + num4 (r.drop c.toNat) then none
    else some (r.take c.toNat, ((r.drop c.toNat).drop 4).take (num4 (r.drop c.toNat)), ((r.drop c.toNat).drop 4).drop (num4 (r.drop c.toNat)))
def bytesB (l : List UInt8) : ByteArray := ⟨l.toArray⟩
theorem bytesB_list (s : ByteArray) : bytesB s.data.toList = s := by unfold bytesB; simp
theorem list_bytesB (l : List UInt8) : (bytesB l).data.toList = l := by unfold bytesB; simp
theorem bytesB_size (l : List UInt8) : (bytesB l).size = l.length := by show l.toArray.size = _; simp
/-- May this key stand behind these records? -/
def goesOn (acc : List Rec) (k : ByteArray) : Bool := match acc.getLast? with | none => true | some r => kLt r.1 k
def parseN : Nat → List UInt8 → List Rec → Option (List Rec)
  | 0, l, acc => if l = [] then some acc else none
  | n + 1, l, acc => if l = [] then some acc else match oneL l with
    | none => none
    | some (k, d, r) => if goesOn acc (bytesB k) then parseN n r (acc ++ [(bytesB k, bytesB d)]) else none
theorem nil_or_snoc {α : Type} (l : List α) : l = [] ∨ ∃ a z, l = a ++ [z] := by
  rcases List.eq_nil_or_concat l with h | ⟨a, z, h⟩
  · exact .inl h
  · exact .inr ⟨a, z, by rw [h, List.concat_eq_append]⟩
theorem oneL_shape {l k d r : List UInt8} (h : oneL l = some (k, d, r)) : 1 ≤ k.length ∧ k.length ≤ 64 ∧ d.length ≤ 1048576 ∧ r.length + 5 + k.length + d.length = l.length := by
  cases l with
  | nil => cases h
  | cons c s =>
    rw [oneL] at h
    split at h
    · cases h
    · rename_i h1
      split at h
      · cases h
      · rename_i h2
        cases h
        have e1 : (s.take c.toNat).length = c.toNat := by rw [List.length_take]; omega
        have e2 : (s.drop c.toNat).length = s.length - c.toNat := List.length_drop
        have e3 : ((s.drop c.toNat).drop 4).length = s.length - c.toNat - 4 := by rw [List.length_drop, e2]
        have e4 : (((s.drop c.toNat).drop 4).take (num4 (s.drop c.toNat))).length = num4 (s.drop c.toNat) := by rw [List.length_take, e3]; omega
        have e5 : (((s.drop c.toNat).drop 4).drop (num4 (s.drop c.toNat))).length = s.length - c.toNat - 4 - num4 (s.drop c.toNat) := by rw [List.length_drop, e3]
        rw [e1, e4, e5, List.length_cons]
        omega
theorem sorted_snoc {acc : List Rec} {k d : ByteArray} (hs : Sorted acc) (h : goesOn acc k = true) : Sorted (acc ++ [(k, d)]) ∧ putL k d acc = acc ++ [(k, d)] ∧ findL k acc = none := by
  have hall : ∀ r ∈ acc, kLt r.1 k = true := by
    rcases nil_or_snoc acc with rfl | ⟨l, z, rfl⟩
    · intro r hr; cases hr
    · have hz : kLt z.1 k = true := by unfold goesOn at h; rw [List.getLast?_concat] at h; exact h
      intro r hr
      rcases List.mem_append.1 hr with hr | hr
      · have := (List.pairwise_append.1 hs).2.2 r hr z (by simp)
        exact kLt_trans this hz
      · simp at hr; subst hr; exact hz
  have hnone : findL k acc = none := List.find?_eq_none.2 (fun r hr => by
    have := kLt_ne (hall r hr)
    simpa using this)
  refine ⟨List.pairwise_append.2 ⟨hs, List.pairwise_singleton _ _, fun r hr z hz => ?_⟩, ?_, hnone⟩
  · simp at hz; subst hz; exact hall r hr
  · unfold putL
    rw [cut_of_none hnone]
    have : ∀ {l : List Rec}, (∀ r ∈ l, kLt r.1 k = true) → insL (k, d) l = l ++ [(k, d)] := by
      intro l
      induction l with
      | nil => intro _; rfl
      | cons y r ih =>
        intro h
        rw [insL, if_neg (by rw [kLt_asymm (h y (by simp))]; simp), ih (fun z hz => h z (by simp [hz]))]; rfl
    exact this hall
theorem cost_snoc (acc : List Rec) (r : Rec) : costL (acc ++ [r]) = costL acc + costR r := by simp [costL]
theorem parse_fine : ∀ (n : Nat) (l : List UInt8) (acc out : List Rec), Sorted acc → (∀ r ∈ acc, Fit r) → parseN n l acc = some out → Sorted out ∧ (∀ r ∈ out, Fit r) ∧ out.length ≤ acc.length + n
  | 0, l, acc, out, hs, hf, h => by
    unfold parseN at h
    split at h
    · cases h; exact ⟨hs, hf, by omega⟩
    · cases h
  | n + 1, l, acc, out, hs, hf, h => by
    unfold parseN at h
    split at h
    · cases h; exact ⟨hs, hf, by omega⟩
    · split at h
      · cases h
      · rename_i k d r ho
        split at h
        · rename_i hg
          obtain ⟨h1, h2, h3, h4⟩ := oneL_shape ho
          obtain ⟨q1, q2, q3⟩ := parse_fine n r _ out (sorted_snoc (d := bytesB d) hs hg).1 (fun z hz => by
            rcases List.mem_append.1 hz with hz | hz
            · exact hf z hz
            · simp at hz; subst hz; exact ⟨by rw [bytesB_size]; exact h1, by rw [bytesB_size]; exact h2, by rw [bytesB_size]; exact h3⟩) h
          exact ⟨q1, q2, by simp at q3; omega⟩
        · cases h
theorem num4_be (n : Nat) (hn : n < 4294967296) (r : List UInt8) : num4 (be4L n ++ r) = n := by
  unfold be4L
  simp only [List.cons_append, List.nil_append, num4, beN4]
  simp only [UInt8.toNat_ofNat', Nat.reducePow]
  omega
theorem one_rec {k d : ByteArray} (h : Fit (k, d)) (r : List UInt8) : oneL (recL (k, d) ++ r) = some (k.data.toList, d.data.toList, r) := by
  have hk : k.data.toList.length = k.size := by simp
  have hd : d.data.toList.length = d.size := by simp
  obtain ⟨h1, h2, h3⟩ := h
  simp only at h1 h2 h3
  have hc : (UInt8.ofNat k.size).toNat = k.size := by simp; omega
  have e0 : recL (k, d) ++ r = UInt8.ofNat k.size :: (k.data.toList ++ (be4L d.size ++ (d.data.toList ++ r))) := by simp [recL, List.append_assoc]
  have hl4 : (be4L d.size).length = 4 := rfl
  rw [e0, oneL, hc]
  have e1 : (k.data.toList ++ (be4L d.size ++ (d.data.toList ++ r))).drop k.size = be4L d.size ++ (d.data.toList ++ r) := by rw [← hk]; exact List.drop_left
  have e2 : (k.data.toList ++ (be4L d.size ++ (d.data.toList ++ r))).take k.size = k.data.toList := by rw [← hk]; exact List.take_left
  have e3 : (be4L d.size ++ (d.data.toList ++ r)).drop 4 = d.data.toList ++ r := by rw [← hl4]; exact List.drop_left
  rw [e1, e2, e3, num4_be _ (by omega)]
  have e4 : (d.data.toList ++ r).take d.size = d.data.toList := by rw [← hd]; exact List.take_left
  have e5 : (d.data.toList ++ r).drop d.size = r := by rw [← hd]; exact List.drop_left
  rw [e4, e5, if_neg (by simp only [List.length_append, hk, hl4]; omega), if_neg (by simp only [List.length_append, hd, hl4]; omega)]
theorem parse_image : ∀ (l : List Rec) (acc : List Rec) (n : Nat), Sorted (acc ++ l) → (∀ r ∈ l, Fit r) → l.length ≤ n → parseN n (l.flatMap recL) acc = some (acc ++ l)
  | [], acc, n, _, _, _ => by cases n <;> simp [parseN]
  | r :: l, acc, 0, _, _, h => by simp at h
  | (k, d) :: l, acc, n + 1, hs, hf, h => by
    have h1 := one_rec (hf (k, d) (by simp)) (l.flatMap recL)
    have hne : ((k, d) :: l).flatMap recL ≠ [] := by
      rw [List.flatMap_cons]
      simp [recL]
    rw [parseN, if_neg hne, List.flatMap_cons, h1]
    simp only [bytesB_list]
    have hg : goesOn acc k = true := by
      unfold goesOn
      rcases nil_or_snoc acc with rfl | ⟨a, z, rfl⟩
      · rfl
      · rw [List.getLast?_concat]
        exact (List.pairwise_append.1 hs).2.2 z (by simp) (k, d) (by simp)
    rw [if_pos hg, parse_image l (acc ++ [(k, d)]) n (by simpa using hs) (fun r hr => hf r (by simp [hr])) (by simpa using h)]
    simp
/-- More fuel tells the same. -/
theorem parse_fuel : ∀ (n m : Nat) (l : List UInt8) (acc : List Rec), l.length ≤ n → l.length ≤ m → parseN n l acc = parseN m l acc
  | 0, 0, _, _, _, _ => rfl
  | 0, m + 1, l, acc, h, _ => by
    have : l = [] := List.eq_nil_of_length_eq_zero (by omega)
    subst this; simp [parseN]
  | n + 1, 0, l, acc, _, h => by
    have : l = [] := List.eq_nil_of_length_eq_zero (by omega)
    subst this; simp [parseN]
  | n + 1, m + 1, l, acc, h1, h2 => by
    unfold parseN
    split
    · rfl
    · split
      · rfl
      · rename_i k d r ho
        have hs := oneL_shape ho
        split
        · exact parse_fuel n m r _ (by omega) (by omega)
        · rfl
def openL (image : ByteArray) : Option (List Rec) := match image.data.toList with
  | [] => none
  | c :: r => if c.toNat = 83 then parseN r.length r [] else none
def fieldsOf (c : Int) (l : List Rec) : Fld := ⟨c, l, l, [], (costL l : Nat), false, 0, 0⟩
theorem fieldsOf_fine {K : Nat} {c : Int} {l : List Rec} (hc : goesB c = true) (hs : Sorted l) (hf : ∀ r ∈ l, Fit r) (hl : l.length ≤ K) : Fine K (fieldsOf c l) := by
  have h1 : 0 ≤ c ∧ c ≤ 1073741824 := of_decide_eq_true hc
  exact ⟨hf, fun p hp => (by cases hp), hs, by show l.length + 0 ≤ K; omega, rfl, rfl, h1, ⟨by simp [fieldsOf], by simp [fieldsOf]⟩, ⟨by simp [fieldsOf], by simp [fieldsOf]⟩⟩
theorem open_image {l : List Rec} (hs : Sorted l) (hf : ∀ r ∈ l, Fit r) : openL (bytesB (imageL l)) = some l := by
  unfold openL
  rw [list_bytesB]
  show (if (83 : UInt8).toNat = 83 then parseN (l.flatMap recL).length (l.flatMap recL) [] else none) = _
  rw [if_pos (by decide)]
  have hlen : l.length ≤ (l.flatMap recL).length := by
    clear hs hf
    induction l with
    | nil => simp
    | cons r l ih =>
      rw [List.flatMap_cons, List.length_append, List.length_cons, recL_len]; omega
  rw [parse_image l [] _ (by simpa using hs) hf hlen]
  rfl
end Go.Proofs.YtegplajddhiejaaGreat
