import Derived.Test.YtegplajddhiejaaGreatRg7a
set_option linter.unusedVariables false
set_option linter.unusedSimpArgs false
namespace Go.Proofs.YtegplajddhiejaaGreat
open Go.RowKit Go.WideMaps Go.Maps Go.MapKept
/-! What stands in a space, in plain words: the list that its records tell, and what is taken out. -/
theorem count_in : ∀ (n : Nat) (l : List Int), (∀ j, j < n → (j : Int) ∈ l) → n ≤ l.length
  | 0, l, _ => Nat.zero_le _
  | n + 1, l, h => by
    have hm := h n (by omega)
    have h2 := count_in n (l.erase (n : Int)) fun j hj => (List.mem_erase_of_ne (by omega)).2 (h j (by omega))
    rw [List.length_erase_of_mem hm] at h2
    have := List.length_pos_of_mem hm
    omega
theorem get_found {x : Fld} {k : ByteArray} (h : (getZ x k).2 = 0) : x.off = false ∧ ∃ r ∈ x.now, r.1 = k := by
  unfold getZ at h
  split at h
  · cases h
  · rename_i ho
    split at h
    · cases h
    · split at h
      · cases h
      · rename_i r hr
        exact ⟨by simpa using ho, r, find_some hr⟩
/-- A record that is got has its number among the numbers. -/
theorem nums_have {K : Nat} {x : Fld} (hf : Fine K x) {s k n : Int} (s1 : s ≤ 9223372036854775807) (n1 : n ≤ 9223372036854775807) (h : (bgetG x s k n).2 = 0) : n ∈ numsP x s k := by
  cases hk : keyG s k n
  · unfold bgetG at h
    rw [if_pos hk] at h
    cases h
  · obtain ⟨s0, k0, k1, n0⟩ := keyG_ok hk
    have hin : InB s k n := ⟨s0, s1, k0, k1, n0, n1⟩
    unfold bgetG at h
    rw [if_neg (by rw [hk]; simp)] at h
    have h0 : (getZ x (keyZ s k n)).2 = 0 := by
      rcases bget_cases hf s k n with ⟨h1, h2⟩ | ⟨h1, _⟩
      · rw [h2] at h
        exact h
      · exact h1
    obtain ⟨ho, r, hr, hrk⟩ := get_found h0
    obtain ⟨o1, o2, o3, o4⟩ := okN_key hin
    unfold numsP
    rw [if_pos ⟨s0, k0, k1⟩]
    unfold numsZ keysZ
    rw [ho, if_neg (by simp)]
    refine List.mem_map.2 ⟨keyZ s k n, List.mem_filter.2 ⟨List.mem_filter.2 ⟨List.mem_map.2 ⟨r, hr, hrk⟩, ?_⟩, o1⟩, o2⟩
    rw [pre_both s0 s1 k0 k1 hin]
    simp
/-- A record of a leaf that may stand in the list. -/
def okAt (x : Fld) (s : Int) (i : Nat) : Bool := decide ((bgetG x s 1 i).2 = 0 ∧ (bgetG x s 1 i).1.size ≤ 4096)
def leafAt (x : Fld) (s : Int) (i : Nat) : ByteArray := (bgetG x s 1 i).1
def firstNo (p : Nat → Bool) : Nat → Nat → Nat
  | 0, i => i
  | f + 1, i => if p i then firstNo p f (i + 1) else i
theorem firstNo_yes (p : Nat → Bool) : ∀ (f i : Nat), (∀ j, i ≤ j → j < firstNo p f i → p j = true) ∧ i ≤ firstNo p f i ∧ firstNo p f i ≤ i + f ∧ (firstNo p f i < i + f → p (firstNo p f i) = false)
  | 0, i => ⟨fun j h1 h2 => by simp only [firstNo] at h2; omega, Nat.le_refl _, Nat.le_refl _, fun h => absurd h (Nat.lt_irrefl _)⟩
  | f + 1, i => by
    obtain ⟨h1, h2, h3, h4⟩ := firstNo_yes p f (i + 1)
    unfold firstNo
    cases hp : p i
    · simp only [Bool.false_eq_true, if_false]
      exact ⟨fun j a b => by omega, Nat.le_refl _, by omega, fun _ => hp⟩
    · simp only [if_true]
      refine ⟨fun j a b => ?_, by omega, by omega, fun h => h4 (by omega)⟩
      by_cases e : j = i
      · rw [e]; exact hp
      · exact h1 j (by omega) b
/-- How many leaves stand without a gap. -/
def standN (x : Fld) (s : Int) : Nat := firstNo (okAt x s) (numsP x s 1).length 0
theorem stand_all {x : Fld} {s : Int} {j : Nat} (h : j < standN x s) : okAt x s j = true := (firstNo_yes (okAt x s) _ 0).1 j (Nat.zero_le _) h
theorem stand_le (x : Fld) (s : Int) : standN x s ≤ (numsP x s 1).length := by
  have := (firstNo_yes (okAt x s) (numsP x s 1).length 0).2.2.1
  unfold standN
  omega
theorem ok_most {K : Nat} {x : Fld} (hf : Fine K x) {s : Int} (s1 : s ≤ 9223372036854775807) {n : Nat} (hn : n ≤ 4194304) (h : ∀ j, j < n → okAt x s j = true) : n ≤ (numsP x s 1).length :=
  count_in n _ fun j hj => nums_have hf s1 (by omega) (of_decide_eq_true (h j hj)).1
theorem numsP_le {K : Nat} {x : Fld} (hf : Fine K x) (s k : Int) : (numsP x s k).length ≤ K := by
  unfold numsP
  split
  · exact Nat.le_trans (nums_len _) (keys_len2 hf _)
  · exact Nat.zero_le _
theorem stand_end {K : Nat} {x : Fld} (hf : Fine K x) (hK : K ≤ 4194303) {s : Int} (s1 : s ≤ 9223372036854775807) : okAt x s (standN x s) = false := by
  have h1 := (firstNo_yes (okAt x s) (numsP x s 1).length 0).2.2.2
  have hle := stand_le x s
  have hl := numsP_le hf s 1
  by_cases h : standN x s < (numsP x s 1).length
  · exact h1 (by unfold standN at h; omega)
  · cases hp : okAt x s (standN x s)
    · rfl
    · have := ok_most hf s1 (n := standN x s + 1) (by omega) fun j hj => by
        by_cases e : j = standN x s
        · rw [e]; exact hp
        · exact stand_all (by omega)
      omega
/-- The list that stands, up to a place. -/
def standL (x : Fld) (s : Int) (i : Nat) : List ByteArray := (List.range i).map (leafAt x s)
def standZ (x : Fld) (s : Int) : List ByteArray := standL x s (standN x s)
theorem standL_snoc (x : Fld) (s : Int) (i : Nat) : standL x s (i + 1) = standL x s i ++ [leafAt x s i] := by
  unfold standL
  rw [List.range_succ, List.map_append]
  rfl
theorem standL_len (x : Fld) (s : Int) (i : Nat) : (standL x s i).length = i := by simp [standL]
/-- Where the reading stands: at a place below the end it goes on, at the end it stops. -/
theorem stand_go {x : Fld} {s : Int} {i : Nat} (h : i ≤ standN x s) (ho : okAt x s i = true) {K : Nat} (hf : Fine K x) (hK : K ≤ 4194303) (s1 : s ≤ 9223372036854775807) : i < standN x s := by
  by_cases e : i = standN x s
  · rw [e, stand_end hf hK s1] at ho
    cases ho
  · omega
theorem stand_stop {x : Fld} {s : Int} {i : Nat} (h : i ≤ standN x s) (ho : okAt x s i = false) : i = standN x s := by
  by_cases e : i < standN x s
  · rw [stand_all e] at ho
    cases ho
  · omega
/-- What is taken out of one kind: every number but those of leaves below keep. -/
def clearL (s k : Int) (keep : Nat) : List Int → Fld → Int × Fld
  | [], x => (0, x)
  | n :: r, x => if k = 1 ∧ n < keep then clearL s k keep r x else if (bdropG x s k n).1 ≠ 0 then bdropG x s k n else clearL s k keep r (bdropG x s k n).2
/-- What is taken out from a kind on. -/
def clearA (s : Int) (keep : Nat) : Nat → Int → Fld → Int × Fld
  | 0, _, x => (0, x)
  | f + 1, k, x => if (clearL s k keep (numsP x s k) x).1 ≠ 0 then clearL s k keep (numsP x s k) x else clearA s keep f (k + 1) (clearL s k keep (numsP x s k) x).2
def clearZ (x : Fld) (s : Int) (keep : Nat) : Int × Fld := clearA s keep 255 1 x
theorem bdrop_tidy {J : Nat} {x : Fld} (h : Tidy J x) (s k n : Int) : Tidy J (bdropG x s k n).2 := by
  unfold bdropG
  split
  · exact h
  · exact cut_tidy h _
theorem clearL_tidy {J : Nat} (s k : Int) (keep : Nat) : ∀ (l : List Int) {x : Fld}, Tidy J x → Tidy J (clearL s k keep l x).2
  | [], x, h => h
  | n :: r, x, h => by
    unfold clearL
    split
    · exact clearL_tidy s k keep r h
    · split
      · exact bdrop_tidy h s k n
      · exact clearL_tidy s k keep r (bdrop_tidy h s k n)
theorem clearA_tidy {J : Nat} (s : Int) (keep : Nat) : ∀ (f : Nat) (k : Int) {x : Fld}, Tidy J x → Tidy J (clearA s keep f k x).2
  | 0, _, x, h => h
  | f + 1, k, x, h => by
    unfold clearA
    split
    · exact clearL_tidy s k keep _ h
    · exact clearA_tidy s keep f (k + 1) (clearL_tidy s k keep _ h)
theorem clear_tidy {J : Nat} {x : Fld} (h : Tidy J x) (s : Int) (keep : Nat) : Tidy J (clearZ x s keep).2 := clearA_tidy s keep 255 1 h
/-- One step of what is taken out. -/
theorem clearL_at (s k : Int) (keep : Nat) (l : List Int) (j : Nat) (hj : j < l.length) (y : Fld) : clearL s k keep (l.drop j) y = if k = 1 ∧ l[j] < keep then clearL s k keep (l.drop (j + 1)) y else if (bdropG y s k l[j]).1 ≠ 0 then bdropG y s k l[j] else clearL s k keep (l.drop (j + 1)) (bdropG y s k l[j]).2 := by
  rw [List.drop_eq_getElem_cons hj]
  rfl
theorem clearL_end (s k : Int) (keep : Nat) (l : List Int) (y : Fld) : clearL s k keep (l.drop l.length) y = (0, y) := by
  rw [List.drop_length]
  rfl
theorem nums_bound {x : Fld} {s k : Int} : ∀ n ∈ numsP x s k, -9223372036854775808 ≤ n ∧ n ≤ 9223372036854775807 := by
  intro n hn
  unfold numsP at hn
  split at hn
  · unfold numsZ at hn
    obtain ⟨b, _, rfl⟩ := List.mem_map.1 hn
    unfold nmN
    split
    · exact ⟨by unfold wrap64; omega, by unfold wrap64; omega⟩
    · omega
  · cases hn
end Go.Proofs.YtegplajddhiejaaGreat
