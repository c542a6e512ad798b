import Derived.Test.YtcicdgajhheipaaBs3
set_option linter.unusedVariables false
namespace Go.Proofs.Ytcicdgajhheipaa
/-! Two spaces' records in a store: plain. -/
theorem unique_by {α : Type} (R : α → α → Prop) (asym : ∀ a b, R a b → ¬ R b a) : ∀ {l l' : List α}, l.Pairwise R → l'.Pairwise R → (∀ y, y ∈ l ↔ y ∈ l') → l = l'
  | [], [], _, _, _ => rfl
  | [], y :: r, _, _, h => by have := (h y).2 (by simp); simp at this
  | y :: r, [], _, _, h => by have := (h y).1 (by simp); simp at this
  | y :: r, z :: s, h1, h2, h => by
    have irr : ∀ a, ¬ R a a := fun a ha => asym a a ha ha
    obtain ⟨a1, b1⟩ := List.pairwise_cons.1 h1
    obtain ⟨a2, b2⟩ := List.pairwise_cons.1 h2
    have hyz : y = z := by
      rcases List.mem_cons.1 ((h y).1 (by simp)) with e | hy
      · exact e
      · rcases List.mem_cons.1 ((h z).2 (by simp)) with e | hz
        · exact e.symm
        · exact absurd (a2 y hy) (asym _ _ (a1 z hz))
    subst hyz
    congr 1
    refine unique_by R asym b1 b2 (fun x => ?_)
    constructor
    · intro hx
      rcases List.mem_cons.1 ((h x).1 (by simp [hx])) with e | hx'
      · subst e; exact absurd (a1 x hx) (irr x)
      · exact hx'
    · intro hx
      rcases List.mem_cons.1 ((h x).2 (by simp [hx])) with e | hx'
      · subst e; exact absurd (a2 x hx) (irr x)
      · exact hx'
def insI (n : Int) : List Int → List Int
  | [] => [n]
  | m :: r => if n < m then n :: m :: r else if n = m then m :: r else m :: insI n r
theorem mem_insI {n y : Int} : ∀ {l : List Int}, y ∈ insI n l ↔ y = n ∨ y ∈ l
  | [] => by simp [insI]
  | m :: r => by
    have ih := mem_insI (n := n) (y := y) (l := r)
    unfold insI
    split
    · simp
    · split
      · rename_i h1 h2
        subst h2
        simp
      · rw [List.mem_cons, ih, List.mem_cons]
        constructor
        · rintro (h | h | h) <;> simp [h]
        · rintro (h | h | h) <;> simp [h]
def Rise (l : List Int) : Prop := l.Pairwise (· < ·)
theorem rise_ins {n : Int} : ∀ {l : List Int}, Rise l → Rise (insI n l)
  | [], _ => by simp [insI, Rise]
  | m :: r, h => by
    obtain ⟨h1, h2⟩ := List.pairwise_cons.1 h
    unfold insI
    split
    · rename_i hlt
      refine List.pairwise_cons.2 ⟨fun y hy => ?_, h⟩
      rcases List.mem_cons.1 hy with rfl | hy
      · exact hlt
      · have := h1 y hy; omega
    · split
      · exact h
      · refine List.pairwise_cons.2 ⟨fun y hy => ?_, rise_ins h2⟩
        rcases mem_insI.1 hy with rfl | hy
        · omega
        · exact h1 y hy
theorem len_insI (n : Int) : ∀ l : List Int, 0 < (insI n l).length
  | [] => by simp [insI]
  | m :: r => by
    unfold insI
    split
    · simp
    · split <;> simp
theorem len_insI_le (n : Int) : ∀ l : List Int, (insI n l).length ≤ l.length + 1
  | [] => by simp [insI]
  | m :: r => by
    have := len_insI_le n r
    unfold insI
    split
    · simp
    · split
      · simp
      · simp only [List.length_cons]; omega
def txtA : ByteArray := ⟨#[97]⟩
def txtB : ByteArray := ⟨#[98]⟩
/-- The store holds the records of these numbers in two spaces, and no others. -/
structure Pairs (x : Fld) (s k : Int) (L : List Int) : Prop where
  only : ∀ r ∈ x.now, ∃ n ∈ L, r = (keyZ s k n, frameZ k n txtA) ∨ r = (keyZ (s + 1) k n, frameZ k n txtB)
  one : ∀ n ∈ L, (keyZ s k n, frameZ k n txtA) ∈ x.now
  two : ∀ n ∈ L, (keyZ (s + 1) k n, frameZ k n txtB) ∈ x.now
  rise : Rise L
  inb : ∀ n ∈ L, 0 ≤ n ∧ n ≤ 9223372036854775807
/-- In bounds: two spaces. -/
structure InS (s k : Int) : Prop where
  s0 : 0 ≤ s
  s1 : s < 9223372036854775807
  k0 : 1 ≤ k
  k1 : k ≤ 255
theorem InS.one {s k n : Int} (h : InS s k) (hn : 0 ≤ n ∧ n ≤ 9223372036854775807) : InB s k n := ⟨h.s0, by have := h.s1; omega, h.k0, h.k1, hn.1, hn.2⟩
theorem InS.two {s k n : Int} (h : InS s k) (hn : 0 ≤ n ∧ n ≤ 9223372036854775807) : InB (s + 1) k n := ⟨by have := h.s0; omega, by have := h.s1; omega, h.k0, h.k1, hn.1, hn.2⟩
theorem key_eq {s k n t l m : Int} (h : InB s k n) (h' : InB t l m) : keyZ s k n = keyZ t l m ↔ s = t ∧ k = l ∧ n = m := by
  rw [← (key_law s k n t l m h.s0 h.s1 h.n0 h.n1 h'.s0 h'.s1 h'.n0 h'.n1 h.k0 h.k1 h'.k0 h'.k1).1]
  constructor
  · rintro e; rw [e]
  · intro e
    rw [ByteArray.toList_eq, ByteArray.toList_eq] at e
    exact ByteArray.ext (Array.toList_inj.1 e)
theorem key_lt {s k n t l m : Int} (h : InB s k n) (h' : InB t l m) : kLt (keyZ s k n) (keyZ t l m) = decide (s < t ∨ (s = t ∧ (k < l ∨ (k = l ∧ n < m)))) := by
  rw [← less_kLt]
  exact (key_law s k n t l m h.s0 h.s1 h.n0 h.n1 h'.s0 h'.s1 h'.n0 h'.n1 h.k0 h.k1 h'.k0 h'.k1).2
theorem mem_put {k d : ByteArray} {y : Rec} {l : List Rec} : y ∈ putL k d l ↔ y = (k, d) ∨ (y ∈ l ∧ y.1 ≠ k) := by
  unfold putL
  rw [mem_ins, mem_cut]
theorem Pairs.none (s k : Int) (c : Int) : Pairs (newF c) s k [] := ⟨fun r hr => (by cases hr), fun n hn => (by cases hn), fun n hn => (by cases hn), List.Pairwise.nil, fun n hn => (by cases hn)⟩
/-- One number more, in both spaces. -/
theorem Pairs.more {x y : Fld} {s k n : Int} {L : List Int} (hi : InS s k) (hn : 0 ≤ n ∧ n ≤ 9223372036854775807) (h : Pairs x s k L)
    (hy : y.now = putL (keyZ (s + 1) k n) (frameZ k n txtB) (putL (keyZ s k n) (frameZ k n txtA) x.now)) : Pairs y s k (insI n L) := by
  have hk : ∀ m, 0 ≤ m ∧ m ≤ 9223372036854775807 → (keyZ s k m = keyZ s k n ↔ m = n) := fun m hm => by rw [key_eq (hi.one hm) (hi.one hn)]; simp
  have hk2 : ∀ m, 0 ≤ m ∧ m ≤ 9223372036854775807 → (keyZ (s + 1) k m = keyZ (s + 1) k n ↔ m = n) := fun m hm => by rw [key_eq (hi.two hm) (hi.two hn)]; simp
  have hk3 : ∀ m, 0 ≤ m ∧ m ≤ 9223372036854775807 → keyZ s k m ≠ keyZ (s + 1) k n := fun m hm e => by have := (key_eq (hi.one hm) (hi.two hn)).1 e; omega
  have hk4 : ∀ m, 0 ≤ m ∧ m ≤ 9223372036854775807 → keyZ (s + 1) k m ≠ keyZ s k n := fun m hm e => by have := (key_eq (hi.two hm) (hi.one hn)).1 e; omega
  refine ⟨fun r hr => ?_, fun m hm => ?_, fun m hm => ?_, rise_ins h.rise, fun m hm => ?_⟩
  · rw [hy] at hr
    rcases mem_put.1 hr with e | ⟨hr, _⟩
    · exact ⟨n, mem_insI.2 (.inl rfl), .inr e⟩
    · rcases mem_put.1 hr with e | ⟨hr, _⟩
      · exact ⟨n, mem_insI.2 (.inl rfl), .inl e⟩
      · obtain ⟨m, hm, he⟩ := h.only r hr
        exact ⟨m, mem_insI.2 (.inr hm), he⟩
  · rw [hy]
    by_cases e : m = n
    · subst e
      exact mem_put.2 (.inr ⟨mem_put.2 (.inl rfl), hk3 m hn⟩)
    · rcases mem_insI.1 hm with e' | hm
      · exact absurd e' e
      · exact mem_put.2 (.inr ⟨mem_put.2 (.inr ⟨h.one m hm, fun e2 => e ((hk m (h.inb m hm)).1 e2)⟩), hk3 m (h.inb m hm)⟩)
  · rw [hy]
    by_cases e : m = n
    · subst e
      exact mem_put.2 (.inl rfl)
    · rcases mem_insI.1 hm with e' | hm
      · exact absurd e' e
      · exact mem_put.2 (.inr ⟨mem_put.2 (.inr ⟨h.two m hm, hk4 m (h.inb m hm)⟩), fun e2 => e ((hk2 m (h.inb m hm)).1 e2)⟩)
  · rcases mem_insI.1 hm with rfl | hm
    · exact hn
    · exact h.inb m hm
theorem data_app (a b : ByteArray) : (a ++ b).data.toList = a.data.toList ++ b.data.toList := by
  rw [ByteArray.data_append, Array.toList_append]
theorem pre_same {p q r : ByteArray} (h : p.size = q.size) : isPre p (q ++ r) = decide (p = q) := by
  unfold isPre
  rw [data_app]
  have hl : p.data.toList.length = q.data.toList.length := by rw [size_list, size_list, h]
  by_cases e : p = q
  · subst e
    simp
  · rw [decide_eq_false e, decide_eq_false]
    rintro ⟨t, ht⟩
    have := (List.append_inj ht hl).1
    exact e (ByteArray.ext (Array.toList_inj.1 this))
theorem app_inj {a b c d : ByteArray} (h : a.size = b.size) (e : a ++ c = b ++ d) : a = b := by
  have h1 := congrArg (fun z : ByteArray => z.data.toList) e
  simp only [data_app] at h1
  exact ByteArray.ext (Array.toList_inj.1 (List.append_inj h1 (by rw [size_list, size_list, h])).1)
theorem pref_eq {s t : Int} (s0 : 0 ≤ s) (s1 : s ≤ 9223372036854775807) (t0 : 0 ≤ t) (t1 : t ≤ 9223372036854775807) : prefZ s = prefZ t ↔ s = t := by
  constructor
  · intro e
    have h1 : keyZ s 1 0 = keyZ t 1 0 := by unfold keyZ; rw [e]
    exact ((key_eq (⟨s0, s1, by omega, by omega, by omega, by omega⟩) (⟨t0, t1, by omega, by omega, by omega, by omega⟩)).1 h1).1
  · rintro rfl; rfl
theorem pre_space {s t k n : Int} (s0 : 0 ≤ s) (s1 : s ≤ 9223372036854775807) (h : InB t k n) : isPre (prefZ s) (keyZ t k n) = decide (s = t) := by
  have e : keyZ t k n = prefZ t ++ (oneZ k ++ be8Z n) := by unfold keyZ; rw [ByteArray.append_assoc]
  rw [e, pre_same (by rw [pref_size, pref_size])]
  simp only [pref_eq s0 s1 h.s0 h.s1]
theorem pre_kind {s t k n : Int} (s0 : 0 ≤ s) (s1 : s ≤ 9223372036854775807) (h : InB t k n) : isPre (prefZ s ++ oneZ k) (keyZ t k n) = decide (s = t) := by
  unfold keyZ
  rw [pre_same (by rw [ByteArray.size_append, ByteArray.size_append, pref_size, pref_size])]
  have : prefZ s ++ oneZ k = prefZ t ++ oneZ k ↔ s = t := ⟨fun e => (pref_eq s0 s1 h.s0 h.s1).1 (app_inj (by rw [pref_size, pref_size]) e), by rintro rfl; rfl⟩
  simp only [this]
theorem rise_keys {s k : Int} {L : List Int} (h : Rise L) (hb : ∀ n ∈ L, InB s k n) : (L.map (keyZ s k)).Pairwise fun a b => kLt a b = true := by
  rw [List.pairwise_map]
  refine List.Pairwise.imp_of_mem (fun {a b} ha hb' hlt => ?_) h
  rw [key_lt (hb a ha) (hb b hb'), decide_eq_true_eq]
  omega
/-- The keys under a prefix that tells one of the two spaces. -/
theorem Pairs.keys {x : Fld} {K : Nat} {s k : Int} {L : List Int} (hi : InS s k) (h : Pairs x s k L) (hf : Fine K x) (ho : x.off = false) (q : Int → ByteArray)
    (hq : ∀ (a t n : Int), 0 ≤ a → a ≤ 9223372036854775807 → InB t k n → isPre (q a) (keyZ t k n) = decide (a = t)) : keysZ x (q s) = L.map (keyZ s k) ∧ keysZ x (q (s + 1)) = L.map (keyZ (s + 1) k) := by
  have h0 := hi.s0
  have h1 := hi.s1
  have asym : ∀ a b : ByteArray, kLt a b = true → ¬ kLt b a = true := fun a b e => by rw [kLt_asymm e]; simp
  rw [keys_2 ho, keys_2 ho]
  constructor
  · refine unique_by (fun a b => kLt a b = true) asym ((sorted_fst hf.sn).filter _) (rise_keys h.rise fun n hn => hi.one (h.inb n hn)) fun y => ?_
    rw [List.mem_filter, List.mem_map, List.mem_map]
    constructor
    · rintro ⟨⟨r, hr, rfl⟩, hp⟩
      obtain ⟨n, hn, rfl | rfl⟩ := h.only r hr
      · exact ⟨n, hn, rfl⟩
      · simp only at hp
        rw [hq s (s + 1) n (by omega) (by omega) (hi.two (h.inb n hn)), decide_eq_true_eq] at hp
        omega
    · rintro ⟨n, hn, rfl⟩
      exact ⟨⟨_, h.one n hn, rfl⟩, by rw [hq s s n (by omega) (by omega) (hi.one (h.inb n hn))]; simp⟩
  · refine unique_by (fun a b => kLt a b = true) asym ((sorted_fst hf.sn).filter _) (rise_keys h.rise fun n hn => hi.two (h.inb n hn)) fun y => ?_
    rw [List.mem_filter, List.mem_map, List.mem_map]
    constructor
    · rintro ⟨⟨r, hr, rfl⟩, hp⟩
      obtain ⟨n, hn, rfl | rfl⟩ := h.only r hr
      · simp only at hp
        rw [hq (s + 1) s n (by omega) (by omega) (hi.one (h.inb n hn)), decide_eq_true_eq] at hp
        omega
      · exact ⟨n, hn, rfl⟩
    · rintro ⟨n, hn, rfl⟩
      exact ⟨⟨_, h.two n hn, rfl⟩, by rw [hq (s + 1) (s + 1) n (by omega) (by omega) (hi.two (h.inb n hn))]; simp⟩
/-! Wiping. -/
/-- What Wipe does behind the list of keys: cut by cut, up to the first refusal. -/
def wipeL : List ByteArray → Fld → Int × Fld
  | [], x => (0, x)
  | k :: ks, x => if (cutZ x k).1 ≠ 0 then (cutZ x k) else wipeL ks (cutZ x k).2
def wipeZ (x : Fld) (s : Int) : Int × Int × Fld :=
  if x.off then (0, 124, x) else
    if (wipeL (keysZ x (prefZ s)) x).1 ≠ 0 then (0, (wipeL (keysZ x (prefZ s)) x).1, (wipeL (keysZ x (prefZ s)) x).2)
    else (((keysZ x (prefZ s)).length : Nat), 0, (wipeL (keysZ x (prefZ s)) x).2)
theorem wipe_fine {K : Nat} : ∀ (ks : List ByteArray) {K : Nat} {x : Fld}, Fine K x → Fine (K + ks.length) (wipeL ks x).2
  | [], K, x, h => h
  | k :: ks, K, x, h => by
    have h1 := cut_fine h k
    unfold wipeL
    split
    · exact h1.mono (by simp only [List.length_cons]; omega)
    · exact (wipe_fine (K := 0) ks h1).mono (by simp only [List.length_cons]; omega)
theorem cut_there {K : Nat} {x : Fld} (hf : Fine K x) {k d : ByteArray} (ho : x.off = false) (hl : x.left = 0) (hm : (k, d) ∈ x.now) : (cutZ x k).1 = 0 ∧ (cutZ x k).2.off = false ∧ (cutZ x k).2.left = 0 ∧ (cutZ x k).2.now = cutL k x.now := by
  have hk : keyedB k = true := decide_eq_true ⟨(hf.fn _ hm).1, (hf.fn _ hm).2.1⟩
  have hfd := find_of_mem hf.sn hm rfl
  have hst : ∀ y : Fld, y.left = 0 → y.struck = y := fun y h => by unfold Fld.struck; rw [if_pos h]
  have hz : cutZ x k = (endZ x, x.wrote ⟨k, ⟨#[]⟩, true⟩ (x.used - (costR (k, d) : Nat))) := by
    unfold cutZ
    rw [if_neg (by rw [ho]; simp), if_neg (by rw [hk]; simp), hfd]
  have hw : x.wrote ⟨k, ⟨#[]⟩, true⟩ (x.used - (costR (k, d) : Nat)) = { x with now := doW x.now ⟨k, ⟨#[]⟩, true⟩, pend := x.pend ++ [⟨k, ⟨#[]⟩, true⟩], used := x.used - (costR (k, d) : Nat) } := by
    unfold Fld.wrote
    exact hst _ hl
  rw [hz, hw]
  exact ⟨by unfold endZ strikesB; rw [hl]; rfl, ho, hl, rfl⟩
theorem wipe_all : ∀ (ks : List ByteArray) {K : Nat} {x : Fld}, Fine K x → x.off = false → x.left = 0 → ks.Nodup → (∀ k ∈ ks, ∃ d, (k, d) ∈ x.now) →
    (wipeL ks x).1 = 0 ∧ (wipeL ks x).2.off = false ∧ (wipeL ks x).2.left = 0 ∧ ∀ r, r ∈ (wipeL ks x).2.now ↔ r ∈ x.now ∧ r.1 ∉ ks
  | [], K, x, hf, ho, hl, _, _ => ⟨rfl, ho, hl, fun r => by simp [wipeL]⟩
  | k :: ks, K, x, hf, ho, hl, hn, hm => by
    obtain ⟨d, hd⟩ := hm k (by simp)
    obtain ⟨c1, c2, c3, c4⟩ := cut_there hf ho hl hd
    obtain ⟨n1, n2⟩ := List.nodup_cons.1 hn
    obtain ⟨i1, i2, i3, i4⟩ := wipe_all ks (cut_fine hf k) c2 c3 n2 (fun j hj => by
      obtain ⟨d', hd'⟩ := hm j (by simp [hj])
      refine ⟨d', ?_⟩
      rw [c4]
      exact mem_cut.2 ⟨hd', fun e => n1 (by rw [← show j = k from e]; exact hj)⟩)
    unfold wipeL
    rw [if_neg (by rw [c1]; simp)]
    refine ⟨i1, i2, i3, fun r => ?_⟩
    rw [i4, c4, mem_cut, List.mem_cons]
    constructor
    · rintro ⟨⟨a, b⟩, c⟩
      exact ⟨a, fun e => by rcases e with e | e; exact b e; exact c e⟩
    · rintro ⟨a, b⟩
      exact ⟨⟨a, fun e => b (.inl e)⟩, fun e => b (.inr e)⟩
/-- Behind the wipe: one space's records. -/
structure Left (x : Fld) (s k : Int) (L : List Int) : Prop where
  only : ∀ r, r ∈ x.now ↔ ∃ n ∈ L, r = (keyZ (s + 1) k n, frameZ k n txtB)
  rise : Rise L
  inb : ∀ n ∈ L, 0 ≤ n ∧ n ≤ 9223372036854775807
theorem Pairs.wiped {x : Fld} {K : Nat} {s k : Int} {L : List Int} (hi : InS s k) (h : Pairs x s k L) (hf : Fine K x) (ho : x.off = false) (hl : x.left = 0) :
    (wipeZ x s).1 = (L.length : Nat) ∧ (wipeZ x s).2.1 = 0 ∧ (wipeZ x s).2.2.off = false ∧ Left (wipeZ x s).2.2 s k L ∧ (keysZ x (prefZ s)).length = L.length ∧ Fine (K + L.length) (wipeZ x s).2.2 := by
  have hk := (h.keys hi hf ho prefZ (fun a t n a0 a1 hb => pre_space a0 a1 hb)).1
  have hlen : (keysZ x (prefZ s)).length = L.length := by rw [hk, List.length_map]
  have hnd : (keysZ x (prefZ s)).Nodup := by
    rw [hk]
    exact (rise_keys h.rise fun n hn => hi.one (h.inb n hn)).imp (fun e => kLt_ne e)
  obtain ⟨w1, w2, w3, w4⟩ := wipe_all (keysZ x (prefZ s)) hf ho hl hnd (fun j hj => by
    rw [hk] at hj
    obtain ⟨n, hn, rfl⟩ := List.mem_map.1 hj
    exact ⟨_, h.one n hn⟩)
  have hff := wipe_fine (K := 0) (keysZ x (prefZ s)) hf
  have hz : wipeZ x s = ((((keysZ x (prefZ s)).length : Nat) : Int), 0, (wipeL (keysZ x (prefZ s)) x).2) := by
    unfold wipeZ
    rw [if_neg (by rw [ho]; simp), if_neg (by rw [w1]; simp)]
  rw [hz]
  refine ⟨by simp only [hlen], rfl, w2, ⟨fun r => ?_, h.rise, h.inb⟩, hlen, by rw [← hlen]; exact hff⟩
  simp only
  rw [w4, hk]
  constructor
  · rintro ⟨hr, hn⟩
    obtain ⟨n, hn', rfl | rfl⟩ := h.only r hr
    · exact absurd (List.mem_map.2 ⟨n, hn', rfl⟩) hn
    · exact ⟨n, hn', rfl⟩
  · rintro ⟨n, hn, rfl⟩
    refine ⟨h.two n hn, fun e => ?_⟩
    obtain ⟨m, hm, he⟩ := List.mem_map.1 e
    have := (key_eq (hi.one (h.inb m hm)) (hi.two (h.inb n hn))).1 he
    omega
theorem Left.keys {x : Fld} {K : Nat} {s k : Int} {L : List Int} (hi : InS s k) (h : Left x s k L) (hf : Fine K x) (ho : x.off = false) :
    keysZ x (prefZ s ++ oneZ k) = [] ∧ keysZ x (prefZ (s + 1) ++ oneZ k) = L.map (keyZ (s + 1) k) := by
  have h0 := hi.s0
  have h1 := hi.s1
  have asym : ∀ a b : ByteArray, kLt a b = true → ¬ kLt b a = true := fun a b e => by rw [kLt_asymm e]; simp
  rw [keys_2 ho, keys_2 ho]
  constructor
  · rw [List.filter_eq_nil_iff]
    intro y hy
    obtain ⟨r, hr, rfl⟩ := List.mem_map.1 hy
    obtain ⟨n, hn, rfl⟩ := (h.only r).1 hr
    simp only
    rw [pre_kind (by omega) (by omega) (hi.two (h.inb n hn)), decide_eq_true_eq]
    omega
  · refine unique_by (fun a b => kLt a b = true) asym ((sorted_fst hf.sn).filter _) (rise_keys h.rise fun n hn => hi.two (h.inb n hn)) fun y => ?_
    rw [List.mem_filter, List.mem_map, List.mem_map]
    constructor
    · rintro ⟨⟨r, hr, rfl⟩, hp⟩
      obtain ⟨n, hn, rfl⟩ := (h.only r).1 hr
      exact ⟨n, hn, rfl⟩
    · rintro ⟨n, hn, rfl⟩
      exact ⟨⟨_, (h.only _).2 ⟨n, hn, rfl⟩, rfl⟩, by rw [pre_kind (by omega) (by omega) (hi.two (h.inb n hn))]; simp⟩
theorem Left.get {x : Fld} {K : Nat} {s k n : Int} {L : List Int} (h : Left x s k L) (hf : Fine K x) (ho : x.off = false) (hn : n ∈ L) : getZ x (keyZ (s + 1) k n) = (frameZ k n txtB, 0) := by
  refine get_seen hf ho ?_
  unfold seenL
  rw [find_of_mem hf.sn ((h.only _).2 ⟨n, hn, rfl⟩) rfl]
end Go.Proofs.Ytcicdgajhheipaa
