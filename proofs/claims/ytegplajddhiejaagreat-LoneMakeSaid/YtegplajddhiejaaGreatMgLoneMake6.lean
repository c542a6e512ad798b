import Derived.Test.YtegplajddhiejaaGreatSt2
import Derived.LoopTactic
import Derived.Deep.QuietTactic
import Derived.BigQuiet
import Derived.RegionTactic
import Derived.Deep.RegionWith
import Derived.Deep.RegionLaw
import Derived.WalkLawsBesides
import Derived.WalkSpells
set_option linter.unusedVariables false
namespace Go.Proofs.YtegplajddhiejaaGreat
/-! What the calls of a store do to its fields: plain. -/
def goesB (c : Int) : Bool := decide (0 ≤ c ∧ c ≤ 1073741824)
def keyedB (k : ByteArray) : Bool := decide (1 ≤ k.size ∧ k.size ≤ 64)
/-- Does the power go at this call? -/
def strikesB (l : Int) : Bool := decide (l = 1)
def Fld.struck (x : Fld) : Fld := if x.left = 0 then x else { x with left := x.left - 1, off := decide (x.left = 1) }
def Fit (r : Rec) : Prop := 1 ≤ r.1.size ∧ r.1.size ≤ 64 ∧ r.2.size ≤ 1048576
/-- What holds of a store's fields between its calls; K bounds how many calls there were. -/
structure Fine (K : Nat) (x : Fld) : Prop where
  fd : ∀ r ∈ x.dur, Fit r
  fp : ∀ p ∈ x.pend, 1 ≤ p.key.size ∧ p.key.size ≤ 64 ∧ p.data.size ≤ 1048576
  sd : Sorted x.dur
  len : x.dur.length + x.pend.length ≤ K
  now : x.now = x.pend.foldl doW x.dur
  used : x.used = (costL x.now : Nat)
  room : 0 ≤ x.room ∧ x.room ≤ 1073741824
  left : 0 ≤ x.left ∧ x.left ≤ 9223372036854775807
  age : 0 ≤ x.age ∧ x.age ≤ K
theorem fit_do {l : List Rec} {p : Wr} (h : ∀ r ∈ l, Fit r) (hp : 1 ≤ p.key.size ∧ p.key.size ≤ 64 ∧ p.data.size ≤ 1048576) : ∀ r ∈ doW l p, Fit r := by
  intro r hr
  unfold doW at hr
  split at hr
  · exact h r (mem_cut.1 hr).1
  · rcases mem_ins.1 hr with rfl | hr
    · exact hp
    · exact h r (mem_cut.1 hr).1
theorem fold_fit : ∀ (ps : List Wr) {l : List Rec}, (∀ r ∈ l, Fit r) → (∀ p ∈ ps, 1 ≤ p.key.size ∧ p.key.size ≤ 64 ∧ p.data.size ≤ 1048576) → ∀ r ∈ ps.foldl doW l, Fit r
  | [], _, h, _ => h
  | p :: ps, l, h, hp => fold_fit ps (fit_do h (hp p (by simp))) (fun q hq => hp q (by simp [hq]))
theorem fold_sorted : ∀ (ps : List Wr) {l : List Rec}, Sorted l → Sorted (ps.foldl doW l)
  | [], _, h => h
  | p :: ps, l, h => fold_sorted ps (sorted_do h)
theorem fold_len : ∀ (ps : List Wr) (l : List Rec), (ps.foldl doW l).length ≤ l.length + ps.length
  | [], _ => by simp
  | p :: ps, l => by
    have h1 := fold_len ps (doW l p)
    have h2 := len_do p l
    simp only [List.foldl_cons, List.length_cons]; omega
section
variable {K : Nat} {x : Fld} (h : Fine K x)
theorem Fine.fn (h : Fine K x) : ∀ r ∈ x.now, Fit r := by rw [h.now]; exact fold_fit _ h.fd h.fp
theorem Fine.sn (h : Fine K x) : Sorted x.now := by rw [h.now]; exact fold_sorted _ h.sd
theorem Fine.ln (h : Fine K x) : x.now.length ≤ K := by rw [h.now]; exact Nat.le_trans (fold_len _ _) h.len
theorem cost_le : ∀ {l : List Rec}, (∀ r ∈ l, Fit r) → costL l ≤ l.length * 1048656
  | [], _ => by simp [costL]
  | r :: l, h => by
    have h1 := cost_le (l := l) (fun r hr => h r (by simp [hr]))
    have h2 := h r (by simp)
    unfold Fit at h2
    rw [cost_cons]
    unfold costR
    simp only [List.length_cons]
    omega
theorem Fine.used_le (h : Fine K x) : 0 ≤ x.used ∧ x.used ≤ K * 1048656 := by
  have h1 := cost_le h.fn
  have h2 := h.ln
  have h3 : x.now.length * 1048656 ≤ K * 1048656 := Nat.mul_le_mul_right _ h2
  rw [h.used]; omega
theorem Fine.mono {K' : Nat} (h : Fine K x) (hK : K ≤ K') : Fine K' x :=
  ⟨h.fd, h.fp, h.sd, Nat.le_trans h.len hK, h.now, h.used, h.room, h.left, ⟨h.age.1, by have := h.age.2; omega⟩⟩
theorem Fine.struck (h : Fine K x) : Fine K x.struck := by
  unfold Fld.struck
  split
  · exact h
  · rename_i hz
    exact ⟨h.fd, h.fp, h.sd, h.len, h.now, h.used, h.room, ⟨by have := h.left.1; show 0 ≤ x.left - 1; omega, by have := h.left.2; show x.left - 1 ≤ _; omega⟩, h.age⟩
end
/-- What a Put costs more, or gives back. -/
def oldC (k : ByteArray) (l : List Rec) : Nat := match findL k l with | some r => costR r | none => 0
def thenZ (x : Fld) (k d : ByteArray) : Int := x.used + (costR (k, d) : Nat) - (oldC k x.now : Nat)
def Fld.wrote (x : Fld) (p : Wr) (u : Int) : Fld := { x with now := doW x.now p, pend := x.pend ++ [p], used := u }.struck
def endZ (x : Fld) : Int := if strikesB x.left then 124 else 0
def putZ (x : Fld) (k d : ByteArray) : Int × Fld :=
  if x.off then (124, x) else if keyedB k = false then (120, x) else if 1048576 < d.size then (121, x)
  else if x.room < thenZ x k d ∧ x.used < thenZ x k d then (122, x) else (endZ x, x.wrote ⟨k, d, false⟩ (thenZ x k d))
def cutZ (x : Fld) (k : ByteArray) : Int × Fld :=
  if x.off then (124, x) else if keyedB k = false then (120, x)
  else match findL k x.now with
    | none => (123, x)
    | some r => (endZ x, x.wrote ⟨k, ⟨#[]⟩, true⟩ (x.used - (costR r : Nat)))
def getZ (x : Fld) (k : ByteArray) : ByteArray × Int :=
  if x.off then (⟨#[]⟩, 124) else if keyedB k = false then (⟨#[]⟩, 120) else match findL k x.now with | none => (⟨#[]⟩, 123) | some r => (r.2, 0)
def syncZ (x : Fld) : Int × Fld :=
  if x.off then (124, x) else if strikesB x.left then (124, x.struck) else (0, { x.struck with dur := x.pend.foldl doW x.dur, pend := [] })
def armZ (x : Fld) (n : Int) : Fld := if x.off then x else { x with left := if n < 0 then 0 else n }
/-- Which pending writes survive: the byte of keep at their number is odd. -/
def survB (keep : ByteArray) (i : Nat) : Bool := match keep.data.toList[i % keep.size]? with | some c => decide (c.toNat % 2 = 1) | none => false
def crashL (keep : ByteArray) : List Wr → Nat → List Rec → List Rec
  | [], _, l => l
  | p :: ps, i, l => crashL keep ps (i + 1) (if survB keep i then doW l p else l)
def crashZ (x : Fld) (keep : ByteArray) : Fld :=
  { x with dur := crashL keep x.pend 0 x.dur, now := crashL keep x.pend 0 x.dur, pend := [], used := (costL (crashL keep x.pend 0 x.dur) : Nat), off := false, left := 0, age := x.age + 1 }
def isPre (p s : ByteArray) : Bool := decide (p.data.toList <+: s.data.toList)
def keysZ (x : Fld) (p : ByteArray) : List ByteArray := if x.off then [] else (x.now.map (·.1)).filter (isPre p)
def newF (c : Int) : Fld := ⟨c, [], [], [], 0, false, 0, 0⟩
theorem newF_fine {c : Int} (h : goesB c = true) : Fine 0 (newF c) := by
  have h1 : 0 ≤ c ∧ c ≤ 1073741824 := of_decide_eq_true h
  exact ⟨fun r hr => (by cases hr), fun r hr => (by cases hr), List.Pairwise.nil, Nat.le_refl _, rfl, rfl, h1, ⟨by simp [newF], by simp [newF]⟩, ⟨by simp [newF], by simp [newF]⟩⟩
theorem wrote_fine {K : Nat} {x : Fld} (h : Fine K x) (p : Wr) (hp : 1 ≤ p.key.size ∧ p.key.size ≤ 64 ∧ p.data.size ≤ 1048576) (u : Int) (hu : u = (costL (doW x.now p) : Nat)) : Fine (K + 1) (x.wrote p u) := by
  unfold Fld.wrote
  refine Fine.struck ⟨h.fd, fun q hq => ?_, h.sd, ?_, ?_, hu, h.room, h.left, ⟨h.age.1, by have := h.age.2; show x.age ≤ _; omega⟩⟩
  · rcases List.mem_append.1 hq with hq | hq
    · exact h.fp q hq
    · simp at hq; subst hq; exact hp
  · have := h.len; simp only [List.length_append, List.length_cons, List.length_nil]; omega
  · simp only [List.foldl_append, List.foldl_cons, List.foldl_nil, h.now]
theorem put_fine {K : Nat} {x : Fld} (h : Fine K x) (k d : ByteArray) : Fine (K + 1) (putZ x k d).2 := by
  unfold putZ
  split
  · exact h.mono (by omega)
  · split
    · exact h.mono (by omega)
    · rename_i hk
      have hk' : keyedB k = true := by simpa using hk
      have hk2 := of_decide_eq_true hk'
      split
      · exact h.mono (by omega)
      · rename_i hd
        split
        · exact h.mono (by omega)
        · refine wrote_fine h _ ⟨hk2.1, hk2.2, by show d.size ≤ _; omega⟩ _ ?_
          have hc := cost_put (k := k) (d := d) h.sn
          unfold thenZ oldC
          rw [h.used]
          show _ = ((costL (putL k d x.now) : Nat) : Int)
          cases hf : findL k x.now with
          | none => rw [hf] at hc; simp only at hc ⊢; omega
          | some r => rw [hf] at hc; simp only at hc ⊢; omega
theorem cut_fine {K : Nat} {x : Fld} (h : Fine K x) (k : ByteArray) : Fine (K + 1) (cutZ x k).2 := by
  unfold cutZ
  split
  · exact h.mono (by omega)
  · split
    · exact h.mono (by omega)
    · rename_i hk
      have hk' : keyedB k = true := by simpa using hk
      have hk2 := of_decide_eq_true hk'
      have hc := cost_cut (k := k) h.sn
      split
      · exact h.mono (by omega)
      · rename_i r hf
        rw [hf] at hc
        refine wrote_fine h _ ⟨hk2.1, hk2.2, Nat.zero_le _⟩ _ ?_
        rw [h.used]
        show _ = ((costL (cutL k x.now) : Nat) : Int)
        simp only at hc; omega
theorem sync_fine {K : Nat} {x : Fld} (h : Fine K x) : Fine (K + 1) (syncZ x).2 := by
  unfold syncZ
  split
  · exact h.mono (by omega)
  · split
    · exact h.struck.mono (by omega)
    · have hs := h.struck
      have e1 : x.struck.pend = x.pend := by unfold Fld.struck; split <;> rfl
      have e2 : x.struck.dur = x.dur := by unfold Fld.struck; split <;> rfl
      have e3 : x.struck.now = x.now := by unfold Fld.struck; split <;> rfl
      refine ⟨fold_fit _ h.fd h.fp, fun p hp => (by cases hp), fold_sorted _ h.sd, ?_, ?_, hs.used, hs.room, hs.left, ⟨hs.age.1, by have := hs.age.2; show x.struck.age ≤ _; omega⟩⟩
      · have h1 := fold_len x.pend x.dur
        have h2 := h.len
        show (x.pend.foldl doW x.dur).length + 0 ≤ K + 1
        omega
      · show x.struck.now = x.pend.foldl doW x.dur
        rw [e3, h.now]
theorem arm_fine {K : Nat} {x : Fld} (h : Fine K x) (n : Int) (hn : n ≤ 9223372036854775807) : Fine (K + 1) (armZ x n) := by
  unfold armZ
  split
  · exact h.mono (by omega)
  · refine ⟨h.fd, h.fp, h.sd, Nat.le_succ_of_le h.len, h.now, h.used, h.room, ?_, ⟨h.age.1, by have := h.age.2; show x.age ≤ _; omega⟩⟩
    show 0 ≤ (if n < 0 then 0 else n) ∧ (if n < 0 then 0 else n) ≤ _
    split <;> omega
theorem crash_fit (keep : ByteArray) : ∀ (ps : List Wr) (i : Nat) {l : List Rec}, (∀ r ∈ l, Fit r) → (∀ p ∈ ps, 1 ≤ p.key.size ∧ p.key.size ≤ 64 ∧ p.data.size ≤ 1048576) → ∀ r ∈ crashL keep ps i l, Fit r
  | [], _, _, h, _ => h
  | p :: ps, i, l, h, hp => by
    unfold crashL
    refine crash_fit keep ps (i + 1) ?_ (fun q hq => hp q (by simp [hq]))
    split
    · exact fit_do h (hp p (by simp))
    · exact h
theorem crash_sorted (keep : ByteArray) : ∀ (ps : List Wr) (i : Nat) {l : List Rec}, Sorted l → Sorted (crashL keep ps i l)
  | [], _, _, h => h
  | p :: ps, i, l, h => by
    unfold crashL
    refine crash_sorted keep ps (i + 1) ?_
    split
    · exact sorted_do h
    · exact h
theorem crash_len (keep : ByteArray) : ∀ (ps : List Wr) (i : Nat) (l : List Rec), (crashL keep ps i l).length ≤ l.length + ps.length
  | [], _, _ => by simp [crashL]
  | p :: ps, i, l => by
    unfold crashL
    have h1 := crash_len keep ps (i + 1) (if survB keep i then doW l p else l)
    have h2 := len_do p l
    have h3 : (if survB keep i then doW l p else l).length ≤ l.length + 1 := by split <;> omega
    simp only [List.length_cons]; omega
theorem crash_fine {K : Nat} {x : Fld} (h : Fine K x) (keep : ByteArray) : Fine (K + 1) (crashZ x keep) := by
  have h1 := crash_len keep x.pend 0 x.dur
  have h2 := h.len
  exact ⟨crash_fit keep _ _ h.fd h.fp, fun p hp => (by cases hp), crash_sorted keep _ _ h.sd, by show (crashL keep x.pend 0 x.dur).length + 0 ≤ K + 1; omega, rfl, rfl, h.room,
    ⟨by simp [crashZ], by simp [crashZ]⟩, ⟨by have := h.age.1; show 0 ≤ x.age + 1; omega, by have := h.age.2; show x.age + 1 ≤ _; omega⟩⟩
end Go.Proofs.YtegplajddhiejaaGreat

set_option linter.unusedVariables false
namespace Go.Proofs.YtegplajddhiejaaGreat
open Go.RowKit Go.WideMaps Go.Maps Go.MapKept
theorem quiet_same {P : Program} {f : FuncId} {args : Array Value} {w : World} {n : Nat} {v : Value} (h : Calls P f args (w.drewN n) fun e w' => e = .returned v ∧ w.drewN n = w') : Calls P f args (w.drewN n) fun e w'' => e = .returned v ∧ ∃ m, w'' = w.drewN m :=
  h.mono fun _ _ ⟨he, hm⟩ => ⟨he, n, hm.symm⟩
theorem sgoes_calls (c : Int) (w : World) : Calls Tryz.prog 12 #[.int .i64 c] w fun e w' => e = .returned (.bool (goesB c)) ∧ w = w' := by
  by_cases h1 : 0 ≤ c
  · by_cases h2 : c ≤ 1073741824
    · have hz : goesB c = true := decide_eq_true ⟨h1, h2⟩
      rw [hz]
      clear hz
      go_enter Tryz.func12, Tryz.ntmps12
      go_wp2
      go_ret
      exact ⟨rfl, rfl⟩
    · have hz : goesB c = false := decide_eq_false (fun h => h2 h.2)
      rw [hz]
      clear hz
      go_enter Tryz.func12, Tryz.ntmps12
      go_wp2
      go_ret
      exact ⟨rfl, rfl⟩
  · have hz : goesB c = false := decide_eq_false (fun h => h1 h.1)
    rw [hz]
    clear hz
    go_enter Tryz.func12, Tryz.ntmps12
    go_wp2
    go_ret
    exact ⟨rfl, rfl⟩
theorem skeyed_calls (k : ByteArray) (hk : k.size ≤ maxLen) (w : World) : Calls Tryz.prog 53 #[.string k] w fun e w' => e = .returned (.bool (keyedB k)) ∧ w = w' := by
  unfold maxLen at hk
  by_cases h1 : 1 ≤ k.size
  · by_cases h2 : k.size ≤ 64
    · have hz : keyedB k = true := decide_eq_true ⟨h1, h2⟩
      rw [hz]
      clear hz
      go_enter Tryz.func53, Tryz.ntmps53
      go_wp2
      go_ret
      exact ⟨congrArg (fun z => Ending.returned (.bool z)) (decide_eq_true (by omega)), rfl⟩
    · have hz : keyedB k = false := decide_eq_false (fun h => h2 h.2)
      rw [hz]
      clear hz
      go_enter Tryz.func53, Tryz.ntmps53
      go_wp2
      go_ret
      exact ⟨congrArg (fun z => Ending.returned (.bool z)) (decide_eq_false (by omega)), rfl⟩
  · have hz : keyedB k = false := decide_eq_false (fun h => h1 h.1)
    rw [hz]
    clear hz
    go_enter Tryz.func53, Tryz.ntmps53
    go_wp2
    go_ret
    exact ⟨rfl, rfl⟩
theorem scounts_calls (k d : ByteArray) (hk : k.size ≤ 4194304) (hd : d.size ≤ 4194304) (w : World) : Calls Tryz.prog 54 #[.string k, .string d] w fun e w' => e = .returned (.int .i64 (costR (k, d) : Nat)) ∧ w = w' := by
  have hz : ((costR (k, d) : Nat) : Int) = (k.size : Int) + d.size + 16 := by simp [costR]
  rw [hz]
  clear hz
  go_enter Tryz.func54, Tryz.ntmps54
  go_wp2
  go_ret
  exact ⟨rfl, rfl⟩
theorem sstrikes_calls (w : World) (g bn bd : Nat) (v : Value) (x : Fld) (h : PSF w g bn bd v x) (hl0 : 0 ≤ x.left) (hl1 : x.left ≤ 9223372036854775807) :
    Calls Tryz.prog 14 #[.pointer (some ⟨g, 0, none⟩)] w fun e w' => e = .returned (.bool (strikesB x.left)) ∧ PSF w' g bn bd v x.struck ∧ Touch [g] w w' ∧ w'.heap.size = w.heap.size := by
  have c5 := h.c5
  have c6 := h.c6
  have f5 := h.fr 5
  have f6 := h.fr 6
  have H := Lib.hid h
  obtain ⟨room, now, dur, pend, used, off, left, age⟩ := x
  simp only at c5 c6 hl0 hl1
  by_cases hz : left = 0
  · have H1 : Hid (PSF w g bn bd v (Fld.struck ⟨room, now, dur, pend, used, off, left, age⟩)) := Lib.hid (by unfold Fld.struck; rw [if_pos hz]; exact H.out)
    have hb : strikesB left = false := decide_eq_false (by omega)
    simp only [hb]
    subst hz
    clear h hb
    go_enter Tryz.func14, Tryz.ntmps14
    go_wp2
    go_ret
    exact ⟨rfl, H1.out, Touch.refl _ _, rfl⟩
  · have H1 : Hid (PSF ((w.setCell ⟨g, 6, none⟩ (.int .i64 (left - 1))).setCell ⟨g, 5, none⟩ (.bool (decide (left = 1)))) g bn bd v (Fld.struck ⟨room, now, dur, pend, used, off, left, age⟩)) :=
      Lib.hid (by unfold Fld.struck; rw [if_neg hz]; exact (H.out.setLeft (left - 1)).setOff (decide (left = 1)))
    have ht : Hid (Touch [g] w ((w.setCell ⟨g, 6, none⟩ (.int .i64 (left - 1))).setCell ⟨g, 5, none⟩ (.bool (decide (left = 1))))) := Lib.hid (((Touch.refl _ _).setCell (.inl (by simp)) _).setCell (.inl (by simp)) _)
    have hzb : (left == 0) = false := by rw [beq_eq_false_iff_ne]; exact hz
    by_cases h1 : left = 1
    · have hb : strikesB left = true := decide_eq_true h1
      simp only [hb]
      subst h1
      clear h hb hz
      go_enter Tryz.func14, Tryz.ntmps14
      go_wp2
      go_ret
      exact ⟨rfl, H1.out, ht.out, by simp [World.setCell]⟩
    · have hb : strikesB left = false := decide_eq_false h1
      have hd : decide (left = 1) = false := decide_eq_false h1
      rw [hd] at H1 ht
      have hnz : (left - 1 == 0) = false := by rw [beq_eq_false_iff_ne]; omega
      simp only [hb]
      clear h hb hz hd
      go_enter Tryz.func14, Tryz.ntmps14
      go_wp2
      go_ret
      exact ⟨rfl, H1.out, ht.out, by simp [World.setCell]⟩
end Go.Proofs.YtegplajddhiejaaGreat
