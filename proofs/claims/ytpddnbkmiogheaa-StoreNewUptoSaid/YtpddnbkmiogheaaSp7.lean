import Derived.Test.YtpddnbkmiogheaaSp5
import Derived.Test.YtpddnbkmiogheaaSp4
set_option linter.unusedVariables false
namespace Go.Proofs.Ytpddnbkmiogheaa
/-! Two stores that differ in their age alone: plain. -/
def Fld.aged (x : Fld) (a : Int) : Fld := { x with age := a }
theorem struck_aged (x : Fld) (a : Int) : (x.aged a).struck = x.struck.aged a := by
  unfold Fld.struck Fld.aged
  split <;> rfl
theorem wrote_aged (x : Fld) (a : Int) (p : Wr) (u : Int) : (x.aged a).wrote p u = (x.wrote p u).aged a := by
  unfold Fld.wrote
  exact struck_aged { x with now := doW x.now p, pend := x.pend ++ [p], used := u } a
theorem put_aged (x : Fld) (a : Int) (k d : ByteArray) : putZ (x.aged a) k d = ((putZ x k d).1, (putZ x k d).2.aged a) := by
  unfold putZ
  have e1 : (x.aged a).off = x.off := rfl
  have e2 : thenZ (x.aged a) k d = thenZ x k d := rfl
  have e3 : (x.aged a).room = x.room := rfl
  have e4 : (x.aged a).used = x.used := rfl
  have e5 : endZ (x.aged a) = endZ x := rfl
  rw [e1, e2, e3, e4, e5, wrote_aged]
  split; rfl
  split; rfl
  split; rfl
  split; rfl
  rfl
theorem cut_aged (x : Fld) (a : Int) (k : ByteArray) : cutZ (x.aged a) k = ((cutZ x k).1, (cutZ x k).2.aged a) := by
  unfold cutZ
  have e1 : (x.aged a).off = x.off := rfl
  have e2 : (x.aged a).now = x.now := rfl
  have e4 : (x.aged a).used = x.used := rfl
  have e5 : endZ (x.aged a) = endZ x := rfl
  rw [e1, e2, e4, e5]
  split; rfl
  split; rfl
  cases findL k x.now with
  | none => rfl
  | some r => simp only [wrote_aged]
theorem sync_aged (x : Fld) (a : Int) : syncZ (x.aged a) = ((syncZ x).1, (syncZ x).2.aged a) := by
  unfold syncZ
  have e1 : (x.aged a).off = x.off := rfl
  have e2 : (x.aged a).left = x.left := rfl
  rw [e1, e2, struck_aged]
  split; rfl
  split; rfl
  rfl
theorem arm_aged (x : Fld) (a : Int) (n : Int) : armZ (x.aged a) n = (armZ x n).aged a := by
  unfold armZ
  have e1 : (x.aged a).off = x.off := rfl
  rw [e1]
  split <;> rfl
theorem do_aged (x : Fld) (a : Int) (o : OpZ) : ∃ a', (doZ (x.aged a) o).2 = (doZ x o).2.aged a' ∧ { (doZ (x.aged a) o).1 with g := 0 } = { (doZ x o).1 with g := 0 } := by
  unfold doZ
  by_cases h1 : o.kind = 1
  · rw [if_pos h1, if_pos h1, put_aged]; exact ⟨a, rfl, rfl⟩
  rw [if_neg h1, if_neg h1]
  by_cases h2 : o.kind = 2
  · rw [if_pos h2, if_pos h2, cut_aged]; exact ⟨a, rfl, rfl⟩
  rw [if_neg h2, if_neg h2]
  by_cases h3 : o.kind = 3
  · rw [if_pos h3, if_pos h3, sync_aged]; exact ⟨a, rfl, rfl⟩
  rw [if_neg h3, if_neg h3]
  by_cases h4 : o.kind = 4
  · rw [if_pos h4, if_pos h4, arm_aged]; exact ⟨a, rfl, rfl⟩
  rw [if_neg h4, if_neg h4]
  by_cases h5 : o.kind = 5
  · rw [if_pos h5, if_pos h5]; exact ⟨a + 1, rfl, rfl⟩
  rw [if_neg h5, if_neg h5]
  by_cases h6 : o.kind = 6
  · rw [if_pos h6, if_pos h6]; exact ⟨a, rfl, rfl⟩
  rw [if_neg h6, if_neg h6]
  by_cases h7 : o.kind = 7
  · rw [if_pos h7, if_pos h7]; exact ⟨a, rfl, rfl⟩
  rw [if_neg h7, if_neg h7]
  by_cases h8 : o.kind = 8
  · rw [if_pos h8, if_pos h8]; exact ⟨a, rfl, rfl⟩
  rw [if_neg h8, if_neg h8]
  by_cases h9 : o.kind = 9
  · rw [if_pos h9, if_pos h9]; exact ⟨a, rfl, rfl⟩
  rw [if_neg h9, if_neg h9]
  exact ⟨a, rfl, rfl⟩
theorem crash_empty : ∀ (ps : List Wr) (i : Nat) (l : List Rec), crashL ⟨#[]⟩ ps i l = l
  | [], _, _ => rfl
  | p :: ps, i, l => by
    unfold crashL
    have : survB ⟨#[]⟩ i = false := by unfold survB; simp
    rw [this]
    simp only [Bool.false_eq_true, if_false]
    exact crash_empty ps (i + 1) l
theorem room_do (x : Fld) (o : OpZ) : (doZ x o).2.room = x.room := by
  have hw : ∀ p u, (x.wrote p u).room = x.room := fun p u => by unfold Fld.wrote; rw [(struck_is _).2.2.2.1]
  unfold doZ
  by_cases h1 : o.kind = 1
  · rw [if_pos h1]
    simp only
    unfold putZ
    split; rfl
    split; rfl
    split; rfl
    split; rfl
    exact hw _ _
  rw [if_neg h1]
  by_cases h2 : o.kind = 2
  · rw [if_pos h2]
    simp only
    unfold cutZ
    split; rfl
    split; rfl
    cases findL o.key x.now with
    | none => rfl
    | some r => exact hw _ _
  rw [if_neg h2]
  by_cases h3 : o.kind = 3
  · rw [if_pos h3]
    simp only
    unfold syncZ
    split; rfl
    split; exact (struck_is x).2.2.2.1
    exact (struck_is x).2.2.2.1
  rw [if_neg h3]
  by_cases h4 : o.kind = 4
  · rw [if_pos h4]
    simp only
    unfold armZ
    split <;> rfl
  rw [if_neg h4]
  by_cases h5 : o.kind = 5
  · rw [if_pos h5]; rfl
  rw [if_neg h5]
  by_cases h6 : o.kind = 6
  · rw [if_pos h6]
  rw [if_neg h6]
  by_cases h7 : o.kind = 7
  · rw [if_pos h7]
  rw [if_neg h7]
  by_cases h8 : o.kind = 8
  · rw [if_pos h8]
  rw [if_neg h8]
  by_cases h9 : o.kind = 9
  · rw [if_pos h9]
  rw [if_neg h9]
theorem room_play : ∀ (l : List OpZ) (x : Fld), (l.foldl (fun x o => (doZ x o).2) x).room = x.room
  | [], x => rfl
  | o :: l, x => (room_play l _).trans (room_do x o)
end Go.Proofs.Ytpddnbkmiogheaa
