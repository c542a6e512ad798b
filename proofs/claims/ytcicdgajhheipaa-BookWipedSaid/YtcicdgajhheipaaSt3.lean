import Derived.Test.YtcicdgajhheipaaSp2
import Derived.LoopTactic
import Derived.Deep.QuietTactic
import Derived.BigQuiet
import Derived.RegionTactic
import Derived.Deep.RegionWith
import Derived.Deep.RegionLaw
import Derived.WalkLawsBesides
import Derived.WalkSpells
set_option linter.unusedVariables false
namespace Go.Proofs.Ytcicdgajhheipaa
open Go.RowKit Go.WideMaps Go.Maps Go.MapKept
theorem quiet_same {P : Program} {f : FuncId} {args : Array Value} {w : World} {n : Nat} {v : Value} (h : Calls P f args (w.drewN n) fun e w' => e = .returned v ∧ w.drewN n = w') : Calls P f args (w.drewN n) fun e w'' => e = .returned v ∧ ∃ m, w'' = w.drewN m :=
  h.mono fun _ _ ⟨he, hm⟩ => ⟨he, n, hm.symm⟩
theorem sgoes_calls (c : Int) (w : World) : Calls Try.prog 36 #[.int .i64 c] w fun e w' => e = .returned (.bool (goesB c)) ∧ w = w' := by
  by_cases h1 : 0 ≤ c
  · by_cases h2 : c ≤ 1073741824
    · have hz : goesB c = true := decide_eq_true ⟨h1, h2⟩
      rw [hz]
      clear hz
      go_enter Try.func36, Try.ntmps36
      go_wp2
      go_ret
      exact ⟨rfl, rfl⟩
    · have hz : goesB c = false := decide_eq_false (fun h => h2 h.2)
      rw [hz]
      clear hz
      go_enter Try.func36, Try.ntmps36
      go_wp2
      go_ret
      exact ⟨rfl, rfl⟩
  · have hz : goesB c = false := decide_eq_false (fun h => h1 h.1)
    rw [hz]
    clear hz
    go_enter Try.func36, Try.ntmps36
    go_wp2
    go_ret
    exact ⟨rfl, rfl⟩
theorem skeyed_calls (k : ByteArray) (hk : k.size ≤ maxLen) (w : World) : Calls Try.prog 65 #[.string k] w fun e w' => e = .returned (.bool (keyedB k)) ∧ w = w' := by
  unfold maxLen at hk
  by_cases h1 : 1 ≤ k.size
  · by_cases h2 : k.size ≤ 64
    · have hz : keyedB k = true := decide_eq_true ⟨h1, h2⟩
      rw [hz]
      clear hz
      go_enter Try.func65, Try.ntmps65
      go_wp2
      go_ret
      exact ⟨congrArg (fun z => Ending.returned (.bool z)) (decide_eq_true (by omega)), rfl⟩
    · have hz : keyedB k = false := decide_eq_false (fun h => h2 h.2)
      rw [hz]
      clear hz
      go_enter Try.func65, Try.ntmps65
      go_wp2
      go_ret
      exact ⟨congrArg (fun z => Ending.returned (.bool z)) (decide_eq_false (by omega)), rfl⟩
  · have hz : keyedB k = false := decide_eq_false (fun h => h1 h.1)
    rw [hz]
    clear hz
    go_enter Try.func65, Try.ntmps65
    go_wp2
    go_ret
    exact ⟨rfl, rfl⟩
theorem scounts_calls (k d : ByteArray) (hk : k.size ≤ 4194304) (hd : d.size ≤ 4194304) (w : World) : Calls Try.prog 66 #[.string k, .string d] w fun e w' => e = .returned (.int .i64 (costR (k, d) : Nat)) ∧ w = w' := by
  have hz : ((costR (k, d) : Nat) : Int) = (k.size : Int) + d.size + 16 := by simp [costR]
  rw [hz]
  clear hz
  go_enter Try.func66, Try.ntmps66
  go_wp2
  go_ret
  exact ⟨rfl, rfl⟩
theorem sstrikes_calls (w : World) (g bn bd : Nat) (v : Value) (x : Fld) (h : PSF w g bn bd v x) (hl0 : 0 ≤ x.left) (hl1 : x.left ≤ 9223372036854775807) :
    Calls Try.prog 39 #[.pointer (some ⟨g, 0, none⟩)] w fun e w' => e = .returned (.bool (strikesB x.left)) ∧ PSF w' g bn bd v x.struck ∧ Touch [g] w w' ∧ w'.heap.size = w.heap.size := by
  have c5 := h.c5
  have c6 := h.c6
  have f5 := h.fr 5
  have f6 := h.fr 6
  have H := Lib.hid h
  obtain ⟨room, now, dur, pend, used, off, left, age⟩ := x
  simp only at c5 c6 hl0 hl1
  by_cases hz : left = 0
  · have H1 : Hid (PSF w g bn bd v (Fld.struck ⟨room, now, dur, pend, used, off, left, age⟩)) := Lib.hid (by unfold Fld.struck; rw [if_pos hz]; exact H.out)
    have hb : strikesB left = false := decide_eq_false (by omega)
    simp only [hb]
    subst hz
    clear h hb
    go_enter Try.func39, Try.ntmps39
    go_wp2
    go_ret
    exact ⟨rfl, H1.out, Touch.refl _ _, rfl⟩
  · have H1 : Hid (PSF ((w.setCell ⟨g, 6, none⟩ (.int .i64 (left - 1))).setCell ⟨g, 5, none⟩ (.bool (decide (left = 1)))) g bn bd v (Fld.struck ⟨room, now, dur, pend, used, off, left, age⟩)) :=
      Lib.hid (by unfold Fld.struck; rw [if_neg hz]; exact (H.out.setLeft (left - 1)).setOff (decide (left = 1)))
    have ht : Hid (Touch [g] w ((w.setCell ⟨g, 6, none⟩ (.int .i64 (left - 1))).setCell ⟨g, 5, none⟩ (.bool (decide (left = 1))))) := Lib.hid (((Touch.refl _ _).setCell (.inl (by simp)) _).setCell (.inl (by simp)) _)
    have hzb : (left == 0) = false := by rw [beq_eq_false_iff_ne]; exact hz
    by_cases h1 : left = 1
    · have hb : strikesB left = true := decide_eq_true h1
      simp only [hb]
      subst h1
      clear h hb hz
      go_enter Try.func39, Try.ntmps39
      go_wp2
      go_ret
      exact ⟨rfl, H1.out, ht.out, by simp [World.setCell]⟩
    · have hb : strikesB left = false := decide_eq_false h1
      have hd : decide (left = 1) = false := decide_eq_false h1
      rw [hd] at H1 ht
      have hnz : (left - 1 == 0) = false := by rw [beq_eq_false_iff_ne]; omega
      simp only [hb]
      clear h hb hz hd
      go_enter Try.func39, Try.ntmps39
      go_wp2
      go_ret
      exact ⟨rfl, H1.out, ht.out, by simp [World.setCell]⟩
end Go.Proofs.Ytcicdgajhheipaa
