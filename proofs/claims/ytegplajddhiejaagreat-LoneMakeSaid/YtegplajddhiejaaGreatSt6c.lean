import Derived.Test.YtegplajddhiejaaGreatMgLoneMake7
set_option linter.unusedVariables false
namespace Go.Proofs.YtegplajddhiejaaGreat
open Go.RowKit Go.WideMaps Go.Maps Go.MapKept
theorem sused_calls (w : World) (g bn bd : Nat) (v : Value) (x : Fld) (h : PSF w g bn bd v x) : Calls Tryz.prog 11 #[.pointer (some ⟨g, 0, none⟩)] w fun e w' => e = .returned (.int .i64 x.used) ∧ w = w' := by
  have c4 := h.c4
  clear h
  go_enter Tryz.func11, Tryz.ntmps11
  go_wp2
  go_ret
  exact ⟨rfl, rfl⟩
theorem sarm_calls (n : Int) (w : World) (g bn bd : Nat) (v : Value) (x : Fld) (h : PSF w g bn bd v x) : Calls Tryz.prog 6 #[.pointer (some ⟨g, 0, none⟩), .int .i64 n] w fun e w' => e = .returned (.tuple #[]) ∧ Kept w g bn bd v (armZ x n) w' := by
  have c5 := h.c5
  have c6 := h.c6
  have f6 := h.fr 6
  have H := Lib.hid h
  by_cases ho : x.off = true
  · have hz : armZ x n = x := by unfold armZ; rw [if_pos ho]
    rw [hz]
    rw [ho] at c5
    clear h ho hz
    go_enter Tryz.func6, Tryz.ntmps6
    go_wp2
    go_end0
    exact ⟨rfl, Kept.same H.out⟩
  · have ho' : x.off = false := by simpa using ho
    have hz : armZ x n = { x with left := if n < 0 then 0 else n } := by unfold armZ; rw [if_neg ho]
    rw [hz]
    rw [ho'] at c5
    have HT := Lib.hid (fun u => (Touch.refl (foot g bn bd v) w).setCell (p := ⟨g, 6, none⟩) (.inl (mem_foot.2 (.inl rfl))) u)
    clear h ho ho' hz
    by_cases hn : n < 0
    · rw [if_pos hn]
      go_enter Tryz.func6, Tryz.ntmps6
      go_wp2
      go_end0
      exact ⟨rfl, bn, v, H.out.setLeft 0, HT.out _, fun m hm => .inl hm⟩
    · rw [if_neg hn]
      go_enter Tryz.func6, Tryz.ntmps6
      go_wp2
      go_end0
      exact ⟨rfl, bn, v, H.out.setLeft n, HT.out _, fun m hm => .inl hm⟩
end Go.Proofs.YtegplajddhiejaaGreat
