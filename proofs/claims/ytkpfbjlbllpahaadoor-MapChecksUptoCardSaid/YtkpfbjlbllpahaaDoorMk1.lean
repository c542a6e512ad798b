import Derived.Test.YtkpfbjlbllpahaaDoorMl2
import Derived.Test.YtkpfbjlbllpahaaDoorHs1
set_option linter.unusedVariables false
namespace Go.Proofs.YtkpfbjlbllpahaaDoor
open Go.RowKit
theorem boxed {w wr : World} {cs : Array Value} {t : TypeId} (h : Below (w.heap.size + 1) (w.alloc (.cells cs t)) wr) : Below w.heap.size w wr ∧ w.heap.size < wr.heap.size ∧ ∀ j u, cs[j]? = some u → wr.cell? ⟨w.heap.size, j, none⟩ = some u := by
  refine ⟨((Below.refl _ w).alloc (Nat.le_refl _) _).trans (h.mono (by omega)), by have := h.size; simp at this; omega, fun j u hu => ?_⟩
  rw [h.cell (p := ⟨w.heap.size, j, none⟩) (by simp), World.cell?_alloc_new]; exact hu
/-- Why a proof cannot be, as far as it says what the map has. -/
def wholeZ (f b : Bool) (o v : ByteArray) : Int := if f && b || !f && !b && !v.toList.isEmpty || !b && !o.toList.isEmpty then 13 else 0
def formedZ (W : Int) (f b : Bool) (o v : ByteArray) : Int := if W < 1 ∨ 32 < W then 10 else wholeZ f b o v
set_option maxRecDepth 100000 in
set_option maxHeartbeats 2000000 in
theorem mformed_calls (W : Int) (f b : Bool) (o v : ByteArray) (F H : Value) (w : World) :
    Calls Tryd.prog 41 #[.agg #[.int .i64 W, .bool f, .bool b, .string o, .string v, F, H]] w fun e w' => e = .returned (.int .i64 (formedZ W f b o v)) ∧ Below w.heap.size w w' := by
  have HB := Lib.hid ((Below.refl w.heap.size w).alloc (Nat.le_refl _) (.cells #[.int .i64 W, .bool f, .bool b, .string o, .string v, F, H] 25))
  have h1 : W < 1 → formedZ W f b o v = 10 := fun h => by unfold formedZ; rw [if_pos (.inl h)]
  have h2 : 32 < W → formedZ W f b o v = 10 := fun h => by unfold formedZ; rw [if_pos (.inr h)]
  have h3 : 1 ≤ W → W ≤ 32 → formedZ W f b o v = wholeZ f b o v := fun h h' => by unfold formedZ; rw [if_neg (by omega)]
  have HZ := Lib.hid (And.intro h1 (And.intro h2 h3))
  clear h1 h2 h3
  by_cases a1 : W < 1
  · go_enter Tryd.func41, Tryd.ntmps41
    go_wp2_with fail
    go_ret
    exact ⟨congrArg (fun z => Ending.returned (.int .i64 z)) (HZ.out.1 a1).symm, HB.out⟩
  · by_cases a2 : 32 < W
    · go_enter Tryd.func41, Tryd.ntmps41
      go_wp2_with fail
      go_ret
      exact ⟨congrArg (fun z => Ending.returned (.int .i64 z)) (HZ.out.2.1 a2).symm, HB.out⟩
    · have hz := HZ.out.2.2 (by omega) (by omega)
      have HW := Lib.hid hz
      clear HZ hz
      cases hv : v.toList.isEmpty <;> cases ho : o.toList.isEmpty <;> cases f <;> cases b
      all_goals
        go_enter Tryd.func41, Tryd.ntmps41
        go_wp2_with fail
        all_goals go_ret
        all_goals exact ⟨congrArg (fun z => Ending.returned (.int .i64 z)) (by rw [HW.out]; simp [wholeZ, hv, ho]), HB.out⟩
set_option maxRecDepth 100000 in
set_option maxHeartbeats 2000000 in
theorem mwhole_calls (W : Int) (f b : Bool) (o v : ByteArray) (F H : Value) (w : World) :
    Calls Tryd.prog 45 #[.agg #[.int .i64 W, .bool f, .bool b, .string o, .string v, F, H]] w fun e w' => e = .returned (.int .i64 (wholeZ f b o v)) ∧ Below w.heap.size w w' := by
  have HB := Lib.hid ((Below.refl w.heap.size w).alloc (Nat.le_refl _) (.cells #[.int .i64 W, .bool f, .bool b, .string o, .string v, F, H] 25))
  cases hv : v.toList.isEmpty <;> cases ho : o.toList.isEmpty <;> cases f <;> cases b
  all_goals
    go_enter Tryd.func45, Tryd.ntmps45
    go_wp2_with fail
    all_goals go_ret
    all_goals exact ⟨congrArg (fun z => Ending.returned (.int .i64 z)) (by simp [wholeZ, hv, ho]), HB.out⟩
end Go.Proofs.YtkpfbjlbllpahaaDoor
