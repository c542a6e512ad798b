import Derived.Test.YtkpfbjlbllpahaaDoorMl1
import Derived.Deep.QuietTactic
import Derived.RegionTactic
import Derived.Deep.RegionWith
set_option linter.unusedVariables false
namespace Go.Proofs.YtkpfbjlbllpahaaDoor
open Go.RowKit
theorem bcell {W w1 : World} (hb : Below W.heap.size W w1) : (∀ b o, b < W.heap.size → w1.cell? ⟨b, o, none⟩ = W.cell? ⟨b, o, none⟩) ∧ (∀ b o, b < W.heap.size → w1.frozen? ⟨b, o, none⟩ = W.frozen? ⟨b, o, none⟩) :=
  ⟨fun b o h => hb.cell (p := ⟨b, o, none⟩) h, fun b o h => hb.frozen (p := ⟨b, o, none⟩) h⟩
set_option maxRecDepth 100000 in
set_option maxHeartbeats 1000000 in
theorem malike_calls (W1 W2 : Int) (f b : Bool) (o v : ByteArray) (F1 H1 F2 H2 : Value) (w : World) :
    Calls Tryd.prog 33 #[.agg #[.int .i64 W1, .bool f, .bool b, .string o, .string v, F1, H1], .agg #[.int .i64 W2, .bool f, .bool b, .string o, .string v, F2, H2]] w fun e w' => e = .returned (.bool true) ∧ Below w.heap.size w w' := by
  have HB := Lib.hid (((Below.refl w.heap.size w).alloc (Nat.le_refl _) (.cells #[.int .i64 W1, .bool f, .bool b, .string o, .string v, F1, H1] 25)).alloc (by simp) (.cells #[.int .i64 W2, .bool f, .bool b, .string o, .string v, F2, H2] 25))
  go_enter Tryd.func33, Tryd.ntmps33
  go_wp2_with fail
  go_ret
  exact ⟨rfl, HB.out⟩
set_option maxRecDepth 100000 in
set_option maxHeartbeats 1000000 in
theorem msame_calls (W : Int) (f b : Bool) (o v : ByteArray) (fs : List Bool) (hs : List ByteArray) (F1 H1 F2 H2 : Value) (w : World) (hF1 : Held w F1 (bV fs)) (hF2 : Held w F2 (bV fs)) (hH1 : Held w H1 (tV hs)) (hH2 : Held w H2 (tV hs))
    (hfl : fs.length ≤ 1048576) (hhl : hs.length ≤ 1048576) :
    Calls Tryd.prog 18 #[.agg #[.int .i64 W, .bool f, .bool b, .string o, .string v, F1, H1], .agg #[.int .i64 W, .bool f, .bool b, .string o, .string v, F2, H2]] w fun e w' => e = .returned (.bool true) ∧ Below w.heap.size w w' := by
  have cA := fun w => malike_calls W W f b o v F1 H1 F2 H2 w
  have cB := fun w h1 h2 => samebits_calls F1 F2 fs w h1 h2 hfl
  have cT := fun w h1 h2 => sametexts_calls H1 H2 hs w h1 h2 hhl
  have HF1 := Lib.hid hF1
  have HF2 := Lib.hid hF2
  have HH1 := Lib.hid hH1
  have HH2 := Lib.hid hH2
  have CA := Lib.hid cA
  have CB := Lib.hid cB
  have CT := Lib.hid cT
  have HB0 := Lib.hid (((Below.refl w.heap.size w).alloc (Nat.le_refl _) (.cells #[.int .i64 W, .bool f, .bool b, .string o, .string v, F1, H1] 25)).alloc (by simp) (.cells #[.int .i64 W, .bool f, .bool b, .string o, .string v, F2, H2] 25))
  clear cA cB cT hF1 hF2 hH1 hH2
  go_enter Tryd.func18, Tryd.ntmps18
  go_wp2_with fail
  refine (CA.out _).mono ?_
  rintro e w1 ⟨rfl, hb1⟩
  obtain ⟨hc1, _⟩ := bcell hb1
  have hs1 : w.heap.size + 2 ≤ w1.heap.size := by have := hb1.size; simp at this; omega
  have HB1 := Lib.hid (HB0.out.trans (hb1.mono (by simp; omega)))
  have hz1 : w.heap.size < w1.heap.size := by omega
  have hy1 : w.heap.size + 1 < w1.heap.size := by omega
  clear hb1
  go_wp2_with fail
  refine (CB.out _ (HF1.out.keep HB1.out) (HF2.out.keep HB1.out)).mono ?_
  rintro e w2 ⟨rfl, hb2⟩
  obtain ⟨hc2, _⟩ := bcell hb2
  have hs2 : w.heap.size + 2 ≤ w2.heap.size := by have := hb2.size; omega
  have HB2 := Lib.hid (HB1.out.trans (hb2.mono (by omega)))
  have hz2 : w.heap.size < w2.heap.size := by omega
  have hy2 : w.heap.size + 1 < w2.heap.size := by omega
  clear hb2
  go_wp2_with fail
  refine (CT.out _ (HH1.out.keep HB2.out) (HH2.out.keep HB2.out)).mono ?_
  rintro e w3 ⟨rfl, hb3⟩
  obtain ⟨hc3, _⟩ := bcell hb3
  have hs3 : w.heap.size + 2 ≤ w3.heap.size := by have := hb3.size; omega
  have HB3 := Lib.hid (HB2.out.trans (hb3.mono (by omega)))
  have hz3 : w.heap.size < w3.heap.size := by omega
  have hy3 : w.heap.size + 1 < w3.heap.size := by omega
  clear hb3
  go_wp2_with fail
  go_ret
  exact ⟨rfl, HB3.out⟩
end Go.Proofs.YtkpfbjlbllpahaaDoor
