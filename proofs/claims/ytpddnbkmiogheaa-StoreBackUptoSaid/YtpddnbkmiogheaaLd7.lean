import Derived.Test.YtpddnbkmiogheaaLd6
import Derived.Test.YtpddnbkmiogheaaSp7
set_option linter.unusedVariables false
namespace Go.Proofs.Ytpddnbkmiogheaa
open Go.RowKit Go.WideMaps Go.Maps Go.MapKept
/-- Two stores side by side; the second's blocks lie below U. -/
def Two (B U : Nat) (w : World) (g h : Nat) (x y : Fld) : Prop :=
  ∃ bn bd v cn cd u, PSF w g bn bd v x ∧ PSF w h cn cd u y ∧ (∀ m ∈ foot g bn bd v, B ≤ m) ∧ (∀ m ∈ foot h cn cd u, B ≤ m ∧ m < U) ∧ ∀ m ∈ foot g bn bd v, m ∉ foot h cn cd u
section
variable {B U K g h : Nat} {w0 w : World} {x y : Fld}
theorem Two.keep {w' : World} (ht : Two B U w g h x y) (hb : Below w.heap.size w w') : Two B U w' g h x y := by
  obtain ⟨bn, bd, v, cn, cd, u, p1, p2, q1, q2, q3⟩ := ht
  exact ⟨bn, bd, v, cn, cd, u, p1.keep hb, p2.keep hb, q1, q2, q3⟩
theorem Two.top (ht : Two B U w g h x y) : Two B w.heap.size w g h x y := by
  obtain ⟨bn, bd, v, cn, cd, u, p1, p2, q1, q2, q3⟩ := ht
  exact ⟨bn, bd, v, cn, cd, u, p1, p2, q1, fun m hm => ⟨(q2 m hm).1, p2.foot_lt m hm⟩, q3⟩
theorem do_g (hK : K ≤ 2097151) (o : OpZ) (ho : o.Ok) (hB : B ≤ w0.heap.size) (ht : Two B U w0 g h x y) (hU : U ≤ w0.heap.size) (hb : Below w0.heap.size w0 w) (hf : Fine K x) :
    Calls Try.prog 16 #[.pointer (some ⟨g, 0, none⟩), opV o] w fun e w' => ∃ nv, e = .returned (gotV (doZ x o).1 nv) ∧ Row w' w.heap.size 1 nv (doZ x o).1.names.length (strV (doZ x o).1.names) ∧
      Two B U w' g h (doZ x o).2 y ∧ Below B w w' ∧ ∀ k, w0.heap.size ≤ k → k < w.heap.size → w'.heap[k]? = w.heap[k]? := by
  obtain ⟨bn, bd, v, cn, cd, u, p1, p2, q1, q2, q3⟩ := ht
  have hlt := p1.foot_lt
  have hlt2 := p2.foot_lt
  have hz := hb.size
  refine (ldo_calls K hK o ho w g bn bd v x (p1.keep hb) hf).mono fun e w' ⟨nv, he, hr, hk⟩ => ⟨nv, he, hr, ?_⟩
  have hl := hk.lives q1 (by omega)
  obtain ⟨bn', v', p3, t3, f3⟩ := hk
  refine ⟨⟨bn', bd, v', cn, cd, u, p3, (p2.keep hb).touch t3 (fun k hk hm => q3 k hm hk), fun m hm => ?_, q2, fun m hm hm2 => ?_⟩, hl.2, fun k hk1 hk2 => t3.block k hk2 (fun hm => by have := hlt k hm; omega)⟩
  · rcases f3 m hm with e | e
    · exact q1 m e
    · omega
  · rcases f3 m hm with e | e
    · exact q3 m e hm2
    · have := hlt2 m hm2; omega
theorem do_h (hK : K ≤ 2097151) (o : OpZ) (ho : o.Ok) (hB : B ≤ w0.heap.size) (ht : Two B U w0 g h x y) (hU : U ≤ w0.heap.size) (hb : Below w0.heap.size w0 w) (hf : Fine K y) :
    Calls Try.prog 16 #[.pointer (some ⟨h, 0, none⟩), opV o] w fun e w' => ∃ nv, e = .returned (gotV (doZ y o).1 nv) ∧ Row w' w.heap.size 1 nv (doZ y o).1.names.length (strV (doZ y o).1.names) ∧
      Below B w w' ∧ (∀ k, U ≤ k → k < w.heap.size → w'.heap[k]? = w.heap[k]?) ∧ ∀ (F : List Nat) (w6 : World), (∀ k ∈ F, (w0.heap.size ≤ k ∧ k < w.heap.size) ∨ w'.heap.size ≤ k) → Touch F w' w6 → Two B w6.heap.size w6 g h x (doZ y o).2 := by
  obtain ⟨bn, bd, v, cn, cd, u, p1, p2, q1, q2, q3⟩ := ht
  have hlt := p1.foot_lt
  have hlt2 := p2.foot_lt
  have hz := hb.size
  refine (ldo_calls K hK o ho w h cn cd u y (p2.keep hb) hf).mono fun e w' ⟨nv, he, hr, hk⟩ => ⟨nv, he, hr, ?_⟩
  have hl := hk.lives (fun m hm => (q2 m hm).1) (by omega)
  obtain ⟨cn', u', p3, t3, f3⟩ := hk
  have p4 : PSF w' g bn bd v x := (p1.keep hb).touch t3 (fun k hk hm => q3 k hk hm)
  have hz2 := t3.size
  refine ⟨hl.2, fun k hk1 hk2 => t3.block k hk2 (fun hm => by have := (q2 k hm).2; omega), fun F w6 hF h6 => ?_⟩
  have g1 : ∀ k ∈ foot g bn bd v, k ∉ F := fun k hk hm => by
    have := hlt k hk
    rcases hF k hm with e | e <;> omega
  have g2 : ∀ k ∈ foot h cn' cd u', k ∉ F := fun k hk hm => by
    have h1 := p3.foot_lt k hk
    rcases f3 k hk with e | e
    · have := hlt2 k e
      rcases hF k hm with e2 | e2 <;> omega
    · rcases hF k hm with e2 | e2 <;> omega
  have p5 := p3.touch h6 g2
  refine ⟨bn, bd, v, cn', cd, u', p4.touch h6 g1, p5, q1, fun m hm => ⟨?_, p5.foot_lt m hm⟩, fun m hm hm2 => ?_⟩
  · rcases f3 m hm with e | e
    · exact (q2 m e).1
    · omega
  · rcases f3 m hm2 with e | e
    · exact q3 m hm e
    · have := hlt m hm; omega
theorem image_g (hK : K ≤ 2097152) (ht : Two B U w g h x y) (hf : Fine K x) : Calls Try.prog 22 #[.pointer (some ⟨g, 0, none⟩)] w fun e w' => e = .returned (.string ⟨(imageL x.dur).toArray⟩) ∧ Below w.heap.size w w' := by
  obtain ⟨bn, bd, v, cn, cd, u, p1, p2, q1, q2, q3⟩ := ht
  exact simage_calls K hK w g bn bd v x p1 hf
theorem image_h (hK : K ≤ 2097152) (ht : Two B U w g h x y) (hf : Fine K y) : Calls Try.prog 22 #[.pointer (some ⟨h, 0, none⟩)] w fun e w' => e = .returned (.string ⟨(imageL y.dur).toArray⟩) ∧ Below w.heap.size w w' := by
  obtain ⟨bn, bd, v, cn, cd, u, p1, p2, q1, q2, q3⟩ := ht
  exact simage_calls K hK w h cn cd u y p2 hf
/-- A store beside one that was made behind it: the first one is crashed. -/
theorem open_two (c : Int) (hc : goesB c = true) (im : ByteArray) (hi : im.size ≤ 4398046511104) (l : List Rec) (ho : openL im = some l) (hB : B ≤ w.heap.size) (hl : Lives B w g x) :
    Calls Try.prog 35 #[.string im, .int .i64 c] w fun e w' => ∃ h, e = .returned (.tuple #[.pointer (some ⟨h, 0, none⟩), .int .i64 0]) ∧ Two B w'.heap.size w' g h x (fieldsOf c l) ∧ Below B w w' := by
  obtain ⟨bn, bd, v, hp, hn⟩ := hl
  refine (sopen_yes im hi c hc w).mono fun e w' ⟨hb, hor⟩ => ?_
  rcases hor with ⟨h1, _⟩ | ⟨l', h, cn, cd, h1, he, hp2, hf⟩
  · rw [ho] at h1; cases h1
  · rw [ho] at h1
    injection h1 with h1
    subst h1
    exact ⟨h, he, ⟨bn, bd, v, cn, cd, _, hp.keep hb, hp2, hn, fun m hm => ⟨Nat.le_trans hB (hf m hm), hp2.foot_lt m hm⟩, fun m hm hm2 => by have := hp.foot_lt m hm; have := hf m hm2; omega⟩, hb.mono hB⟩
theorem crash_g (hK : K ≤ 2097151) (keep : ByteArray) (hkeep : keep.size ≤ 4194304) (hB : B ≤ w.heap.size) (ht : Two B U w g h x y) (hf : Fine K x) :
    Calls Try.prog 19 #[.pointer (some ⟨g, 0, none⟩), .string keep] w fun e w' => e = .returned (.tuple #[]) ∧ Two B w'.heap.size w' g h (crashZ x keep) y ∧ Below B w w' := by
  obtain ⟨bn, bd, v, cn, cd, u, p1, p2, q1, q2, q3⟩ := ht
  have hlt2 := p2.foot_lt
  refine (scrash_calls K hK keep hkeep w g bn bd v x p1 hf).mono fun e w' ⟨he, hk⟩ => ⟨he, ?_⟩
  have hl := hk.lives q1 hB
  obtain ⟨bn', v', p3, t3, f3⟩ := hk
  have p4 := p2.touch t3 (fun k hk hm => q3 k hm hk)
  refine ⟨⟨bn', bd, v', cn, cd, u, p3, p4, fun m hm => ?_, fun m hm => ⟨(q2 m hm).1, p4.foot_lt m hm⟩, fun m hm hm2 => ?_⟩, hl.2⟩
  · rcases f3 m hm with e | e
    · exact q1 m e
    · omega
  · rcases f3 m hm with e | e
    · exact q3 m e hm2
    · have := hlt2 m hm2; omega
end
end Go.Proofs.Ytpddnbkmiogheaa
