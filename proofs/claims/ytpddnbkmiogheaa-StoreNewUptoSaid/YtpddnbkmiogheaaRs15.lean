import Derived.Test.YtpddnbkmiogheaaRs14
set_option linter.unusedVariables false
namespace Go.Proofs.Ytpddnbkmiogheaa
open Go.RowKit Go.WideMaps Go.Maps Go.MapKept
/-- A pair of the call's own: its blocks are at B or above. -/
def PairB (B : Nat) (w : World) (b : Nat) (x : Fld) : Prop := ∃ H, PairAt w b H x ∧ ∀ m ∈ H, B ≤ m
theorem PairB.keep {B b : Nat} {w w' : World} {x : Fld} (h : PairB B w b x) (hb : Below w.heap.size w w') : PairB B w' b x := by
  obtain ⟨H, p, q⟩ := h
  exact ⟨H, p.keep hb, q⟩
theorem PairNext.toB {B b : Nat} {w w' : World} {x : Fld} {H : List Nat} (h : PairNext w b H x w') (hH : ∀ m ∈ H, B ≤ m) (hB : B ≤ w.heap.size) : PairB B w' b x ∧ Below B w w' := by
  obtain ⟨H', p, t, f⟩ := h
  refine ⟨⟨H', p, fun m hm => ?_⟩, t.toBelow hB hH⟩
  rcases f m hm with e | e
  · exact hH m e
  · omega
theorem pair_new {B g bn bd h : Nat} {v vd vw vv : Value} {w1 w2 : World} {x : Fld} {t : TypeId} (q1 : PSF w1 g bn bd v x) (f1 : ∀ m ∈ foot g bn bd v, B ≤ m) (hb : Below w1.heap.size w1 w2) (q2 : RSF w2 h vd vw vv x) (f2 : ∀ m ∈ rfoot h vd vw vv, w1.heap.size ≤ m) (hB : B ≤ w1.heap.size) :
    PairB B (w2.alloc (.cells #[.pointer (some ⟨g, 0, none⟩), .pointer (some ⟨h, 0, none⟩)] t)) w2.heap.size x := by
  have l1 := q1.foot_lt
  have l2 := q2.foot_lt
  have hz := hb.size
  refine ⟨pfoot w2.heap.size g bn bd v h vd vw vv, ⟨g, bn, bd, v, h, vd, vw, vv, ⟨World.cell?_alloc_new w2 _ _ 0, World.cell?_alloc_new w2 _ _ 1, fun j => World.frozen?_alloc_new w2 _ _ j, (q1.keep hb).alloc _, q2.alloc _, fun m hm e => ?_, fun e => ?_, fun e => ?_, by simp⟩, fun m hm => hm⟩, fun m hm => ?_⟩
  · have := l1 m hm; have := f2 m e; omega
  · have := l1 _ e; omega
  · have := l2 _ e; omega
  · rcases mem_pfoot.1 hm with e | e | e
    · omega
    · exact f1 m e
    · have := f2 m e; omega
theorem step_pairB {B K : Nat} (hK : K ≤ 2097151) (o : OpZ) (ho : o.Ok) (w : World) (b : Nat) (x : Fld) (hB : B ≤ w.heap.size) (hp : PairB B w b x) (hf : Fine K x) :
    Calls Try.prog 38 #[.pointer (some ⟨b, 0, none⟩), opV o] w fun e w' => e = .returned (.bool true) ∧ PairB B w' b (stepZ x o) ∧ Below B w w' := by
  obtain ⟨H, p, q⟩ := hp
  exact (lstep_calls K hK o ho w b H x p hf).mono fun e w' ⟨he, hn⟩ => ⟨he, hn.toB q hB⟩
theorem seqB_refl (a : ByteArray) : (a.toList == a.toList) = true := by simp
end Go.Proofs.Ytpddnbkmiogheaa
