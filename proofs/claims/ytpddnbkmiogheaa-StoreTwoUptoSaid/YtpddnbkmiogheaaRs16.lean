import Derived.Test.YtpddnbkmiogheaaRs15
set_option linter.unusedVariables false
namespace Go.Proofs.Ytpddnbkmiogheaa
open Go.RowKit Go.WideMaps Go.Maps Go.MapKept
/-- Two pairs side by side. -/
def TwoB (B : Nat) (w : World) (b1 b2 : Nat) (x y : Fld) : Prop := ∃ H1 H2, PairAt w b1 H1 x ∧ PairAt w b2 H2 y ∧ (∀ m ∈ H1, m ∉ H2) ∧ (∀ m ∈ H1, B ≤ m ∧ m < w.heap.size) ∧ (∀ m ∈ H2, B ≤ m ∧ m < w.heap.size)
theorem PairAt.cut {w : World} {b : Nat} {H : List Nat} {x : Fld} (h : PairAt w b H x) : PairAt w b (H.filter fun m => decide (m < w.heap.size)) x := by
  obtain ⟨g, bn, bd, v, h', vd, vw, vv, p, hm⟩ := h
  exact ⟨g, bn, bd, v, h', vd, vw, vv, p, fun m hm' => List.mem_filter.2 ⟨hm m hm', by simpa using p.foot_lt m hm'⟩⟩
theorem TwoB.swap {B b1 b2 : Nat} {w : World} {x y : Fld} (h : TwoB B w b1 b2 x y) : TwoB B w b2 b1 y x := by
  obtain ⟨H1, H2, p, q, d, l1, l2⟩ := h
  exact ⟨H2, H1, q, p, fun m hm e => d m e hm, l2, l1⟩
theorem TwoB.keep {B b1 b2 : Nat} {w w' : World} {x y : Fld} (h : TwoB B w b1 b2 x y) (hb : Below w.heap.size w w') : TwoB B w' b1 b2 x y := by
  obtain ⟨H1, H2, p, q, d, l1, l2⟩ := h
  exact ⟨H1, H2, p.keep hb, q.keep hb, d, fun m hm => ⟨(l1 m hm).1, Nat.lt_of_lt_of_le (l1 m hm).2 hb.size⟩, fun m hm => ⟨(l2 m hm).1, Nat.lt_of_lt_of_le (l2 m hm).2 hb.size⟩⟩
theorem TwoB.next {B b1 b2 : Nat} {w w' : World} {y x' : Fld} {H1 H2 : List Nat} (hB : B ≤ w.heap.size) (n : PairNext w b1 H1 x' w') (q : PairAt w b2 H2 y) (d : ∀ m ∈ H1, m ∉ H2) (l1 : ∀ m ∈ H1, B ≤ m ∧ m < w.heap.size) (l2 : ∀ m ∈ H2, B ≤ m ∧ m < w.heap.size) : TwoB B w' b1 b2 x' y ∧ Below B w w' := by
  have hn := n
  obtain ⟨H', p, t, f⟩ := n
  have hz := t.size
  refine ⟨⟨_, H2, p.cut, q.touch t (fun m hm e => d m e hm), fun m hm e => ?_, fun m hm => ?_, fun m hm => ⟨(l2 m hm).1, by have := (l2 m hm).2; omega⟩⟩, t.toBelow hB (fun m hm => (l1 m hm).1)⟩
  · rcases f m (List.mem_filter.1 hm).1 with h1 | h1
    · exact d m h1 e
    · have := (l2 m e).2; omega
  · obtain ⟨m1, m2⟩ := List.mem_filter.1 hm
    refine ⟨?_, by simpa using m2⟩
    rcases f m m1 with h1 | h1
    · exact (l1 m h1).1
    · omega
theorem step_two {B K b1 b2 : Nat} (hK : K ≤ 2097151) (o : OpZ) (ho : o.Ok) (w : World) (x y : Fld) (hB : B ≤ w.heap.size) (hp : TwoB B w b1 b2 x y) (hf : Fine K x) :
    Calls Try.prog 38 #[.pointer (some ⟨b1, 0, none⟩), opV o] w fun e w' => e = .returned (.bool true) ∧ TwoB B w' b1 b2 (stepZ x o) y ∧ Below B w w' := by
  obtain ⟨H1, H2, p, q, d, l1, l2⟩ := hp
  exact (lstep_calls K hK o ho w b1 H1 x p hf).mono fun e w' ⟨he, hn⟩ => ⟨he, TwoB.next hB hn q d l1 l2⟩
theorem pair_two {B g1 bn1 bd1 h1 g2 bn2 bd2 h2 : Nat} {v1 vd1 vw1 vv1 v2 vd2 vw2 vv2 : Value} {w : World} {x y : Fld} {t : TypeId}
    (q1 : PSF w g1 bn1 bd1 v1 x) (r1 : RSF w h1 vd1 vw1 vv1 x) (q2 : PSF w g2 bn2 bd2 v2 y) (r2 : RSF w h2 vd2 vw2 vv2 y) (n1 n2 n3 : Nat) (hB : B ≤ n1) (h12 : n1 ≤ n2) (h23 : n2 ≤ n3)
    (a1 : ∀ m ∈ foot g1 bn1 bd1 v1, B ≤ m ∧ m < n1) (a2 : ∀ m ∈ foot g2 bn2 bd2 v2, n1 ≤ m ∧ m < n2) (a3 : ∀ m ∈ rfoot h1 vd1 vw1 vv1, n2 ≤ m ∧ m < n3) (a4 : ∀ m ∈ rfoot h2 vd2 vw2 vv2, n3 ≤ m) :
    TwoB B ((w.alloc (.cells #[.pointer (some ⟨g1, 0, none⟩), .pointer (some ⟨h1, 0, none⟩)] t)).alloc (.cells #[.pointer (some ⟨g2, 0, none⟩), .pointer (some ⟨h2, 0, none⟩)] t)) w.heap.size (w.heap.size + 1) x y := by
  have l1 := q1.foot_lt
  have l2 := q2.foot_lt
  have l3 := r1.foot_lt
  have l4 := r2.foot_lt
  obtain ⟨wa, hwa⟩ : ∃ wa, w.alloc (.cells #[.pointer (some ⟨g1, 0, none⟩), .pointer (some ⟨h1, 0, none⟩)] t) = wa := ⟨_, rfl⟩
  have hza : wa.heap.size = w.heap.size + 1 := by rw [← hwa]; simp
  have P1 : PairS wa w.heap.size g1 bn1 bd1 v1 h1 vd1 vw1 vv1 x := by
    rw [← hwa]
    exact ⟨World.cell?_alloc_new w _ _ 0, World.cell?_alloc_new w _ _ 1, fun j => World.frozen?_alloc_new w _ _ j, q1.alloc _, r1.alloc _, fun m hm e => by have := a1 m hm; have := a3 m e; omega, fun e => by have := l1 _ e; omega, fun e => by have := l3 _ e; omega, by simp⟩
  have P2 : PairS (wa.alloc (.cells #[.pointer (some ⟨g2, 0, none⟩), .pointer (some ⟨h2, 0, none⟩)] t)) (w.heap.size + 1) g2 bn2 bd2 v2 h2 vd2 vw2 vv2 y := by
    rw [← hza]
    refine ⟨World.cell?_alloc_new wa _ _ 0, World.cell?_alloc_new wa _ _ 1, fun j => World.frozen?_alloc_new wa _ _ j, ?_, ?_, fun m hm e => by have := a2 m hm; have := a4 m e; omega, fun e => by have := l2 _ e; omega, fun e => by have := l4 _ e; omega, by simp⟩
    · rw [← hwa]; exact (q2.alloc _).alloc _
    · rw [← hwa]; exact (r2.alloc _).alloc _
  rw [hwa]
  refine ⟨_, _, ⟨g1, bn1, bd1, v1, h1, vd1, vw1, vv1, P1.keep ((Below.refl _ _).alloc (Nat.le_refl _) _), fun m hm => hm⟩, ⟨g2, bn2, bd2, v2, h2, vd2, vw2, vv2, P2, fun m hm => hm⟩, fun m hm e => ?_, fun m hm => ⟨?_, ?_⟩, fun m hm => ⟨?_, P2.foot_lt m hm⟩⟩
  · rcases mem_pfoot.1 hm with e1 | e1 | e1 <;> rcases mem_pfoot.1 e with e2 | e2 | e2
    · omega
    · have := l2 _ e2; omega
    · have := l4 _ e2; omega
    · have := l1 _ e1; omega
    · have := a1 _ e1; have := a2 _ e2; omega
    · have := a1 _ e1; have := a4 _ e2; omega
    · have := l3 _ e1; omega
    · have := a3 _ e1; have := a2 _ e2; omega
    · have := a3 _ e1; have := a4 _ e2; omega
  · rcases mem_pfoot.1 hm with e1 | e1 | e1
    · have := l1 g1 (mem_foot.2 (.inl rfl)); have := a1 g1 (mem_foot.2 (.inl rfl)); omega
    · exact (a1 m e1).1
    · have := a3 m e1; omega
  · have := (P1.keep (w' := wa.alloc (.cells #[.pointer (some ⟨g2, 0, none⟩), .pointer (some ⟨h2, 0, none⟩)] t)) ((Below.refl _ _).alloc (Nat.le_refl _) _)).foot_lt m hm; exact this
  · rcases mem_pfoot.1 hm with e1 | e1 | e1
    · have := l1 g1 (mem_foot.2 (.inl rfl)); have := a1 g1 (mem_foot.2 (.inl rfl)); omega
    · have := a2 m e1; omega
    · have := a4 m e1; omega
end Go.Proofs.Ytpddnbkmiogheaa
