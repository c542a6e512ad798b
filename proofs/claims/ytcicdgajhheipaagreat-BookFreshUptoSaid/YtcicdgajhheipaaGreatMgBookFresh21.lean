import Derived.Test.YtcicdgajhheipaaGreatRg8
import Derived.Test.YtcicdgajhheipaaGreatMgBookFresh11
set_option linter.unusedVariables false
set_option linter.unusedSimpArgs false
namespace Go.Proofs.YtcicdgajhheipaaGreat
open Go.RowKit Go.WideMaps Go.Maps Go.MapKept
/-- A script that came in. -/
structure StepsIn (B : Nat) (w : World) (v : Value) (l : List StepZ) : Prop where
  form : ∃ a c, v = .slice a l.length c
  ok : ∀ o ∈ l, o.Ok
  cells : ∀ i (h : i < l.length), ∃ g off c, v = .slice (some ⟨g, off, none⟩) l.length c ∧ g < B ∧ w.cell? ⟨g, off + i * 7, none⟩ = some (.int .i64 l[i].what) ∧ w.cell? ⟨g, off + i * 7 + 1, none⟩ = some (.int .i64 l[i].sp) ∧
    w.cell? ⟨g, off + i * 7 + 2, none⟩ = some (.int .i64 l[i].kd) ∧ w.cell? ⟨g, off + i * 7 + 3, none⟩ = some (.int .i64 l[i].nm) ∧ w.cell? ⟨g, off + i * 7 + 4, none⟩ = some (.int .i64 l[i].n) ∧
    w.cell? ⟨g, off + i * 7 + 5, none⟩ = some (.string l[i].key) ∧ w.cell? ⟨g, off + i * 7 + 6, none⟩ = some (.string l[i].text)
theorem StepsIn.below {B : Nat} {w w' : World} {v : Value} {l : List StepZ} (h : StepsIn B w v l) (hb : Below B w w') : StepsIn B w' v l := by
  refine ⟨h.form, h.ok, fun i hi => ?_⟩
  obtain ⟨g, off, c, hv, hg, c0, c1, c2, c3, c4, c5, c6⟩ := h.cells i hi
  have k : ∀ j, w'.cell? ⟨g, j, none⟩ = w.cell? ⟨g, j, none⟩ := fun j => hb.cell (p := ⟨g, j, none⟩) hg
  exact ⟨g, off, c, hv, hg, (k _).trans c0, (k _).trans c1, (k _).trans c2, (k _).trans c3, (k _).trans c4, (k _).trans c5, (k _).trans c6⟩
theorem two_new {B g bn bd : Nat} {v : Value} {w1 w2 : World} {x y : Fld} (p : PSF w1 g bn bd v x) (f : ∀ m ∈ foot g bn bd v, B ≤ m) (hb : Below w1.heap.size w1 w2) (r : RSF w2 w1.heap.size (.slice none 0 0) (.slice none 0 0) (.slice none 0 0) y) (hB : B ≤ w1.heap.size) :
    TwoG B w2 g w1.heap.size x y := by
  have e : ∀ m ∈ rfoot w1.heap.size (.slice none 0 0) (.slice none 0 0) (.slice none 0 0), m = w1.heap.size := by
    intro m hm
    rcases mem_rfoot.1 hm with e | e | e | e
    · exact e
    · cases e
    · cases e
    · cases e
  exact ⟨bn, bd, v, _, _, _, p.keep hb, r, fun m hm => ⟨f m hm, fun h2 => by have := p.foot_lt m hm; have := e m h2; omega⟩, fun m hm => by have := e m hm; omega⟩
section
variable {B : Nat} {w w' : World} {g h : Nat} {x y : Fld}
theorem TwoG.drewN (t : TwoG B w g h x y) (n : Nat) : TwoG B (w.drewN n) g h x y := by
  obtain ⟨bn, bd, v, vd, vw, vv, p, r, f1, f2⟩ := t
  exact ⟨bn, bd, v, vd, vw, vv, p.drewN n, r.drewN n, f1, f2⟩
theorem g_used (t : TwoG B w g h x y) : Calls Tryz.prog 17 #[.pointer (some ⟨g, 0, none⟩)] w fun e w' => e = .returned (.int .i64 x.used) ∧ w = w' := by
  obtain ⟨bn, bd, v, vd, vw, vv, p, r, f1, f2⟩ := t
  exact sused_calls w g bn bd v x p
theorem g_rused {K : Nat} (hK : K ≤ 2097152) (hf : Fine K y) (t : TwoG B w g h x y) : Calls Tryz.prog 18 #[.pointer (some ⟨h, 0, none⟩)] w fun e w' => e = .returned (.int .i64 y.used) ∧ ∃ n, w.drewN n = w' := by
  obtain ⟨bn, bd, v, vd, vw, vv, p, r, f1, f2⟩ := t
  exact rused_calls K hK w h vd vw vv y r hf
theorem g_pend (t : TwoG B w g h x y) : Calls Tryz.prog 19 #[.pointer (some ⟨g, 0, none⟩)] w fun e w' => e = .returned (.int .i64 x.pend.length) ∧ w = w' := by
  obtain ⟨bn, bd, v, vd, vw, vv, p, r, f1, f2⟩ := t
  exact spending_calls w g bn bd v x p
theorem g_rpend (t : TwoG B w g h x y) : Calls Tryz.prog 20 #[.pointer (some ⟨h, 0, none⟩)] w fun e w' => e = .returned (.int .i64 y.pend.length) ∧ w = w' := by
  obtain ⟨bn, bd, v, vd, vw, vv, p, r, f1, f2⟩ := t
  exact rpending_calls w h vd vw vv y r
theorem g_down (t : TwoG B w g h x y) : Calls Tryz.prog 21 #[.pointer (some ⟨g, 0, none⟩)] w fun e w' => e = .returned (.bool x.off) ∧ w = w' := by
  obtain ⟨bn, bd, v, vd, vw, vv, p, r, f1, f2⟩ := t
  exact sdown_calls w g bn bd v x p
theorem g_rdown (t : TwoG B w g h x y) : Calls Tryz.prog 22 #[.pointer (some ⟨h, 0, none⟩)] w fun e w' => e = .returned (.bool y.off) ∧ w = w' := by
  obtain ⟨bn, bd, v, vd, vw, vv, p, r, f1, f2⟩ := t
  exact rdown_calls w h vd vw vv y r
theorem g_image {K : Nat} (hK : K ≤ 2097152) (hf : Fine K x) (t : TwoG B w g h x y) : Calls Tryz.prog 23 #[.pointer (some ⟨g, 0, none⟩)] w fun e w' => e = .returned (.string ⟨(imageL x.dur).toArray⟩) ∧ Below w.heap.size w w' := by
  obtain ⟨bn, bd, v, vd, vw, vv, p, r, f1, f2⟩ := t
  exact simage_calls K hK w g bn bd v x p hf
theorem g_rimage {K : Nat} (hK : K ≤ 2097152) (hf : Fine K y) (t : TwoG B w g h x y) : Calls Tryz.prog 24 #[.pointer (some ⟨h, 0, none⟩)] w fun e w' => e = .returned (.string ⟨(imageL y.dur).toArray⟩) ∧ Below w.heap.size w w' := by
  obtain ⟨bn, bd, v, vd, vw, vv, p, r, f1, f2⟩ := t
  exact rimage_calls K hK w h vd vw vv y r hf
end
end Go.Proofs.YtcicdgajhheipaaGreat

set_option linter.unusedVariables false
set_option linter.unusedSimpArgs false
namespace Go.Proofs.YtcicdgajhheipaaGreat
open Go.RowKit Go.WideMaps Go.Maps Go.MapKept
/-! Lists of ints of the call's own, apart from each other. -/
theorem Row.setIn {w : World} {base g n cap j : Nat} {xs : List Value} (h : Row w base 1 (.slice (some ⟨g, 0, none⟩) n cap) n xs) (hj : j < n) (u : Value) : Row (w.setCell ⟨g, j, none⟩ u) base 1 (.slice (some ⟨g, 0, none⟩) n cap) n (xs.set j u) := by
  obtain ⟨hl, h2⟩ := h
  rcases h2 with ⟨h2, _⟩ | ⟨g', cap', hv, hb, hg, hn, hm, hx, ht⟩
  · cases h2
  · injection hv with e1 e2 e3
    injection e1 with e1
    injection e1 with e1
    subst e1 e3
    have hjx : j < xs.length := by omega
    have hc := hx j xs[j] (by rw [List.getElem?_eq_getElem hjx])
    refine ⟨by rw [List.length_set]; exact hl, .inr ⟨g, cap, rfl, hb, by simpa [World.setCell] using hg, hn, hm, fun i z hz => ?_, fun i hi => ?_⟩⟩
    · by_cases e : j = i
      · subst e
        rw [List.getElem?_set_self hjx] at hz
        injection hz with hz
        subst hz
        exact cell_set hc u
      · rw [List.getElem?_set_ne e] at hz
        rw [cell_other e]
        exact hx i z hz
    · obtain ⟨t1, t2⟩ := ht i hi
      refine ⟨?_, by rw [World.frozen?_setCell]; exact t2⟩
      by_cases e : j = i
      · subst e
        rw [cell_set hc u]; rfl
      · rw [cell_other e]; exact t1
structure Lsts (B : Nat) (w : World) (lv : Value) (vs : List Value) (Ms : List (List Int)) : Prop where
  len : Ms.length = vs.length
  row : Row w B 1 lv vs.length vs
  each : ∀ (i : Nat) (v : Value) (M : List Int), vs[i]? = some v → Ms[i]? = some M → Row w B 1 v M.length (iV M)
  own : ∀ (i j : Nat) (v u : Value) (k : Nat), vs[i]? = some v → vs[j]? = some u → v.ownBlock = some k → u.ownBlock = some k → i = j
  out : ∀ (i : Nat) (v : Value) (k : Nat), vs[i]? = some v → v.ownBlock = some k → lv.ownBlock ≠ some k
theorem iV_set (M : List Int) (j : Nat) (u : Int) : iV (M.set j u) = (iV M).set j (.int .i64 u) := by
  unfold iV
  rw [List.map_set]
section
variable {B : Nat} {w w' : World} {lv : Value} {vs : List Value} {Ms : List (List Int)}
theorem Lsts.drewN (h : Lsts B w lv vs Ms) (n : Nat) : Lsts B (w.drewN n) lv vs Ms := ⟨h.len, h.row.drewN n, fun i v M a b => (h.each i v M a b).drewN n, h.own, h.out⟩
theorem Lsts.keep (h : Lsts B w lv vs Ms) (hb : Below w.heap.size w w') : Lsts B w' lv vs Ms := ⟨h.len, h.row.keep hb, fun i v M a b => (h.each i v M a b).keep hb, h.own, h.out⟩
/-- The list of lists at a place, and the list's own place. -/
theorem Lsts.at (h : Lsts B w lv vs Ms) (i : Nat) (hi : i < vs.length) : ∃ g c, lv = .slice (some ⟨g, 0, none⟩) vs.length c ∧ g < w.heap.size ∧ w.cell? ⟨g, i, none⟩ = some vs[i] := by
  rcases Row.form h.row with ⟨_, h0, _⟩ | ⟨cg, cap, rfl, _, hg, _, _, hx, _⟩
  · omega
  · exact ⟨cg, cap, rfl, hg, hx _ _ (by rw [List.getElem?_eq_getElem hi])⟩
/-- A cell of one of them is written. -/
theorem Lsts.store (h : Lsts B w lv vs Ms) {i j g n c : Nat} {M : List Int} (hv : vs[i]? = some (.slice (some ⟨g, 0, none⟩) n c)) (hM : Ms[i]? = some M) (hj : j < M.length) (hn : n = M.length) (u : Int) :
    Lsts B (w.setCell ⟨g, j, none⟩ (.int .i64 u)) lv vs (Ms.set i (M.set j u)) := by
  subst hn
  have hi : i < Ms.length := (List.getElem?_eq_some_iff.1 hM).1
  refine ⟨by rw [List.length_set]; exact h.len, h.row.setCell (h.out i _ g hv rfl) _, fun q v N a b => ?_, h.own, h.out⟩
  by_cases e : i = q
  · subst e
    rw [List.getElem?_set_self hi] at b
    injection b with b
    subst b
    rw [hv] at a
    injection a with a
    subst a
    rw [List.length_set, iV_set]
    exact (h.each i _ M hv hM).setIn hj _
  · rw [List.getElem?_set_ne e] at b
    exact (h.each q v N a b).setCell (fun e2 => e (h.own i q _ v g hv a rfl e2)) _
end
def mkI (i : Nat) : Int := -20 - i
/-- The lists below i are full of their marks, list i up to j. -/
structure Full (i j : Nat) (ln : Nat → Nat) (Ms : List (List Int)) : Prop where
  lens : ∀ (q : Nat) (M : List Int), Ms[q]? = some M → M.length = ln q
  below : ∀ (q : Nat) (M : List Int) (e : Nat) (z : Int), Ms[q]? = some M → q < i → M[e]? = some z → z = mkI q
  part : ∀ (M : List Int) (e : Nat) (z : Int), Ms[i]? = some M → e < j → M[e]? = some z → z = mkI i
theorem Full.start {ln : Nat → Nat} {Ms : List (List Int)} (h : ∀ (q : Nat) (M : List Int), Ms[q]? = some M → M.length = ln q) : Full 0 0 ln Ms := ⟨h, fun q M e z _ hq _ => absurd hq (Nat.not_lt_zero _), fun M e z _ he _ => absurd he (Nat.not_lt_zero _)⟩
theorem Full.put {i j : Nat} {ln : Nat → Nat} {Ms : List (List Int)} {M : List Int} (h : Full i j ln Ms) (hM : Ms[i]? = some M) (hj : j < M.length) : Full i (j + 1) ln (Ms.set i (M.set j (mkI i))) := by
  have hi : i < Ms.length := (List.getElem?_eq_some_iff.1 hM).1
  refine ⟨fun q N a => ?_, fun q N e z a hq b => ?_, fun N e z a he b => ?_⟩
  · by_cases e : i = q
    · subst e
      rw [List.getElem?_set_self hi] at a
      injection a with a
      subst a
      rw [List.length_set]
      exact h.lens i M hM
    · rw [List.getElem?_set_ne e] at a
      exact h.lens q N a
  · rw [List.getElem?_set_ne (by omega)] at a
    exact h.below q N e z a hq b
  · rw [List.getElem?_set_self hi] at a
    injection a with a
    subst a
    by_cases e2 : j = e
    · subst e2
      rw [List.getElem?_set_self hj] at b
      injection b with b
      exact b.symm
    · rw [List.getElem?_set_ne e2] at b
      exact h.part M e z hM (by omega) b
theorem Full.next {i j : Nat} {ln : Nat → Nat} {Ms : List (List Int)} {M : List Int} (h : Full i j ln Ms) (hM : Ms[i]? = some M) (hj : M.length ≤ j) : Full (i + 1) 0 ln Ms := by
  refine ⟨h.lens, fun q N e z a hq b => ?_, fun N e z a he b => absurd he (Nat.not_lt_zero _)⟩
  by_cases e2 : q = i
  · subst e2
    rw [hM] at a
    injection a with a
    subst a
    have := (List.getElem?_eq_some_iff.1 b).1
    exact h.part M e z hM (by omega) b
  · exact h.below q N e z a (by omega) b
end Go.Proofs.YtcicdgajhheipaaGreat

set_option linter.unusedVariables false
set_option linter.unusedSimpArgs false
namespace Go.Proofs.YtcicdgajhheipaaGreat
open Go.RowKit Go.WideMaps Go.Maps Go.MapKept
/-- Where the first loop of apart stands. -/
def FillAt (B : Nat) (w0 : World) (lv : Value) (vs : List Value) (ln : Nat → Nat) (i j : Nat) (w : World) : Prop := ∃ Ms, Lsts B w lv vs Ms ∧ Full i j ln Ms ∧ Below B w0 w
theorem FillAt.list {B : Nat} {w0 w : World} {lv : Value} {vs : List Value} {ln : Nat → Nat} {i j : Nat} (h : FillAt B w0 lv vs ln i j w) (hi : i < vs.length) : ∃ a c, vs[i] = .slice a (ln i) c ∧ (0 < ln i → ∃ g, a = some ⟨g, 0, none⟩ ∧ g < w.heap.size ∧ ∀ e, e < ln i → (∃ u, w.cell? ⟨g, e, none⟩ = some u) ∧ w.frozen? ⟨g, e, none⟩ = false) := by
  obtain ⟨Ms, h1, h2, _⟩ := h
  have hi2 : i < Ms.length := by rw [h1.len]; exact hi
  have hr := h1.each i vs[i] Ms[i] (by rw [List.getElem?_eq_getElem hi]) (by rw [List.getElem?_eq_getElem hi2])
  have hl := h2.lens i Ms[i] (by rw [List.getElem?_eq_getElem hi2])
  rw [hl] at hr
  rcases Row.form hr with ⟨e0, h0, _⟩ | ⟨g, cap, e0, _, hg, hc, _, hx, hfz⟩
  · exact ⟨none, 0, by rw [e0, h0], fun h => by omega⟩
  · refine ⟨_, _, e0, fun _ => ⟨g, rfl, hg, fun e he => ⟨?_, hfz e (by omega)⟩⟩⟩
    have hel : e < (iV Ms[i]).length := by rw [iV_len, hl]; exact he
    exact ⟨_, hx e _ (by rw [List.getElem?_eq_getElem hel])⟩
theorem FillAt.put {B : Nat} {w0 w : World} {lv : Value} {vs : List Value} {ln : Nat → Nat} {i j g c : Nat} (h : FillAt B w0 lv vs ln i j w) (hv : vs[i]? = some (.slice (some ⟨g, 0, none⟩) (ln i) c)) (hj : j < ln i) :
    FillAt B w0 lv vs ln i (j + 1) (w.setCell ⟨g, j, none⟩ (.int .i64 (-20 - (i : Int)))) := by
  obtain ⟨Ms, h1, h2, h3⟩ := h
  have hi : i < vs.length := (List.getElem?_eq_some_iff.1 hv).1
  have hi2 : i < Ms.length := by rw [h1.len]; exact hi
  have hM : Ms[i]? = some Ms[i] := by rw [List.getElem?_eq_getElem hi2]
  have hl := h2.lens i Ms[i] hM
  have hb : B ≤ g := ((h1.each i _ _ hv hM).lt g rfl).1
  exact ⟨_, h1.store hv hM (by omega) hl.symm _, h2.put hM (by omega), h3.setCell hb _⟩
theorem FillAt.next {B : Nat} {w0 w : World} {lv : Value} {vs : List Value} {ln : Nat → Nat} {i j : Nat} (h : FillAt B w0 lv vs ln i j w) (hi : i < vs.length) (hj : ln i ≤ j) : FillAt B w0 lv vs ln (i + 1) 0 w := by
  obtain ⟨Ms, h1, h2, h3⟩ := h
  have hi2 : i < Ms.length := by rw [h1.len]; exact hi
  have hM : Ms[i]? = some Ms[i] := by rw [List.getElem?_eq_getElem hi2]
  exact ⟨Ms, h1, h2.next hM (by rw [h2.lens i _ hM]; exact hj), h3⟩
theorem FillAt.at {B : Nat} {w0 w : World} {lv : Value} {vs : List Value} {ln : Nat → Nat} {i j : Nat} (h : FillAt B w0 lv vs ln i j w) (hi : i < vs.length) : ∃ g c, lv = .slice (some ⟨g, 0, none⟩) vs.length c ∧ g < w.heap.size ∧ w.cell? ⟨g, i, none⟩ = some vs[i] := by
  obtain ⟨Ms, h1, h2, h3⟩ := h
  exact h1.at i hi
theorem FillAt.below {B : Nat} {w0 w : World} {lv : Value} {vs : List Value} {ln : Nat → Nat} {i j : Nat} (h : FillAt B w0 lv vs ln i j w) : Below B w0 w := by
  obtain ⟨Ms, h1, h2, h3⟩ := h
  exact h3
end Go.Proofs.YtcicdgajhheipaaGreat
