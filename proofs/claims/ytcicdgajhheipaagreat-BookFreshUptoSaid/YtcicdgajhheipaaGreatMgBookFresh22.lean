import Derived.Test.YtcicdgajhheipaaGreatMgBookFresh21
import Derived.Test.YtcicdgajhheipaaGreatRw2
set_option linter.unusedVariables false
set_option linter.unusedSimpArgs false
namespace Go.Proofs.YtcicdgajhheipaaGreat
open Go.RowKit Go.WideMaps Go.Maps Go.MapKept
/-! Lists that grow, each its own, beside lists that stay. -/
def SameI (u : Int) (l : List Int) : Prop := ∀ z ∈ l, z = u
/-- fs: the lists as they stand, of these lengths, list q full of its mark; os: other slices that none of them shares a block with. -/
structure Fam (B : Nat) (w : World) (os fs : List Value) (Cs : List (List Int)) : Prop where
  len : Cs.length = fs.length
  each : ∀ (i : Nat) (v : Value) (M : List Int), fs[i]? = some v → Cs[i]? = some M → Row w B 1 v M.length (iV M) ∧ SameI (mkI i) M
  own : ∀ (i j : Nat) (v u : Value) (k : Nat), fs[i]? = some v → fs[j]? = some u → v.ownBlock = some k → u.ownBlock = some k → i = j
  out : ∀ (i : Nat) (v : Value) (k : Nat), fs[i]? = some v → v.ownBlock = some k → ∀ o ∈ os, o.ownBlock ≠ some k
/-- vs: the lists as they were: their cells hold the marks; a list shares no block with another's front. -/
structure Shown (w : World) (vs fs : List Value) (ln : Nat → Nat) : Prop where
  cells : ∀ (q : Nat) (v : Value), vs[q]? = some v → ∃ a c, v = .slice a (ln q) c ∧ (0 < ln q → ∃ g, a = some ⟨g, 0, none⟩ ∧ g < w.heap.size ∧ ∀ e, e < ln q → w.cell? ⟨g, e, none⟩ = some (.int .i64 (mkI q)))
  lt : ∀ (q : Nat) (v : Value) (k : Nat), vs[q]? = some v → v.ownBlock = some k → k < w.heap.size
  apart : ∀ (q i : Nat) (v u : Value) (k : Nat), vs[q]? = some v → fs[i]? = some u → v.ownBlock = some k → u.ownBlock = some k → q = i
section
variable {B : Nat} {w w' : World} {os vs fs : List Value} {Cs : List (List Int)} {ln : Nat → Nat}
theorem sameI_snoc {u : Int} {l : List Int} (h : SameI u l) : SameI u (l ++ [u]) := fun z hz => by
  rcases List.mem_append.1 hz with h1 | h1
  · exact h z h1
  · simpa using h1
/-- The front of one list grows by one. -/
theorem Fam.grow (h : Fam B w os fs Cs) (sh : Shown w vs fs ln) {i : Nat} {v v' : Value} {M : List Int} (hv : fs[i]? = some v) (hM : Cs[i]? = some M) (hle : ln i ≤ M.length)
    (hr : Row w' B 1 v' (M ++ [mkI i]).length (iV (M ++ [mkI i]))) (hg : (v'.ownBlock = v.ownBlock ∧ w.grownBy w' v.ownBlock) ∨ (v'.ownBlock = some w.heap.size ∧ w.grownBy w' none)) (hos : ∀ o ∈ os, ∀ k, o.ownBlock = some k → k < w.heap.size) :
    Fam B w' os (fs.set i v') (Cs.set i (M ++ [mkI i])) ∧ Shown w' vs (fs.set i v') ln := by
  have hi : i < fs.length := (List.getElem?_eq_some_iff.1 hv).1
  have hi2 : i < Cs.length := by rw [h.len]; exact hi
  have hsz : w.heap.size ≤ w'.heap.size := by rcases hg with ⟨_, g⟩ | ⟨_, g⟩ <;> exact g.size
  -- a block that no change has met
  have hk : ∀ k, k < w.heap.size → v.ownBlock ≠ some k → w'.heap[k]? = w.heap[k]? := fun k hk hn => by
    rcases hg with ⟨_, g⟩ | ⟨_, g⟩
    · exact g.block k hk (fun e => hn e.symm)
    · exact g.block k hk (by simp)
  have flt : ∀ (j : Nat) (u : Value) (k : Nat), fs[j]? = some u → u.ownBlock = some k → k < w.heap.size := fun j u k hu hk => by
    have hj : j < fs.length := (List.getElem?_eq_some_iff.1 hu).1
    have hj2 : j < Cs.length := by rw [h.len]; exact hj
    exact ((h.each j u Cs[j] hu (by rw [List.getElem?_eq_getElem hj2])).1.lt k hk).2
  refine ⟨⟨by rw [List.length_set, List.length_set]; exact h.len, fun j u N hu hN => ?_, fun j q u x k hu hx h1 h2 => ?_, fun j u k hu h1 o ho e => ?_⟩, ⟨fun q u hu => ?_, fun q u k hu hk' => Nat.lt_of_lt_of_le (sh.lt q u k hu hk') hsz, fun q j u x k hu hx h1 h2 => ?_⟩⟩
  · by_cases e : i = j
    · subst e
      rw [List.getElem?_set_self hi] at hu
      rw [List.getElem?_set_self hi2] at hN
      injection hu with hu
      injection hN with hN
      subst hu hN
      exact ⟨hr, sameI_snoc (h.each i v M hv hM).2⟩
    · rw [List.getElem?_set_ne e] at hu hN
      obtain ⟨r1, r2⟩ := h.each j u N hu hN
      exact ⟨r1.of hsz fun k hk' => hk k (flt j u k hu hk') (fun e2 => e (h.own i j v u k hv hu e2 hk')), r2⟩
  · by_cases e1 : i = j <;> by_cases e2 : i = q
    · omega
    · subst e1
      rw [List.getElem?_set_self hi] at hu
      rw [List.getElem?_set_ne e2] at hx
      injection hu with hu
      subst hu
      rcases hg with ⟨g1, _⟩ | ⟨g1, _⟩
      · rw [g1] at h1
        exact h.own _ _ v x k hv hx h1 h2
      · rw [g1] at h1
        injection h1 with h1
        have := flt q x k hx h2
        omega
    · subst e2
      rw [List.getElem?_set_self hi] at hx
      rw [List.getElem?_set_ne e1] at hu
      injection hx with hx
      subst hx
      rcases hg with ⟨g1, _⟩ | ⟨g1, _⟩
      · rw [g1] at h2
        exact h.own _ _ u v k hu hv h1 h2
      · rw [g1] at h2
        injection h2 with h2
        have := flt j u k hu h1
        omega
    · rw [List.getElem?_set_ne e1] at hu
      rw [List.getElem?_set_ne e2] at hx
      exact h.own j q u x k hu hx h1 h2
  · by_cases e1 : i = j
    · subst e1
      rw [List.getElem?_set_self hi] at hu
      injection hu with hu
      subst hu
      rcases hg with ⟨g1, _⟩ | ⟨g1, _⟩
      · rw [g1] at h1
        exact h.out i v k hv h1 o ho e
      · rw [g1] at h1
        injection h1 with h1
        have := hos o ho k e
        omega
    · rw [List.getElem?_set_ne e1] at hu
      exact h.out j u k hu h1 o ho e
  · obtain ⟨a, c, rfl, hc⟩ := sh.cells q u hu
    refine ⟨a, c, rfl, fun hp => ?_⟩
    obtain ⟨g, rfl, hgl, hce⟩ := hc hp
    refine ⟨g, rfl, by omega, fun e he => ?_⟩
    by_cases hb : v.ownBlock = some g
    · -- the block of front i
      have hqi := sh.apart q i _ v g hu hv rfl hb
      subst hqi
      rcases hg with ⟨g1, _⟩ | ⟨_, g2⟩
      · rw [hb] at g1
        rcases Row.form hr with ⟨e0, _, _⟩ | ⟨g', cap, e0, _, _, _, _, hx, _⟩
        · rw [e0] at g1; cases g1
        · rw [e0] at g1
          injection g1 with g1
          have g1' : g' = g := g1
          subst g1'
          have hel : e < (M ++ [mkI q]).length := by rw [List.length_append]; omega
          have hz : (M ++ [mkI q])[e] = mkI q := sameI_snoc (h.each q v M hv hM).2 _ (List.getElem_mem hel)
          exact hx e _ (by unfold iV; rw [List.getElem?_map, List.getElem?_eq_getElem hel, hz]; rfl)
      · have hbk := g2.block g hgl (by simp)
        rw [World.cell?_of_block (a := ⟨g, e, none⟩) hbk]
        exact hce e he
    · rw [World.cell?_of_block (a := ⟨g, e, none⟩) (hk g hgl hb)]
      exact hce e he
  · by_cases e1 : i = j
    · subst e1
      rw [List.getElem?_set_self hi] at hx
      injection hx with hx
      subst hx
      rcases hg with ⟨g1, _⟩ | ⟨g1, _⟩
      · rw [g1] at h2
        exact sh.apart q i u v k hu hv h1 h2
      · rw [g1] at h2
        injection h2 with h2
        have := sh.lt q u k hu h1
        omega
    · rw [List.getElem?_set_ne e1] at hx
      exact sh.apart q j u x k hu hx h1 h2
end
end Go.Proofs.YtcicdgajhheipaaGreat

set_option linter.unusedVariables false
set_option linter.unusedSimpArgs false
namespace Go.Proofs.YtcicdgajhheipaaGreat
open Go.RowKit Go.WideMaps Go.Maps Go.MapKept
/-! Where the second loop of apart stands. -/
/-- Lists below i are 64 longer, list i is t longer. -/
structure Grow (B : Nat) (w : World) (lv mv : Value) (vs fs : List Value) (Cs : List (List Int)) (ln : Nat → Nat) (i t : Nat) : Prop where
  fam : Fam B w [lv, mv] fs Cs
  shown : Shown w vs fs ln
  lrow : Row w B 1 lv vs.length vs
  mrow : Row w B 1 mv i (fs.take i)
  len : fs.length = vs.length
  lens : ∀ (q : Nat) (M : List Int), Cs[q]? = some M → M.length = ln q + (if q < i then 64 else if q = i then t else 0)
  rest : ∀ (q : Nat), i < q → fs[q]? = vs[q]?
  here : t = 0 → fs[i]? = vs[i]?
  mne : ∀ k, mv.ownBlock = some k → lv.ownBlock ≠ some k
  vne : ∀ (q : Nat) (v : Value) (k : Nat), vs[q]? = some v → v.ownBlock = some k → mv.ownBlock ≠ some k
section
variable {B : Nat} {w w' : World} {lv mv : Value} {vs fs : List Value} {Cs : List (List Int)} {ln : Nat → Nat} {i t : Nat}
theorem FillAt.grow {w0 : World} (h : FillAt B w0 lv vs ln vs.length 0 w) : ∃ Cs, Grow B w lv (.slice none 0 0) vs vs Cs ln 0 0 := by
  obtain ⟨Ms, h1, h2, h3⟩ := h
  refine ⟨Ms, ⟨h1.len, fun i v M hv hM => ⟨h1.each i v M hv hM, fun z hz => ?_⟩, h1.own, fun i v k hv hk o ho e => ?_⟩, ⟨fun q v hv => ?_, fun q v k hv hk => ?_, fun q i v u k hv hu h1' h2' => h1.own q i v u k hv hu h1' h2'⟩, h1.row, Row.nil _ _ 1, rfl, fun q M hM => ?_, fun q _ => rfl, fun _ => rfl, fun k hk => (by cases hk), fun q v k _ _ e => (by cases e)⟩
  · obtain ⟨e, he, rfl⟩ := List.getElem_of_mem hz
    exact h2.below i M e _ hM (List.getElem?_eq_some_iff.1 hv).1 (by rw [List.getElem?_eq_getElem he])
  · simp only [List.mem_cons, List.not_mem_nil, or_false] at ho
    rcases ho with rfl | rfl
    · exact h1.out i v k hv hk e
    · cases e
  · have hq : q < vs.length := (List.getElem?_eq_some_iff.1 hv).1
    have hq2 : q < Ms.length := by rw [h1.len]; exact hq
    have hM : Ms[q]? = some Ms[q] := by rw [List.getElem?_eq_getElem hq2]
    have hr := h1.each q v Ms[q] hv hM
    have hl := h2.lens q Ms[q] hM
    rcases Row.form hr with ⟨e0, h0, _⟩ | ⟨g, cap, e0, _, hg, hc, _, hx, hfz⟩
    · exact ⟨none, 0, by rw [e0, ← hl, h0], fun h => by omega⟩
    · refine ⟨some ⟨g, 0, none⟩, cap, by rw [e0, hl], fun _ => ⟨g, rfl, hg, fun e he => ?_⟩⟩
      have hel : e < Ms[q].length := by omega
      have hz := h2.below q Ms[q] e Ms[q][e] hM hq (by rw [List.getElem?_eq_getElem hel])
      exact hx e _ (by unfold iV; rw [List.getElem?_map, List.getElem?_eq_getElem hel, hz]; rfl)
  · have hq : q < vs.length := (List.getElem?_eq_some_iff.1 hv).1
    have hq2 : q < Ms.length := by rw [h1.len]; exact hq
    exact ((h1.each q v Ms[q] hv (by rw [List.getElem?_eq_getElem hq2])).lt k hk).2
  · rw [h2.lens q M hM, if_neg (by omega)]
    split <;> rfl
/-- The list under way grows by its mark. -/
theorem Grow.one (h : Grow B w lv mv vs fs Cs ln i t) {v v' : Value} {M : List Int} (hv : fs[i]? = some v) (hM : Cs[i]? = some M)
    (hr : Row w' B 1 v' (M ++ [mkI i]).length (iV (M ++ [mkI i]))) (hg : (v'.ownBlock = v.ownBlock ∧ w.grownBy w' v.ownBlock) ∨ (v'.ownBlock = some w.heap.size ∧ w.grownBy w' none)) :
    Grow B w' lv mv vs (fs.set i v') (Cs.set i (M ++ [mkI i])) ln i (t + 1) := by
  have hi : i < fs.length := (List.getElem?_eq_some_iff.1 hv).1
  have hi2 : i < Cs.length := by rw [h.fam.len]; exact hi
  have hl := h.lens i M hM
  rw [if_neg (by omega), if_pos rfl] at hl
  have hos : ∀ o ∈ [lv, mv], ∀ k, o.ownBlock = some k → k < w.heap.size := fun o ho k hk => by
    simp only [List.mem_cons, List.not_mem_nil, or_false] at ho
    rcases ho with rfl | rfl
    · exact (h.lrow.lt k hk).2
    · exact (h.mrow.lt k hk).2
  obtain ⟨f1, f2⟩ := h.fam.grow h.shown hv hM (by omega) hr hg hos
  have hsz : w.heap.size ≤ w'.heap.size := by rcases hg with ⟨_, g⟩ | ⟨_, g⟩ <;> exact g.size
  have keep : ∀ o ∈ [lv, mv], ∀ k, o.ownBlock = some k → w'.heap[k]? = w.heap[k]? := fun o ho k hk => by
    have h1 := hos o ho k hk
    rcases hg with ⟨_, g⟩ | ⟨_, g⟩
    · exact g.block k h1 (fun e => h.fam.out i v k hv e.symm o ho hk)
    · exact g.block k h1 (by simp)
  refine ⟨f1, f2, h.lrow.of hsz (keep lv (by simp)), ?_, by rw [List.length_set]; exact h.len, fun q N hN => ?_, fun q hq => ?_, fun e => by omega, h.mne, h.vne⟩
  · rw [List.take_set_of_le (Nat.le_refl _)]
    exact h.mrow.of hsz (keep mv (by simp))
  · by_cases e : i = q
    · subst e
      rw [List.getElem?_set_self hi2] at hN
      injection hN with hN
      subst hN
      rw [List.length_append, if_neg (by omega), if_pos rfl]
      simp only [List.length_cons, List.length_nil]
      omega
    · rw [List.getElem?_set_ne e] at hN
      rw [h.lens q N hN]
      by_cases e2 : q < i
      · rw [if_pos e2, if_pos e2]
      · rw [if_neg e2, if_neg e2, if_neg (fun e3 => e e3.symm), if_neg (fun e3 => e e3.symm)]
  · rw [List.getElem?_set_ne (by omega)]
    exact h.rest q hq
/-- The list is put into the list of the longer ones. -/
theorem Grow.next {mv' v : Value} (h : Grow B w lv mv vs fs Cs ln i 64) (hv : fs[i]? = some v) (hr : Row w' B 1 mv' (i + 1) (fs.take i ++ [v])) (hg : w.grownBy w' mv.ownBlock) (hat : mv'.ownBlock = mv.ownBlock ∨ mv'.ownBlock = some w.heap.size) :
    Grow B w' lv mv' vs fs Cs ln (i + 1) 0 := by
  have hi : i < fs.length := (List.getElem?_eq_some_iff.1 hv).1
  have hb : ∀ k, k < w.heap.size → mv.ownBlock ≠ some k → w'.heap[k]? = w.heap[k]? := fun k hk hn => hg.block k hk (fun e => hn e.symm)
  have flt : ∀ (j : Nat) (u : Value) (k : Nat), fs[j]? = some u → u.ownBlock = some k → k < w.heap.size := fun j u k hu hk => by
    have hj : j < fs.length := (List.getElem?_eq_some_iff.1 hu).1
    have hj2 : j < Cs.length := by rw [h.fam.len]; exact hj
    exact ((h.fam.each j u Cs[j] hu (by rw [List.getElem?_eq_getElem hj2])).1.lt k hk).2
  have fne : ∀ (j : Nat) (u : Value) (k : Nat), fs[j]? = some u → u.ownBlock = some k → mv.ownBlock ≠ some k := fun j u k hu hk => h.fam.out j u k hu hk mv (by simp)
  refine ⟨⟨h.fam.len, fun j u M hu hM => ⟨(h.fam.each j u M hu hM).1.of hg.size fun k hk => hb k (flt j u k hu hk) (fne j u k hu hk), (h.fam.each j u M hu hM).2⟩, h.fam.own, fun j u k hu hk o ho e => ?_⟩,
    ⟨fun q u hu => ?_, fun q u k hu hk => Nat.lt_of_lt_of_le (h.shown.lt q u k hu hk) hg.size, h.shown.apart⟩, h.lrow.of hg.size fun k hk => hb k (h.lrow.lt k hk).2 (fun e => h.mne k e hk), ?_, h.len, fun q M hM => ?_, fun q hq => h.rest q (by omega), fun _ => h.rest (i + 1) (by omega), fun k hk e => ?_, fun q u k hu hk e => ?_⟩
  · simp only [List.mem_cons, List.not_mem_nil, or_false] at ho
    rcases ho with rfl | rfl
    · exact h.fam.out j u k hu hk o (by simp) e
    · rcases hat with a | a
      · exact fne j u k hu hk (a ▸ e)
      · rw [a] at e
        injection e with e
        have := flt j u k hu hk
        omega
  · obtain ⟨a, c, rfl, hc⟩ := h.shown.cells q u hu
    refine ⟨a, c, rfl, fun hp => ?_⟩
    obtain ⟨g, rfl, hgl, hce⟩ := hc hp
    refine ⟨g, rfl, Nat.lt_of_lt_of_le hgl hg.size, fun e he => ?_⟩
    rw [World.cell?_of_block (a := ⟨g, e, none⟩) (hb g hgl (h.vne q _ g hu rfl))]
    exact hce e he
  · rw [List.take_add_one, hv]
    exact hr
  · rw [h.lens q M hM]
    by_cases e1 : q < i
    · rw [if_pos e1, if_pos (by omega)]
    · by_cases e2 : q = i
      · rw [if_neg e1, if_pos e2, if_pos (by omega)]
      · rw [if_neg e1, if_neg e2, if_neg (by omega)]
        split <;> rfl
  · rcases hat with a | a
    · exact h.mne k (a ▸ hk) e
    · rw [a] at hk
      injection hk with hk
      have := (h.lrow.lt k e).2
      omega
  · rcases hat with a | a
    · exact h.vne q u k hu hk (a ▸ e)
    · rw [a] at e
      injection e with e
      have := h.shown.lt q u k hu hk
      omega
end
end Go.Proofs.YtcicdgajhheipaaGreat
