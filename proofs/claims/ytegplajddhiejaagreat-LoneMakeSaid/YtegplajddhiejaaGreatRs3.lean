import Derived.Test.YtegplajddhiejaaGreatRs2
import Derived.Test.YtegplajddhiejaaGreatMgLoneMake7
set_option linter.unusedVariables false
namespace Go.Proofs.YtegplajddhiejaaGreat
open Go.RowKit Go.WideMaps Go.Maps Go.MapKept
/-! The reference's store. -/
/-- The reference's store at block g: its fields, its lists; only the list of writes is ever written to. -/
structure RSF (w : World) (g : Nat) (vd vw vv : Value) (x : Fld) : Prop where
  c0 : w.cell? ⟨g, 0, none⟩ = some (.int .i64 x.room)
  c1 : w.cell? ⟨g, 1, none⟩ = some vd
  c2 : w.cell? ⟨g, 2, none⟩ = some vw
  c3 : w.cell? ⟨g, 3, none⟩ = some (.bool x.off)
  c4 : w.cell? ⟨g, 4, none⟩ = some (.int .i64 x.left)
  c5 : w.cell? ⟨g, 5, none⟩ = some (.int .i64 x.age)
  c6 : w.cell? ⟨g, 6, none⟩ = some vv
  fr : ∀ j, w.frozen? ⟨g, j, none⟩ = false
  dur : RecL w vd x.dur
  now : RecL w vv x.now
  row : Row w 0 3 vw x.pend.length (wrsV x.pend)
  nd : vd.ownBlock ≠ some g
  nn : vv.ownBlock ≠ some g
  nw : ∀ k, vw.ownBlock = some k → k ≠ g ∧ vd.ownBlock ≠ some k ∧ vv.ownBlock ≠ some k
  lt : g < w.heap.size
/-- The blocks of a reference's store. -/
def rfoot (g : Nat) (vd vw vv : Value) : List Nat := g :: (vd.ownBlock.toList ++ (vw.ownBlock.toList ++ vv.ownBlock.toList))
theorem mem_rfoot {g k : Nat} {vd vw vv : Value} : k ∈ rfoot g vd vw vv ↔ k = g ∨ vd.ownBlock = some k ∨ vw.ownBlock = some k ∨ vv.ownBlock = some k := by
  unfold rfoot
  cases vd.ownBlock <;> cases vw.ownBlock <;> cases vv.ownBlock <;> simp [eq_comm]
theorem rsf_row {w : World} {v : Value} {n s : Nat} {xs : List Value} (h : Row w 0 s v n xs) {k : Nat} (hk : v.ownBlock = some k) : k < w.heap.size := (h.lt k hk).2
section
variable {w w' : World} {g : Nat} {vd vw vv : Value} {x : Fld}
theorem RSF.foot_lt (h : RSF w g vd vw vv x) : ∀ k ∈ rfoot g vd vw vv, k < w.heap.size := by
  intro k hk
  rcases mem_rfoot.1 hk with rfl | hk | hk | hk
  · exact h.lt
  · exact rsf_row h.dur hk
  · exact rsf_row h.row hk
  · exact rsf_row h.now hk
theorem RSF.touch {F : List Nat} (h : RSF w g vd vw vv x) (ht : Touch F w w') (hn : ∀ k ∈ rfoot g vd vw vv, k ∉ F) : RSF w' g vd vw vv x := by
  have hg := hn g (mem_rfoot.2 (.inl rfl))
  have hc : ∀ j, w'.cell? ⟨g, j, none⟩ = w.cell? ⟨g, j, none⟩ := fun j => ht.cell (p := ⟨g, j, none⟩) h.lt hg
  exact { c0 := (hc 0).trans h.c0, c1 := (hc 1).trans h.c1, c2 := (hc 2).trans h.c2, c3 := (hc 3).trans h.c3, c4 := (hc 4).trans h.c4, c5 := (hc 5).trans h.c5, c6 := (hc 6).trans h.c6,
          fr := fun j => (ht.frozen (p := ⟨g, j, none⟩) h.lt hg).trans (h.fr j), dur := Row.touch h.dur ht (fun k hk => hn k (mem_rfoot.2 (.inr (.inl hk)))), now := Row.touch h.now ht (fun k hk => hn k (mem_rfoot.2 (.inr (.inr (.inr hk))))),
          row := h.row.touch ht (fun k hk => hn k (mem_rfoot.2 (.inr (.inr (.inl hk))))), nd := h.nd, nn := h.nn, nw := h.nw, lt := Nat.lt_of_lt_of_le h.lt ht.size }
theorem RSF.keep (h : RSF w g vd vw vv x) (hb : Below w.heap.size w w') : RSF w' g vd vw vv x := h.touch (Touch.below hb []) (fun k _ => by simp)
theorem RSF.alloc (h : RSF w g vd vw vv x) (o : Obj) : RSF (w.alloc o) g vd vw vv x := h.keep ((Below.refl _ _).alloc (Nat.le_refl _) o)
theorem RSF.drewN (h : RSF w g vd vw vv x) (n : Nat) : RSF (w.drewN n) g vd vw vv x := ⟨h.c0, h.c1, h.c2, h.c3, h.c4, h.c5, h.c6, h.fr, h.dur, h.now, h.row, h.nd, h.nn, h.nw, h.lt⟩
theorem RSF.drew (h : RSF w g vd vw vv x) : RSF w.drew g vd vw vv x := ⟨h.c0, h.c1, h.c2, h.c3, h.c4, h.c5, h.c6, h.fr, h.dur, h.now, h.row, h.nd, h.nn, h.nw, h.lt⟩
theorem RSF.inner (h : RSF w g vd vw vv x) (i : Nat) (u : Value) : (∀ j, (w.setCell ⟨g, i, none⟩ u).frozen? ⟨g, j, none⟩ = false) ∧ RecL (w.setCell ⟨g, i, none⟩ u) vd x.dur ∧ RecL (w.setCell ⟨g, i, none⟩ u) vv x.now ∧ Row (w.setCell ⟨g, i, none⟩ u) 0 3 vw x.pend.length (wrsV x.pend) ∧ g < (w.setCell ⟨g, i, none⟩ u).heap.size :=
  ⟨fun j => by rw [World.frozen?_setCell]; exact h.fr j, Row.setCell h.dur h.nd _, Row.setCell h.now h.nn _, h.row.setCell (fun e => (h.nw g e).1 rfl) _, by simpa [World.setCell] using h.lt⟩
theorem RSF.setOff (h : RSF w g vd vw vv x) (u : Bool) : RSF (w.setCell ⟨g, 3, none⟩ (.bool u)) g vd vw vv { x with off := u } := by
  obtain ⟨q1, q2, q3, q4, q5⟩ := h.inner 3 (.bool u)
  exact { c0 := (cell_other (by omega) _).trans h.c0, c1 := (cell_other (by omega) _).trans h.c1, c2 := (cell_other (by omega) _).trans h.c2, c3 := cell_set h.c3 _, c4 := (cell_other (by omega) _).trans h.c4, c5 := (cell_other (by omega) _).trans h.c5, c6 := (cell_other (by omega) _).trans h.c6, fr := q1, dur := q2, now := q3, row := q4, nd := h.nd, nn := h.nn, nw := h.nw, lt := q5 }
theorem RSF.setLeft (h : RSF w g vd vw vv x) (u : Int) : RSF (w.setCell ⟨g, 4, none⟩ (.int .i64 u)) g vd vw vv { x with left := u } := by
  obtain ⟨q1, q2, q3, q4, q5⟩ := h.inner 4 (.int .i64 u)
  exact { c0 := (cell_other (by omega) _).trans h.c0, c1 := (cell_other (by omega) _).trans h.c1, c2 := (cell_other (by omega) _).trans h.c2, c3 := (cell_other (by omega) _).trans h.c3, c4 := cell_set h.c4 _, c5 := (cell_other (by omega) _).trans h.c5, c6 := (cell_other (by omega) _).trans h.c6, fr := q1, dur := q2, now := q3, row := q4, nd := h.nd, nn := h.nn, nw := h.nw, lt := q5 }
theorem RSF.setAge (h : RSF w g vd vw vv x) (u : Int) : RSF (w.setCell ⟨g, 5, none⟩ (.int .i64 u)) g vd vw vv { x with age := u } := by
  obtain ⟨q1, q2, q3, q4, q5⟩ := h.inner 5 (.int .i64 u)
  exact { c0 := (cell_other (by omega) _).trans h.c0, c1 := (cell_other (by omega) _).trans h.c1, c2 := (cell_other (by omega) _).trans h.c2, c3 := (cell_other (by omega) _).trans h.c3, c4 := (cell_other (by omega) _).trans h.c4, c5 := cell_set h.c5 _, c6 := (cell_other (by omega) _).trans h.c6, fr := q1, dur := q2, now := q3, row := q4, nd := h.nd, nn := h.nn, nw := h.nw, lt := q5 }
theorem RSF.setView (h : RSF w g vd vw vv x) {u : Value} {l : List Rec} (hl : RecL w u l) (hg : u.ownBlock ≠ some g) (hn : ∀ k, vw.ownBlock = some k → u.ownBlock ≠ some k) : RSF (w.setCell ⟨g, 6, none⟩ u) g vd vw u { x with now := l } := by
  obtain ⟨q1, q2, q3, q4, q5⟩ := h.inner 6 u
  exact { c0 := (cell_other (by omega) _).trans h.c0, c1 := (cell_other (by omega) _).trans h.c1, c2 := (cell_other (by omega) _).trans h.c2, c3 := (cell_other (by omega) _).trans h.c3, c4 := (cell_other (by omega) _).trans h.c4, c5 := (cell_other (by omega) _).trans h.c5, c6 := cell_set h.c6 _, fr := q1, dur := q2, now := Row.setCell hl hg _, row := q4, nd := h.nd, nn := hg, nw := fun k hk => ⟨(h.nw k hk).1, (h.nw k hk).2.1, hn k hk⟩, lt := q5 }
theorem RSF.setDur (h : RSF w g vd vw vv x) {u : Value} {l : List Rec} (hl : RecL w u l) (hg : u.ownBlock ≠ some g) (hn : ∀ k, vw.ownBlock = some k → u.ownBlock ≠ some k) : RSF (w.setCell ⟨g, 1, none⟩ u) g u vw vv { x with dur := l } := by
  obtain ⟨q1, q2, q3, q4, q5⟩ := h.inner 1 u
  exact { c0 := (cell_other (by omega) _).trans h.c0, c1 := cell_set h.c1 _, c2 := (cell_other (by omega) _).trans h.c2, c3 := (cell_other (by omega) _).trans h.c3, c4 := (cell_other (by omega) _).trans h.c4, c5 := (cell_other (by omega) _).trans h.c5, c6 := (cell_other (by omega) _).trans h.c6, fr := q1, dur := Row.setCell hl hg _, now := q3, row := q4, nd := hg, nn := h.nn, nw := fun k hk => ⟨(h.nw k hk).1, hn k hk, (h.nw k hk).2.2⟩, lt := q5 }
theorem RSF.clear (h : RSF w g vd vw vv x)  : RSF (w.setCell ⟨g, 2, none⟩ (.slice none 0 0)) g vd (.slice none 0 0) vv { x with pend := [] } := by
  obtain ⟨q1, q2, q3, q4, q5⟩ := h.inner 2 (.slice none 0 0)
  exact { c0 := (cell_other (by omega) _).trans h.c0, c1 := (cell_other (by omega) _).trans h.c1, c2 := cell_set h.c2 _, c3 := (cell_other (by omega) _).trans h.c3, c4 := (cell_other (by omega) _).trans h.c4, c5 := (cell_other (by omega) _).trans h.c5, c6 := (cell_other (by omega) _).trans h.c6, fr := q1, dur := q2, now := q3, row := Row.nil _ 0 3, nd := h.nd, nn := h.nn, nw := fun k hk => (by cases hk), lt := q5 }
/-- A write more is pending. -/
theorem RSF.append {v' : Value} {l : List Wr} (h : RSF w g vd vw vv x) (hr : Row w' 0 3 v' l.length (wrsV l)) (hg : w.grownBy w' vw.ownBlock) (hv : v'.ownBlock = vw.ownBlock ∨ ∃ m, v'.ownBlock = some m ∧ w.heap.size ≤ m) :
    RSF (w'.setCell ⟨g, 2, none⟩ v') g vd v' vv { x with pend := l } := by
  have ht : Touch vw.ownBlock.toList w w' := (Touch.refl _ _).grown hg (fun k hk => by simp [hk])
  have n1 : g ∉ vw.ownBlock.toList := fun e => (h.nw g (by simpa using e)).1 rfl
  have hc : ∀ j, w'.cell? ⟨g, j, none⟩ = w.cell? ⟨g, j, none⟩ := fun j => ht.cell (p := ⟨g, j, none⟩) h.lt n1
  have hd : RecL w' vd x.dur := Row.touch h.dur ht (fun k hk e => (h.nw k (by simpa using e)).2.1 hk)
  have hn : RecL w' vv x.now := Row.touch h.now ht (fun k hk e => (h.nw k (by simpa using e)).2.2 hk)
  have hnw : ∀ k, v'.ownBlock = some k → k ≠ g ∧ vd.ownBlock ≠ some k ∧ vv.ownBlock ≠ some k := by
    intro k hk
    rcases hv with e | ⟨m, e, hm⟩
    · exact h.nw k (by rw [← e]; exact hk)
    · rw [e] at hk; injection hk with hk
      have := h.lt
      refine ⟨by omega, fun e2 => ?_, fun e2 => ?_⟩
      · have := rsf_row h.dur e2; omega
      · have := rsf_row h.now e2; omega
  exact { c0 := (cell_other (by omega) _).trans ((hc 0).trans h.c0), c1 := (cell_other (by omega) _).trans ((hc 1).trans h.c1), c2 := cell_set ((hc 2).trans h.c2) _, c3 := (cell_other (by omega) _).trans ((hc 3).trans h.c3), c4 := (cell_other (by omega) _).trans ((hc 4).trans h.c4), c5 := (cell_other (by omega) _).trans ((hc 5).trans h.c5), c6 := (cell_other (by omega) _).trans ((hc 6).trans h.c6),
          fr := fun j => by rw [World.frozen?_setCell]; exact (ht.frozen (p := ⟨g, j, none⟩) h.lt n1).trans (h.fr j), dur := Row.setCell hd h.nd _, now := Row.setCell hn h.nn _,
          row := hr.setCell (fun e => (hnw g e).1 rfl) _, nd := h.nd, nn := h.nn, nw := hnw, lt := by have := ht.size; have := h.lt; simp [World.setCell]; omega }
/-- What a call leaves of a reference's store. -/
def RKept (w : World) (g : Nat) (vd vw vv : Value) (x' : Fld) (w' : World) : Prop :=
  ∃ vd' vw' vv', RSF w' g vd' vw' vv' x' ∧ Touch (rfoot g vd vw vv) w w' ∧ ∀ m ∈ rfoot g vd' vw' vv', m ∈ rfoot g vd vw vv ∨ w.heap.size ≤ m
theorem RKept.same (h : RSF w g vd vw vv x) : RKept w g vd vw vv x w := ⟨vd, vw, vv, h, Touch.refl _ _, fun m hm => .inl hm⟩
theorem RKept.drewN (h : RSF w g vd vw vv x) (n : Nat) : RKept w g vd vw vv x (w.drewN n) := ⟨vd, vw, vv, h.drewN n, (Touch.refl _ _).drewN n, fun m hm => .inl hm⟩
theorem RKept.keep (h : RSF w g vd vw vv x) (hb : Below w.heap.size w w') : RKept w g vd vw vv x w' := ⟨vd, vw, vv, h.keep hb, Touch.below hb _, fun m hm => .inl hm⟩
end
set_option maxRecDepth 100000 in
theorem rdies_calls (w : World) (g : Nat) (vd vw vv : Value) (x : Fld) (h : RSF w g vd vw vv x) (hl0 : 0 ≤ x.left) (hl1 : x.left ≤ 9223372036854775807) :
    Calls Tryz.prog 17 #[.pointer (some ⟨g, 0, none⟩)] w fun e w' => e = .returned (.bool (strikesB x.left)) ∧ RSF w' g vd vw vv x.struck ∧ Touch [g] w w' ∧ w'.heap.size = w.heap.size := by
  have c3 := h.c3
  have c4 := h.c4
  have f3 := h.fr 3
  have f4 := h.fr 4
  have H := Lib.hid h
  obtain ⟨room, now, dur, pend, used, off, left, age⟩ := x
  simp only at c3 c4 hl0 hl1
  by_cases hz : left = 0
  · have H1 : Hid (RSF w g vd vw vv (Fld.struck ⟨room, now, dur, pend, used, off, left, age⟩)) := Lib.hid (by unfold Fld.struck; rw [if_pos hz]; exact H.out)
    have hb : strikesB left = false := decide_eq_false (by omega)
    simp only [hb]
    subst hz
    clear h hb
    go_enter Tryz.func17, Tryz.ntmps17
    go_wp2
    go_ret
    exact ⟨rfl, H1.out, Touch.refl _ _, rfl⟩
  · have H1 : Hid (RSF ((w.setCell ⟨g, 4, none⟩ (.int .i64 (left - 1))).setCell ⟨g, 3, none⟩ (.bool (decide (left = 1)))) g vd vw vv (Fld.struck ⟨room, now, dur, pend, used, off, left, age⟩)) :=
      Lib.hid (by unfold Fld.struck; rw [if_neg hz]; exact (H.out.setLeft (left - 1)).setOff (decide (left = 1)))
    have ht : Hid (Touch [g] w ((w.setCell ⟨g, 4, none⟩ (.int .i64 (left - 1))).setCell ⟨g, 3, none⟩ (.bool (decide (left = 1))))) := Lib.hid (((Touch.refl _ _).setCell (.inl (by simp)) _).setCell (.inl (by simp)) _)
    have hzb : (left == 0) = false := by rw [beq_eq_false_iff_ne]; exact hz
    by_cases h1 : left = 1
    · have hb : strikesB left = true := decide_eq_true h1
      simp only [hb]
      subst h1
      clear h hb hz
      go_enter Tryz.func17, Tryz.ntmps17
      go_wp2
      go_ret
      exact ⟨rfl, H1.out, ht.out, by simp [World.setCell]⟩
    · have hb : strikesB left = false := decide_eq_false h1
      have hd : decide (left = 1) = false := decide_eq_false h1
      rw [hd] at H1 ht
      have hnz : (left - 1 == 0) = false := by rw [beq_eq_false_iff_ne]; omega
      simp only [hb]
      clear h hb hz hd
      go_enter Tryz.func17, Tryz.ntmps17
      go_wp2
      go_ret
      exact ⟨rfl, H1.out, ht.out, by simp [World.setCell]⟩
theorem rdown_calls (w : World) (g : Nat) (vd vw vv : Value) (x : Fld) (h : RSF w g vd vw vv x) : Calls Tryz.prog 40 #[.pointer (some ⟨g, 0, none⟩)] w fun e w' => e = .returned (.bool x.off) ∧ w = w' := by
  have c := h.c3
  clear h
  go_enter Tryz.func40, Tryz.ntmps40
  go_wp2
  go_ret
  exact ⟨rfl, rfl⟩
end Go.Proofs.YtegplajddhiejaaGreat
