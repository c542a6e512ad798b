import Derived.Test.YtegplajddhiejaaGreatSt1
set_option linter.unusedVariables false
namespace Go.Proofs.YtegplajddhiejaaGreat
open Go.RowKit Go.WideMaps Go.Maps Go.MapKept
/-- A store's fields, as they stand. -/
structure Fld where
  room : Int
  now : List Rec
  dur : List Rec
  pend : List Wr
  used : Int
  off : Bool
  left : Int
  age : Int
def wrV (x : Wr) : List Value := [.string x.key, .string x.data, .bool x.cut]
def wrsV (l : List Wr) : List Value := l.flatMap wrV
theorem wrsV_len : ∀ l : List Wr, (wrsV l).length = l.length * 3
  | [] => rfl
  | x :: r => by
    have ih := wrsV_len r
    unfold wrsV at *
    rw [List.flatMap_cons, List.length_append, ih]; simp [wrV]; omega
theorem wrsV_snoc (l : List Wr) (x : Wr) : wrsV (l ++ [x]) = wrsV l ++ wrV x := by simp [wrsV]
theorem wrsV_one : ∀ (l : List Wr), ∀ u ∈ wrsV l, u.oneCell' = true := by
  intro l u hu
  simp only [wrsV, List.mem_flatMap] at hu
  obtain ⟨x, _, hx⟩ := hu
  simp only [wrV, List.mem_cons, List.not_mem_nil, or_false] at hx
  rcases hx with rfl | rfl | rfl <;> rfl
theorem wrsV_at : ∀ (l : List Wr) (j : Nat) (h : j < l.length), (wrsV l)[j * 3]? = some (.string l[j].key) ∧ (wrsV l)[j * 3 + 1]? = some (.string l[j].data) ∧ (wrsV l)[j * 3 + 2]? = some (.bool l[j].cut)
  | x :: r, 0, _ => ⟨rfl, rfl, rfl⟩
  | x :: r, j + 1, h => by
    have ih := wrsV_at r j (by simpa using h)
    have e : wrsV (x :: r) = wrV x ++ wrsV r := by simp [wrsV]
    have h3 : (wrV x).length = 3 := rfl
    rw [e, List.getElem?_append_right (by omega), List.getElem?_append_right (by omega), List.getElem?_append_right (by omega), h3,
      show (j + 1) * 3 - 3 = j * 3 by omega, show (j + 1) * 3 + 1 - 3 = j * 3 + 1 by omega, show (j + 1) * 3 + 2 - 3 = j * 3 + 2 by omega]
    simpa using ih
/-- The store at block g: its fields, its two maps, its pending writes. -/
structure PSF (w : World) (g bn bd : Nat) (v : Value) (x : Fld) : Prop where
  c0 : w.cell? ⟨g, 0, none⟩ = some (.int .i64 x.room)
  c1 : w.cell? ⟨g, 1, none⟩ = some (.map (some bn))
  c2 : w.cell? ⟨g, 2, none⟩ = some (.map (some bd))
  c3 : w.cell? ⟨g, 3, none⟩ = some (v)
  c4 : w.cell? ⟨g, 4, none⟩ = some (.int .i64 x.used)
  c5 : w.cell? ⟨g, 5, none⟩ = some (.bool x.off)
  c6 : w.cell? ⟨g, 6, none⟩ = some (.int .i64 x.left)
  c7 : w.cell? ⟨g, 7, none⟩ = some (.int .i64 x.age)
  fr : ∀ j, w.frozen? ⟨g, j, none⟩ = false
  now : SMap w bn x.now
  dur : SMap w bd x.dur
  row : Row w 0 3 v x.pend.length (wrsV x.pend)
  ne1 : g ≠ bn
  ne2 : g ≠ bd
  ne3 : bn ≠ bd
  nv : ∀ k, v.ownBlock = some k → k ≠ g ∧ k ≠ bn ∧ k ≠ bd
  lt : g < w.heap.size
/-- The blocks of a store. -/
def foot (g bn bd : Nat) (v : Value) : List Nat := g :: bn :: bd :: v.ownBlock.toList
theorem mem_foot {g bn bd k : Nat} {v : Value} : k ∈ foot g bn bd v ↔ k = g ∨ k = bn ∨ k = bd ∨ v.ownBlock = some k := by
  unfold foot
  cases h : v.ownBlock <;> simp [eq_comm]
section
variable {w w' : World} {g bn bd : Nat} {v : Value} {x : Fld}
theorem PSF.foot_lt (h : PSF w g bn bd v x) : ∀ k ∈ foot g bn bd v, k < w.heap.size := by
  intro k hk
  rcases mem_foot.1 hk with rfl | rfl | rfl | hk
  · exact h.lt
  · exact h.now.lt
  · exact h.dur.lt
  · exact (h.row.lt k hk).2
theorem PSF.touch {F : List Nat} (h : PSF w g bn bd v x) (ht : Touch F w w') (hn : ∀ k ∈ foot g bn bd v, k ∉ F) : PSF w' g bn bd v x := by
  have hg := hn g (mem_foot.2 (.inl rfl))
  have hc : ∀ j, w'.cell? ⟨g, j, none⟩ = w.cell? ⟨g, j, none⟩ := fun j => ht.cell (p := ⟨g, j, none⟩) h.lt hg
  exact { c0 := (hc 0).trans h.c0, c1 := (hc 1).trans h.c1, c2 := (hc 2).trans h.c2, c3 := (hc 3).trans h.c3, c4 := (hc 4).trans h.c4, c5 := (hc 5).trans h.c5, c6 := (hc 6).trans h.c6, c7 := (hc 7).trans h.c7,
          fr := fun j => (ht.frozen (p := ⟨g, j, none⟩) h.lt hg).trans (h.fr j), now := h.now.touch ht (hn bn (mem_foot.2 (.inr (.inl rfl)))), dur := h.dur.touch ht (hn bd (mem_foot.2 (.inr (.inr (.inl rfl))))),
          row := h.row.touch ht (fun k hk => hn k (mem_foot.2 (.inr (.inr (.inr hk))))), ne1 := h.ne1, ne2 := h.ne2, ne3 := h.ne3, nv := h.nv, lt := Nat.lt_of_lt_of_le h.lt ht.size }
theorem PSF.keep (h : PSF w g bn bd v x) (hb : Below w.heap.size w w') : PSF w' g bn bd v x := h.touch (Touch.below hb []) (fun k _ => by simp)
theorem PSF.alloc (h : PSF w g bn bd v x) (o : Obj) : PSF (w.alloc o) g bn bd v x := h.keep ((Below.refl _ _).alloc (Nat.le_refl _) o)
theorem PSF.drewN (h : PSF w g bn bd v x) (n : Nat) : PSF (w.drewN n) g bn bd v x := ⟨h.c0, h.c1, h.c2, h.c3, h.c4, h.c5, h.c6, h.c7, h.fr, h.now, h.dur, h.row, h.ne1, h.ne2, h.ne3, h.nv, h.lt⟩
theorem PSF.drew (h : PSF w g bn bd v x) : PSF w.drew g bn bd v x := ⟨h.c0, h.c1, h.c2, h.c3, h.c4, h.c5, h.c6, h.c7, h.fr, h.now, h.dur, h.row, h.ne1, h.ne2, h.ne3, h.nv, h.lt⟩
/-- A cell outside is written. -/
theorem PSF.setOut (h : PSF w g bn bd v x) {p : Addr} (hp : p.block ∉ foot g bn bd v) (u : Value) : PSF (w.setCell p u) g bn bd v x :=
  h.touch (F := [p.block]) ((Touch.refl _ _).setCell (.inl (by simp)) u) (fun k hk e => hp (by simp at e; rw [← e]; exact hk))
/-- The map of what is there has turned. -/
theorem PSF.putNow {l : List Rec} (h : PSF w g bn bd v x) (hg : w.grownBy w' (some bn)) (hs : SMap w' bn l) : PSF w' g bn bd v { x with now := l } := by
  have ht : Touch [bn] w w' := (Touch.refl _ _).grown hg (fun k hk => by injection hk with hk; simp [hk])
  have hc : ∀ j, w'.cell? ⟨g, j, none⟩ = w.cell? ⟨g, j, none⟩ := fun j => ht.cell (p := ⟨g, j, none⟩) h.lt (by simpa using h.ne1)
  exact { c0 := (hc 0).trans h.c0, c1 := (hc 1).trans h.c1, c2 := (hc 2).trans h.c2, c3 := (hc 3).trans h.c3, c4 := (hc 4).trans h.c4, c5 := (hc 5).trans h.c5, c6 := (hc 6).trans h.c6, c7 := (hc 7).trans h.c7,
          fr := fun j => (ht.frozen (p := ⟨g, j, none⟩) h.lt (by simpa using h.ne1)).trans (h.fr j), now := hs, dur := h.dur.touch ht (by simpa using h.ne3.symm),
          row := h.row.touch ht (fun k hk => by simpa using (h.nv k hk).2.1), ne1 := h.ne1, ne2 := h.ne2, ne3 := h.ne3, nv := h.nv, lt := Nat.lt_of_lt_of_le h.lt ht.size }
theorem PSF.putDur {l : List Rec} (h : PSF w g bn bd v x) (hg : w.grownBy w' (some bd)) (hs : SMap w' bd l) : PSF w' g bn bd v { x with dur := l } := by
  have ht : Touch [bd] w w' := (Touch.refl _ _).grown hg (fun k hk => by injection hk with hk; simp [hk])
  have hc : ∀ j, w'.cell? ⟨g, j, none⟩ = w.cell? ⟨g, j, none⟩ := fun j => ht.cell (p := ⟨g, j, none⟩) h.lt (by simpa using h.ne2)
  exact { c0 := (hc 0).trans h.c0, c1 := (hc 1).trans h.c1, c2 := (hc 2).trans h.c2, c3 := (hc 3).trans h.c3, c4 := (hc 4).trans h.c4, c5 := (hc 5).trans h.c5, c6 := (hc 6).trans h.c6, c7 := (hc 7).trans h.c7,
          fr := fun j => (ht.frozen (p := ⟨g, j, none⟩) h.lt (by simpa using h.ne2)).trans (h.fr j), now := h.now.touch ht (by simpa using h.ne3), dur := hs,
          row := h.row.touch ht (fun k hk => by simpa using (h.nv k hk).2.2), ne1 := h.ne1, ne2 := h.ne2, ne3 := h.ne3, nv := h.nv, lt := Nat.lt_of_lt_of_le h.lt ht.size }
theorem cell_set {w : World} {g i : Nat} {u0 : Value} (h : w.cell? ⟨g, i, none⟩ = some u0) (u : Value) : (w.setCell ⟨g, i, none⟩ u).cell? ⟨g, i, none⟩ = some u := World.cell?_setCell_same (h := h) ..
theorem cell_other {w : World} {g i j : Nat} (h : i ≠ j) (u : Value) : (w.setCell ⟨g, i, none⟩ u).cell? ⟨g, j, none⟩ = w.cell? ⟨g, j, none⟩ := World.cell?_setCell_other (h := fun e => h (by injection e)) ..
theorem PSF.inner (h : PSF w g bn bd v x) (i : Nat) (u : Value) : (∀ j, (w.setCell ⟨g, i, none⟩ u).frozen? ⟨g, j, none⟩ = false) ∧ SMap (w.setCell ⟨g, i, none⟩ u) bn x.now ∧ SMap (w.setCell ⟨g, i, none⟩ u) bd x.dur ∧ Row (w.setCell ⟨g, i, none⟩ u) 0 3 v x.pend.length (wrsV x.pend) ∧ g < (w.setCell ⟨g, i, none⟩ u).heap.size :=
  ⟨fun j => by rw [World.frozen?_setCell]; exact h.fr j, h.now.setCell h.ne1.symm _, h.dur.setCell h.ne2.symm _, h.row.setCell (fun e => (h.nv g e).1 rfl) _, by simpa [World.setCell] using h.lt⟩
theorem PSF.setUsed (h : PSF w g bn bd v x) (u : Int) : PSF (w.setCell ⟨g, 4, none⟩ (.int .i64 u)) g bn bd v { x with used := u } := by
  obtain ⟨q1, q2, q3, q4, q5⟩ := h.inner 4 (.int .i64 u)
  exact { c0 := (cell_other (by omega) _).trans h.c0, c1 := (cell_other (by omega) _).trans h.c1, c2 := (cell_other (by omega) _).trans h.c2, c3 := (cell_other (by omega) _).trans h.c3, c4 := cell_set h.c4 _, c5 := (cell_other (by omega) _).trans h.c5, c6 := (cell_other (by omega) _).trans h.c6, c7 := (cell_other (by omega) _).trans h.c7, fr := q1, now := q2, dur := q3, row := q4, ne1 := h.ne1, ne2 := h.ne2, ne3 := h.ne3, nv := h.nv, lt := q5 }
theorem PSF.setOff (h : PSF w g bn bd v x) (u : Bool) : PSF (w.setCell ⟨g, 5, none⟩ (.bool u)) g bn bd v { x with off := u } := by
  obtain ⟨q1, q2, q3, q4, q5⟩ := h.inner 5 (.bool u)
  exact { c0 := (cell_other (by omega) _).trans h.c0, c1 := (cell_other (by omega) _).trans h.c1, c2 := (cell_other (by omega) _).trans h.c2, c3 := (cell_other (by omega) _).trans h.c3, c4 := (cell_other (by omega) _).trans h.c4, c5 := cell_set h.c5 _, c6 := (cell_other (by omega) _).trans h.c6, c7 := (cell_other (by omega) _).trans h.c7, fr := q1, now := q2, dur := q3, row := q4, ne1 := h.ne1, ne2 := h.ne2, ne3 := h.ne3, nv := h.nv, lt := q5 }
theorem PSF.setLeft (h : PSF w g bn bd v x) (u : Int) : PSF (w.setCell ⟨g, 6, none⟩ (.int .i64 u)) g bn bd v { x with left := u } := by
  obtain ⟨q1, q2, q3, q4, q5⟩ := h.inner 6 (.int .i64 u)
  exact { c0 := (cell_other (by omega) _).trans h.c0, c1 := (cell_other (by omega) _).trans h.c1, c2 := (cell_other (by omega) _).trans h.c2, c3 := (cell_other (by omega) _).trans h.c3, c4 := (cell_other (by omega) _).trans h.c4, c5 := (cell_other (by omega) _).trans h.c5, c6 := cell_set h.c6 _, c7 := (cell_other (by omega) _).trans h.c7, fr := q1, now := q2, dur := q3, row := q4, ne1 := h.ne1, ne2 := h.ne2, ne3 := h.ne3, nv := h.nv, lt := q5 }
theorem PSF.setAge (h : PSF w g bn bd v x) (u : Int) : PSF (w.setCell ⟨g, 7, none⟩ (.int .i64 u)) g bn bd v { x with age := u } := by
  obtain ⟨q1, q2, q3, q4, q5⟩ := h.inner 7 (.int .i64 u)
  exact { c0 := (cell_other (by omega) _).trans h.c0, c1 := (cell_other (by omega) _).trans h.c1, c2 := (cell_other (by omega) _).trans h.c2, c3 := (cell_other (by omega) _).trans h.c3, c4 := (cell_other (by omega) _).trans h.c4, c5 := (cell_other (by omega) _).trans h.c5, c6 := (cell_other (by omega) _).trans h.c6, c7 := cell_set h.c7 _, fr := q1, now := q2, dur := q3, row := q4, ne1 := h.ne1, ne2 := h.ne2, ne3 := h.ne3, nv := h.nv, lt := q5 }
/-- Another map takes the place of what is there. -/
theorem PSF.setNow {bm : Nat} {l : List Rec} (h : PSF w g bn bd v x) (hs : SMap w bm l) (h1 : g ≠ bm) (h2 : bm ≠ bd) (h3 : ∀ k, v.ownBlock = some k → k ≠ bm) : PSF (w.setCell ⟨g, 1, none⟩ (.map (some bm))) g bm bd v { x with now := l } := by
  obtain ⟨q1, q2, q3, q4, q5⟩ := h.inner 1 (.map (some bm))
  exact { c0 := (cell_other (by omega) _).trans h.c0, c1 := cell_set h.c1 _, c2 := (cell_other (by omega) _).trans h.c2, c3 := (cell_other (by omega) _).trans h.c3, c4 := (cell_other (by omega) _).trans h.c4, c5 := (cell_other (by omega) _).trans h.c5, c6 := (cell_other (by omega) _).trans h.c6, c7 := (cell_other (by omega) _).trans h.c7, fr := q1, now := hs.setCell h1.symm _, dur := q3, row := q4, ne1 := h1, ne2 := h.ne2, ne3 := h2, nv := fun k hk => ⟨(h.nv k hk).1, h3 k hk, (h.nv k hk).2.2⟩, lt := q5 }
/-- Nothing is pending any more. -/
theorem PSF.clear (h : PSF w g bn bd v x) : PSF (w.setCell ⟨g, 3, none⟩ (.slice none 0 0)) g bn bd (.slice none 0 0) { x with pend := [] } := by
  obtain ⟨q1, q2, q3, q4, q5⟩ := h.inner 3 (.slice none 0 0)
  exact { c0 := (cell_other (by omega) _).trans h.c0, c1 := (cell_other (by omega) _).trans h.c1, c2 := (cell_other (by omega) _).trans h.c2, c3 := cell_set h.c3 _, c4 := (cell_other (by omega) _).trans h.c4, c5 := (cell_other (by omega) _).trans h.c5, c6 := (cell_other (by omega) _).trans h.c6, c7 := (cell_other (by omega) _).trans h.c7, fr := q1, now := q2, dur := q3, row := Row.nil _ 0 3, ne1 := h.ne1, ne2 := h.ne2, ne3 := h.ne3, nv := fun k hk => (by cases hk), lt := q5 }
/-- A write more is pending. -/
theorem PSF.append {v' : Value} {l : List Wr} (h : PSF w g bn bd v x) (hr : Row w' 0 3 v' l.length (wrsV l)) (hg : w.grownBy w' v.ownBlock) (hv : v'.ownBlock = v.ownBlock ∨ ∃ m, v'.ownBlock = some m ∧ w.heap.size ≤ m) :
    PSF (w'.setCell ⟨g, 3, none⟩ v') g bn bd v' { x with pend := l } := by
  have ht : Touch v.ownBlock.toList w w' := (Touch.refl _ _).grown hg (fun k hk => by simp [hk])
  have n1 : g ∉ v.ownBlock.toList := fun e => (h.nv g (by simpa using e)).1 rfl
  have n2 : bn ∉ v.ownBlock.toList := fun e => (h.nv bn (by simpa using e)).2.1 rfl
  have n3 : bd ∉ v.ownBlock.toList := fun e => (h.nv bd (by simpa using e)).2.2 rfl
  have hc : ∀ j, w'.cell? ⟨g, j, none⟩ = w.cell? ⟨g, j, none⟩ := fun j => ht.cell (p := ⟨g, j, none⟩) h.lt n1
  have hnv : ∀ k, v'.ownBlock = some k → k ≠ g ∧ k ≠ bn ∧ k ≠ bd := by
    intro k hk
    rcases hv with e | ⟨m, e, hm⟩
    · exact h.nv k (by rw [← e]; exact hk)
    · rw [e] at hk; injection hk with hk
      have := h.lt; have := h.now.lt; have := h.dur.lt
      omega
  exact { c0 := (cell_other (by omega) _).trans ((hc 0).trans h.c0), c1 := (cell_other (by omega) _).trans ((hc 1).trans h.c1), c2 := (cell_other (by omega) _).trans ((hc 2).trans h.c2), c3 := cell_set ((hc 3).trans h.c3) _, c4 := (cell_other (by omega) _).trans ((hc 4).trans h.c4), c5 := (cell_other (by omega) _).trans ((hc 5).trans h.c5), c6 := (cell_other (by omega) _).trans ((hc 6).trans h.c6), c7 := (cell_other (by omega) _).trans ((hc 7).trans h.c7),
          fr := fun j => by rw [World.frozen?_setCell]; exact (ht.frozen (p := ⟨g, j, none⟩) h.lt n1).trans (h.fr j), now := (h.now.touch ht n2).setCell h.ne1.symm _, dur := (h.dur.touch ht n3).setCell h.ne2.symm _,
          row := hr.setCell (fun e => (hnv g e).1 rfl) _, ne1 := h.ne1, ne2 := h.ne2, ne3 := h.ne3, nv := hnv, lt := by have := ht.size; have := h.lt; simp [World.setCell]; omega }
end
end Go.Proofs.YtegplajddhiejaaGreat
