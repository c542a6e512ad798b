import Derived.Test.YtegplajddhiejaaGreatProg
import Derived.WalkKit
import Derived.Lib.Hide
import Derived.Below
import Derived.Deep.Upon
import Derived.Deep.AppendSrc
import Derived.Lib.ConvBytes
import Derived.Laws.IdiomStrings
import Derived.Laws.BytesArg
import Derived.LoopTactic
import Derived.Deep.QuietTactic
import Derived.RegionTactic
set_option linter.unusedVariables false
namespace Go.Proofs.YtegplajddhiejaaGreat
open Go.RowKit
/-- A slice of the call's own, told by its cells: n elements of so many cells each, xs. -/
def Row (w : World) (base size : Nat) (v : Value) (n : Nat) (xs : List Value) : Prop :=
  xs.length = n * size ∧ ((v = .slice none 0 0 ∧ n = 0) ∨ ∃ g cap, v = .slice (some ⟨g, 0, none⟩) n cap ∧ base ≤ g ∧ g < w.heap.size ∧ n ≤ cap ∧ cap ≤ maxLen ∧
    (∀ j u, xs[j]? = some u → w.cell? ⟨g, j, none⟩ = some u) ∧ ∀ j, j < cap * size → (w.cell? ⟨g, j, none⟩).isSome = true ∧ w.frozen? ⟨g, j, none⟩ = false)
section
variable {w w' : World} {base size n : Nat} {v : Value} {xs : List Value}
theorem Row.nil (w : World) (base size : Nat) : Row w base size (.slice none 0 0) 0 [] := ⟨by simp, .inl ⟨rfl, rfl⟩⟩
theorem Row.slice (h : Row w base size v n xs) : ∃ a cap, v = .slice a n cap := by
  rcases h.2 with ⟨rfl, rfl⟩ | ⟨g, cap, rfl, _⟩
  · exact ⟨_, _, rfl⟩
  · exact ⟨_, _, rfl⟩
theorem Row.lt (h : Row w base size v n xs) (k : Nat) (hk : v.ownBlock = some k) : base ≤ k ∧ k < w.heap.size := by
  rcases h.2 with ⟨rfl, rfl⟩ | ⟨g, cap, rfl, hb, hg, _⟩
  · cases hk
  · obtain rfl : g = k := by simpa [Value.ownBlock] using hk
    exact ⟨hb, hg⟩
theorem Row.of (h : Row w base size v n xs) (hs : w.heap.size ≤ w'.heap.size) (hk : ∀ k, v.ownBlock = some k → w'.heap[k]? = w.heap[k]?) : Row w' base size v n xs := by
  refine ⟨h.1, ?_⟩
  rcases h.2 with h2 | ⟨g, cap, rfl, hb, hg, hc, hm, hx, ht⟩
  · exact .inl h2
  · have e := hk g rfl
    refine .inr ⟨g, cap, rfl, hb, by omega, hc, hm, fun j u hu => ?_, fun j hj => ?_⟩
    · rw [World.cell?_of_block (a := ⟨g, j, none⟩) e]; exact hx j u hu
    · rw [World.cell?_of_block (a := ⟨g, j, none⟩) e, World.frozen?_of_block (a := ⟨g, j, none⟩) e]; exact ht j hj
theorem Row.below {B : Nat} (h : Row w base size v n xs) (hb : Below B w w') (hB : ∀ k, v.ownBlock = some k → k < B) : Row w' base size v n xs := h.of hb.size fun k hk => hb.block k (hB k hk)
theorem Row.keep (h : Row w base size v n xs) (hb : Below w.heap.size w w') : Row w' base size v n xs := h.below hb fun k hk => (h.lt k hk).2
theorem Row.grown {row : Option Nat} (h : Row w base size v n xs) (hg : w.grownBy w' row) (hne : v.ownBlock = none ∨ v.ownBlock ≠ row) : Row w' base size v n xs :=
  h.of hg.size fun k hk => hg.block k (h.lt k hk).2 (fun e => by rcases hne with hn | hn; · rw [hn] at hk; cases hk
                                                                 · exact hn (hk.trans e))
theorem Row.alloc (h : Row w base size v n xs) (o : Obj) : Row (w.alloc o) base size v n xs := h.of (by simp) fun k hk => Below.heap_alloc w o k (h.lt k hk).2
theorem Row.drew (h : Row w base size v n xs) : Row w.drew base size v n xs := h
theorem Row.drewN (h : Row w base size v n xs) (m : Nat) : Row (w.drewN m) base size v n xs := h
theorem Row.setCell (h : Row w base size v n xs) {p : Addr} (hp : v.ownBlock ≠ some p.block) (u : Value) : Row (w.setCell p u) base size v n xs :=
  h.of (by simp [World.setCell]) fun k hk => Below.heap_setCell w p u k (fun e => hp (by rw [hk, e]))
theorem Row.mono {base' : Nat} (h : Row w base size v n xs) (hb : base' ≤ base) : Row w base' size v n xs := by
  refine ⟨h.1, ?_⟩
  rcases h.2 with h2 | ⟨g, cap, rfl, hb', r⟩
  · exact .inl h2
  · exact .inr ⟨g, cap, rfl, by omega, r⟩
theorem Row.form (h : Row w base size v n xs) : (v = .slice none 0 0 ∧ n = 0 ∧ xs = []) ∨ ∃ g cap, v = .slice (some ⟨g, 0, none⟩) n cap ∧ base ≤ g ∧ g < w.heap.size ∧ n ≤ cap ∧ cap ≤ maxLen ∧
    (∀ j u, xs[j]? = some u → w.cell? ⟨g, j, none⟩ = some u) ∧ ∀ j, j < cap * size → w.frozen? ⟨g, j, none⟩ = false := by
  rcases h.2 with ⟨rfl, rfl⟩ | ⟨g, cap, rfl, hb, hg, hc, hm, hx, ht⟩
  · exact .inl ⟨rfl, rfl, List.eq_nil_of_length_eq_zero (by simpa using h.1)⟩
  · exact .inr ⟨g, cap, rfl, hb, hg, hc, hm, hx, fun j hj => (ht j hj).2⟩
/-- What the row yields to an append. -/
theorem Row.src {P : Program} {tx e' : TypeId} (h : Row w base size v n xs) (hk : P.underlying tx = some (.slice e')) (h1 : ∀ u ∈ xs, u.oneCell' = true) : Src P size tx v n xs w := by
  rcases h.form with ⟨rfl, rfl, rfl⟩ | ⟨g, cap, rfl, _, _, _, _, hx, _⟩
  · exact Src.ofNil w hk 0
  · exact Src.ofSlice w hk _ n cap xs h.1 (fun j u hu => by rw [show (⟨g, 0, none⟩ : Addr).add j = ⟨g, j, none⟩ by simp [Addr.add]; omega]; exact hx j u hu) h1
end
theorem row_lit (w : World) (cs : Array Value) (e : TypeId) (n size : Nat) (hn : n ≤ maxLen) (hs : cs.size = n * size) : Row (w.alloc (.cells cs e)) w.heap.size size (.slice (some ⟨w.heap.size, 0, none⟩) n n) n cs.toList := by
  refine ⟨by simpa using hs, .inr ⟨w.heap.size, n, rfl, Nat.le_refl _, by simp, Nat.le_refl _, hn, fun j u hu => ?_, fun j hj => ⟨?_, World.frozen?_alloc_new w _ _ j⟩⟩⟩
  · have e1 : (w.alloc (.cells cs e)).cell? ⟨w.heap.size, j, none⟩ = _ := World.cell?_alloc_new w _ _ j
    rw [e1]; simpa using hu
  · have e1 : (w.alloc (.cells cs e)).cell? ⟨w.heap.size, j, none⟩ = _ := World.cell?_alloc_new w _ _ j
    rw [e1, Array.getElem?_eq_getElem (by omega)]; rfl
section
variable {P : Program} (w : World)
/-- Any number of elements appended, out of whatever source. -/
theorem run_append_row (base : Nat) (t tx ty e : TypeId) (i : TypeInfo) (z : Value) (size bytes : Nat) (ht : P.underlying t = some (.slice e)) (hi : P.info? e = some i) (hz : i.zero = some z)
    (hsize : i.size = size) (hby : i.bytes = bytes) (hzs : z.cells.size = size) (v : Value) (n : Nat) (xs : List Value) (hrow : Row w base size v n xs)
    (x : Value) (m : Nat) (news : List Value) (hs : Src P size tx x m news w) (h63 : n + m ≤ maxLen) (hbytes : (n + m) * bytes ≤ 140737488355328) (hbase : base ≤ w.heap.size) :
    ∃ v' w', (Builtin.append_ #[t, tx] ty #[v, x]).run P w = .ok v' w' ∧ Row w' base size v' (n + m) (xs ++ news) ∧ w.grownBy w' v.ownBlock ∧ (v'.ownBlock = v.ownBlock ∨ v'.ownBlock = some w.heap.size) := by
  subst hsize
  subst hby
  have hnl := hs.newsLen
  have hlen : (xs ++ news).length = (n + m) * i.size := by rw [List.length_append, hrow.1, hnl, Nat.add_mul]
  have grow : ∀ (bs : Option Addr) (sc : Nat), sc < n + m → (Builtin.firstCells i.size n (.slice bs n sc)).run P w.drew = .ok xs.toArray w.drew →
      ∃ v' w', (Builtin.append_ #[t, tx] ty #[.slice bs n sc, x]).run P w = .ok v' w' ∧ Row w' base i.size v' (n + m) (xs ++ news) ∧ w.grownBy w' (Value.slice bs n sc).ownBlock ∧ (v'.ownBlock = (Value.slice bs n sc).ownBlock ∨ v'.ownBlock = some w.heap.size) := by
    intro bs sc hg hold
    have hrun := run_append_grow_src (P := P) w t tx ty e i z ht hi hz bs n sc xs hold x m news hs hg (by simp only [maxLen] at h63; omega) (growslice_fits hg hbytes)
    have hge := grownCap_ge w (n + m) sc e
    have hcm := grownCap_le_maxLen w (n + m) sc e h63
    have hsz : ((xs ++ news).toArray ++ Builtin.zeroCells z.cells (grownCap w (n + m) sc e - (n + m))).size = grownCap w (n + m) sc e * i.size := by
      rw [Array.size_append, List.size_toArray, hlen, size_zeroCells, hzs, ← Nat.add_mul]
      congr 1
      omega
    refine ⟨_, _, hrun, ⟨hlen, .inr ⟨w.heap.size, _, rfl, hbase, by simp, hge, hcm, fun j u hu => ?_, fun j hj => ⟨?_, World.frozen?_alloc_new w.drew _ _ j⟩⟩⟩, ⟨rfl, rfl, rfl, by simp, fun k hk _ => Below.heap_alloc w.drew _ k hk⟩, .inr rfl⟩
    · have e1 : (w.drew.alloc (.cells ((xs ++ news).toArray ++ Builtin.zeroCells z.cells (grownCap w (n + m) sc e - (n + m))) e)).cell? ⟨w.heap.size, j, none⟩ = _ := World.cell?_alloc_new w.drew _ _ j
      have hj := (List.getElem?_eq_some_iff.1 hu).1
      rw [e1, Array.getElem?_append_left (by simpa using hj), List.getElem?_toArray]; exact hu
    · have e1 : (w.drew.alloc (.cells ((xs ++ news).toArray ++ Builtin.zeroCells z.cells (grownCap w (n + m) sc e - (n + m))) e)).cell? ⟨w.heap.size, j, none⟩ = _ := World.cell?_alloc_new w.drew _ _ j
      rw [e1, Array.getElem?_eq_getElem (by rw [hsz]; exact hj)]; rfl
  rcases hrow.2 with ⟨rfl, rfl⟩ | ⟨g, cap, rfl, hb, hg, hc, hm, hx, hth⟩
  · have hx0 : xs = [] := List.eq_nil_of_length_eq_zero (by simpa using hrow.1)
    subst hx0
    by_cases hm0 : m = 0
    · subst hm0
      have hn0 : news = [] := List.eq_nil_of_length_eq_zero (by simpa using hnl)
      subst hn0
      exact ⟨_, _, run_append_nothing (P := P) w t tx ty e i ht hi none 0 0 (Nat.le_refl _) x hs, by simpa using hrow, ⟨rfl, rfl, rfl, Nat.le_refl _, fun _ _ _ => rfl⟩, .inl rfl⟩
    · exact grow none 0 (by omega) (run_firstCells_none w.drew i.size 0 0 0)
  · by_cases hroom : n + m ≤ cap
    · have hrc : (n + m) * i.size ≤ cap * i.size := Nat.mul_le_mul_right _ hroom
      rw [Nat.add_mul] at hrc
      have hsome : ∀ j, j < news.length → (w.cell? ⟨g, 0 + n * i.size + j, none⟩).isSome = true := fun j hj => by rw [Nat.zero_add]; exact (hth _ (by omega)).1
      have hrun := run_append_room_src (P := P) w t tx ty e i ht hi g 0 n cap x m news hs hroom hsome (fun j hj => by rw [Nat.zero_add]; exact (hth _ (by omega)).2)
      have hsz : (w.setCells g (0 + n * i.size) news).heap.size = w.heap.size := by
        have h : ∀ (vs : List Value) (o : Nat) (w : World), (w.setCells g o vs).heap.size = w.heap.size := by
          intro vs
          induction vs with
          | nil => intro o w; rfl
          | cons a r ih => intro o w; rw [World.setCells, ih]; simp [World.setCell]
        exact h _ _ _
      have hblk : ∀ k, k < w.heap.size → k ≠ g → (w.setCells g (0 + n * i.size) news).heap[k]? = w.heap[k]? := fun k hk hne => World.heap_setCells_other w g _ news hk hne
      have htape : ∀ (vs : List Value) (o : Nat) (w : World), (w.setCells g o vs).tape = w.tape := by
        intro vs
        induction vs with
        | nil => intro o w; rfl
        | cons a r ih => intro o w; rw [World.setCells, ih]; rfl
      refine ⟨_, _, hrun, ⟨hlen, .inr ⟨g, cap, rfl, hb, by rw [hsz]; exact hg, hroom, hm, fun j u hu => ?_, fun j hj => ⟨?_, (World.frozen?_setCells g _ _ _ _).trans (hth j hj).2⟩⟩⟩,
        ⟨World.os_setCells _ _ _ _, htape _ _ _, World.output_setCells _ _ _ _, by rw [hsz]; exact Nat.le_refl _, fun k hk hne => hblk k hk (fun e => hne (by rw [e]; rfl))⟩, .inl rfl⟩
      · by_cases hjo : j < n * i.size
        · rw [World.cell?_setCells_out g _ _ _ _ (fun _ _ => Or.inl (by show j < 0 + n * i.size; omega))]
          rw [List.getElem?_append_left (by rw [hrow.1]; exact hjo)] at hu
          exact hx j u hu
        · rw [List.getElem?_append_right (by rw [hrow.1]; omega), hrow.1] at hu
          have hj' := (List.getElem?_eq_some_iff.1 hu).1
          have := World.cell?_setCells_in g news (0 + n * i.size) w hsome (j - n * i.size) hj'
          rw [show 0 + n * i.size + (j - n * i.size) = j by omega] at this
          rw [this, ← hu, List.getElem?_eq_getElem hj']
      · by_cases hin : n * i.size ≤ j ∧ j < n * i.size + news.length
        · have := World.cell?_setCells_in g news (0 + n * i.size) w hsome (j - n * i.size) (by omega)
          rw [show 0 + n * i.size + (j - n * i.size) = j by omega] at this
          rw [this]; rfl
        · rw [World.cell?_setCells_out g _ _ _ _ (fun _ _ => by show j < 0 + n * i.size ∨ 0 + n * i.size + news.length ≤ j; omega)]
          exact (hth j hj).1
    · refine grow (some ⟨g, 0, none⟩) cap (by omega) ?_
      refine run_firstCells_some w.drew i.size n ⟨g, 0, none⟩ n cap xs hrow.1 (fun j u hu => ?_)
      rw [show (⟨g, 0, none⟩ : Addr).add j = ⟨g, j, none⟩ by simp [Addr.add]; omega]
      exact hx j u hu
theorem wp_append_row {o : Oper} {a : Act} {K : Act → World → Prop} {Q : Exit → Act → World → Prop} (s x : Operand) (t tx : TypeId)
    (ho : o.op = .call { callee := .builtin .append, args := #[s, x], argTypes := #[t, tx] })
    (base : Nat) (e : TypeId) (i : TypeInfo) (z : Value) (size bytes : Nat) (ht : P.underlying t = some (.slice e)) (hi : P.info? e = some i) (hz : i.zero = some z)
    (hsize : i.size = size) (hby : i.bytes = bytes) (hzs : z.cells.size = size) (v : Value) (n : Nat) (xs : List Value) (hs : a.eval s = v) (hrow : Row w base size v n xs)
    (xv : Value) (m : Nat) (news : List Value) (hx : a.eval x = xv) (hsrc : Src P size tx xv m news w) (h63 : n + m ≤ maxLen) (hbytes : (n + m) * bytes ≤ 140737488355328) (hbase : base ≤ w.heap.size)
    (h : ∀ v' w', Row w' base size v' (n + m) (xs ++ news) → w.grownBy w' v.ownBlock → (v'.ownBlock = v.ownBlock ∨ v'.ownBlock = some w.heap.size) → K (a.put o.dst v') w') : o.wp P a w K Q := by
  obtain ⟨v', w', hrun, h2, h3, h4⟩ := run_append_row (P := P) w base t tx o.type e i z size bytes ht hi hz hsize hby hzs v n xs hrow xv m news hsrc h63 hbytes hbase
  unfold Oper.wp execOp
  simp only [ho, resolve, invoke, builtin, Sem.run_bind, Sem.run_pure, Result.andThen_ok, List.map_toArray, List.map_cons, List.map_nil, hs, hx, hrun]
  exact h v' w' h2 h3 h4
theorem wpList_append_row {ops : Array Oper} {rest : List Oper} {o : Oper} {a : Act} {Q : Exit → Act → World → Prop} (hgd : o.guard = none) (s x : Operand) (t tx : TypeId)
    (ho : o.op = .call { callee := .builtin .append, args := #[s, x], argTypes := #[t, tx] })
    (base : Nat) (e : TypeId) (i : TypeInfo) (z : Value) (size bytes : Nat) (ht : P.underlying t = some (.slice e)) (hi : P.info? e = some i) (hz : i.zero = some z)
    (hsize : i.size = size) (hby : i.bytes = bytes) (hzs : z.cells.size = size) (v : Value) (n : Nat) (xs : List Value) (hs : a.eval s = v) (hrow : Row w base size v n xs)
    (xv : Value) (m : Nat) (news : List Value) (hx : a.eval x = xv) (hsrc : Src P size tx xv m news w) (h63 : n + m ≤ maxLen) (hbytes : (n + m) * bytes ≤ 140737488355328) (hbase : base ≤ w.heap.size)
    (h : ∀ v' w', Row w' base size v' (n + m) (xs ++ news) → w.grownBy w' v.ownBlock → (v'.ownBlock = v.ownBlock ∨ v'.ownBlock = some w.heap.size) → wpList P ops Q rest (a.put o.dst v') w') : wpList P ops Q (o :: rest) a w :=
  wpList_plain hgd fun _ hK => wp_append_row w s x t tx ho base e i z size bytes ht hi hz hsize hby hzs v n xs hs hrow xv m news hx hsrc h63 hbytes hbase fun v' w' h2 h3 h4 => hK _ _ (h v' w' h2 h3 h4)
theorem step_append_row {ops : Array Oper} {o : Oper} {a : Act} {K : Act → World → Prop} {Q : Exit → Act → World → Prop} {E : Prop} (hgd : o.guard = none) (s x : Operand) (t tx : TypeId)
    (ho : o.op = .call { callee := .builtin .append, args := #[s, x], argTypes := #[t, tx] })
    (base : Nat) (e : TypeId) (i : TypeInfo) (z : Value) (size bytes : Nat) (ht : P.underlying t = some (.slice e)) (hi : P.info? e = some i) (hz : i.zero = some z)
    (hsize : i.size = size) (hby : i.bytes = bytes) (hzs : z.cells.size = size) (v : Value) (n : Nat) (xs : List Value) (hs : a.eval s = v) (hrow : Row w base size v n xs)
    (xv : Value) (m : Nat) (news : List Value) (hx : a.eval x = xv) (hsrc : Src P size tx xv m news w) (h63 : n + m ≤ maxLen) (hbytes : (n + m) * bytes ≤ 140737488355328) (hbase : base ≤ w.heap.size)
    (h : ∀ v' w', Row w' base size v' (n + m) (xs ++ news) → w.grownBy w' v.ownBlock → (v'.ownBlock = v.ownBlock ∨ v'.ownBlock = some w.heap.size) → K (a.put o.dst v') w') :
    if Region.wanted o (yielded ops a.tmps) = true then Oper.wp P o a w K Q else E := by
  have hw : Region.wanted o (yielded ops a.tmps) = true := by simp [Region.wanted, hgd]
  rw [if_pos hw]
  exact wp_append_row w s x t tx ho base e i z size bytes ht hi hz hsize hby hzs v n xs hs hrow xv m news hx hsrc h63 hbytes hbase h
end
/-- A step that only new blocks and the row's own may feel. -/
theorem Row.low {w w' w0 : World} {base size n : Nat} {v : Value} {xs : List Value} (h : Row w base size v n xs) (hg : w.grownBy w' v.ownBlock) (hb : Below base w0 w) (hB : base ≤ w.heap.size) : Below base w0 w' :=
  hb.trans ⟨hg.os, hg.tape, hg.output, hg.size, fun k hk => hg.block k (by omega) (fun e => by have := (h.lt k e.symm).1; omega)⟩
end Go.Proofs.YtegplajddhiejaaGreat
