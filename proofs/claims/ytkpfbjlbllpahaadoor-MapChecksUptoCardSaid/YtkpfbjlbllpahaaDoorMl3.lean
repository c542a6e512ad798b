import Derived.Test.YtkpfbjlbllpahaaDoorMl2
import Derived.Deep.WholeRow
set_option linter.unusedVariables false
namespace Go.Proofs.YtkpfbjlbllpahaaDoor
open Go.RowKit
/-- A list that was lent: its elements, and the mark in the place behind them. -/
def Lent (w : World) (base : Nat) (v : Value) (xs : List Value) (m : Value) : Prop :=
  ∃ g cap, v = .slice (some ⟨g, 0, none⟩) xs.length cap ∧ base ≤ g ∧ g < w.heap.size ∧ xs.length + 1 ≤ cap ∧ cap ≤ maxLen ∧ (∀ j (h : j < xs.length), w.cell? ⟨g, j, none⟩ = some xs[j]) ∧ w.cell? ⟨g, xs.length, none⟩ = some m
theorem Lent.keep {w w' : World} {base : Nat} {v m : Value} {xs : List Value} (h : Lent w base v xs m) (hb : Below w.heap.size w w') : Lent w' base v xs m := by
  obtain ⟨g, cap, rfl, h0, hg, hc, hm, hx, hl⟩ := h
  exact ⟨g, cap, rfl, h0, Nat.lt_of_lt_of_le hg hb.size, hc, hm, fun j hj => (hb.cell (p := ⟨g, j, none⟩) hg).trans (hx j hj), (hb.cell (p := ⟨g, xs.length, none⟩) hg).trans hl⟩
theorem Lent.held {w : World} {base : Nat} {v m : Value} {xs : List Value} (h : Lent w base v xs m) : Held w v xs := by
  obtain ⟨g, cap, rfl, h0, hg, hc, hm, hx, hl⟩ := h
  exact ⟨_, cap, rfl, by omega, fun _ => ⟨g, 0, rfl, hg, fun j hj => by rw [Nat.zero_add]; exact hx j hj⟩⟩
theorem Lent.setCell {w : World} {base : Nat} {v m : Value} {xs : List Value} (h : Lent w base v xs m) {p : Addr} (hp : p.block < base) (u : Value) : Lent (w.setCell p u) base v xs m := by
  obtain ⟨g, cap, rfl, h0, hg, hc, hm, hx, hl⟩ := h
  have e : (w.setCell p u).heap[g]? = w.heap[g]? := Below.heap_setCell w p u g (by omega)
  exact ⟨g, cap, rfl, h0, by simpa [World.setCell] using hg, hc, hm, fun j hj => (World.cell?_of_block (a := ⟨g, j, none⟩) e).trans (hx j hj), (World.cell?_of_block (a := ⟨g, xs.length, none⟩) e).trans hl⟩
theorem Lent.mono {w : World} {base base' : Nat} {v m : Value} {xs : List Value} (h : Lent w base v xs m) (hb : base' ≤ base) : Lent w base' v xs m := by
  obtain ⟨g, cap, rfl, h0, r⟩ := h
  exact ⟨g, cap, rfl, by omega, r⟩
theorem Row.lent {w : World} {base n : Nat} {v m : Value} {xs : List Value} (hn : n = xs.length) (h : Row w base 1 v (n + 1) (xs ++ [m])) : ∃ g cap, v = .slice (some ⟨g, 0, none⟩) (n + 1) cap ∧ n + 1 ≤ cap ∧ base ≤ g ∧ g < w.heap.size ∧ Lent w base (.slice (some ⟨g, 0, none⟩) n cap) xs m := by
  rcases h.form with ⟨_, h0, _⟩ | ⟨g, cap, rfl, hb, hg, hc, hm, hx, _⟩
  · omega
  · subst hn
    refine ⟨g, cap, rfl, hc, hb, hg, g, cap, rfl, hb, hg, hc, hm, fun j hj => hx j _ ?_, hx _ _ ?_⟩
    · rw [List.getElem?_append_left hj, List.getElem?_eq_getElem hj]
    · simp
theorem Held.src {w : World} {v : Value} {xs : List Value} {tx e : TypeId} (h : Held w v xs) (hk : Tryd.prog.underlying tx = some (.slice e)) (h1 : ∀ u ∈ xs, u.oneCell' = true) : Src Tryd.prog 1 tx v xs.length xs w := by
  obtain ⟨a, cap, rfl, hc, hx⟩ := h
  cases xs with
  | nil =>
    cases a with
    | none => exact Src.ofNil w hk cap
    | some a => exact Src.ofSlice w hk a 0 cap [] rfl (fun j u hu => by simp at hu) (fun u hu => by cases hu)
  | cons x r =>
    obtain ⟨g, o, rfl, hg, hcs⟩ := hx (by simp)
    refine Src.ofSlice w hk ⟨g, o, none⟩ _ cap (x :: r) (by simp) (fun j u hu => ?_) h1
    obtain ⟨hj, rfl⟩ := List.getElem?_eq_some_iff.1 hu
    rw [show (⟨g, o, none⟩ : Addr).add j = ⟨g, o + j, none⟩ by unfold Addr.add; split <;> simp_all]
    exact hcs j hj
theorem bV_one (l : List Bool) : ∀ u ∈ bV l, u.oneCell' = true := by
  intro u hu; simp only [bV, List.mem_map] at hu; obtain ⟨x, _, rfl⟩ := hu; rfl
theorem tV_one (l : List ByteArray) : ∀ u ∈ tV l, u.oneCell' = true := by
  intro u hu; simp only [tV, List.mem_map] at hu; obtain ⟨x, _, rfl⟩ := hu; rfl
theorem infoBool : (Tryd.prog.info? 4).map (fun i => (i.zero, i.size, i.bytes)) = some (some (.bool false), 1, 1) := by kernel_rfl
theorem infoStr : (Tryd.prog.info? 9).map (fun i => (i.zero, i.size, i.bytes)) = some (some (.string ⟨#[]⟩), 1, 16) := by kernel_rfl
def markB : ByteArray := ⟨#[109, 97, 114, 107]⟩
/-- A row of the call's own, of one cell an element, grows by a source. -/
theorem wpList_one {ops : Array Oper} {rest : List Oper} {o : Oper} {a : Act} {Q : Exit → Act → World → Prop} (w : World) (t e : TypeId) (i : TypeInfo) (z : Value) (bytes : Nat) (hgd : o.guard = none) (s x : Operand)
    (ho : o.op = .call { callee := .builtin .append, args := #[s, x], argTypes := #[t, t] }) (base : Nat) (ht : Tryd.prog.underlying t = some (.slice e)) (hi : Tryd.prog.info? e = some i) (hz : i.zero = some z) (hsize : i.size = 1) (hby : i.bytes = bytes) (hzs : z.cells.size = 1)
    (v : Value) (n : Nat) (xs : List Value) (hs : a.eval s = v) (xv : Value) (m : Nat) (news : List Value) (hx : a.eval x = xv) (hsrc : Src Tryd.prog 1 t xv m news w) (hrow : Row w base 1 v n xs) (hlen : n + m ≤ 140737488355327) (hbytes : (n + m) * bytes ≤ 140737488355328) (hbase : base ≤ w.heap.size)
    (h : ∀ v' w', Row w' base 1 v' (n + m) (xs ++ news) → Below base w w' → (v'.ownBlock = v.ownBlock ∨ v'.ownBlock = some w.heap.size) → w.grownBy w' v.ownBlock → wpList Tryd.prog ops Q rest (a.put o.dst v') w') : wpList Tryd.prog ops Q (o :: rest) a w :=
  wpList_append_row w hgd s x t t ho base e i z 1 bytes ht hi hz hsize hby hzs v n xs hs hrow xv m news hx hsrc (by unfold maxLen; omega) hbytes hbase
    fun v' w1 h1 hg hat => h v' w1 h1 (Row.low hrow hg (Below.refl _ _) hbase) hat hg
theorem one_lit (w : World) (u : Value) (t e : TypeId) (hk : Tryd.prog.underlying t = some (.slice e)) (h1 : u.oneCell' = true) : Src Tryd.prog 1 t (.slice (some ⟨w.heap.size, 0, none⟩) 1 1) 1 [u] (w.alloc (.cells #[u] e)) :=
  Row.src (row_lit w #[u] e 1 1 (by unfold maxLen; omega) rfl) hk (fun x hx => by
    have hxu : x = u := by simpa using hx
    rw [hxu]; exact h1)
set_option maxRecDepth 100000 in
set_option maxHeartbeats 2000000 in
theorem mlent_calls (W : Int) (f b : Bool) (o v : ByteArray) (fs : List Bool) (hs : List ByteArray) (F H : Value) (w : World) (hF : Held w F (bV fs)) (hH : Held w H (tV hs)) (hfl : fs.length ≤ 1048576) (hhl : hs.length ≤ 1048576) :
    Calls Tryd.prog 10 #[.agg #[.int .i64 W, .bool f, .bool b, .string o, .string v, F, H]] w fun e w' => ∃ F' H', e = .returned (.agg #[.int .i64 W, .bool f, .bool b, .string o, .string v, F', H']) ∧ Below w.heap.size w w' ∧
      Lent w' w.heap.size F' (bV fs) (.bool true) ∧ Lent w' w.heap.size H' (tV hs) (.string markB) := by
  obtain ⟨ib, hib, hb0, hb1, hb2⟩ := info_parts infoBool
  obtain ⟨is, his, hs0, hs1, hs2⟩ := info_parts infoStr
  obtain ⟨aF, cF, rfl, hcF, _⟩ := hF.bool
  obtain ⟨aH, cH, rfl, hcH, _⟩ := hH.text
  have HF := Lib.hid hF
  have HH := Lib.hid hH
  clear hF hH
  have HB0 := Lib.hid (((Below.refl w.heap.size w).alloc (Nat.le_refl _) (.cells #[.int .i64 W, .bool f, .bool b, .string o, .string v, .slice aF fs.length cF, .slice aH hs.length cH] 25)).alloc (by simp) (.cells #[.int .i64 0, .bool false, .bool false, .string ⟨#[]⟩, .string ⟨#[]⟩, .slice none 0 0, .slice none 0 0] 25))
  have hbl := bV_len fs
  have htl := tV_len hs
  go_enter Tryd.func10, Tryd.ntmps10
  go_wp2_with (first
    | (at_builtin; refine wpList_one _ 22 4 ib (.bool false) 1 rfl _ _ rfl (w.heap.size + 2) Tryd.underlying22 hib hb0 hb1 hb2 rfl _ _ _ rfl _ _ _ rfl ((HF.out.keep HB0.out).src Tryd.underlying22 (bV_one fs)) (Row.nil _ _ 1) (by omega) (by omega) (by simp) ?_; intro v1 w1 hr1 hb1 _ _
       have hsz1 : w.heap.size + 2 ≤ w1.heap.size := by { have := hb1.size; simp at this; omega }
       simp only [hbl, Nat.zero_add, List.nil_append] at hr1
       obtain ⟨a1, c1, hv1⟩ := hr1.slice
       subst hv1
       have HC1 := Lib.hid (hb1.alloc hsz1 (.cells #[Value.bool true] 4))
       have HR1 := Lib.hid (hr1.alloc (.cells #[Value.bool true] 4))
       clear hr1 hb1)
    | (at_builtin; refine wpList_one _ 22 4 ib (.bool false) 1 rfl _ _ rfl (w.heap.size + 2) Tryd.underlying22 hib hb0 hb1 hb2 rfl _ _ _ rfl _ _ _ rfl (one_lit _ _ 22 4 Tryd.underlying22 rfl) HR1.out (by omega) (by omega) (by simp; omega) ?_; intro v2 w2 hr2 hb2 _ _
       have hsz2 : w.heap.size + 2 ≤ w2.heap.size := by { have := hb2.size; simp at this; omega }
       obtain ⟨g2, c2, hv2, hc2, hg2, hl2, hLt2⟩ := hr2.lent hbl.symm
       subst hv2
       have HC2 := Lib.hid (HC1.out.trans hb2)
       have HL2 := Lib.hid hLt2
       have hcell2 := fun b o (h : b < w.heap.size + 2) => HC2.out.cell (p := ⟨b, o, none⟩) h
       clear hr2 hb2 hLt2)
    | (at_builtin; refine wpList_one _ 23 9 is (.string ⟨#[]⟩) 16 rfl _ _ rfl w2.heap.size Tryd.underlying23 his hs0 hs1 hs2 rfl _ _ _ rfl _ _ _ rfl (((HH.out.keep HB0.out).below (by simp) HC2.out).src Tryd.underlying23 (tV_one hs)) (Row.nil _ _ 1) (by omega) (by omega) (by simp) ?_; intro v3 w3 hr3 hb3 _ _
       have hsz3 : w2.heap.size ≤ w3.heap.size := hb3.size
       simp only [htl, Nat.zero_add, List.nil_append] at hr3
       obtain ⟨a3, c3, hv3⟩ := hr3.slice
       subst hv3
       have HC3 := Lib.hid (hb3.alloc hsz3 (.cells #[Value.string markB] 9))
       have HR3 := Lib.hid (hr3.alloc (.cells #[Value.string markB] 9))
       clear hr3 hb3)
    | (at_builtin; refine wpList_one _ 23 9 is (.string ⟨#[]⟩) 16 rfl _ _ rfl w2.heap.size Tryd.underlying23 his hs0 hs1 hs2 rfl _ _ _ rfl _ _ _ rfl (one_lit _ _ 23 9 Tryd.underlying23 rfl) HR3.out (by omega) (by omega) (by simp; omega) ?_; intro v4 w4 hr4 hb4 _ _
       have hsz4 : w2.heap.size ≤ w4.heap.size := by { have := hb4.size; simp at this; omega }
       obtain ⟨g4, c4, hv4, hc4, hg4, hl4, hLt4⟩ := hr4.lent htl.symm
       subst hv4
       have HC4 := Lib.hid (HC3.out.trans hb4)
       have HL4 := Lib.hid hLt4
       have HD4 := Lib.hid (HC2.out.trans (HC4.out.mono hsz2))
       have hcell4 := fun b o (h : b < w.heap.size + 2) => HD4.out.cell (p := ⟨b, o, none⟩) h
       have hfro4 := fun b o (h : b < w.heap.size + 2) => HD4.out.frozen (p := ⟨b, o, none⟩) h
       clear hr4 hb4 hLt4))
  refine bodyPost_ret (v := .agg #[.int .i64 W, .bool f, .bool b, .string o, .string v, .slice (some ⟨g2, 0, none⟩) fs.length c2, .slice (some ⟨g4, 0, none⟩) hs.length c4]) (by simp only [results, Tryd.results10]; go_simp) rfl ?_
  refine ⟨_, _, rfl, ?_, ?_, ?_⟩
  · have h := HB0.out.trans (HD4.out.mono (Nat.le_add_right _ _))
    iterate 9 (refine Below.setCell ?_ (by simp) _)
    exact h
  · refine Lent.mono (base := w.heap.size + 2) ?_ (by omega)
    iterate 9 (refine Lent.setCell ?_ (by simp) _)
    exact HL2.out.keep HC4.out
  · refine Lent.mono (base := w.heap.size + 2) ?_ (by omega)
    iterate 9 (refine Lent.setCell ?_ (by simp) _)
    exact HL4.out.mono hsz2
set_option maxRecDepth 100000 in
set_option maxHeartbeats 2000000 in
theorem mback_calls (W : Int) (f b : Bool) (o v : ByteArray) (fs : List Bool) (hs : List ByteArray) (F H F' H' : Value) (base : Nat) (w : World) (hF : Held w F (bV fs)) (hH : Held w H (tV hs)) (hF' : Lent w base F' (bV fs) (.bool true)) (hH' : Lent w base H' (tV hs) (.string markB)) (hfl : fs.length ≤ 1048576) (hhl : hs.length ≤ 1048576) :
    Calls Tryd.prog 13 #[.agg #[.int .i64 W, .bool f, .bool b, .string o, .string v, F', H'], .agg #[.int .i64 W, .bool f, .bool b, .string o, .string v, F, H]] w fun e w' => e = .returned (.bool true) ∧ Below w.heap.size w w' := by
  have CS := Lib.hid (fun w h1 h2 h3 h4 => msame_calls W f b o v fs hs F' H' F H w h1 h2 h3 h4 hfl hhl)
  have HF := Lib.hid hF
  have HH := Lib.hid hH
  have HF' := Lib.hid hF'.held
  have HH' := Lib.hid hH'.held
  obtain ⟨aF, cF, eF, hcF, _⟩ := hF.bool
  obtain ⟨aH, cH, eH, hcH, _⟩ := hH.text
  obtain ⟨g1, c1, e1, _, hg1, hc1, hm1, _, hk1⟩ := hF'
  obtain ⟨g2, c2, e2, _, hg2, hc2, hm2, _, hk2⟩ := hH'
  rw [bV_len] at e1 hc1 hk1
  rw [tV_len] at e2 hc2 hk2
  subst e1 e2 eF eH
  have HB0 := Lib.hid (((Below.refl w.heap.size w).alloc (Nat.le_refl _) (.cells #[.int .i64 W, .bool f, .bool b, .string o, .string v, .slice (some ⟨g1, 0, none⟩) fs.length c1, .slice (some ⟨g2, 0, none⟩) hs.length c2] 25)).alloc (by simp) (.cells #[.int .i64 W, .bool f, .bool b, .string o, .string v, .slice aF fs.length cF, .slice aH hs.length cH] 25))
  have i1 : (fs.length : Int) + 1 ≤ c1 := by omega
  have i2 : (hs.length : Int) + 1 ≤ c2 := by omega
  have i3 : (fs.length : Int) < fs.length + 1 := by omega
  have i4 : (hs.length : Int) < hs.length + 1 := by omega
  clear hF hH
  go_enter Tryd.func13, Tryd.ntmps13
  go_wp2_with fail
  refine (CS.out _ (HF'.out.keep HB0.out) (HF.out.keep HB0.out) (HH'.out.keep HB0.out) (HH.out.keep HB0.out)).mono ?_
  rintro e w1 ⟨rfl, hb1⟩
  obtain ⟨hcc, _⟩ := bcell hb1
  have hs1 : w.heap.size + 2 ≤ w1.heap.size := by have := hb1.size; simp at this; omega
  have HB1 := Lib.hid (HB0.out.trans (hb1.mono (by simp; omega)))
  have hz1 : w.heap.size < w1.heap.size := by omega
  have hy1 : w.heap.size + 1 < w1.heap.size := by omega
  have hq1 : w1.cell? ⟨g1, fs.length, none⟩ = some (.bool true) := (HB1.out.cell (p := ⟨g1, fs.length, none⟩) hg1).trans hk1
  have hq2 : w1.cell? ⟨g2, hs.length, none⟩ = some (.string markB) := (HB1.out.cell (p := ⟨g2, hs.length, none⟩) hg2).trans hk2
  have hmk : markB = ⟨#[109, 97, 114, 107]⟩ := rfl
  clear hb1
  go_wp2_with fail
  go_ret
  exact ⟨rfl, HB1.out⟩
end Go.Proofs.YtkpfbjlbllpahaaDoor
