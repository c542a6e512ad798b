import Derived.Test.YtcicdgajhheipaaGreatBf5
import Derived.Test.YtcicdgajhheipaaGreatMgBookFresh20
set_option linter.unusedVariables false
set_option linter.unusedSimpArgs false
namespace Go.Proofs.YtcicdgajhheipaaGreat
open Go.RowKit Go.WideMaps Go.Maps Go.MapKept
/-! What the walk of BookFresh needs. -/
section
variable {B : Nat} {w w' : World} {g h : Nat} {x y x' y' : Fld}
theorem two_gp {f : FuncId} {args : Array Value} {R : Ending → Prop} (hB : B ≤ w.heap.size) (t : TwoG B w g h x y)
    (c : ∀ bn bd v, PSF w g bn bd v x → Calls Tryz.prog f args w fun e w' => R e ∧ Kept w g bn bd v x' w') : Calls Tryz.prog f args w fun e w' => R e ∧ TwoG B w' g h x' y ∧ Below B w w' := by
  obtain ⟨bn, bd, v, vd, vw, vv, p, r, f1, f2⟩ := t
  refine (c bn bd v p).mono fun e w' ⟨he, hk⟩ => ⟨he, ?_⟩
  obtain ⟨bn', v', p', t', f'⟩ := hk
  have nf : ∀ m ∈ rfoot h vd vw vv, m ∉ foot g bn bd v := fun m hm e => (f1 m e).2 hm
  refine ⟨⟨bn', bd, v', vd, vw, vv, p', r.touch t' nf, fun m hm => ?_, f2⟩, t'.toBelow hB (fun m hm => (f1 m hm).1)⟩
  rcases f' m hm with e | e
  · exact f1 m e
  · exact ⟨by omega, fun e2 => by have := r.foot_lt m e2; omega⟩
theorem two_gr {f : FuncId} {args : Array Value} {R : Ending → Prop} (hB : B ≤ w.heap.size) (t : TwoG B w g h x y)
    (c : ∀ vd vw vv, RSF w h vd vw vv y → Calls Tryz.prog f args w fun e w' => R e ∧ RKept w h vd vw vv y' w') : Calls Tryz.prog f args w fun e w' => R e ∧ TwoG B w' g h x y' ∧ Below B w w' := by
  obtain ⟨bn, bd, v, vd, vw, vv, p, r, f1, f2⟩ := t
  refine (c vd vw vv r).mono fun e w' ⟨he, hk⟩ => ⟨he, ?_⟩
  obtain ⟨a, b', c', r', t', f'⟩ := hk
  have nf : ∀ m ∈ foot g bn bd v, m ∉ rfoot h vd vw vv := fun m hm => (f1 m hm).2
  refine ⟨⟨bn, bd, v, a, b', c', p.touch t' nf, r', fun m hm => ⟨(f1 m hm).1, fun e2 => ?_⟩, fun m hm => ?_⟩, t'.toBelow hB (fun m hm => f2 m hm)⟩
  · rcases f' m e2 with e3 | e3
    · exact (f1 m hm).2 e3
    · have := p.foot_lt m hm; omega
  · rcases f' m hm with e | e
    · exact f2 m e
    · omega
end
/-- The reference's numbers, whatever is asked. -/
theorem rbnums_any {B K g h : Nat} (hK : K ≤ 2097151) (s k : Int) (s1 : s ≤ 9223372036854775807) (w : World) (y : Fld) (t : TwoG B w g h y y) (hf : Fine K y) :
    Calls Tryz.prog 11 #[.pointer (some ⟨h, 0, none⟩), .int .i64 s, .int .i64 k] w fun e w' => ∃ v, e = .returned v ∧ Row w' w.heap.size 1 v (numsP y s k).length (iV (numsP y s k)) ∧ Below w.heap.size w w' := by
  obtain ⟨bn, bd, v, vd, vw, vv, p, r, f1, f2⟩ := t
  rw [nums_same y s k s1]
  exact rbnums_calls K hK s k w h vd vw vv y r hf
theorem rbspaces_any {B K g h : Nat} (hK : K ≤ 2097151) (w : World) (y : Fld) (t : TwoG B w g h y y) (hf : Fine K y) :
    Calls Tryz.prog 12 #[.pointer (some ⟨h, 0, none⟩)] w fun e w' => ∃ v, e = .returned v ∧ Row w' w.heap.size 1 v (spacesZ (keysZ y letB)).length (iV (spacesZ (keysZ y letB))) ∧ Below w.heap.size w w' := by
  obtain ⟨bn, bd, v, vd, vw, vv, p, r, f1, f2⟩ := t
  exact rbspaces_calls K hK w h vd vw vv y r hf
section
variable {B : Nat} {w w1 w' : World} {lv lv' v : Value} {vs : List Value} {Ms : List (List Int)} {M : List Int}
theorem Lsts.nil (B : Nat) (w : World) : Lsts B w (.slice none 0 0) [] [] := ⟨rfl, Row.nil _ _ 1, (fun i v M h _ => by cases h), (fun i j v u k h _ _ _ => by cases h), (fun i v k h _ => by cases h)⟩
/-- A list that a call has made is put behind the others. -/
theorem Lsts.snoc (h : Lsts B w lv vs Ms) (hB : B ≤ w.heap.size) (hb : Below w.heap.size w w1) (hr : Row w1 w.heap.size 1 v M.length (iV M)) (o : Obj)
    (ha : Row w' B 1 lv' (vs.length + 1) (vs ++ [v])) (hg : (w1.alloc o).grownBy w' lv.ownBlock) (ho : lv'.ownBlock = lv.ownBlock ∨ lv'.ownBlock = some (w1.alloc o).heap.size) : Lsts B w' lv' (vs ++ [v]) (Ms ++ [M]) := by
  have hb2 : Below w.heap.size w (w1.alloc o) := hb.alloc hb.size o
  have h2 := h.keep hb2
  have lvlt : ∀ k, lv.ownBlock = some k → k < w.heap.size := fun k hk => (h.row.lt k hk).2
  have vge : ∀ k, v.ownBlock = some k → w.heap.size ≤ k ∧ k < (w1.alloc o).heap.size := fun k hk => ⟨(hr.lt k hk).1, ((hr.alloc o).lt k hk).2⟩
  have vslt : ∀ (i : Nat) (u : Value) (k : Nat), vs[i]? = some u → u.ownBlock = some k → k < w.heap.size := fun i u k hu hk => by
    have hi : i < vs.length := (List.getElem?_eq_some_iff.1 hu).1
    have hi2 : i < Ms.length := by rw [h.len]; exact hi
    exact ((h.each i u Ms[i] hu (by rw [List.getElem?_eq_getElem hi2])).lt k hk).2
  have hsz := hb2.size
  refine ⟨by simp [h.len], by simpa using ha, fun i u N hu hN => ?_, fun i j u x k hu hx h1 h3 => ?_, fun i u k hu hk e => ?_⟩
  · by_cases hi : i < vs.length
    · rw [List.getElem?_append_left hi] at hu
      rw [List.getElem?_append_left (by rw [h.len]; exact hi)] at hN
      refine (h2.each i u N hu hN).grown hg ?_
      cases hk : u.ownBlock with
      | none => exact .inl rfl
      | some k => exact .inr (fun e => h.out i u k hu hk e.symm)
    · have hie : i = vs.length := by
        have := (List.getElem?_eq_some_iff.1 hu).1
        simp at this; omega
      subst hie
      rw [List.getElem?_append_right (Nat.le_refl _), Nat.sub_self] at hu
      rw [List.getElem?_append_right (by rw [h.len]; exact Nat.le_refl _), h.len, Nat.sub_self] at hN
      injection hu with hu
      injection hN with hN
      subst hu hN
      refine ((hr.alloc o).mono hB).grown hg ?_
      cases hk : v.ownBlock with
      | none => exact .inl rfl
      | some k => exact .inr (fun e => by have := (vge k hk).1; have := lvlt k e.symm; omega)
  · have pick : ∀ (i : Nat) (u : Value), (vs ++ [v])[i]? = some u → (i < vs.length ∧ vs[i]? = some u) ∨ (i = vs.length ∧ u = v) := fun i u hu => by
      by_cases hi : i < vs.length
      · rw [List.getElem?_append_left hi] at hu
        exact .inl ⟨hi, hu⟩
      · have hie : i = vs.length := by
          have := (List.getElem?_eq_some_iff.1 hu).1
          simp at this; omega
        subst hie
        rw [List.getElem?_append_right (Nat.le_refl _), Nat.sub_self] at hu
        injection hu with hu
        exact .inr ⟨rfl, hu.symm⟩
    rcases pick i u hu with ⟨a1, a2⟩ | ⟨a1, a2⟩ <;> rcases pick j x hx with ⟨b1, b2⟩ | ⟨b1, b2⟩
    · exact h.own i j u x k a2 b2 h1 h3
    · subst b2
      have := vslt i u k a2 h1
      have := (vge k h3).1
      omega
    · subst a2
      have := vslt j x k b2 h3
      have := (vge k h1).1
      omega
    · omega
  · by_cases hi : i < vs.length
    · rw [List.getElem?_append_left hi] at hu
      rcases ho with ho | ho
      · exact h.out i u k hu hk (ho ▸ e)
      · rw [ho] at e
        injection e with e
        have := vslt i u k hu hk
        omega
    · have hie : i = vs.length := by
        have := (List.getElem?_eq_some_iff.1 hu).1
        simp at this; omega
      subst hie
      rw [List.getElem?_append_right (Nat.le_refl _), Nat.sub_self] at hu
      injection hu with hu
      subst hu
      rcases ho with ho | ho
      · rw [ho] at e
        have := lvlt k e
        have := (vge k hk).1
        omega
      · rw [ho] at e
        injection e with e
        have := (vge k hk).2
        omega
theorem Lsts.fill (h : Lsts B w lv vs Ms) : FillAt B w lv vs (fun q => (Ms[q]?.getD []).length) 0 0 w :=
  ⟨Ms, h, Full.start fun q M hM => by simp only [hM, Option.getD_some], Below.refl _ _⟩
end
/-- A list of the call's own whose first j members are u. -/
def Part (B : Nat) (w : World) (v : Value) (n : Nat) (u : Int) (j : Nat) : Prop := ∃ M : List Int, M.length = n ∧ Row w B 1 v n (iV M) ∧ ∀ e, e < j → M[e]? = some u
section
variable {B : Nat} {w w' : World} {v : Value} {n j : Nat} {u : Int}
theorem Part.start {M : List Int} (h : Row w B 1 v M.length (iV M)) : Part B w v M.length u 0 := ⟨M, rfl, h, fun e he => absurd he (Nat.not_lt_zero _)⟩
theorem Part.at (h : Part B w v n u j) (hj : j < n) : ∃ g c, v = .slice (some ⟨g, 0, none⟩) n c ∧ B ≤ g ∧ g < w.heap.size ∧ (∃ z, w.cell? ⟨g, j, none⟩ = some z) ∧ w.frozen? ⟨g, j, none⟩ = false := by
  obtain ⟨M, rfl, hr, _⟩ := h
  rcases Row.form hr with ⟨_, h0, _⟩ | ⟨g, cap, e, hb, hg, hc, _, hx, hfz⟩
  · omega
  · have hel : j < (iV M).length := by rw [iV_len]; exact hj
    exact ⟨g, cap, e, hb, hg, ⟨_, hx j _ (by rw [List.getElem?_eq_getElem hel])⟩, hfz j (by omega)⟩
theorem Part.put {g c : Nat} (h : Part B w (.slice (some ⟨g, 0, none⟩) n c) n u j) (hj : j < n) : Part B (w.setCell ⟨g, j, none⟩ (.int .i64 u)) (.slice (some ⟨g, 0, none⟩) n c) n u (j + 1) := by
  obtain ⟨M, rfl, hr, hm⟩ := h
  refine ⟨M.set j u, by rw [List.length_set], ?_, fun e he => ?_⟩
  · rw [iV_set]
    exact hr.setIn hj _
  · by_cases e2 : j = e
    · subst e2
      rw [List.getElem?_set_self hj]
    · rw [List.getElem?_set_ne e2]
      exact hm e (by omega)
theorem Part.keep (h : Part B w v n u j) (hb : Below w.heap.size w w') : Part B w' v n u j := by
  obtain ⟨M, e, hr, hm⟩ := h
  exact ⟨M, e, hr.keep hb, hm⟩
theorem Part.off (h : Part B w v n u j) {p : Addr} (hp : v.ownBlock ≠ some p.block) (z : Value) : Part B (w.setCell p z) v n u j := by
  obtain ⟨M, e, hr, hm⟩ := h
  exact ⟨M, e, hr.setCell hp z, hm⟩
theorem Part.full (h : Part B w v n u n) : Row w B 1 v n (iV (List.replicate n u)) := by
  obtain ⟨M, rfl, hr, hm⟩ := h
  have e : M = List.replicate M.length u := List.ext_getElem? fun i => by
    by_cases hi : i < M.length
    · rw [hm i hi, List.getElem?_replicate, if_pos hi]
    · rw [List.getElem?_eq_none (by omega), List.getElem?_replicate, if_neg hi]
  rw [← e]
  exact hr
/-- What is read of a list: all its members are u. -/
def ReadI (w : World) (v : Value) (n : Nat) (u : Int) : Prop := ∃ a c, v = .slice a n c ∧ ∀ e, e < n → ∃ g, a = some ⟨g, 0, none⟩ ∧ g < w.heap.size ∧ w.cell? ⟨g, e, none⟩ = some (.int .i64 u)
theorem ReadI.keep (h : ReadI w v n u) (hb : Below w.heap.size w w') : ReadI w' v n u := by
  obtain ⟨a, c, e, hc⟩ := h
  refine ⟨a, c, e, fun i hi => ?_⟩
  obtain ⟨g, h1, h2, h3⟩ := hc i hi
  exact ⟨g, h1, Nat.lt_of_lt_of_le h2 hb.size, (hb.cell (p := ⟨g, i, none⟩) h2).trans h3⟩
theorem ReadI.of (h : Row w B 1 v n (iV (List.replicate n u))) : ReadI w v n u := by
  rcases Row.form h with ⟨e, h0, _⟩ | ⟨g, cap, e, hb, hg, hc, _, hx, hfz⟩
  · exact ⟨none, 0, by rw [e, h0], fun i hi => by omega⟩
  · exact ⟨_, _, e, fun i hi => ⟨g, rfl, hg, hx i _ (by unfold iV; rw [List.getElem?_map, List.getElem?_replicate, if_pos hi]; rfl)⟩⟩
/-- Three more behind a full list: both are full. -/
theorem ReadI.more {v' : Value} {m : Nat} (h : Row w B 1 v n (iV (List.replicate n u))) (h2 : Row w' B 1 v' m (iV (List.replicate m u))) (hnm : n ≤ m) (hg : (v'.ownBlock = v.ownBlock ∧ w.grownBy w' v.ownBlock) ∨ (∃ k, v'.ownBlock = some k ∧ w.grownBy w' none)) : ReadI w' v n u ∧ ReadI w' v' m u := by
  refine ⟨?_, ReadI.of h2⟩
  rcases hg with ⟨e, g⟩ | ⟨k, e, g⟩
  · rcases Row.form h with ⟨e1, h0, _⟩ | ⟨b, cap, e1, _, hb, _, _, hx, _⟩
    · exact ⟨none, 0, by rw [e1, h0], fun i hi => by omega⟩
    · rcases Row.form h2 with ⟨e2, h0, _⟩ | ⟨b2, cap2, e2, _, hb2, _, _, hx2, _⟩
      · rw [e1, e2] at e
        cases e
      · rw [e1, e2] at e
        injection e with e
        have e' : b2 = b := e
        subst e'
        exact ⟨_, _, e1, fun i hi => ⟨b2, rfl, hb2, hx2 i _ (by unfold iV; rw [List.getElem?_map, List.getElem?_replicate, if_pos (by omega)]; rfl)⟩⟩
  · have h3 := h.grown g (by cases v.ownBlock with | none => exact .inl rfl | some k => exact .inr (by simp))
    exact ReadI.of h3
theorem ReadI.grown {row : Option Nat} (h : ReadI w v n u) (hg : w.grownBy w' row) (hne : ∀ k, v.ownBlock = some k → row ≠ some k) : ReadI w' v n u := by
  obtain ⟨a, c, e, hc⟩ := h
  refine ⟨a, c, e, fun i hi => ?_⟩
  obtain ⟨g, h1, h2, h3⟩ := hc i hi
  have hk : w'.heap[g]? = w.heap[g]? := hg.block g h2 (fun e2 => hne g (by rw [e, h1]; rfl) e2.symm)
  exact ⟨g, h1, Nat.lt_of_lt_of_le h2 hg.size, by rw [World.cell?_of_block (a := ⟨g, i, none⟩) hk]; exact h3⟩
end
/-- The lists that are asked for. -/
def fiveL (L1 L2 : List Int) (k : Nat) : List (List Int) := (List.range k).map fun q => if q = 2 ∨ q = 3 then L2 else L1
theorem fiveL_snoc (L1 L2 : List Int) (k : Nat) : fiveL L1 L2 (k + 1) = fiveL L1 L2 k ++ [if k = 2 ∨ k = 3 then L2 else L1] := by
  unfold fiveL
  rw [List.range_succ, List.map_append]
  rfl
theorem fiveL_len (L1 L2 : List Int) (k : Nat) : (fiveL L1 L2 k).length = k := by simp [fiveL]
theorem fiveL_at (L1 L2 : List Int) {k q : Nat} (h : q < k) : (fiveL L1 L2 k)[q]? = some (if q = 2 ∨ q = 3 then L2 else L1) := by
  unfold fiveL
  rw [List.getElem?_map, List.getElem?_range h]
  rfl
end Go.Proofs.YtcicdgajhheipaaGreat

set_option linter.unusedVariables false
namespace Go.Proofs.YtcicdgajhheipaaGreat
open Go.RowKit Go.WideMaps Go.Maps Go.MapKept
/-! Two lists compared, whatever they are. -/
set_option maxRecDepth 100000 in
set_option maxHeartbeats 1000000 in
theorem sameInts_any (u v : Value) (l m : List Int) (w : World) (hu : Row w 0 1 u l.length (iV l)) (hv : Row w 0 1 v m.length (iV m)) (hlen : l.length ≤ 4194304) :
    Calls Tryz.prog 14 #[u, v] w fun e w' => (∃ c, e = .returned (.bool c)) ∧ ∃ n, w.drewN n = w' := by
  have HU := Lib.hid hu
  have HV := Lib.hid hv
  obtain ⟨a, ca, rfl⟩ := hu.slice
  obtain ⟨b, cb, rfl⟩ := hv.slice
  by_cases he : m.length = l.length
  · rw [he]
    obtain ⟨n, hn⟩ : ∃ n, l.length = n := ⟨_, rfl⟩
    have HN := Lib.hid hn
    have HM := Lib.hid (he.trans hn)
    rw [hn] at hlen
    rw [hn]
    clear hu hv hn he
    go_enter Tryz.func14, Tryz.ntmps14
    go_wp2
    go_loopw [5] (fun iv wr => ∃ k q : Nat, k ≤ n ∧ iv = .int .i64 k ∧ Hid (w.drewN q = wr)) (fun iv _ => n - (intOf iv).toNat)
    case atStart => exact ⟨0, 0, by omega, rfl, Lib.hid rfl⟩
    case round =>
      obtain ⟨k, q, hk, rfl, HW⟩ := hrel
      by_cases hlt : k < n
      · have hkl : k < l.length := by rw [HN.out]; exact hlt
        have hkm : k < m.length := by rw [HM.out]; exact hlt
        obtain ⟨g1, c1, hv1, hg1, hc1⟩ := row_int HU.out k hkl
        obtain ⟨g2, c2, hv2, hg2, hc2⟩ := row_int HV.out k hkm
        injection hv1 with e1 x1 y1
        injection hv2 with e2 x2 y2
        subst e1 e2
        clear x1 y1 x2 y2
        have hr1 : wr.cell? ⟨g1, k, none⟩ = some (.int .i64 l[k]) := by rw [← HW.out]; exact hc1
        have hr2 : wr.cell? ⟨g2, k, none⟩ = some (.int .i64 m[k]) := by rw [← HW.out]; exact hc2
        generalize l[k] = z1 at *
        generalize m[k] = z2 at *
        have hbk : (k : Int) < n := by omega
        clear hc1 hc2
        by_cases hz : z1 = z2
        · subst hz
          go_wp2
          go_quiet (fail)
          go_wp2
          go_roundw
          case rel => exact ⟨k + 1, _, by omega, by go_num, Lib.hid (by rw [← HW.out]; exact (World.drewN_drewN _ _ _).symm)⟩
          case measure => simp [intOf]; omega
        · have hzz : (z1 == z2) = false := by rw [beq_eq_false_iff_ne]; exact hz
          go_wp2
          go_quiet (fail)
          go_wp2
          go_ret
          exact ⟨⟨_, rfl⟩, _, by rw [← HW.out]; exact (World.drewN_drewN _ _ _).symm⟩
      · obtain rfl : k = n := by omega
        go_wp2
        go_ret
        exact ⟨⟨_, rfl⟩, q, HW.out⟩
  · have he2 : ((l.length : Int) == (m.length : Int)) = false := by rw [beq_eq_false_iff_ne]; omega
    clear hu hv
    generalize l.length = n at *
    generalize m.length = n2 at *
    go_enter Tryz.func14, Tryz.ntmps14
    go_wp2
    go_ret
    exact ⟨⟨_, rfl⟩, 0, rfl⟩
/-- Three of the same put behind a list of them. -/
theorem wpList_int3 {ops : Array Oper} {rest : List Oper} {o : Oper} {a : Act} {Q : Exit → Act → World → Prop} (wr : World) (B : Nat) (u : Int) (hgd : o.guard = none) (s x : Operand)
    (ho : o.op = .call { callee := .builtin .append, args := #[s, x], argTypes := #[32, 32] }) (v : Value) (n : Nat) (hs : a.eval s = v) (z : Nat) (hx : a.eval x = .slice (some ⟨z, 0, none⟩) 3 3) (hzz : z = wr.heap.size)
    (hrow : Row wr B 1 v n (iV (List.replicate n u))) (hlen : n ≤ 4194304) (hB : B ≤ wr.heap.size)
    (h : ∀ v' w', Row w' B 1 v' (n + 3) (iV (List.replicate (n + 3) u)) → ReadI w' v n u → ReadI w' v' (n + 3) u → ((v'.ownBlock = v.ownBlock ∧ (wr.alloc (.cells #[.int .i64 u, .int .i64 u, .int .i64 u] 3)).grownBy w' v.ownBlock) ∨ (v'.ownBlock = some (wr.heap.size + 1) ∧ (wr.alloc (.cells #[.int .i64 u, .int .i64 u, .int .i64 u] 3)).grownBy w' none)) → Below B wr w' → wpList Tryz.prog ops Q rest (a.put o.dst v') w') : wpList Tryz.prog ops Q (o :: rest) a (wr.alloc (.cells #[.int .i64 u, .int .i64 u, .int .i64 u] 3)) := by
  subst hzz
  obtain ⟨i0, hi, hz0, hz1, hz2⟩ := info_parts infoIntK
  have hA := hrow.alloc (.cells #[.int .i64 u, .int .i64 u, .int .i64 u] 3)
  refine wpList_append_row2 _ hgd s x 32 32 ho B 3 i0 (.int .i64 0) 1 8 Tryz.underlying32 hi hz0 hz1 hz2 rfl v _ _ hs hA _ 3 _ hx (Row.src (row_lit wr #[.int .i64 u, .int .i64 u, .int .i64 u] 3 3 1 (by unfold maxLen; omega) rfl) Tryz.underlying32 (by intro z hz; simp at hz; subst hz; rfl)) (by unfold maxLen; omega) (by omega) (Nat.le_trans hB (by simp)) ?_
  intro v' w1 h1 hg
  have hsz : (wr.alloc (.cells #[.int .i64 u, .int .i64 u, .int .i64 u] 3)).heap.size = wr.heap.size + 1 := by simp
  have h1' : Row w1 B 1 v' (n + 3) (iV (List.replicate (n + 3) u)) := by
    have e : iV (List.replicate (n + 3) u) = iV (List.replicate n u) ++ [.int .i64 u, .int .i64 u, .int .i64 u] := by
      unfold iV
      rw [← List.replicate_append_replicate, List.map_append]
      rfl
    rw [e]; exact h1
  have hr := ReadI.more hA h1' (by omega) (by rcases hg with g | ⟨g1, g2⟩; exact .inl g; exact .inr ⟨_, g1, g2⟩)
  refine h v' w1 h1' hr.1 hr.2 ?_ ?_
  · rw [hsz] at hg; exact hg
  · rcases hg with ⟨_, g⟩ | ⟨_, g⟩
    · exact ((Below.refl B wr).alloc hB _).grown g (Nat.le_trans hB (by simp)) (fun j hj => (hrow.lt j hj).1)
    · exact ((Below.refl B wr).alloc hB _).grown g (Nat.le_trans hB (by simp)) (fun j hj => by cases hj)
theorem ReadI.alloc {w : World} {v : Value} {n : Nat} {u : Int} (h : ReadI w v n u) (o : Obj) : ReadI (w.alloc o) v n u := h.keep ((Below.refl _ _).alloc (Nat.le_refl _) o)
theorem eightL_len {N : Nat} {L1 L2 SL : List Int} (h1 : L1.length ≤ N) (h2 : L2.length ≤ N) (h3 : SL.length ≤ N) (q : Nat) : ((fiveL L1 L2 5 ++ List.replicate 3 SL)[q]?.getD []).length ≤ N := by
  by_cases hq : q < 5
  · rw [List.getElem?_append_left (by rw [fiveL_len]; exact hq), fiveL_at _ _ hq]
    simp only [Option.getD_some]
    split
    · exact h2
    · exact h1
  · rw [List.getElem?_append_right (by rw [fiveL_len]; omega), List.getElem?_replicate]
    split
    · exact h3
    · exact Nat.zero_le _
end Go.Proofs.YtcicdgajhheipaaGreat
