import Derived.Test.YtcicdgajhheipaaGreatRk7
import Derived.Test.YtcicdgajhheipaaGreatMgBookFresh9
import Derived.Test.YtcicdgajhheipaaGreatRw
set_option linter.unusedVariables false
namespace Go.Proofs.YtcicdgajhheipaaGreat
open Go.RowKit Go.WideMaps Go.Maps Go.MapKept
theorem textNe {a b : ByteArray} (h : a ≠ b) : (a.toList == b.toList) = false := by
  rw [beq_eq_false_iff_ne]
  intro e
  rw [ByteArray.toList_eq, ByteArray.toList_eq] at e
  exact h (ByteArray.ext (Array.toList_inj.1 e))
theorem seqB_yes {a b : ByteArray} (h : a = b) : (a.toList == b.toList) = true := by subst h; simp
theorem strV_snoc (l : List ByteArray) (s : ByteArray) : strV (l ++ [s]) = strV l ++ [.string s] := by simp [strV]
/-- A string appended to a list of the call's own. -/
theorem wpList_strA {ops : Array Oper} {rest : List Oper} {o : Oper} {a : Act} {Q : Exit → Act → World → Prop} (wr : World) (B : Nat) (d : ByteArray) (hgd : o.guard = none) (s x : Operand)
    (ho : o.op = .call { callee := .builtin .append, args := #[s, x], argTypes := #[82, 82] }) (v : Value) (l : List ByteArray) (hs : a.eval s = v) (hx : a.eval x = .slice (some ⟨wr.heap.size, 0, none⟩) 1 1)
    (hrow : Row wr B 1 v l.length (strV l)) (hlen : l.length ≤ 4194304) (hB : B ≤ wr.heap.size)
    (h : ∀ v' w', Row w' B 1 v' (l ++ [d]).length (strV (l ++ [d])) → Below B wr w' → wpList Tryz.prog ops Q rest (a.put o.dst v') w') : wpList Tryz.prog ops Q (o :: rest) a (wr.alloc (.cells #[.string d] 9)) := by
  obtain ⟨i0, hi, hz0, hz1, hz2⟩ := info_parts infoStrK
  refine wpList_append_row _ hgd s x 82 82 ho B 9 i0 (.string ⟨#[]⟩) 1 16 Tryz.underlying82 hi hz0 hz1 hz2 rfl v _ _ hs (hrow.alloc _) _ 1 _ hx (Row.src (row_lit wr #[.string d] 9 1 1 (by unfold maxLen; omega) rfl) Tryz.underlying82 (by intro z hz; simp at hz; subst hz; rfl)) (by unfold maxLen; omega) (by omega) (Nat.le_trans hB (by simp)) ?_
  intro v' w1 h1 hg hat
  refine h v' w1 ?_ ?_
  · rw [strV_snoc, List.length_append]; exact h1
  · exact ((Below.refl B wr).alloc hB _).grown hg (Nat.le_trans hB (by simp)) (fun j hj => (hrow.lt j hj).1)
theorem pre_cut {p k : ByteArray} (h : p.size ≤ k.size) : isPre p k = decide (k.extract 0 p.size = p) := by
  unfold isPre
  have e : (k.extract 0 p.size).data.toList = k.data.toList.take p.size := by simp [ByteArray.data_extract]
  refine decide_eq_decide.2 ⟨fun hp => ?_, fun hp => ?_⟩
  · have h2 := List.prefix_iff_eq_take.1 hp
    have h3 : (k.extract 0 p.size).data.toList = p.data.toList := by rw [e, h2]; simp
    exact ByteArray.ext (Array.toList_inj.1 h3)
  · rw [← hp, e]; exact List.take_prefix _ _
theorem pre_short {p k : ByteArray} (h : ¬ p.size ≤ k.size) : isPre p k = false := by
  unfold isPre
  refine decide_eq_false fun hp => h ?_
  have := hp.length_le
  simpa using this
set_option maxRecDepth 100000 in
set_option maxHeartbeats 8000000 in
theorem rkeys_calls (K : Nat) (hK : K ≤ 2097152) (p : ByteArray) (hp : p.size ≤ 4611686018427387904) (w : World) (g : Nat) (vd vw vv : Value) (x : Fld) (h : RSF w g vd vw vv x) (hf : Fine K x) :
    Calls Tryz.prog 48 #[.pointer (some ⟨g, 0, none⟩), .string p] w fun e w' => ∃ ks, e = .returned ks ∧ Row w' w.heap.size 1 ks (keysZ x p).length (strV (keysZ x p)) ∧ Below w.heap.size w w' := by
  have c3 := h.c3
  by_cases ho : x.off = true
  · rw [keys_1 ho]
    rw [ho] at c3
    clear h hf
    go_enter Tryz.func48, Tryz.ntmps48
    go_wp2
    go_ret
    exact ⟨_, rfl, Row.nil _ _ 1, Below.refl _ _⟩
  · have ho' : x.off = false := by simpa using ho
    rw [ho'] at c3
    rw [keys_2 ho']
    have hln := hf.ln
    have HFN := Lib.hid hf.fn
    have H := Lib.hid h
    have hlt := h.lt
    have c6 := h.c6
    obtain ⟨va, vc, hvv⟩ := h.now.slice
    subst hvv
    obtain ⟨n, hn⟩ : ∃ n, x.now.length = n := ⟨_, rfl⟩
    rw [hn] at c6 hln
    have HN := Lib.hid hn
    clear h hf hn ho ho'
    go_enter Tryz.func48, Tryz.ntmps48
    go_wp2
    go_loopw [5, 6, 7] (fun ov iv kv wr => ∃ (k : Nat), k ≤ n ∧ iv = .int .i64 k ∧ Hid (Row wr w.heap.size 1 ov (((x.now.take k).map (·.1)).filter (isPre p)).length (strV (((x.now.take k).map (·.1)).filter (isPre p)))) ∧ Hid (Below w.heap.size w wr)) (fun _ iv _ _ => n - (intOf iv).toNat)
    case atStart => exact ⟨0, by omega, rfl, Lib.hid (Row.nil _ _ 1), Lib.hid (Below.refl _ _)⟩
    case round =>
      obtain ⟨k, hk, rfl, HR, HB⟩ := hrel
      have hr := H.out.keep HB.out
      have s6 := hr.c6
      rw [HN.out] at s6
      by_cases hlt2 : k < n
      · have hkl : k < x.now.length := by rw [HN.out]; exact hlt2
        obtain ⟨pg, pc, hv, hpg, r0, r1⟩ := hr.now.at k hkl
        injection hv with e1 e2 e3
        subst e1
        have hbk : (k : Int) < n := by omega
        have hkb : k ≤ 2097152 := by omega
        have hfit := HFN.out _ (List.getElem_mem hkl)
        have hst : ((x.now.take (k + 1)).map (·.1)).filter (isPre p) = ((x.now.take k).map (·.1)).filter (isPre p) ++ (if isPre p x.now[k].1 then [x.now[k].1] else []) := by
          rw [List.take_succ_eq_append_getElem hkl, List.map_append, List.filter_append]
          simp only [List.map_cons, List.map_nil, List.filter_cons, List.filter_nil]
        have hcl : (((x.now.take k).map (·.1)).filter (isPre p)).length ≤ 4194303 := by
          have h1 := List.length_filter_le (isPre p) ((x.now.take k).map (·.1))
          have h2 := List.length_take_le k x.now
          rw [List.length_map] at h1
          omega
        obtain ⟨y, hy⟩ : ∃ y, x.now[k] = y := ⟨_, rfl⟩
        rw [hy] at r0 r1 hfit hst
        obtain ⟨yk, yd⟩ := y
        obtain ⟨L, hL⟩ : ∃ L, ((x.now.take k).map (·.1)).filter (isPre p) = L := ⟨_, rfl⟩
        rw [hL] at HR hst hcl
        have hyk : yk.size ≤ 64 := hfit.2.1
        simp only at r0 r1 hst
        clear e2 e3 hr hfit hy hL
        by_cases hps : p.size ≤ yk.size
        · have hpi : (p.size : Int) ≤ yk.size := by omega
          have hsz : (yk.extract 0 p.size).size = p.size := by rw [ByteArray.size_extract]; omega
          rw [pre_cut hps] at hst
          by_cases he : yk.extract 0 p.size = p
          · rw [decide_eq_true he, if_pos rfl] at hst
            have hq := seqB_yes he
            have HST := Lib.hid hst
            have HCL := Lib.hid hcl
            clear hst he hcl hsz
            go_wp2_with (at_builtin; refine wpList_strA _ w.heap.size yk rfl _ _ rfl _ L rfl rfl HR.out (Nat.le_succ_of_le HCL.out) HB.out.size ?_; intro v6 w6 hr6 hb6; have HR6 := Lib.hid hr6; have HB6 := Lib.hid (HB.out.trans hb6); clear hr6 hb6)
            exact ⟨⟨k + 1, by omega, by go_num, Lib.hid (by rw [HST.out]; exact HR6.out), HB6⟩, by simp [intOf]; omega⟩
          · rw [decide_eq_false he, if_neg (by simp), List.append_nil] at hst
            have hq := textNe he
            have HST := Lib.hid hst
            clear hst he hsz
            go_wp2
            exact ⟨⟨k + 1, by omega, by go_num, Lib.hid (by rw [HST.out]; exact HR.out), HB⟩, by simp [intOf]; omega⟩
        · have hpi : ¬ (p.size : Int) ≤ yk.size := by omega
          rw [pre_short hps, if_neg (by simp), List.append_nil] at hst
          have HST := Lib.hid hst
          clear hst hps
          go_wp2
          exact ⟨⟨k + 1, by omega, by go_num, Lib.hid (by rw [HST.out]; exact HR.out), HB⟩, by simp [intOf]; omega⟩
      · obtain rfl : k = n := by omega
        have hfull : x.now.take k = x.now := by rw [← HN.out]; exact List.take_length
        rw [hfull] at HR
        clear hr hfull hk hlt2
        go_wp2
        go_ret
        exact ⟨_, rfl, HR.out, HB.out⟩
end Go.Proofs.YtcicdgajhheipaaGreat

set_option linter.unusedVariables false
namespace Go.Proofs.YtcicdgajhheipaaGreat
open Go.RowKit
/-- The cells of bytes. -/
def bC (l : List UInt8) : List Value := l.map fun x => .int .u8 (x.toNat : Int)
theorem bC_len (l : List UInt8) : (bC l).length = l.length := by simp [bC]
theorem bC_app (l m : List UInt8) : bC (l ++ m) = bC l ++ bC m := by simp [bC]
theorem bC_at (l : List UInt8) (j : Nat) (h : j < l.length) : (bC l)[j]? = some (.int .u8 (l[j].toNat : Int)) := by simp [bC, List.getElem?_eq_getElem h]
theorem bC_one (l : List UInt8) : ∀ u ∈ bC l, u.oneCell' = true := by
  intro u hu; simp only [bC, List.mem_map] at hu; obtain ⟨x, _, rfl⟩ := hu; rfl
theorem bC_string (s : ByteArray) : byteCells s = bC s.data.toList := rfl
/-- A slice of the call's own that holds these bytes. -/
def RowB (w : World) (base : Nat) (v : Value) (l : List UInt8) : Prop := Row w base 1 v l.length (bC l)
theorem infoU8 : (Tryz.prog.info? 5).map (fun i => (i.zero, i.size, i.bytes)) = some (some (.int .u8 0), 1, 1) := by kernel_rfl
section
variable {w w' : World} {base : Nat} {v : Value} {l : List UInt8}
theorem RowB.nil (w : World) (base : Nat) : RowB w base (.slice none 0 0) [] := Row.nil w base 1
theorem RowB.alloc (h : RowB w base v l) (o : Obj) : RowB (w.alloc o) base v l := Row.alloc h o
theorem RowB.drew (h : RowB w base v l) : RowB w.drew base v l := h
theorem RowB.drewN (h : RowB w base v l) (n : Nat) : RowB (w.drewN n) base v l := h
theorem RowB.keep (h : RowB w base v l) (hb : Below w.heap.size w w') : RowB w' base v l := Row.keep h hb
theorem RowB.below {B : Nat} (h : RowB w base v l) (hb : Below B w w') (hB : ∀ k, v.ownBlock = some k → k < B) : RowB w' base v l := Row.below h hb hB
theorem RowB.lt (h : RowB w base v l) (k : Nat) (hk : v.ownBlock = some k) : base ≤ k ∧ k < w.heap.size := Row.lt h k hk
theorem RowB.slice (h : RowB w base v l) : ∃ a cap, v = .slice a l.length cap := Row.slice h
theorem RowB.mono {base' : Nat} (h : RowB w base v l) (hb : base' ≤ base) : RowB w base' v l := Row.mono h hb
theorem RowB.form (h : RowB w base v l) : (v = .slice none 0 0 ∧ l = []) ∨ ∃ g cap, v = .slice (some ⟨g, 0, none⟩) l.length cap ∧ base ≤ g ∧ g < w.heap.size ∧ l.length ≤ cap ∧
    ∀ j (hj : j < l.length), w.cell? ⟨g, j, none⟩ = some (.int .u8 l[j].toNat) := by
  rcases Row.form h with ⟨rfl, h0, hx⟩ | ⟨g, cap, rfl, hb, hg, hc, hm, hx, _⟩
  · exact .inl ⟨rfl, List.eq_nil_of_length_eq_zero h0⟩
  · exact .inr ⟨g, cap, rfl, hb, hg, hc, fun j hj => hx j _ (bC_at l j hj)⟩
/-- The row as a string. -/
theorem RowB.str (h : RowB w base v l) : (convert 87 9 v).run Tryz.prog w = .ok (.string ⟨l.toArray⟩) w := by
  rcases h.form with ⟨rfl, rfl⟩ | ⟨g, cap, rfl, _, _, _, ho⟩
  · exact run_convert_bytes_nil (P := Tryz.prog) (w := w) 87 5 Tryz.underlying87 Tryz.underlying5 0 0 9 Tryz.underlying9
  · refine run_convert_bytes_back (P := Tryz.prog) w 87 9 5 ⟨g, 0, none⟩ cap l Tryz.underlying87 Tryz.underlying5 Tryz.underlying9 (fun j hj => ?_)
    rw [show (⟨g, 0, none⟩ : Addr).add j = ⟨g, j, none⟩ by simp [Addr.add]; omega]
    exact ho j hj
theorem RowB.src (h : RowB w base v l) : Src Tryz.prog 1 87 v l.length (bC l) w := Row.src h Tryz.underlying87 (bC_one l)
end
theorem lit_row (w : World) (x : UInt8) : RowB (w.alloc (.cells #[.int .u8 (x.toNat : Int)] 5)) w.heap.size (.slice (some ⟨w.heap.size, 0, none⟩) 1 1) [x] :=
  row_lit w #[.int .u8 (x.toNat : Int)] 5 1 1 (by unfold maxLen; omega) rfl
/-- A row of the call's own grows by a source of bytes. -/
theorem wpList_bytes {ops : Array Oper} {rest : List Oper} {o : Oper} {a : Act} {Q : Exit → Act → World → Prop} (w : World) (hgd : o.guard = none) (s x : Operand) (tx : TypeId)
    (ho : o.op = .call { callee := .builtin .append, args := #[s, x], argTypes := #[87, tx] }) (base : Nat) (v : Value) (l : List UInt8) (hs : a.eval s = v)
    (xv : Value) (m : List UInt8) (hx : a.eval x = xv) (hsrc : Src Tryz.prog 1 tx xv m.length (bC m) w) (hrow : RowB w base v l) (hlen : l.length + m.length ≤ 140737488355328) (hbase : base ≤ w.heap.size)
    (h : ∀ v' w', RowB w' base v' (l ++ m) → Below base w w' → (v'.ownBlock = v.ownBlock ∨ v'.ownBlock = some w.heap.size) → w.grownBy w' v.ownBlock → wpList Tryz.prog ops Q rest (a.put o.dst v') w') : wpList Tryz.prog ops Q (o :: rest) a w := by
  obtain ⟨i0, hi, hz0, hz1, hz2⟩ := info_parts infoU8
  refine wpList_append_row w hgd s x 87 tx ho base 5 i0 (.int .u8 0) 1 1 Tryz.underlying87 hi hz0 hz1 hz2 rfl v _ _ hs hrow xv _ _ hx hsrc (by unfold maxLen; omega) (by omega) hbase ?_
  intro v' w1 h1 hg hat
  exact h v' w1 (by unfold RowB; rw [bC_app, List.length_append]; exact h1) (Row.low hrow hg (Below.refl _ _) hbase) hat hg
/-- One byte appended. -/
theorem wpList_byte {ops : Array Oper} {rest : List Oper} {o : Oper} {a : Act} {Q : Exit → Act → World → Prop} (w : World) (u : Int) (hgd : o.guard = none) (s x : Operand)
    (ho : o.op = .call { callee := .builtin .append, args := #[s, x], argTypes := #[87, 87] }) (base : Nat) (v : Value) (l : List UInt8) (hs : a.eval s = v)
    (hx : a.eval x = .slice (some ⟨w.heap.size, 0, none⟩) 1 1) (y : UInt8) (hy : u = (y.toNat : Int)) (hrow : RowB w base v l) (hlen : l.length < 140737488355328) (hbase : base ≤ w.heap.size)
    (h : ∀ v' w', RowB w' base v' (l ++ [y]) → Below base w w' → (v'.ownBlock = v.ownBlock ∨ (∃ k, v'.ownBlock = some k ∧ w.heap.size ≤ k)) → w.grownBy w' v.ownBlock → wpList Tryz.prog ops Q rest (a.put o.dst v') w') : wpList Tryz.prog ops Q (o :: rest) a (w.alloc (.cells #[.int .u8 u] 5)) := by
  subst hy
  refine wpList_bytes _ hgd s x 87 ho base v l hs _ [y] hx (lit_row w y).src (hrow.alloc _) (by simp; omega) (Nat.le_trans hbase (by simp)) ?_
  intro v' w1 h1 hb hat hg
  have hg' : w.grownBy w1 v.ownBlock := ⟨hg.os, hg.tape, hg.output, Nat.le_trans (by simp) hg.size, fun i hi hne => (hg.block i (by simp; omega) hne).trans (Below.heap_alloc w _ i hi)⟩
  refine h v' w1 h1 (((Below.refl base w).alloc hbase _).trans hb) ?_ hg'
  rcases hat with e | e
  · exact .inl e
  · exact .inr ⟨_, e, by simp⟩
/-- '[]byte(s)'. -/
theorem bytes_row (w : World) (s : ByteArray) (hs : s.size ≤ maxLen) : ∃ cap w', (convert 9 87 (.string s)).run Tryz.prog w = .ok (.slice (some ⟨w.heap.size, 0, none⟩) s.size cap) w' ∧ RowB w' w.heap.size (.slice (some ⟨w.heap.size, 0, none⟩) s.size cap) s.data.toList ∧ Below w.heap.size w w' := by
  have hsz := Lib.bytesWorld_size w 5 s
  have hge := grownCap_ge w s.size 0 5
  have hl : s.data.toList.length = s.size := by simp
  have hcs : (Lib.bytesCells w 5 s).size = grownCap w s.size 0 5 := by
    unfold Lib.bytesCells; rw [Array.size_append, Array.size_map, Array.size_replicate]
    have : s.data.size = s.size := rfl
    omega
  refine ⟨_, _, Lib.run_convert_string_bytes w 9 87 5 s (u := .string) Tryz.underlying9 Tryz.underlying87 Tryz.underlying5, ?_, ?_⟩
  · unfold RowB
    rw [hl]
    refine ⟨by rw [bC_len, hl]; omega, .inr ⟨w.heap.size, _, rfl, Nat.le_refl _, by omega, hge, grownCap_le_maxLen w _ _ _ hs, fun j u hu => ?_, fun j hj => ?_⟩⟩
    · have hj : j < s.size := by have := (List.getElem?_eq_some_iff.1 hu).1; rw [bC_len, hl] at this; exact this
      rw [Lib.bytesWorld_cell w 5 s j hj, ← hu, bC_at _ j (by omega), List.getD_eq_getElem?_getD, List.getElem?_eq_getElem (by omega)]; rfl
    · have hj' : j < (Lib.bytesCells w 5 s).size := by rw [hcs]; omega
      refine ⟨?_, ?_⟩
      · simp only [World.cell?, Lib.bytesWorld_at_new]
        simp [hj']
      · simp only [World.frozen?, Lib.bytesWorld_at_new]
        simp; omega
  · exact ⟨rfl, rfl, rfl, by omega, fun k hk => Lib.bytesWorld_at_old w 5 s k hk⟩
end Go.Proofs.YtcicdgajhheipaaGreat
