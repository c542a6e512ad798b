import Derived.Test.YtegplajddhiejaaGreatRs6
import Derived.Test.YtegplajddhiejaaGreatMgLoneMake9
set_option linter.unusedVariables false
namespace Go.Proofs.YtegplajddhiejaaGreat
open Go.RowKit Go.WideMaps Go.Maps Go.MapKept
theorem crash_empty : ∀ (ps : List Wr) (i : Nat) (l : List Rec), crashL ⟨#[]⟩ ps i l = l
  | [], _, _ => rfl
  | p :: ps, i, l => by
    unfold crashL
    have : survB ⟨#[]⟩ i = false := by unfold survB; simp
    rw [this]
    simp only [Bool.false_eq_true, if_false]
    exact crash_empty ps (i + 1) l
theorem rcrash_step (keep : ByteArray) (l : List Wr) (d : List Rec) (k : Nat) (h : k < l.length) : crashL keep (l.take (k + 1)) 0 d = if survB keep k then doW (crashL keep (l.take k) 0 d) l[k] else crashL keep (l.take k) 0 d := by
  rw [List.take_succ_eq_append_getElem h, crash_snoc, List.length_take_of_le (Nat.le_of_lt h), Nat.zero_add]
theorem wr_at {w : World} {v : Value} {l : List Wr} (h : Row w 0 3 v l.length (wrsV l)) (k : Nat) (hk : k < l.length) : ∃ g c, v = .slice (some ⟨g, 0, none⟩) l.length c ∧ g < w.heap.size ∧ w.cell? ⟨g, k * 3, none⟩ = some (.string l[k].key) ∧ w.cell? ⟨g, k * 3 + 1, none⟩ = some (.string l[k].data) ∧ w.cell? ⟨g, k * 3 + 2, none⟩ = some (.bool l[k].cut) := by
  obtain ⟨q1, q2, q3⟩ := wrsV_at l k hk
  rcases Row.form h with ⟨_, h0, _⟩ | ⟨g, cap, rfl, _, hg, _, _, hx, _⟩
  · omega
  · exact ⟨g, cap, rfl, hg, hx _ _ q1, hx _ _ q2, hx _ _ q3⟩
/-- What the store is behind the loop: the list takes all places. -/
theorem crash_end {K : Nat} {w wr : World} {g : Nat} {vd vw vv lv : Value} {x : Fld} {L : List Rec} (h : RSF w g vd vw vv x) (hb : Below w.heap.size w wr) (hl : RecL wr lv L) (ho : ∀ k, lv.ownBlock = some k → vd.ownBlock = some k ∨ w.heap.size ≤ k) (u : Int) :
    RKept w g vd vw vv { x with dur := L, now := L, pend := [], used := u, off := false, left := 0, age := x.age + 1 }
      ((((((wr.setCell ⟨g, 1, none⟩ lv).setCell ⟨g, 6, none⟩ lv).setCell ⟨g, 2, none⟩ (.slice none 0 0)).setCell ⟨g, 3, none⟩ (.bool false)).setCell ⟨g, 4, none⟩ (.int .i64 0)).setCell ⟨g, 5, none⟩ (.int .i64 (x.age + 1))) := by
  have h1 := h.keep hb
  have n1 : lv.ownBlock ≠ some g := fun e => by
    rcases ho g e with e2 | e2
    · exact h.nd e2
    · have := h.lt; omega
  have n2 : ∀ k, vw.ownBlock = some k → lv.ownBlock ≠ some k := fun k hk e => by
    rcases ho k e with e2 | e2
    · exact (h.nw k hk).2.1 e2
    · have := rsf_row h.row hk; omega
  have a1 := h1.setDur hl n1 n2
  have a2 := a1.setView (u := lv) (l := L) (Row.setCell hl n1 _) n1 n2
  refine ⟨lv, .slice none 0 0, lv, (((a2.clear.setOff false).setLeft 0).setAge (x.age + 1)).other u, ?_, fun m hm => ?_⟩
  · have hg : g ∈ rfoot g vd vw vv := mem_rfoot.2 (.inl rfl)
    exact ((((((Touch.below hb (rfoot g vd vw vv)).setCell (p := ⟨g, 1, none⟩) (.inl hg) _).setCell (p := ⟨g, 6, none⟩) (.inl hg) _).setCell (p := ⟨g, 2, none⟩) (.inl hg) _).setCell (p := ⟨g, 3, none⟩) (.inl hg) _).setCell (p := ⟨g, 4, none⟩) (.inl hg) _).setCell (p := ⟨g, 5, none⟩) (.inl hg) _
  · rcases mem_rfoot.1 hm with e | e | e | e
    · exact .inl (mem_rfoot.2 (.inl e))
    · exact (ho m e).imp (fun e => mem_rfoot.2 (.inr (.inl e))) id
    · cases e
    · exact (ho m e).imp (fun e => mem_rfoot.2 (.inr (.inl e))) id
end Go.Proofs.YtegplajddhiejaaGreat

set_option linter.unusedVariables false
namespace Go.Proofs.YtegplajddhiejaaGreat
open Go.RowKit Go.WideMaps Go.Maps Go.MapKept
theorem textNe {a b : ByteArray} (h : a ≠ b) : (a.toList == b.toList) = false := by
  rw [beq_eq_false_iff_ne]
  intro e
  rw [ByteArray.toList_eq, ByteArray.toList_eq] at e
  exact h (ByteArray.ext (Array.toList_inj.1 e))
theorem seqB_yes {a b : ByteArray} (h : a = b) : (a.toList == b.toList) = true := by subst h; simp
theorem strV_snoc (l : List ByteArray) (s : ByteArray) : strV (l ++ [s]) = strV l ++ [.string s] := by simp [strV]
/-- A string appended to a list of the call's own. -/
theorem wpList_strA {ops : Array Oper} {rest : List Oper} {o : Oper} {a : Act} {Q : Exit → Act → World → Prop} (wr : World) (B : Nat) (d : ByteArray) (hgd : o.guard = none) (s x : Operand)
    (ho : o.op = .call { callee := .builtin .append, args := #[s, x], argTypes := #[65, 65] }) (v : Value) (l : List ByteArray) (hs : a.eval s = v) (hx : a.eval x = .slice (some ⟨wr.heap.size, 0, none⟩) 1 1)
    (hrow : Row wr B 1 v l.length (strV l)) (hlen : l.length ≤ 4194304) (hB : B ≤ wr.heap.size)
    (h : ∀ v' w', Row w' B 1 v' (l ++ [d]).length (strV (l ++ [d])) → Below B wr w' → wpList Tryz.prog ops Q rest (a.put o.dst v') w') : wpList Tryz.prog ops Q (o :: rest) a (wr.alloc (.cells #[.string d] 9)) := by
  obtain ⟨i0, hi, hz0, hz1, hz2⟩ := info_parts infoStrK
  refine wpList_append_row _ hgd s x 65 65 ho B 9 i0 (.string ⟨#[]⟩) 1 16 Tryz.underlying65 hi hz0 hz1 hz2 rfl v _ _ hs (hrow.alloc _) _ 1 _ hx (Row.src (row_lit wr #[.string d] 9 1 1 (by unfold maxLen; omega) rfl) Tryz.underlying65 (by intro z hz; simp at hz; subst hz; rfl)) (by unfold maxLen; omega) (by omega) (Nat.le_trans hB (by simp)) ?_
  intro v' w1 h1 hg hat
  refine h v' w1 ?_ ?_
  · rw [strV_snoc, List.length_append]; exact h1
  · exact ((Below.refl B wr).alloc hB _).grown hg (Nat.le_trans hB (by simp)) (fun j hj => (hrow.lt j hj).1)
theorem pre_cut {p k : ByteArray} (h : p.size ≤ k.size) : isPre p k = decide (k.extract 0 p.size = p) := by
  unfold isPre
  have e : (k.extract 0 p.size).data.toList = k.data.toList.take p.size := by simp [ByteArray.data_extract]
  refine decide_eq_decide.2 ⟨fun hp => ?_, fun hp => ?_⟩
  · have h2 := List.prefix_iff_eq_take.1 hp
    have h3 : (k.extract 0 p.size).data.toList = p.data.toList := by rw [e, h2]; simp
    exact ByteArray.ext (Array.toList_inj.1 h3)
  · rw [← hp, e]; exact List.take_prefix _ _
theorem pre_short {p k : ByteArray} (h : ¬ p.size ≤ k.size) : isPre p k = false := by
  unfold isPre
  refine decide_eq_false fun hp => h ?_
  have := hp.length_le
  simpa using this
set_option maxRecDepth 100000 in
set_option maxHeartbeats 8000000 in
theorem rkeys_calls (K : Nat) (hK : K ≤ 2097152) (p : ByteArray) (hp : p.size ≤ 4611686018427387904) (w : World) (g : Nat) (vd vw vv : Value) (x : Fld) (h : RSF w g vd vw vv x) (hf : Fine K x) :
    Calls Tryz.prog 41 #[.pointer (some ⟨g, 0, none⟩), .string p] w fun e w' => ∃ ks, e = .returned ks ∧ Row w' w.heap.size 1 ks (keysZ x p).length (strV (keysZ x p)) ∧ Below w.heap.size w w' := by
  have c3 := h.c3
  by_cases ho : x.off = true
  · rw [keys_1 ho]
    rw [ho] at c3
    clear h hf
    go_enter Tryz.func41, Tryz.ntmps41
    go_wp2
    go_ret
    exact ⟨_, rfl, Row.nil _ _ 1, Below.refl _ _⟩
  · have ho' : x.off = false := by simpa using ho
    rw [ho'] at c3
    rw [keys_2 ho']
    have hln := hf.ln
    have HFN := Lib.hid hf.fn
    have H := Lib.hid h
    have hlt := h.lt
    have c6 := h.c6
    obtain ⟨va, vc, hvv⟩ := h.now.slice
    subst hvv
    obtain ⟨n, hn⟩ : ∃ n, x.now.length = n := ⟨_, rfl⟩
    rw [hn] at c6 hln
    have HN := Lib.hid hn
    clear h hf hn ho ho'
    go_enter Tryz.func41, Tryz.ntmps41
    go_wp2
    go_loopw [5, 6, 7] (fun ov iv kv wr => ∃ (k : Nat), k ≤ n ∧ iv = .int .i64 k ∧ Hid (Row wr w.heap.size 1 ov (((x.now.take k).map (·.1)).filter (isPre p)).length (strV (((x.now.take k).map (·.1)).filter (isPre p)))) ∧ Hid (Below w.heap.size w wr)) (fun _ iv _ _ => n - (intOf iv).toNat)
    case atStart => exact ⟨0, by omega, rfl, Lib.hid (Row.nil _ _ 1), Lib.hid (Below.refl _ _)⟩
    case round =>
      obtain ⟨k, hk, rfl, HR, HB⟩ := hrel
      have hr := H.out.keep HB.out
      have s6 := hr.c6
      rw [HN.out] at s6
      by_cases hlt2 : k < n
      · have hkl : k < x.now.length := by rw [HN.out]; exact hlt2
        obtain ⟨pg, pc, hv, hpg, r0, r1⟩ := hr.now.at k hkl
        injection hv with e1 e2 e3
        subst e1
        have hbk : (k : Int) < n := by omega
        have hkb : k ≤ 2097152 := by omega
        have hfit := HFN.out _ (List.getElem_mem hkl)
        have hst : ((x.now.take (k + 1)).map (·.1)).filter (isPre p) = ((x.now.take k).map (·.1)).filter (isPre p) ++ (if isPre p x.now[k].1 then [x.now[k].1] else []) := by
          rw [List.take_succ_eq_append_getElem hkl, List.map_append, List.filter_append]
          simp only [List.map_cons, List.map_nil, List.filter_cons, List.filter_nil]
        have hcl : (((x.now.take k).map (·.1)).filter (isPre p)).length ≤ 4194303 := by
          have h1 := List.length_filter_le (isPre p) ((x.now.take k).map (·.1))
          have h2 := List.length_take_le k x.now
          rw [List.length_map] at h1
          omega
        obtain ⟨y, hy⟩ : ∃ y, x.now[k] = y := ⟨_, rfl⟩
        rw [hy] at r0 r1 hfit hst
        obtain ⟨yk, yd⟩ := y
        obtain ⟨L, hL⟩ : ∃ L, ((x.now.take k).map (·.1)).filter (isPre p) = L := ⟨_, rfl⟩
        rw [hL] at HR hst hcl
        have hyk : yk.size ≤ 64 := hfit.2.1
        simp only at r0 r1 hst
        clear e2 e3 hr hfit hy hL
        by_cases hps : p.size ≤ yk.size
        · have hpi : (p.size : Int) ≤ yk.size := by omega
          have hsz : (yk.extract 0 p.size).size = p.size := by rw [ByteArray.size_extract]; omega
          rw [pre_cut hps] at hst
          by_cases he : yk.extract 0 p.size = p
          · rw [decide_eq_true he, if_pos rfl] at hst
            have hq := seqB_yes he
            have HST := Lib.hid hst
            have HCL := Lib.hid hcl
            clear hst he hcl hsz
            go_wp2_with (at_builtin; refine wpList_strA _ w.heap.size yk rfl _ _ rfl _ L rfl rfl HR.out (Nat.le_succ_of_le HCL.out) HB.out.size ?_; intro v6 w6 hr6 hb6; have HR6 := Lib.hid hr6; have HB6 := Lib.hid (HB.out.trans hb6); clear hr6 hb6)
            exact ⟨⟨k + 1, by omega, by go_num, Lib.hid (by rw [HST.out]; exact HR6.out), HB6⟩, by simp [intOf]; omega⟩
          · rw [decide_eq_false he, if_neg (by simp), List.append_nil] at hst
            have hq := textNe he
            have HST := Lib.hid hst
            clear hst he hsz
            go_wp2
            exact ⟨⟨k + 1, by omega, by go_num, Lib.hid (by rw [HST.out]; exact HR.out), HB⟩, by simp [intOf]; omega⟩
        · have hpi : ¬ (p.size : Int) ≤ yk.size := by omega
          rw [pre_short hps, if_neg (by simp), List.append_nil] at hst
          have HST := Lib.hid hst
          clear hst hps
          go_wp2
          exact ⟨⟨k + 1, by omega, by go_num, Lib.hid (by rw [HST.out]; exact HR.out), HB⟩, by simp [intOf]; omega⟩
      · obtain rfl : k = n := by omega
        have hfull : x.now.take k = x.now := by rw [← HN.out]; exact List.take_length
        rw [hfull] at HR
        clear hr hfull hk hlt2
        go_wp2
        go_ret
        exact ⟨_, rfl, HR.out, HB.out⟩
end Go.Proofs.YtegplajddhiejaaGreat
