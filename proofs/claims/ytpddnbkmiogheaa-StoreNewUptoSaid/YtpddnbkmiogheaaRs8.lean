import Derived.Test.YtpddnbkmiogheaaRs7
import Derived.Test.YtpddnbkmiogheaaLd3
set_option linter.unusedVariables false
namespace Go.Proofs.Ytpddnbkmiogheaa
open Go.RowKit Go.WideMaps Go.Maps Go.MapKept
theorem strV_snoc (l : List ByteArray) (s : ByteArray) : strV (l ++ [s]) = strV l ++ [.string s] := by simp [strV]
/-- A string appended to a list of the call's own. -/
theorem wpList_strA {ops : Array Oper} {rest : List Oper} {o : Oper} {a : Act} {Q : Exit → Act → World → Prop} (wr : World) (B : Nat) (d : ByteArray) (hgd : o.guard = none) (s x : Operand)
    (ho : o.op = .call { callee := .builtin .append, args := #[s, x], argTypes := #[32, 32] }) (v : Value) (l : List ByteArray) (hs : a.eval s = v) (hx : a.eval x = .slice (some ⟨wr.heap.size, 0, none⟩) 1 1)
    (hrow : Row wr B 1 v l.length (strV l)) (hlen : l.length ≤ 4194304) (hB : B ≤ wr.heap.size)
    (h : ∀ v' w', Row w' B 1 v' (l ++ [d]).length (strV (l ++ [d])) → Below B wr w' → wpList Try.prog ops Q rest (a.put o.dst v') w') : wpList Try.prog ops Q (o :: rest) a (wr.alloc (.cells #[.string d] 9)) := by
  obtain ⟨i0, hi, hz0, hz1, hz2⟩ := info_parts infoStrK
  refine wpList_append_row _ hgd s x 32 32 ho B 9 i0 (.string ⟨#[]⟩) 1 16 Try.underlying32 hi hz0 hz1 hz2 rfl v _ _ hs (hrow.alloc _) _ 1 _ hx (Row.src (row_lit wr #[.string d] 9 1 1 (by unfold maxLen; omega) rfl) Try.underlying32 (by intro z hz; simp at hz; subst hz; rfl)) (by unfold maxLen; omega) (by omega) (Nat.le_trans hB (by simp)) ?_
  intro v' w1 h1 hg hat
  refine h v' w1 ?_ ?_
  · rw [strV_snoc, List.length_append]; exact h1
  · exact ((Below.refl B wr).alloc hB _).grown hg (Nat.le_trans hB (by simp)) (fun j hj => (hrow.lt j hj).1)
theorem pre_cut {p k : ByteArray} (h : p.size ≤ k.size) : isPre p k = decide (k.extract 0 p.size = p) := by
  unfold isPre
  have e : (k.extract 0 p.size).data.toList = k.data.toList.take p.size := by simp [ByteArray.data_extract]
  refine decide_eq_decide.2 ⟨fun hp => ?_, fun hp => ?_⟩
  · have h2 := List.prefix_iff_eq_take.1 hp
    have h3 : (k.extract 0 p.size).data.toList = p.data.toList := by rw [e, h2]; simp
    exact ByteArray.ext (Array.toList_inj.1 h3)
  · rw [← hp, e]; exact List.take_prefix _ _
theorem pre_short {p k : ByteArray} (h : ¬ p.size ≤ k.size) : isPre p k = false := by
  unfold isPre
  refine decide_eq_false fun hp => h ?_
  have := hp.length_le
  simpa using this
set_option maxRecDepth 100000 in
set_option maxHeartbeats 8000000 in
theorem rkeys_calls (K : Nat) (hK : K ≤ 2097152) (p : ByteArray) (hp : p.size ≤ 4611686018427387904) (w : World) (g : Nat) (vd vw vv : Value) (x : Fld) (h : RSF w g vd vw vv x) (hf : Fine K x) :
    Calls Try.prog 37 #[.pointer (some ⟨g, 0, none⟩), .string p] w fun e w' => ∃ ks, e = .returned ks ∧ Row w' w.heap.size 1 ks (keysZ x p).length (strV (keysZ x p)) ∧ Below w.heap.size w w' := by
  have c3 := h.c3
  by_cases ho : x.off = true
  · rw [keys_1 ho]
    rw [ho] at c3
    clear h hf
    go_enter Try.func37, Try.ntmps37
    go_wp2
    go_ret
    exact ⟨_, rfl, Row.nil _ _ 1, Below.refl _ _⟩
  · have ho' : x.off = false := by simpa using ho
    rw [ho'] at c3
    rw [keys_2 ho']
    have hln := hf.ln
    have HFN := Lib.hid hf.fn
    have H := Lib.hid h
    have hlt := h.lt
    have c6 := h.c6
    obtain ⟨va, vc, hvv⟩ := h.now.slice
    subst hvv
    obtain ⟨n, hn⟩ : ∃ n, x.now.length = n := ⟨_, rfl⟩
    rw [hn] at c6 hln
    have HN := Lib.hid hn
    clear h hf hn ho ho'
    go_enter Try.func37, Try.ntmps37
    go_wp2
    go_loopw [5, 6, 7] (fun ov iv kv wr => ∃ (k : Nat), k ≤ n ∧ iv = .int .i64 k ∧ Hid (Row wr w.heap.size 1 ov (((x.now.take k).map (·.1)).filter (isPre p)).length (strV (((x.now.take k).map (·.1)).filter (isPre p)))) ∧ Hid (Below w.heap.size w wr)) (fun _ iv _ _ => n - (intOf iv).toNat)
    case atStart => exact ⟨0, by omega, rfl, Lib.hid (Row.nil _ _ 1), Lib.hid (Below.refl _ _)⟩
    case round =>
      obtain ⟨k, hk, rfl, HR, HB⟩ := hrel
      have hr := H.out.keep HB.out
      have s6 := hr.c6
      rw [HN.out] at s6
      by_cases hlt2 : k < n
      · have hkl : k < x.now.length := by rw [HN.out]; exact hlt2
        obtain ⟨pg, pc, hv, hpg, r0, r1⟩ := hr.now.at k hkl
        injection hv with e1 e2 e3
        subst e1
        have hbk : (k : Int) < n := by omega
        have hkb : k ≤ 2097152 := by omega
        have hfit := HFN.out _ (List.getElem_mem hkl)
        have hst : ((x.now.take (k + 1)).map (·.1)).filter (isPre p) = ((x.now.take k).map (·.1)).filter (isPre p) ++ (if isPre p x.now[k].1 then [x.now[k].1] else []) := by
          rw [List.take_succ_eq_append_getElem hkl, List.map_append, List.filter_append]
          simp only [List.map_cons, List.map_nil, List.filter_cons, List.filter_nil]
        have hcl : (((x.now.take k).map (·.1)).filter (isPre p)).length ≤ 4194303 := by
          have h1 := List.length_filter_le (isPre p) ((x.now.take k).map (·.1))
          have h2 := List.length_take_le k x.now
          rw [List.length_map] at h1
          omega
        obtain ⟨y, hy⟩ : ∃ y, x.now[k] = y := ⟨_, rfl⟩
        rw [hy] at r0 r1 hfit hst
        obtain ⟨yk, yd⟩ := y
        obtain ⟨L, hL⟩ : ∃ L, ((x.now.take k).map (·.1)).filter (isPre p) = L := ⟨_, rfl⟩
        rw [hL] at HR hst hcl
        have hyk : yk.size ≤ 64 := hfit.2.1
        simp only at r0 r1 hst
        clear e2 e3 hr hfit hy hL
        by_cases hps : p.size ≤ yk.size
        · have hpi : (p.size : Int) ≤ yk.size := by omega
          have hsz : (yk.extract 0 p.size).size = p.size := by rw [ByteArray.size_extract]; omega
          rw [pre_cut hps] at hst
          by_cases he : yk.extract 0 p.size = p
          · rw [decide_eq_true he, if_pos rfl] at hst
            have hq := seqB_yes he
            have HST := Lib.hid hst
            have HCL := Lib.hid hcl
            clear hst he hcl hsz
            go_wp2_with (at_builtin; refine wpList_strA _ w.heap.size yk rfl _ _ rfl _ L rfl rfl HR.out (Nat.le_succ_of_le HCL.out) HB.out.size ?_; intro v6 w6 hr6 hb6; have HR6 := Lib.hid hr6; have HB6 := Lib.hid (HB.out.trans hb6); clear hr6 hb6)
            exact ⟨⟨k + 1, by omega, by go_num, Lib.hid (by rw [HST.out]; exact HR6.out), HB6⟩, by simp [intOf]; omega⟩
          · rw [decide_eq_false he, if_neg (by simp), List.append_nil] at hst
            have hq := textNe he
            have HST := Lib.hid hst
            clear hst he hsz
            go_wp2
            exact ⟨⟨k + 1, by omega, by go_num, Lib.hid (by rw [HST.out]; exact HR.out), HB⟩, by simp [intOf]; omega⟩
        · have hpi : ¬ (p.size : Int) ≤ yk.size := by omega
          rw [pre_short hps, if_neg (by simp), List.append_nil] at hst
          have HST := Lib.hid hst
          clear hst hps
          go_wp2
          exact ⟨⟨k + 1, by omega, by go_num, Lib.hid (by rw [HST.out]; exact HR.out), HB⟩, by simp [intOf]; omega⟩
      · obtain rfl : k = n := by omega
        have hfull : x.now.take k = x.now := by rw [← HN.out]; exact List.take_length
        rw [hfull] at HR
        clear hr hfull hk hlt2
        go_wp2
        go_ret
        exact ⟨_, rfl, HR.out, HB.out⟩
end Go.Proofs.Ytpddnbkmiogheaa
