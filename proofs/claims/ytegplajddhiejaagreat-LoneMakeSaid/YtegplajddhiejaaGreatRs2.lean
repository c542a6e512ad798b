import Derived.Test.YtegplajddhiejaaGreatRs1
set_option linter.unusedVariables false
namespace Go.Proofs.YtegplajddhiejaaGreat
open Go.RowKit
/-- The place of a key in a list; -1: it is not there. -/
def idxZ (k : ByteArray) (l : List Rec) : Int := match l.findIdx? (fun r => decide (r.1 = k)) with | some i => i | none => -1
theorem idx_found {k : ByteArray} {l : List Rec} (j : Nat) (hj : j < l.length) (he : l[j].1 = k) (hn : ∀ i (h : i < l.length), i < j → l[i].1 ≠ k) : idxZ k l = j := by
  unfold idxZ
  have h : l.findIdx? (fun r => decide (r.1 = k)) = some j := by
    rw [List.findIdx?_eq_some_iff_getElem]
    exact ⟨hj, by simpa using he, fun i hi => by have := hn i (by omega) hi; simpa using this⟩
  rw [h]
theorem idx_none {k : ByteArray} {l : List Rec} (hn : ∀ i (h : i < l.length), l[i].1 ≠ k) : idxZ k l = -1 := by
  unfold idxZ
  have h : l.findIdx? (fun r => decide (r.1 = k)) = none := by
    rw [List.findIdx?_eq_none_iff]
    intro x hx
    obtain ⟨i, hi, rfl⟩ := List.getElem_of_mem hx
    simpa using hn i hi
  rw [h]
theorem find_at {k : ByteArray} {l : List Rec} (j : Nat) (hj : j < l.length) (he : l[j].1 = k) (hn : ∀ i (h : i < l.length), i < j → l[i].1 ≠ k) : findL k l = some l[j] := by
  unfold findL
  rw [List.find?_eq_some_iff_getElem]
  exact ⟨by simpa using he, j, hj, rfl, fun i hi => by have := hn i (by omega) hi; simpa using this⟩
theorem find_not {k : ByteArray} {l : List Rec} (hn : ∀ i (h : i < l.length), l[i].1 ≠ k) : findL k l = none := by
  unfold findL
  rw [List.find?_eq_none]
  intro x hx
  obtain ⟨i, hi, rfl⟩ := List.getElem_of_mem hx
  simpa using hn i hi
theorem seqB_no {a b : ByteArray} (h : a ≠ b) : (a.toList == b.toList) = false := by
  rw [beq_eq_false_iff_ne]
  intro e
  rw [ByteArray.toList_eq, ByteArray.toList_eq] at e
  exact h (ByteArray.ext (Array.toList_inj.1 e))
/-- find, told by what it finds. -/
def FindAt (k : ByteArray) (l : List Rec) (z : Int) : Prop := (∃ j, ∃ h : j < l.length, z = j ∧ l[j].1 = k ∧ findL k l = some l[j]) ∨ (z = -1 ∧ findL k l = none)
set_option maxRecDepth 100000 in
set_option maxHeartbeats 2000000 in
theorem rfind_calls (l : List Rec) (key : ByteArray) (v : Value) (w : World) (h : RecL w v l) (hl : l.length ≤ 4194304) : ∃ z, FindAt key l z ∧ Calls Tryz.prog 58 #[v, .string key] w fun e w' => e = .returned (.int .i64 z) ∧ w = w' := by
  have hz : ∃ z, z = idxZ key l ∧ FindAt key l z := by
    by_cases hx : ∃ j, ∃ h : j < l.length, l[j].1 = key ∧ ∀ i (h : i < l.length), i < j → l[i].1 ≠ key
    · obtain ⟨j, hj, he, hn⟩ := hx
      exact ⟨_, rfl, .inl ⟨j, hj, idx_found j hj he hn, he, find_at j hj he hn⟩⟩
    · have hn : ∀ i (h : i < l.length), l[i].1 ≠ key := by
        intro i
        induction i using Nat.strongRecOn with
        | _ i ih =>
          intro hi e
          exact hx ⟨i, hi, e, fun j hj hji => ih j hji hj⟩
      exact ⟨_, rfl, .inr ⟨idx_none hn, find_not hn⟩⟩
  obtain ⟨z, hz1, hz2⟩ := hz
  refine ⟨z, hz2, ?_⟩
  have HZ := Lib.hid hz1
  have H := Lib.hid h
  obtain ⟨a, c, rfl⟩ := h.slice
  obtain ⟨n, hn⟩ : ∃ n, l.length = n := ⟨_, rfl⟩
  rw [hn] at hl
  rw [hn]
  have HN := Lib.hid hn
  clear h hn hz1 hz2
  go_enter Tryz.func58, Tryz.ntmps58
  go_wp2
  go_loop [5] (fun iv => ∃ k : Nat, k ≤ n ∧ iv = .int .i64 k ∧ Hid (∀ i (h : i < l.length), i < k → l[i].1 ≠ key)) (fun iv => n - (intOf iv).toNat)
  case atStart => exact ⟨0, by omega, rfl, Lib.hid (fun i h hi => by omega)⟩
  case round =>
    obtain ⟨k, hk, rfl, HK⟩ := hrel
    by_cases hlt : k < n
    · have hkl : k < l.length := by rw [HN.out]; exact hlt
      obtain ⟨g, cc, hv, hg, r1, r2⟩ := H.out.at k hkl
      injection hv with hv1 hv2 hv3
      subst hv1
      have hbk : (k : Int) < n := by omega
      by_cases he : l[k].1 = key
      · have HI := Lib.hid (idx_found k hkl he (fun i h hi => HK.out i h hi))
        rw [he] at r1
        clear he hv2 hv3 r2
        go_wp2
        go_ret
        exact ⟨congrArg (fun z => Ending.returned (.int .i64 z)) (HI.out.symm.trans HZ.out.symm), rfl⟩
      · have hne := seqB_no he
        have HK2 : Hid (∀ i (h : i < l.length), i < k + 1 → l[i].1 ≠ key) := Lib.hid (fun i h hi => by
          by_cases e : i = k
          · subst e; exact he
          · exact HK.out i h (by omega))
        obtain ⟨y, hy⟩ : ∃ y, l[k].1 = y := ⟨_, rfl⟩
        rw [hy] at r1 hne
        clear he hv2 hv3 r2 hy
        go_wp2
        exact ⟨⟨k + 1, by omega, by go_num, HK2⟩, by simp [intOf]; omega⟩
    · obtain rfl : k = n := by omega
      have HI := Lib.hid (idx_none (k := key) (l := l) (fun i h => HK.out i h (by rw [← HN.out]; exact h)))
      clear hlt hk
      go_wp2
      go_ret
      exact ⟨congrArg (fun z => Ending.returned (.int .i64 z)) (HI.out.symm.trans HZ.out.symm), rfl⟩
/-- A record appended to a list of the call's own. -/
theorem wpList_rec {ops : Array Oper} {rest : List Oper} {o : Oper} {a : Act} {Q : Exit → Act → World → Prop} (wr : World) (B : Nat) (k d : ByteArray) (hgd : o.guard = none) (s x : Operand)
    (ho : o.op = .call { callee := .builtin .append, args := #[s, x], argTypes := #[43, 43] }) (v : Value) (l : List Rec) (hs : a.eval s = v) (hx : a.eval x = .slice (some ⟨wr.heap.size, 0, none⟩) 1 1)
    (hrow : Row wr B 2 v l.length (recsV l)) (hlen : l.length ≤ 4194304) (hB : B ≤ wr.heap.size)
    (h : ∀ v' w', Row w' B 2 v' (l ++ [(k, d)]).length (recsV (l ++ [(k, d)])) → Below B wr w' → wpList Tryz.prog ops Q rest (a.put o.dst v') w') : wpList Tryz.prog ops Q (o :: rest) a (wr.alloc (.cells #[.string k, .string d] 102)) := by
  obtain ⟨i0, hi, hz0, hz1, hz2⟩ := info_parts infoRec
  refine wpList_append_row _ hgd s x 43 43 ho B 102 i0 (.agg #[.string ⟨#[]⟩, .string ⟨#[]⟩]) 2 32 Tryz.underlying43 hi hz0 hz1 hz2 rfl v _ _ hs (hrow.alloc _) _ 1 _ hx (Row.src (row_lit wr #[.string k, .string d] 102 1 2 (by unfold maxLen; omega) rfl) Tryz.underlying43 (by intro z hz; simp at hz; rcases hz with rfl | rfl <;> rfl)) (by unfold maxLen; omega) (by omega) (Nat.le_trans hB (by simp)) ?_
  intro v' w1 h1 hg hat
  refine h v' w1 ?_ ?_
  · rw [recsV_snoc, List.length_append]; exact h1
  · exact ((Below.refl B wr).alloc hB _).grown hg (Nat.le_trans hB (by simp)) (fun j hj => (hrow.lt j hj).1)
theorem below_drewN {B : Nat} {a w : World} (h : Below B a w) (n : Nat) : Below B a (w.drewN n) := ⟨h.os, h.tape, h.output, h.size, h.block⟩
theorem inBox {w wr : World} {a b c : Value} {t : TypeId} (h : Below (w.heap.size + 1) (w.alloc (.cells #[a, b, c] t)) wr) : wr.cell? ⟨w.heap.size, 0, none⟩ = some a ∧ wr.cell? ⟨w.heap.size, 1, none⟩ = some b ∧ wr.cell? ⟨w.heap.size, 2, none⟩ = some c ∧ w.heap.size < wr.heap.size ∧ Below w.heap.size w wr ∧ ∀ g j, g < w.heap.size → wr.cell? ⟨g, j, none⟩ = w.cell? ⟨g, j, none⟩ := by
  have hb : Below w.heap.size w wr := ((Below.refl w.heap.size w).alloc (Nat.le_refl _) _).trans (h.mono (Nat.le_succ _))
  refine ⟨(h.cell (p := ⟨w.heap.size, 0, none⟩) (by simp)).trans (World.cell?_alloc_new w _ _ 0), (h.cell (p := ⟨w.heap.size, 1, none⟩) (by simp)).trans (World.cell?_alloc_new w _ _ 1), (h.cell (p := ⟨w.heap.size, 2, none⟩) (by simp)).trans (World.cell?_alloc_new w _ _ 2), by have h := h.size; simp at h; omega, hb, fun g j hg => hb.cell (p := ⟨g, j, none⟩) hg⟩
set_option maxRecDepth 100000 in
set_option maxHeartbeats 4000000 in
theorem rdone_calls (l : List Rec) (p : Wr) (v : Value) (w : World) (h : RecL w v l) (hl : l.length ≤ 4194303) :
    Calls Tryz.prog 72 #[v, .agg #[.string p.key, .string p.data, .bool p.cut]] w fun e w' => ∃ v', e = .returned v' ∧ Row w' w.heap.size 2 v' (refDo p p.cut l).length (recsV (refDo p p.cut l)) ∧ Below w.heap.size w w' := by
  have H := Lib.hid h
  obtain ⟨a, c, rfl⟩ := h.slice
  obtain ⟨n, hn⟩ : ∃ n, l.length = n := ⟨_, rfl⟩
  rw [hn] at hl
  rw [hn]
  have HN := Lib.hid hn
  obtain ⟨R, hR⟩ : ∃ R, refDo p p.cut l = R := ⟨_, rfl⟩
  rw [hR]
  have HR := Lib.hid hR
  obtain ⟨kk, dd, cut⟩ := p
  simp only
  have HB0 : Hid (Below (w.heap.size + 1) (w.alloc (.cells #[.string kk, .string dd, .bool cut] 107)) (w.alloc (.cells #[.string kk, .string dd, .bool cut] 107))) := Lib.hid (Below.refl _ _)
  clear h hn hR
  go_enter Tryz.func72, Tryz.ntmps72
  go_wp2
  go_loopw [5, 6, 7] (fun ov pv iv wr => ∃ (k : Nat) (pb : Bool) (out : List Rec), k ≤ n ∧ iv = .int .i64 k ∧ pv = .bool pb ∧ out.length ≤ n + 1 ∧ Hid (Row wr (w.heap.size + 1) 2 ov out.length (recsV out)) ∧ Hid (out ++ refDo ⟨kk, dd, cut⟩ pb (l.drop k) = R ∧ out.length ≤ k + (if pb then 1 else 0)) ∧ Hid (Below (w.heap.size + 1) (w.alloc (.cells #[.string kk, .string dd, .bool cut] 107)) wr)) (fun _ _ iv _ => n - (intOf iv).toNat)
  case atStart => exact ⟨0, cut, [], by omega, rfl, rfl, by simp, Lib.hid (Row.nil _ _ 2), Lib.hid ⟨by simpa using HR.out, by simp⟩, HB0⟩
  case round =>
    obtain ⟨k, pb, out, hk, rfl, rfl, hol, HO, HE, HB⟩ := hrel
    obtain ⟨b0, b1, b2, hszr, hbw, hcell⟩ := inBox HB.out
    have HW := Lib.hid hbw
    have HCELL := Lib.hid hcell
    clear hbw hcell
    by_cases hlt : k < n
    · have hkl : k < l.length := by rw [HN.out]; exact hlt
      obtain ⟨g, cc, hv, hg, rl1, rl2⟩ := H.out.at k hkl
      injection hv with hv1 hv2 hv3
      subst hv1
      have hbk : (k : Int) < n := by omega
      have hdrop : l.drop k = l[k] :: l.drop (k + 1) := by rw [List.drop_eq_getElem_cons hkl]
      obtain ⟨y, hy⟩ : ∃ y, l[k] = y := ⟨_, rfl⟩
      rw [hy] at rl1 rl2 hdrop
      obtain ⟨yk, yd⟩ := y
      simp only at rl1 rl2
      have r1 := (HCELL.out g (k * 2) hg).trans rl1
      have r2 := (HCELL.out g (k * 2 + 1) hg).trans rl2
      have RL1 := Lib.hid rl1
      have RL2 := Lib.hid rl2
      have HE1 := HE.out.1
      rw [hdrop, refDo] at HE1
      simp only at HE1
      have HE2 := HE.out.2
      have hE2 : out.length ≤ n + 1 := hol
      clear hv2 hv3 hy hdrop HE rl1 rl2
      cases pb
      · cases hls : kLt yk kk
        · have hl1 : Op.bytesLess yk.toList kk.toList = false := by rw [less_kLt]; exact hls
          rw [hls] at HE1
          by_cases he : yk = kk
          · subst he
            have hE : (out ++ [(yk, dd)]) ++ refDo ⟨yk, dd, cut⟩ true (l.drop (k + 1)) = R := by rw [← HE1]; simp
            have HE3 := Lib.hid hE
            clear HE1 hls hE
            have HLEN0 := Lib.hid (show out.length ≤ 4194303 by simp at HE2; omega)
            have HLEN1 := Lib.hid (show ∀ x : Rec, (out ++ [x]).length ≤ 4194304 by intro x; simp at HE2; simp; omega)
            go_wp2_with fail
            go_quiet (fail)
            go_wp2_with (at_builtin; refine wpList_rec _ (w.heap.size + 1) yk dd rfl _ _ rfl _ (out) rfl rfl (HO.out.drewN _) (by have := HLEN0.out; omega) (by simp; omega) ?_; intro v1 w1 hr1 hb1; have HR1 := Lib.hid hr1; have HB1 := Lib.hid ((below_drewN HB.out _).trans hb1); obtain ⟨b01, b11, b21, hsz1, _, hcell1⟩ := inBox HB1.out; have r11 := (hcell1 g (k * 2) hg).trans RL1.out; have r21 := (hcell1 g (k * 2 + 1) hg).trans RL2.out; clear hr1 hb1 hcell1)
            go_quiet (fail)
            go_wp2
            exact ⟨⟨k + 1, true, out ++ [(yk, dd)], by omega, by go_num, rfl, by simp at HE2 ⊢; omega, Lib.hid (HR1.out.drewN _), Lib.hid ⟨HE3.out, by simp at HE2 ⊢; omega⟩, Lib.hid (below_drewN HB1.out _)⟩, by simp [intOf]; omega⟩
          · have hne := seqB_no he
            have hE : ((out ++ [(kk, dd)]) ++ [(yk, yd)]) ++ refDo ⟨kk, dd, cut⟩ true (l.drop (k + 1)) = R := by rw [← HE1, if_neg he]; simp
            have HE3 := Lib.hid hE
            clear HE1 hls hE he
            have HLEN0 := Lib.hid (show out.length ≤ 4194303 by simp at HE2; omega)
            have HLEN1 := Lib.hid (show ∀ x : Rec, (out ++ [x]).length ≤ 4194304 by intro x; simp at HE2; simp; omega)
            go_wp2_with fail
            go_quiet (fail)
            go_wp2_with (at_builtin; refine wpList_rec _ (w.heap.size + 1) kk dd rfl _ _ rfl _ (out) rfl rfl (HO.out.drewN _) (by have := HLEN0.out; omega) (by simp; omega) ?_; intro v1 w1 hr1 hb1; have HR1 := Lib.hid hr1; have HB1 := Lib.hid ((below_drewN HB.out _).trans hb1); obtain ⟨b01, b11, b21, hsz1, _, hcell1⟩ := inBox HB1.out; have r11 := (hcell1 g (k * 2) hg).trans RL1.out; have r21 := (hcell1 g (k * 2 + 1) hg).trans RL2.out; clear hr1 hb1 hcell1)
            go_quiet (fail)
            go_wp2_with (at_builtin; refine wpList_rec _ (w.heap.size + 1) yk yd rfl _ _ rfl _ (out ++ [(kk, dd)]) rfl rfl (HR1.out.drewN _) (HLEN1.out _) (by simp; omega) ?_; intro v2 w2 hr2 hb2; have HR2 := Lib.hid hr2; have HB2 := Lib.hid ((below_drewN HB1.out _).trans hb2); obtain ⟨b02, b12, b22, hsz2, _, hcell2⟩ := inBox HB2.out; have r12 := (hcell2 g (k * 2) hg).trans RL1.out; have r22 := (hcell2 g (k * 2 + 1) hg).trans RL2.out; clear hr2 hb2 hcell2)
            exact ⟨⟨k + 1, true, (out ++ [(kk, dd)]) ++ [(yk, yd)], by omega, by go_num, rfl, by simp at HE2 ⊢; omega, Lib.hid HR2.out, Lib.hid ⟨HE3.out, by simp at HE2 ⊢; omega⟩, HB2⟩, by simp [intOf]; omega⟩
        · have hl1 : Op.bytesLess yk.toList kk.toList = true := by rw [less_kLt]; exact hls
          have he := kLt_ne hls
          have hne := seqB_no he
          rw [hls] at HE1
          have hE : (out ++ [(yk, yd)]) ++ refDo ⟨kk, dd, cut⟩ false (l.drop (k + 1)) = R := by rw [← HE1, if_neg he]; simp
          have HE3 := Lib.hid hE
          clear HE1 hls hE he
          have HLEN0 := Lib.hid (show out.length ≤ 4194303 by simp at HE2; omega)
          have HLEN1 := Lib.hid (show ∀ x : Rec, (out ++ [x]).length ≤ 4194304 by intro x; simp at HE2; simp; omega)
          go_wp2_with fail
          go_quiet (fail)
          go_wp2_with fail
          go_quiet (fail)
          go_wp2_with (at_builtin; refine wpList_rec _ (w.heap.size + 1) yk yd rfl _ _ rfl _ (out) rfl rfl (HO.out.drewN _) (by have := HLEN0.out; omega) (by simp; omega) ?_; intro v1 w1 hr1 hb1; have HR1 := Lib.hid hr1; have HB1 := Lib.hid ((below_drewN HB.out _).trans hb1); obtain ⟨b01, b11, b21, hsz1, _, hcell1⟩ := inBox HB1.out; have r11 := (hcell1 g (k * 2) hg).trans RL1.out; have r21 := (hcell1 g (k * 2 + 1) hg).trans RL2.out; clear hr1 hb1 hcell1)
          exact ⟨⟨k + 1, _, out ++ [(yk, yd)], by omega, by go_num, rfl, by simp at HE2 ⊢; omega, Lib.hid (by have h := HR1.out; simpa using h), Lib.hid ⟨HE3.out, by simp at HE2 ⊢; omega⟩, HB1⟩, by simp [intOf]; omega⟩
      · by_cases he : yk = kk
        · subst he
          have hE : out ++ refDo ⟨yk, dd, cut⟩ true (l.drop (k + 1)) = R := by rw [← HE1]; simp
          have HE3 := Lib.hid hE
          clear HE1 hE
          have HLEN0 := Lib.hid (show out.length ≤ 4194303 by simp at HE2; omega)
          have HLEN1 := Lib.hid (show ∀ x : Rec, (out ++ [x]).length ≤ 4194304 by intro x; simp at HE2; simp; omega)
          go_wp2_with fail
          go_quiet (fail)
          go_wp2_with fail
          go_quiet (fail)
          go_wp2
          exact ⟨⟨k + 1, true, out, by omega, by go_num, rfl, by simp at HE2 ⊢; omega, Lib.hid (HO.out.drewN _), Lib.hid ⟨HE3.out, by simp at HE2 ⊢; omega⟩, Lib.hid (below_drewN HB.out _)⟩, by simp [intOf]; omega⟩
        · have hne := seqB_no he
          have hE : (out ++ [(yk, yd)]) ++ refDo ⟨kk, dd, cut⟩ true (l.drop (k + 1)) = R := by rw [← HE1, if_neg he]; simp
          have HE3 := Lib.hid hE
          clear HE1 hE he
          have HLEN0 := Lib.hid (show out.length ≤ 4194303 by simp at HE2; omega)
          have HLEN1 := Lib.hid (show ∀ x : Rec, (out ++ [x]).length ≤ 4194304 by intro x; simp at HE2; simp; omega)
          go_wp2_with fail
          go_quiet (fail)
          go_wp2_with fail
          go_quiet (fail)
          go_wp2_with (at_builtin; refine wpList_rec _ (w.heap.size + 1) yk yd rfl _ _ rfl _ (out) rfl rfl (HO.out.drewN _) (by have := HLEN0.out; omega) (by simp; omega) ?_; intro v1 w1 hr1 hb1; have HR1 := Lib.hid hr1; have HB1 := Lib.hid ((below_drewN HB.out _).trans hb1); obtain ⟨b01, b11, b21, hsz1, _, hcell1⟩ := inBox HB1.out; have r11 := (hcell1 g (k * 2) hg).trans RL1.out; have r21 := (hcell1 g (k * 2 + 1) hg).trans RL2.out; clear hr1 hb1 hcell1)
          exact ⟨⟨k + 1, _, out ++ [(yk, yd)], by omega, by go_num, rfl, by simp at HE2 ⊢; omega, Lib.hid (by have h := HR1.out; simpa using h), Lib.hid ⟨HE3.out, by simp at HE2 ⊢; omega⟩, HB1⟩, by simp [intOf]; omega⟩
    · obtain rfl : k = n := by omega
      have HE1 := HE.out.1
      rw [← HN.out, List.drop_length, refDo] at HE1
      cases pb
      · simp only [Bool.false_eq_true, if_false] at HE1
        have HE3 := Lib.hid HE1
        clear HE1 hlt hk
        go_wp2_with (at_builtin; refine wpList_rec wr (w.heap.size + 1) kk dd rfl _ _ rfl _ out rfl rfl HO.out (by omega) (by omega) ?_; intro v2 w2 hr2 hb2; have HR2 := Lib.hid hr2; have HB2 := Lib.hid hb2; clear hr2 hb2)
        go_ret
        refine ⟨_, rfl, ?_, HW.out.trans (HB2.out.mono (by omega))⟩
        have h := HR2.out
        rw [HE3.out] at h
        exact h.mono (by omega)
      · simp only [if_true, List.append_nil] at HE1
        have HE3 := Lib.hid HE1
        clear HE1 hlt hk
        go_wp2
        go_ret
        refine ⟨_, rfl, ?_, HW.out⟩
        have h := HO.out
        rw [HE3.out] at h
        exact h.mono (by omega)
end Go.Proofs.YtegplajddhiejaaGreat
