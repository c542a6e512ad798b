import Derived.Test.YtegplajddhiejaaGreatMgLoneMake7
set_option linter.unusedVariables false
namespace Go.Proofs.YtegplajddhiejaaGreat
open Go.RowKit Go.WideMaps Go.Maps Go.MapKept
theorem ssyncf_calls (i : Int) (w : World) : Calls Tryz.prog 16 #[.int .i64 i] w fun e w' => e = .returned (.bool true) ∧ w = w' := by
  go_enter Tryz.func16, Tryz.ntmps16
  go_wp2
  go_ret
  exact ⟨rfl, rfl⟩
theorem take_snoc {l : List Wr} {k : Nat} (h : k < l.length) : l.take (k + 1) = l.take k ++ [l[k]] := by rw [List.take_succ_eq_append_getElem h]
theorem crash_snoc (keep : ByteArray) (p : Wr) : ∀ (ps : List Wr) (i : Nat) (l : List Rec), crashL keep (ps ++ [p]) i l = if survB keep (i + ps.length) then doW (crashL keep ps i l) p else crashL keep ps i l
  | [], i, l => by simp [crashL]
  | q :: ps, i, l => by
    rw [List.cons_append, crashL, crashL, crash_snoc keep p ps (i + 1)]
    simp only [List.length_cons]
    rw [show i + 1 + ps.length = i + (ps.length + 1) by omega]
set_option maxRecDepth 100000 in
set_option maxHeartbeats 4000000 in
theorem ssettle_sync (K : Nat) (hK : K ≤ 2097152) (w : World) (g bn bd : Nat) (v : Value) (x : Fld) (h : PSF w g bn bd v x) (hf : Fine K x) :
    Calls Tryz.prog 15 #[.pointer (some ⟨g, 0, none⟩), .func (.func 16) #[] #[]] w fun e w' => e = .returned (.tuple #[]) ∧ PSF w' g bn bd (.slice none 0 0) { x with dur := x.pend.foldl doW x.dur, pend := [] } ∧ Touch (foot g bn bd v) w w' := by
  have c2 := h.c2
  have c3 := h.c3
  have f3 := h.fr 3
  have H := Lib.hid h
  have HF := Lib.hid hf
  have hlt := h.lt
  have hve : ∃ a c, v = .slice a x.pend.length c := h.row.slice
  obtain ⟨va, vc, hve⟩ := hve
  subst hve
  obtain ⟨n, hn⟩ : ∃ n, n = x.pend.length := ⟨_, rfl⟩
  have hp : n ≤ 2097152 := by rw [hn]; have := hf.len; omega
  rw [← hn] at c3
  have HN := Lib.hid hn
  have CS := Lib.hid (fun i w => ssyncf_calls i w)
  clear h hf hn
  go_enter Tryz.func15, Tryz.ntmps15
  go_wp2_with fail
  go_region
  go_wp2_with fail
  go_loopw [6, 7, 8, 24] (fun _ _ _ kv wr => ∃ k : Nat, k ≤ n ∧ kv = .int .i64 k ∧ Hid (PSF wr g bn bd (.slice va x.pend.length vc) { x with dur := (x.pend.take k).foldl doW x.dur }) ∧ Hid (Touch (foot g bn bd (.slice va x.pend.length vc)) w wr)) (fun _ _ _ kv _ => n - (intOf kv).toNat)
  case atStart => exact ⟨0, by omega, rfl, Lib.hid (PSF.drew H.out), Lib.hid (Touch.drew (Touch.refl _ _))⟩
  case round =>
    obtain ⟨k, hk, rfl, HP, HT⟩ := hrel
    by_cases hlt2 : k < n
    · have hkl : k < x.pend.length := by rw [← HN.out]; exact hlt2
      obtain ⟨q1, q2, q3⟩ := wrsV_at x.pend k hkl
      obtain ⟨gv, hva, hgv, hc⟩ : ∃ gv, va = some ⟨gv, 0, none⟩ ∧ gv < wr.heap.size ∧ ∀ j u, (wrsV x.pend)[j]? = some u → wr.cell? ⟨gv, j, none⟩ = some u := by
        rcases HP.out.row.form with ⟨e, _, _⟩ | ⟨g', cap, e, _, hg, _, _, hx, _⟩
        · injection e with e1 e2 e3; omega
        · injection e with e1 e2 e3; exact ⟨g', e1, hg, hx⟩
      subst hva
      have r1 := hc _ _ q1
      have r2 := hc _ _ q2
      have r3 := hc _ _ q3
      have hbk : (k : Int) < n := by omega
      have hfp := HF.out.fp _ (List.getElem_mem hkl)
      have hstep := take_snoc hkl
      obtain ⟨pk, hpk⟩ : ∃ p, x.pend[k] = p := ⟨_, rfl⟩
      rw [hpk] at r1 r2 r3 hfp hstep
      have hdl : ((x.pend.take k).foldl doW x.dur).length < maxLen := by
        have h1 := fold_len (x.pend.take k) x.dur
        have h2 := HF.out.len
        have h3 : (x.pend.take k).length ≤ x.pend.length := by rw [List.length_take]; omega
        unfold maxLen; omega
      have HSTEP := Lib.hid (show (x.pend.take (k + 1)).foldl doW x.dur = doW ((x.pend.take k).foldl doW x.dur) pk by rw [hstep, List.foldl_append]; rfl)
      have hk1 : pk.key.size ≤ maxLen := by unfold maxLen; omega
      have hd1 : pk.data.size ≤ maxLen := by unfold maxLen; omega
      generalize hD : (x.pend.take k).foldl doW x.dur = D at *
      have HP' := HP
      clear hc q1 q2 q3 hpk hfp hstep hD
      cases hcut : pk.cut
      · rw [hcut] at r3
        have HS := Lib.hid (HSTEP.out.trans (show doW D pk = putL pk.key pk.data D by unfold doW; rw [hcut]; rfl))
        have CP := Lib.hid (fun (w : World) (h : SMap w bd D) => (show Calls Tryz.prog 23 #[.map (some bd), .string pk.key, .string pk.data] w _ from rsput_calls pk.key pk.data hk1 hd1 _ bd D h hdl))
        have HA := Lib.hid (PSF.alloc HP'.out (.cells #[.string pk.key, .string pk.data, .bool false] 61))
        have HTA := Lib.hid (HT.out.alloc (.cells #[.string pk.key, .string pk.data, .bool false] 61))
        clear hcut HP
        go_wp2_with (first
          | (go_at_call 16; (with_reducible refine (CS.out _ _).mono ?_); rintro e w1 ⟨rfl, rfl⟩)
          | (go_at_call 23; (with_reducible refine (CP.out _ HA.out.dur).mono ?_); rintro e w1 ⟨rfl, hs1, hg1, hz1⟩
             have HP1 := Lib.hid (HA.out.putDur hg1 hs1)
             have HT1 := Lib.hid (HTA.out.grown hg1 (fun k hk => by injection hk with hk; exact .inl (mem_foot.2 (.inr (.inr (.inl hk.symm))))))
             clear hs1 hg1 hz1))
        exact ⟨⟨k + 1, by omega, by go_num, Lib.hid (by have h := HP1.out; rw [← HS.out] at h; exact h), HT1⟩, by simp [intOf]; omega⟩
      · rw [hcut] at r3
        have HS := Lib.hid (HSTEP.out.trans (show doW D pk = cutL pk.key D by unfold doW; rw [hcut]; rfl))
        have CP := Lib.hid (fun (w : World) (h : SMap w bd D) => (show Calls Tryz.prog 24 #[.map (some bd), .string pk.key, .string pk.data] w _ from rscut_calls pk.key pk.data hk1 _ bd D h))
        have HA := Lib.hid (PSF.alloc HP'.out (.cells #[.string pk.key, .string pk.data, .bool true] 61))
        have HTA := Lib.hid (HT.out.alloc (.cells #[.string pk.key, .string pk.data, .bool true] 61))
        clear hcut HP
        go_wp2_with (first
          | (go_at_call 16; (with_reducible refine (CS.out _ _).mono ?_); rintro e w1 ⟨rfl, rfl⟩)
          | (go_at_call 24; (with_reducible refine (CP.out _ HA.out.dur).mono ?_); rintro e w1 ⟨rfl, hs1, hg1, hz1⟩
             have HP1 := Lib.hid (HA.out.putDur hg1 hs1)
             have HT1 := Lib.hid (HTA.out.grown hg1 (fun k hk => by injection hk with hk; exact .inl (mem_foot.2 (.inr (.inr (.inl hk.symm))))))
             clear hs1 hg1 hz1))
        exact ⟨⟨k + 1, by omega, by go_num, Lib.hid (by have h := HP1.out; rw [← HS.out] at h; exact h), HT1⟩, by simp [intOf]; omega⟩
    · obtain rfl : k = n := by omega
      have HE : Hid (PSF wr g bn bd (.slice va x.pend.length vc) { x with dur := x.pend.foldl doW x.dur }) := Lib.hid (by have h := HP.out; rw [HN.out, List.take_length] at h; exact h)
      have HC := Lib.hid (HE.out.clear)
      have HTC := Lib.hid (HT.out.setCell (p := ⟨g, 3, none⟩) (.inl (mem_foot.2 (.inl rfl))) (.slice none 0 0))
      have c3' := HE.out.c3
      have f3' := HE.out.fr 3
      clear HP HE
      go_wp2
      go_end0
      exact ⟨rfl, HC.out, HTC.out⟩
theorem survB_at (keep : ByteArray) (i : Nat) (h : i % keep.size < keep.size) : survB keep i = decide (keep[i % keep.size].toNat % 2 = 1) := by
  unfold survB
  have h2 : keep.data.toList[i % keep.size]? = some keep[i % keep.size] := by
    rw [List.getElem?_eq_getElem (by simpa using h)]; rfl
  rw [h2]
end Go.Proofs.YtegplajddhiejaaGreat
