import Derived.Test.YtegplajddhiejaaGreatMgLoneMake14
import Derived.Test.YtegplajddhiejaaGreatMgLoneMake8
set_option linter.unusedVariables false
namespace Go.Proofs.YtegplajddhiejaaGreat
open Go.RowKit Go.WideMaps Go.Maps Go.MapKept
set_option maxRecDepth 100000 in
set_option maxHeartbeats 4000000 in
theorem rget_calls (K : Nat) (hK : K ≤ 2097152) (k : ByteArray) (hk : k.size ≤ 4194304) (w : World) (g : Nat) (vd vw vv : Value) (x : Fld) (h : RSF w g vd vw vv x) (hf : Fine K x) :
    Calls Tryz.prog 66 #[.pointer (some ⟨g, 0, none⟩), .string k] w fun e w' => e = .returned (.tuple #[.string (getZ x k).1, .int .i64 (getZ x k).2]) ∧ w = w' := by
  have c3 := h.c3
  have c6 := h.c6
  have hln := hf.ln
  have CK := Lib.hid (fun w => rgoes_calls k (by omega) w)
  by_cases ho : x.off = true
  · rw [get_1 ho]
    rw [ho] at c3
    clear h hf
    go_enter Tryz.func66, Tryz.ntmps66
    go_wp2
    go_ret2
    exact ⟨rfl, rfl⟩
  · have ho' : x.off = false := by simpa using ho
    rw [ho'] at c3
    have HO := Lib.hid ho'
    clear ho ho'
    cases hkb : keyedB k
    · rw [get_2 HO.out hkb]
      rw [hkb] at CK
      clear h hkb hf
      go_enter Tryz.func66, Tryz.ntmps66
      go_wp2_with (go_at_call 57; (with_reducible refine (CK.out _).mono ?_); rintro e w1 ⟨rfl, rfl⟩)
      go_ret2
      exact ⟨rfl, rfl⟩
    · have HKB := Lib.hid hkb
      rw [hkb] at CK
      clear hkb
      obtain ⟨z, hz, hcz⟩ := rfind_calls x.now k vv w h.now (by omega)
      have CF := Lib.hid hcz
      rcases hz with ⟨j, hj, rfl, hjk, hfi⟩ | ⟨rfl, hfi⟩
      · rw [get_4 HO.out HKB.out hfi]
        obtain ⟨vg, vc, rfl, hvg, r1, r2⟩ := h.now.at j hj
        obtain ⟨n, hn⟩ : ∃ n, x.now.length = n := ⟨_, rfl⟩
        obtain ⟨y, hy⟩ : ∃ y, x.now[j] = y := ⟨_, rfl⟩
        rw [hy] at r1 r2 ⊢
        rw [hn] at CF c6 hln hj
        have hji : (j : Int) < n := by omega
        have hjb : j ≤ 2097152 := by omega
        clear h hf hfi hcz hn hy hjk
        go_enter Tryz.func66, Tryz.ntmps66
        go_wp2_with (first
          | (go_at_call 57; (with_reducible refine (CK.out _).mono ?_); rintro e w1 ⟨rfl, rfl⟩)
          | (go_at_call 58; (with_reducible refine CF.out.mono ?_); rintro e w1 ⟨rfl, rfl⟩))
        all_goals first | go_ret2 | (go_region_with (fail); all_goals go_wp2; all_goals go_ret2)
        all_goals exact ⟨rfl, rfl⟩
      · rw [get_3 HO.out HKB.out hfi]
        have hvv : ∃ a n c, vv = .slice a n c := by obtain ⟨a, c, e⟩ := h.now.slice; exact ⟨a, _, c, e⟩
        obtain ⟨ra, rn, rc, hvv⟩ := hvv
        subst hvv
        clear h hf hfi hcz
        go_enter Tryz.func66, Tryz.ntmps66
        go_wp2_with (first
          | (go_at_call 57; (with_reducible refine (CK.out _).mono ?_); rintro e w1 ⟨rfl, rfl⟩)
          | (go_at_call 58; (with_reducible refine CF.out.mono ?_); rintro e w1 ⟨rfl, rfl⟩))
        go_ret2
        exact ⟨rfl, rfl⟩
set_option maxRecDepth 100000 in
set_option maxHeartbeats 4000000 in
theorem rcut_calls (K : Nat) (hK : K ≤ 2097151) (k : ByteArray) (hk : k.size ≤ 4194304) (w : World) (g : Nat) (vd vw vv : Value) (x : Fld) (h : RSF w g vd vw vv x) (hf : Fine K x) :
    Calls Tryz.prog 43 #[.pointer (some ⟨g, 0, none⟩), .string k] w fun e w' => e = .returned (.int .i64 (cutZ x k).1) ∧ RKept w g vd vw vv (cutZ x k).2 w' := by
  have c3 := h.c3
  have c6 := h.c6
  have hln := hf.ln
  have CK := Lib.hid (fun w => rgoes_calls k (by omega) w)
  have H := Lib.hid h
  by_cases ho : x.off = true
  · rw [cut_1 ho]
    rw [ho] at c3
    clear h hf
    go_enter Tryz.func43, Tryz.ntmps43
    go_wp2
    go_ret
    exact ⟨rfl, RKept.same H.out⟩
  · have ho' : x.off = false := by simpa using ho
    rw [ho'] at c3
    have HO := Lib.hid ho'
    clear ho ho'
    cases hkb : keyedB k
    · rw [cut_2 HO.out hkb]
      rw [hkb] at CK
      clear h hkb hf
      go_enter Tryz.func43, Tryz.ntmps43
      go_wp2_with (go_at_call 57; (with_reducible refine (CK.out _).mono ?_); rintro e w1 ⟨rfl, rfl⟩)
      go_ret
      exact ⟨rfl, RKept.same H.out⟩
    · have HKB := Lib.hid hkb
      rw [hkb] at CK
      clear hkb
      obtain ⟨z, hz, hcz⟩ := rfind_calls x.now k vv w h.now (by omega)
      have CF := Lib.hid hcz
      have hvv : ∃ a n c, vv = .slice a n c := by obtain ⟨a, c, e⟩ := h.now.slice; exact ⟨a, _, c, e⟩
      obtain ⟨ra, rn, rc, hvv⟩ := hvv
      subst hvv
      rcases hz with ⟨j, hj, rfl, hjk, hfi⟩ | ⟨rfl, hfi⟩
      · rw [cut_4 HO.out HKB.out hfi]
        have CW := Lib.hid (fun w (h : RSF w g vd vw (.slice ra rn rc) x) => (show Calls Tryz.prog 59 #[.pointer (some ⟨g, 0, none⟩), .agg #[.string k, .string ⟨#[]⟩, .bool true]] w fun e w' => e = .returned (.int .i64 (endZ x)) ∧ RKept w g vd vw (.slice ra rn rc) (x.wrote ⟨k, ⟨#[]⟩, true⟩ (x.used - (costR x.now[j] : Nat))) w' from rwrite_calls K hK ⟨k, ⟨#[]⟩, true⟩ _ w g vd vw _ x h hf))
        have hjb : j ≤ 2097152 := by omega
        clear h hf hfi hcz hjk
        go_enter Tryz.func43, Tryz.ntmps43
        go_wp2_with (first
          | (go_at_call 57; (with_reducible refine (CK.out _).mono ?_); rintro e w1 ⟨rfl, rfl⟩)
          | (go_at_call 58; (with_reducible refine CF.out.mono ?_); rintro e w1 ⟨rfl, rfl⟩)
          | (go_at_call 59; (with_reducible refine (CW.out _ H.out).mono ?_); rintro e w5 ⟨rfl, hk5⟩; have HK5 := Lib.hid hk5; clear hk5))
        go_ret
        exact ⟨rfl, HK5.out⟩
      · rw [cut_3 HO.out HKB.out hfi]
        clear h hf hfi hcz
        go_enter Tryz.func43, Tryz.ntmps43
        go_wp2_with (first
          | (go_at_call 57; (with_reducible refine (CK.out _).mono ?_); rintro e w1 ⟨rfl, rfl⟩)
          | (go_at_call 58; (with_reducible refine CF.out.mono ?_); rintro e w1 ⟨rfl, rfl⟩))
        go_ret
        exact ⟨rfl, RKept.same H.out⟩
set_option maxRecDepth 100000 in
set_option maxHeartbeats 2000000 in
theorem rarm_calls (n : Int) (w : World) (g : Nat) (vd vw vv : Value) (x : Fld) (h : RSF w g vd vw vv x) : Calls Tryz.prog 7 #[.pointer (some ⟨g, 0, none⟩), .int .i64 n] w fun e w' => e = .returned (.tuple #[]) ∧ RKept w g vd vw vv (armZ x n) w' := by
  have c3 := h.c3
  have c4 := h.c4
  have f4 := h.fr 4
  have H := Lib.hid h
  by_cases ho : x.off = true
  · have hz : armZ x n = x := by unfold armZ; rw [if_pos ho]
    rw [hz]
    rw [ho] at c3
    clear h ho hz
    go_enter Tryz.func7, Tryz.ntmps7
    go_wp2
    refine bodyPost_ret (results_none rfl _ _ _) rfl ?_
    exact ⟨rfl, RKept.same H.out⟩
  · have ho' : x.off = false := by simpa using ho
    have hz : armZ x n = { x with left := if n < 0 then 0 else n } := by unfold armZ; rw [if_neg ho]
    rw [hz]
    rw [ho'] at c3
    have HT := Lib.hid (fun u => (Touch.refl (rfoot g vd vw vv) w).setCell (p := ⟨g, 4, none⟩) (.inl (mem_rfoot.2 (.inl rfl))) u)
    have HT2 := Lib.hid (fun u u2 => ((Touch.refl (rfoot g vd vw vv) w).setCell (p := ⟨g, 4, none⟩) (.inl (mem_rfoot.2 (.inl rfl))) u).setCell (p := ⟨g, 4, none⟩) (.inl (mem_rfoot.2 (.inl rfl))) u2)
    clear h ho ho' hz
    by_cases hn : 0 < n
    · rw [if_neg (by omega)]
      go_enter Tryz.func7, Tryz.ntmps7
      go_wp2
      go_end0
      first
        | exact ⟨rfl, vd, vw, vv, H.out.setLeft n, HT.out _, fun m hm => .inl hm⟩
        | exact ⟨rfl, vd, vw, vv, (H.out.setLeft 0).setLeft n, HT2.out _ _, fun m hm => .inl hm⟩
    · have h0 : (if n < 0 then 0 else n) = 0 := by split <;> omega
      rw [h0]
      clear h0
      go_enter Tryz.func7, Tryz.ntmps7
      go_wp2
      go_end0
      exact ⟨rfl, vd, vw, vv, H.out.setLeft 0, HT.out _, fun m hm => .inl hm⟩
set_option maxRecDepth 100000 in
set_option maxHeartbeats 2000000 in
theorem rsync_calls (K : Nat) (hK : K ≤ 2097152) (w : World) (g : Nat) (vd vw vv : Value) (x : Fld) (h : RSF w g vd vw vv x) (hf : Fine K x) :
    Calls Tryz.prog 9 #[.pointer (some ⟨g, 0, none⟩)] w fun e w' => e = .returned (.int .i64 (syncZ x).1) ∧ RKept w g vd vw vv (syncZ x).2 w' := by
  have c3 := h.c3
  have hl := hf.left
  have H := Lib.hid h
  have HF := Lib.hid hf
  have CS := Lib.hid (fun w x h h0 h1 => rdies_calls w g vd vw vv x h h0 h1)
  by_cases ho : x.off = true
  · rw [sync_1 ho]
    rw [ho] at c3
    clear h hf
    go_enter Tryz.func9, Tryz.ntmps9
    go_wp2
    go_ret
    exact ⟨rfl, RKept.same H.out⟩
  · have ho' : x.off = false := by simpa using ho
    rw [ho'] at c3
    have C1 := Lib.hid (CS.out w x H.out hl.1 hl.2)
    cases hsb : strikesB x.left
    · rw [sync_3 ho' hsb]
      rw [hsb] at C1
      have hst := struck_same x
      have HX : Hid (x.struck.now = x.pend.foldl doW x.dur) := Lib.hid (by rw [hst.2.2, HF.out.now])
      have hvv : ∃ a n c, vv = .slice a n c := by obtain ⟨a, c, e⟩ := h.now.slice; exact ⟨a, _, c, e⟩
      obtain ⟨ra, rn, rc, hvv⟩ := hvv
      subst hvv
      clear h hf ho ho' hsb hst
      go_enter Tryz.func9, Tryz.ntmps9
      go_wp2_with (go_at_call 17; (with_reducible refine C1.out.mono ?_); rintro e w1 ⟨rfl, hp1, ht1, hz1⟩
                   have HP1 := Lib.hid hp1
                   have HT1 := Lib.hid (((ht1.mono (F1 := rfoot g vd vw (.slice ra rn rc)) (fun x hx => by simp at hx; subst hx; exact .inl (mem_rfoot.2 (.inl rfl)))).setCell (p := ⟨g, 1, none⟩) (.inl (mem_rfoot.2 (.inl rfl))) (.slice ra rn rc)).setCell (p := ⟨g, 2, none⟩) (.inl (mem_rfoot.2 (.inl rfl))) (.slice none 0 0))
                   have q6 := hp1.c6
                   have q1 := hp1.c1
                   have q2 := hp1.c2
                   have qf1 := hp1.fr 1
                   have qf2 := hp1.fr 2
                   clear hp1 ht1 hz1)
      go_ret
      have hq := ((HP1.out.setDur HP1.out.now HP1.out.nn (fun k hk => (HP1.out.nw k hk).2.2)).clear)
      refine ⟨rfl, .slice ra rn rc, .slice none 0 0, .slice ra rn rc, ?_, HT1.out, fun m hm => ?_⟩
      · have h2 : ({ { x.struck with dur := x.struck.now } with pend := [] } : Fld) = { x.struck with dur := x.pend.foldl doW x.dur, pend := [] } := by rw [HX.out]
        rw [← h2]
        exact hq
      · rcases mem_rfoot.1 hm with e | e | e | e
        · exact .inl (mem_rfoot.2 (.inl e))
        · exact .inl (mem_rfoot.2 (.inr (.inr (.inr e))))
        · cases e
        · exact .inl (mem_rfoot.2 (.inr (.inr (.inr e))))
    · rw [sync_2 ho' hsb]
      rw [hsb] at C1
      clear h hf ho ho' hsb
      go_enter Tryz.func9, Tryz.ntmps9
      go_wp2_with (go_at_call 17; (with_reducible refine C1.out.mono ?_); rintro e w1 ⟨rfl, hp1, ht1, hz1⟩; have HP1 := Lib.hid hp1; have HT1 := Lib.hid ht1; clear hp1 ht1)
      go_ret
      exact ⟨rfl, vd, vw, vv, HP1.out, HT1.out.mono (fun x hx => by simp at hx; subst hx; exact .inl (mem_rfoot.2 (.inl rfl))), fun m hm => .inl hm⟩
end Go.Proofs.YtegplajddhiejaaGreat
