import Derived.Test.YtcicdgajhheipaaGreatRs4
set_option linter.unusedVariables false
namespace Go.Proofs.YtcicdgajhheipaaGreat
open Go.RowKit Go.WideMaps Go.Maps Go.MapKept
theorem RKept.since {w w5 w' : World} {g : Nat} {vd vw vv : Value} {x : Fld} (h : RKept w5 g vd vw vv x w') (hb : Below w.heap.size w w5) : RKept w g vd vw vv x w' := by
  obtain ⟨vd', vw', vv', p, t, f⟩ := h
  exact ⟨vd', vw', vv', p, (Touch.below hb _).trans t (fun k hk => .inl hk), fun m hm => (f m hm).imp id (fun e => Nat.le_trans hb.size e)⟩
theorem then_is {K : Nat} {x : Fld} (h : Fine K x) (k d : ByteArray) : thenZ x k d = (costL (doW x.now ⟨k, d, false⟩) : Nat) := by
  have hc := cost_put (k := k) (d := d) h.sn
  unfold thenZ oldC
  rw [h.used]
  show _ = ((costL (putL k d x.now) : Nat) : Int)
  cases hf : findL k x.now with
  | none => rw [hf] at hc; simp only at hc ⊢; omega
  | some r => rw [hf] at hc; simp only at hc ⊢; omega
theorem fit_len {l : List Rec} (hf : ∀ r ∈ l, Fit r) (hl : l.length ≤ 2097152) : costL l ≤ 2199191027712 := by
  have h1 := cost_le hf
  omega
set_option maxRecDepth 100000 in
set_option maxHeartbeats 4000000 in
theorem rput_calls (K : Nat) (hK : K ≤ 2097151) (k d : ByteArray) (hk : k.size ≤ 4194304) (hd : d.size ≤ 4194304) (w : World) (g : Nat) (vd vw vv : Value) (x : Fld) (h : RSF w g vd vw vv x) (hf : Fine K x) :
    Calls Tryz.prog 36 #[.pointer (some ⟨g, 0, none⟩), .string k, .string d] w fun e w' => e = .returned (.int .i64 (putZ x k d).1) ∧ RKept w g vd vw vv (putZ x k d).2 w' := by
  have c3 := h.c3
  have c6 := h.c6
  have c0 := h.c0
  have hlt := h.lt
  have CK := Lib.hid (fun w => rgoes_calls k (by omega) w)
  have H := Lib.hid h
  by_cases ho : x.off = true
  · rw [put_1 ho]
    rw [ho] at c3
    clear h hf
    go_enter Tryz.func36, Tryz.ntmps36
    go_wp2
    go_ret
    exact ⟨rfl, RKept.same H.out⟩
  · have ho' : x.off = false := by simpa using ho
    rw [ho'] at c3
    have HO := Lib.hid ho'
    clear ho ho'
    by_cases hkb : keyedB k = false
    · rw [put_2 HO.out hkb]
      rw [hkb] at CK
      clear h hf hkb
      go_enter Tryz.func36, Tryz.ntmps36
      go_wp2_with (go_at_call 72; (with_reducible refine (CK.out _).mono ?_); rintro e w1 ⟨rfl, rfl⟩)
      go_ret
      exact ⟨rfl, RKept.same H.out⟩
    · have hkb' : keyedB k = true := by simpa using hkb
      have hk2 := of_decide_eq_true hkb'
      rw [hkb'] at CK
      have HKB := Lib.hid hkb'
      clear hkb hkb'
      by_cases hdb : 1048576 < d.size
      · rw [put_3 HO.out HKB.out hdb]
        have hdi : (1048576 : Int) < d.size := by omega
        clear h hf hdb hk2
        go_enter Tryz.func36, Tryz.ntmps36
        go_wp2_with (go_at_call 72; (with_reducible refine (CK.out _).mono ?_); rintro e w1 ⟨rfl, rfl⟩)
        go_ret
        exact ⟨rfl, RKept.same H.out⟩
      · have hdi : ¬ (1048576 : Int) < d.size := by omega
        have HDB := Lib.hid hdb
        have hfitp : ∀ r ∈ doW x.now ⟨k, d, false⟩, Fit r := fit_do hf.fn ⟨hk2.1, hk2.2, by show d.size ≤ _; omega⟩
        have hlenp := len_do ⟨k, d, false⟩ x.now
        have hln := hf.ln
        have hsn := hf.sn
        have hT := then_is hf k d
        have hU := hf.used
        have hb1 := fit_len hf.fn (by omega)
        have hb2 := fit_len hfitp (by omega)
        have CW := Lib.hid (fun w (h : RSF w g vd vw vv x) => (show Calls Tryz.prog 73 #[.pointer (some ⟨g, 0, none⟩), .agg #[.string k, .string d, .bool false]] w fun e w' => e = .returned (.int .i64 (endZ x)) ∧ RKept w g vd vw vv (x.wrote ⟨k, d, false⟩ (thenZ x k d)) w' from rwrite_calls K hK ⟨k, d, false⟩ (thenZ x k d) w g vd vw vv x h hf))
        have CC1 := Lib.hid (fun w (h : RecL w vv x.now) => rcounts_calls x.now vv w h hf.fn (by omega))
        have CC2 := Lib.hid (fun w v (h : RecL w v (doW x.now ⟨k, d, false⟩)) => rcounts_calls _ v w h hfitp (by omega))
        have CD := Lib.hid (fun w (hS : RecL w vv x.now) => (show Calls Tryz.prog 47 #[vv, .agg #[.string k, .string d, .bool false]] w fun e w' => ∃ v', e = .returned v' ∧ RecL w' v' (doW x.now ⟨k, d, false⟩) ∧ Below w.heap.size w w' from
          (rdone_calls x.now ⟨k, d, false⟩ vv w hS (by omega)).mono fun e w' ⟨v', he, hr, hb⟩ => ⟨v', he, by rw [refDo_is hsn] at hr; exact hr.mono (Nat.zero_le _), hb⟩))
        have hro := hf.room
        obtain ⟨C1, hC1⟩ : ∃ C, costL x.now = C := ⟨_, rfl⟩
        obtain ⟨C2, hC2⟩ : ∃ C, costL (doW x.now ⟨k, d, false⟩) = C := ⟨_, rfl⟩
        obtain ⟨R, hR⟩ : ∃ R, x.room = R := ⟨_, rfl⟩
        rw [hC1] at hb1 hU
        rw [hC2] at hb2 hT
        rw [hR] at c0 hro
        simp only [hC1] at CC1
        simp only [hC2] at CC2
        have HR := Lib.hid hR
        have HA := Lib.hid (h.alloc (.cells #[.string k, .string d, .bool false] 81))
        have hvv : ∃ a n c, vv = .slice a n c := by obtain ⟨a, c, e⟩ := h.now.slice; exact ⟨a, _, c, e⟩
        obtain ⟨ra, rn, rc, hvv⟩ := hvv
        subst hvv
        have HT := Lib.hid hT
        have HU := Lib.hid hU
        by_cases hfull : R < (C2 : Int) ∧ (C1 : Int) < (C2 : Int)
        · have HRES := Lib.hid (put_4 (x := x) (k := k) (d := d) HO.out HKB.out HDB.out (by rw [HT.out, HU.out, HR.out]; exact hfull))
          obtain ⟨hf1, hf2⟩ := hfull
          rw [HRES.out]
          clear h hf hdb hk2 hfitp hlenp hln hsn hT hU hC1 hC2 hR
          go_enter Tryz.func36, Tryz.ntmps36
          go_wp2_with (first
            | (go_at_call 72; (with_reducible refine (CK.out _).mono ?_); rintro e w1 ⟨rfl, rfl⟩)
            | (go_at_call 53; (with_reducible refine (CC1.out _ HA.out.now).mono ?_); rintro e w1 ⟨rfl, n1, rfl⟩))
          go_region_with ((first
            | (go_at_call 47; (with_reducible refine (CD.out _ (HA.out.drewN _).now).mono ?_); rintro e w2 ⟨v2, rfl, hr2, hb2'⟩; have HR2 := Lib.hid hr2; have HB2 := Lib.hid hb2'; clear hr2 hb2')
            | (go_at_call 53; (with_reducible refine (CC2.out _ _ HR2.out).mono ?_); rintro e w3 ⟨rfl, n3, rfl⟩
               have p0 : w2.cell? ⟨g, 0, none⟩ = some (.int .i64 R) := (HB2.out.cell (p := ⟨g, 0, none⟩) (by simp; omega)).trans (by have := (HA.out.drewN (n1 + 1)).c0; rw [HR.out] at this; exact this))))
          all_goals go_wp2
          all_goals go_ret
          all_goals exact ⟨rfl, RKept.keep H.out (below_drewN ((below_drewN ((Below.refl _ _).alloc (Nat.le_refl _) _) _).trans (HB2.out.mono (by simp))) _)⟩
        · have HRES := Lib.hid (put_5 (x := x) (k := k) (d := d) HO.out HKB.out HDB.out (by rw [HT.out, HU.out, HR.out]; exact hfull))
          rw [HRES.out]
          have HB9 := Lib.hid hfull
          clear h hf hdb hk2 hfitp hlenp hln hsn hT hU hC1 hC2 hR
          have hcs : ¬ R < (C2 : Int) ∨ (R < (C2 : Int) ∧ ¬ (C1 : Int) < (C2 : Int)) := by omega
          clear hfull
          rcases hcs with hf1 | ⟨hf1, hf2⟩
          all_goals
            go_enter Tryz.func36, Tryz.ntmps36
            go_wp2_with (first
              | (go_at_call 72; (with_reducible refine (CK.out _).mono ?_); rintro e w1 ⟨rfl, rfl⟩)
              | (go_at_call 53; (with_reducible refine (CC1.out _ HA.out.now).mono ?_); rintro e w1 ⟨rfl, n1, rfl⟩))
            go_region_with ((first
              | (go_at_call 47; (with_reducible refine (CD.out _ (HA.out.drewN _).now).mono ?_); rintro e w2 ⟨v2, rfl, hr2, hb2'⟩; have HR2 := Lib.hid hr2; have HB2 := Lib.hid hb2'; clear hr2 hb2')
              | (go_at_call 53; (with_reducible refine (CC2.out _ _ HR2.out).mono ?_); rintro e w3 ⟨rfl, n3, rfl⟩
                 have p0 : w2.cell? ⟨g, 0, none⟩ = some (.int .i64 R) := (HB2.out.cell (p := ⟨g, 0, none⟩) (by simp; omega)).trans (by have := (HA.out.drewN (n1 + 1)).c0; rw [HR.out] at this; exact this)
                 have b0 : w2.cell? ⟨w.heap.size, 0, none⟩ = some (.string k) := (HB2.out.cell (p := ⟨w.heap.size, 0, none⟩) (by simp)).trans (World.cell?_alloc_new w _ _ 0)
                 have b1 : w2.cell? ⟨w.heap.size, 1, none⟩ = some (.string d) := (HB2.out.cell (p := ⟨w.heap.size, 1, none⟩) (by simp)).trans (World.cell?_alloc_new w _ _ 1)
                 have b2 : w2.cell? ⟨w.heap.size, 2, none⟩ = some (.bool false) := (HB2.out.cell (p := ⟨w.heap.size, 2, none⟩) (by simp)).trans (World.cell?_alloc_new w _ _ 2)
                 have HRS := Lib.hid (((HA.out.drewN (n1 + 1)).keep HB2.out).drewN n3)
                 have HBW := Lib.hid (below_drewN ((below_drewN ((Below.refl _ w).alloc (Nat.le_refl _) (.cells #[.string k, .string d, .bool false] 81)) (n1 + 1)).trans (HB2.out.mono (by simp))) n3))))
            all_goals
              go_wp2_with (go_at_call 73; (with_reducible refine (CW.out _ HRS.out).mono ?_); rintro e w5 ⟨rfl, hk5⟩; have HK5 := Lib.hid hk5; clear hk5)
              go_ret
              exact ⟨rfl, HK5.out.since HBW.out⟩
end Go.Proofs.YtcicdgajhheipaaGreat
