import Derived.Test.YtegplajddhiejaaGreatLn5
set_option linter.unusedVariables false
set_option linter.unusedSimpArgs false
namespace Go.Proofs.YtegplajddhiejaaGreat
open Go.RowKit Go.WideMaps Go.Maps Go.MapKept
/-! The reference's engine: whether it goes, its life, what stands. -/
set_option maxRecDepth 100000 in
set_option maxHeartbeats 2000000 in
theorem lrgoes_calls (o : OptZ) (w : World) : Calls Tryz.prog 28 #[o.agg] w fun e w' => e = .returned (.bool (!decide (strtZ o 0 false = 150))) ∧ Below w.heap.size w w' := by
  have HB := Lib.hid ((Below.refl w.heap.size w).alloc (Nat.le_refl _) (.cells #[.int .i64 o.engine, .int .i64 o.width, .int .i64 o.bundle, .int .i64 o.height, .int .i64 o.cache, .int .i64 o.bits] 23))
  obtain ⟨oe, ow, ob, oh, oc, obt⟩ := o
  simp only [OptZ.agg] at HB ⊢
  rcases strt_cases ⟨oe, ow, ob, oh, oc, obt⟩ 0 false with ⟨h1, h2⟩ | ⟨h1, h3, h2⟩ | ⟨h1, h3, h4, h2⟩ | ⟨h1, h3, h4, h5, h2⟩ | ⟨h1, h3, h4, h5, h6, h2⟩ | ⟨h1, h3, h4, h5, h6, h2⟩
  all_goals rw [h2]; clear h2
  · have h1' : (oe == 1) = false := by rw [beq_eq_false_iff_ne]; exact h1
    have h1'' : decide (oe = 1) = false := decide_eq_false h1
    go_enter Tryz.func28, Tryz.ntmps28
    go_wp2
    go_ret
    exact ⟨rfl, HB.out⟩
  · simp only at h1 h3
    subst h1
    have d2 : decide (1 ≤ ow) = false := decide_eq_false (by omega)
    go_enter Tryz.func28, Tryz.ntmps28
    go_wp2
    go_ret
    exact ⟨rfl, HB.out⟩
  · simp only at h1 h3 h4
    subst h1
    have d2 : decide (1 ≤ ow) = true := decide_eq_true h3
    have d3 : decide (ow ≤ 32) = false := decide_eq_false (by omega)
    go_enter Tryz.func28, Tryz.ntmps28
    go_wp2
    go_ret
    exact ⟨rfl, HB.out⟩
  · exact absurd h5 (by omega)
  · cases h6
  · simp only at h1 h3 h4
    subst h1
    have d2 : decide (1 ≤ ow) = true := decide_eq_true h3
    have d3 : decide (ow ≤ 32) = true := decide_eq_true h4
    go_enter Tryz.func28, Tryz.ntmps28
    go_wp2
    go_ret
    exact ⟨rfl, HB.out⟩
theorem life_info : (Tryz.prog.info? 72).map (·.size) = some 3 := by kernel_rfl
set_option maxRecDepth 100000 in
theorem lrbegin_calls (w : World) (h : Nat) (vd vw vv : Value) (x : Fld) (r : RSF w h vd vw vv x) :
    Calls Tryz.prog 30 #[.pointer (some ⟨h, 0, none⟩)] w fun e w' => e = .returned (.agg #[.pointer (some ⟨h, 0, none⟩), .int .i64 x.age, .bool false]) ∧ Below w.heap.size w w' := by
  have c5 := r.c5
  have hlt := r.lt
  clear r
  go_enter Tryz.func30, Tryz.ntmps30
  go_wp2
  refine bodyPost_ret (v := .agg #[.pointer (some ⟨h, 0, none⟩), .int .i64 x.age, .bool false]) (results_cell_row rfl _ _ w.heap.size 72 #[.pointer (some ⟨h, 0, none⟩), .int .i64 x.age, .bool false] (0, 0) _ rfl (MapKept.heap_alloc w _).1 Tryz.underlying72 rfl life_info) rfl ⟨rfl, (Below.refl _ _).alloc (Nat.le_refl _) _⟩
set_option maxRecDepth 100000 in
set_option maxHeartbeats 2000000 in
theorem lrstand_calls {K : Nat} (hK : K ≤ 2097151) (s : Int) (s1 : s ≤ 9223372036854775807) (w : World) (g : Nat) (vd vw vv : Value) (x : Fld) (h : RSF w g vd vw vv x) (hf : Fine K x) :
    Calls Tryz.prog 33 #[.pointer (some ⟨g, 0, none⟩), .int .i64 s] w fun e w' => ∃ v, e = .returned v ∧ Row w' w.heap.size 1 v (standN x s) (strV (standZ x s)) ∧ Below w.heap.size w w' := by
  have CG := Lib.hid (fun (i : Nat) (hi : (i : Int) ≤ 9223372036854775807) (w : World) (h : RSF w g vd vw vv x) => rbget_any K hK s 1 i s1 hi w g vd vw vv x h hf)
  have CN := Lib.hid (show Calls Tryz.prog 47 #[.pointer (some ⟨g, 0, none⟩), .int .i64 s, .int .i64 1] w fun e w' => ∃ v, e = .returned v ∧ Row w' w.heap.size 1 v (numsP x s 1).length (iV (numsP x s 1)) ∧ Below w.heap.size w w' from by
    rw [nums_same x s 1 s1]
    exact rbnums_calls K hK s 1 w g vd vw vv x h hf)
  have HL := Lib.hid h
  have hm := numsP_le hf s 1
  have hnm := stand_le x s
  have SG := Lib.hid (fun (i : Nat) (hi : i ≤ standN x s) (ho : okAt x s i = true) => stand_go hi ho hf (by omega) s1)
  obtain ⟨m, hmm⟩ : ∃ m, (numsP x s 1).length = m := ⟨_, rfl⟩
  rw [hmm] at hm hnm
  have HMM := Lib.hid hmm
  obtain ⟨n, hnn⟩ : ∃ n, standN x s = n := ⟨_, rfl⟩
  have HNN := Lib.hid hnn
  have HE : Hid (standZ x s = standL x s n) := Lib.hid (by rw [← hnn]; rfl)
  rw [hnn] at hnm SG ⊢
  have hmb : m ≤ 2097151 := by omega
  rw [hmm] at CN
  clear h hf hnn hmm hm
  go_enter Tryz.func33, Tryz.ntmps33
  go_wp2_with fail
  (with_reducible refine CN.out.mono ?_); rintro e w1 ⟨nv, rfl, hr1, hb1⟩
  obtain ⟨na, nc, hnv⟩ := hr1.slice
  subst hnv
  have HB1 := Lib.hid hb1
  clear hr1 hb1
  go_wp2_with fail
  go_loopw [5, 7] (fun lv iv wr => ∃ (i : Nat) (v : Value), i ≤ n ∧ v = lv ∧ iv = .int .i64 i ∧ Hid (Row wr w.heap.size 1 v i (strV (standL x s i))) ∧ Hid (Below w.heap.size w wr)) (fun _ iv _ => m - (intOf iv).toNat)
  case atStart => exact ⟨0, _, by omega, rfl, rfl, Lib.hid (Row.nil _ _ 1), HB1⟩
  case round =>
    obtain ⟨i, v, hi, hv, rfl, HR, HB⟩ := hrel
    subst hv
    obtain ⟨la, lc, hv⟩ := HR.out.slice
    subst hv
    by_cases him : i < m
    · have himi : (i : Int) < m := by omega
      cases hok : okAt x s i
      · have hin : i = n := by rw [← HNN.out]; exact stand_stop (by rw [HNN.out]; exact hi) hok
        subst hin
        have hno : (bgetG x s 1 i).2 ≠ 0 ∨ ((bgetG x s 1 i).2 = 0 ∧ 4096 < (bgetG x s 1 i).1.size) := by
          have := of_decide_eq_false hok
          by_cases e : (bgetG x s 1 i).2 = 0
          · exact .inr ⟨e, by omega⟩
          · exact .inl e
        have CGi := Lib.hid (CG.out i (by omega))
        generalize bgetG x s 1 i = y at *
        obtain ⟨yt, ye⟩ := y
        simp only at hno CGi
        clear hok SG CG
        rcases hno with hno | ⟨hno, hbig⟩
        · have hno' : (ye == 0) = false := by rw [beq_eq_false_iff_ne]; exact hno
          have hno2 : decide (ye = 0) = false := decide_eq_false hno
          go_wp2_with (go_at_call 48; (with_reducible refine (CGi.out _ (HL.out.keep HB.out)).mono ?_); rintro e w2 ⟨rfl, hb⟩; have HR2 := Lib.hid (HR.out.keep hb); have HB2 := Lib.hid (HB.out.trans (hb.mono HB.out.size)); clear hb)
          go_ret
          exact ⟨_, rfl, by rw [HE.out]; exact HR2.out, HB2.out⟩
        · subst hno
          have hb4 : (4096 : Int) < yt.size := by omega
          have hb5 : decide ((4096 : Int) < yt.size) = true := decide_eq_true hb4
          go_wp2_with (go_at_call 48; (with_reducible refine (CGi.out _ (HL.out.keep HB.out)).mono ?_); rintro e w2 ⟨rfl, hb⟩; have HR2 := Lib.hid (HR.out.keep hb); have HB2 := Lib.hid (HB.out.trans (hb.mono HB.out.size)); clear hb)
          go_ret
          exact ⟨_, rfl, by rw [HE.out]; exact HR2.out, HB2.out⟩
      · have hlt := SG.out i hi hok
        have hy := of_decide_eq_true hok
        have CGi := Lib.hid (CG.out i (by omega))
        have HS := Lib.hid (standL_snoc x s i)
        have HSL := Lib.hid (standL_len x s i)
        unfold leafAt at HS
        generalize bgetG x s 1 i = y at *
        obtain ⟨yt, ye⟩ := y
        simp only at hy CGi HS
        obtain ⟨rfl, hsz⟩ := hy
        have hsi : (yt.size : Int) ≤ 4096 := by omega
        have hsj : decide ((4096 : Int) < yt.size) = false := decide_eq_false (by omega)
        have HRR : Hid (Row wr w.heap.size 1 (.slice la i lc) (standL x s i).length (strV (standL x s i))) := Lib.hid (by rw [HSL.out]; exact HR.out)
        have hib : (standL x s i).length ≤ 4194304 := by rw [HSL.out]; omega
        have HIB := Lib.hid hib
        clear hok SG CG hib
        go_wp2_with (first
          | (go_at_call 48; (with_reducible refine (CGi.out _ (HL.out.keep HB.out)).mono ?_); rintro e w2 ⟨rfl, hb⟩; have HR2 := Lib.hid (HRR.out.keep hb); have HB2 := Lib.hid (HB.out.trans (hb.mono HB.out.size)); clear hb)
          | (refine wpList_strA w2 w.heap.size yt rfl (.tmp 34) (.tmp 36) rfl (.slice la i lc) (standL x s i) rfl rfl HR2.out HIB.out HB2.out.size ?_; intro v6 w6 hr6 hb6; have HR6 := Lib.hid hr6; have HB6 := Lib.hid (HB2.out.trans hb6); clear hr6 hb6))
        go_roundw
        case rel => exact ⟨i + 1, v6, by omega, rfl, by go_num, Lib.hid (by have := HR6.out; rw [← HS.out, standL_len] at this; exact this), HB6⟩
        case measure => simp [intOf]; omega
    · have hin : i = n := by omega
      have him2 : i = m := by omega
      subst hin
      subst him2
      go_wp2
      go_ret
      exact ⟨_, rfl, by rw [HE.out]; exact HR.out, HB.out⟩
end Go.Proofs.YtegplajddhiejaaGreat
