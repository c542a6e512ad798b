import Derived.Test.YtcicdgajhheipaaGreatMgBookFresh22
set_option linter.unusedVariables false
set_option linter.unusedSimpArgs false
namespace Go.Proofs.YtcicdgajhheipaaGreat
open Go.RowKit Go.WideMaps Go.Maps Go.MapKept
/-- An int appended: it is told whether the old block was touched. -/
theorem wpList_intA2 {ops : Array Oper} {rest : List Oper} {o : Oper} {a : Act} {Q : Exit → Act → World → Prop} (wr : World) (B : Nat) (d : Int) (hgd : o.guard = none) (s x : Operand)
    (ho : o.op = .call { callee := .builtin .append, args := #[s, x], argTypes := #[32, 32] }) (v : Value) (l : List Int) (hs : a.eval s = v) (z : Nat) (hx : a.eval x = .slice (some ⟨z, 0, none⟩) 1 1) (hzz : z = wr.heap.size)
    (hrow : Row wr B 1 v l.length (iV l)) (hlen : l.length ≤ 4194400) (hB : B ≤ wr.heap.size)
    (h : ∀ v' w', Row w' B 1 v' (l ++ [d]).length (iV (l ++ [d])) → ((v'.ownBlock = v.ownBlock ∧ (wr.alloc (.cells #[.int .i64 d] 3)).grownBy w' v.ownBlock) ∨ (v'.ownBlock = some (wr.heap.size + 1) ∧ (wr.alloc (.cells #[.int .i64 d] 3)).grownBy w' none)) → Below B wr w' → wpList Tryz.prog ops Q rest (a.put o.dst v') w') : wpList Tryz.prog ops Q (o :: rest) a (wr.alloc (.cells #[.int .i64 d] 3)) := by
  subst hzz
  obtain ⟨i0, hi, hz0, hz1, hz2⟩ := info_parts infoIntK
  refine wpList_append_row2 _ hgd s x 32 32 ho B 3 i0 (.int .i64 0) 1 8 Tryz.underlying32 hi hz0 hz1 hz2 rfl v _ _ hs (hrow.alloc _) _ 1 _ hx (Row.src (row_lit wr #[.int .i64 d] 3 1 1 (by unfold maxLen; omega) rfl) Tryz.underlying32 (by intro z hz; simp at hz; subst hz; rfl)) (by unfold maxLen; omega) (by omega) (Nat.le_trans hB (by simp)) ?_
  intro v' w1 h1 hg
  have hsz : (wr.alloc (.cells #[.int .i64 d] 3)).heap.size = wr.heap.size + 1 := by simp
  refine h v' w1 ?_ ?_ ?_
  · rw [iV_snoc, List.length_append]; exact h1
  · rw [hsz] at hg; exact hg
  · rcases hg with ⟨_, g⟩ | ⟨_, g⟩
    · exact ((Below.refl B wr).alloc hB _).grown g (Nat.le_trans hB (by simp)) (fun j hj => (hrow.lt j hj).1)
    · exact ((Below.refl B wr).alloc hB _).grown g (Nat.le_trans hB (by simp)) (fun j hj => by cases hj)
theorem Grow.alloc {B : Nat} {w : World} {lv mv : Value} {vs fs : List Value} {Cs : List (List Int)} {ln : Nat → Nat} {i t : Nat} (h : Grow B w lv mv vs fs Cs ln i t) (o : Obj) : Grow B (w.alloc o) lv mv vs fs Cs ln i t := by
  have hb : Below w.heap.size w (w.alloc o) := (Below.refl _ _).alloc (Nat.le_refl _) o
  refine ⟨⟨h.fam.len, fun j u M hu hM => ⟨(h.fam.each j u M hu hM).1.keep hb, (h.fam.each j u M hu hM).2⟩, h.fam.own, h.fam.out⟩, ⟨fun q u hu => ?_, fun q u k hu hk => Nat.lt_of_lt_of_le (h.shown.lt q u k hu hk) hb.size, h.shown.apart⟩, h.lrow.keep hb, h.mrow.keep hb, h.len, h.lens, h.rest, h.here, h.mne, h.vne⟩
  obtain ⟨a, c, rfl, hc⟩ := h.shown.cells q u hu
  refine ⟨a, c, rfl, fun hp => ?_⟩
  obtain ⟨g, rfl, hgl, hce⟩ := hc hp
  exact ⟨g, rfl, Nat.lt_of_lt_of_le hgl hb.size, fun e he => (hb.cell (p := ⟨g, e, none⟩) hgl).trans (hce e he)⟩
theorem infoIntsK : (Tryz.prog.info? 32).map (fun i => (i.zero, i.size, i.bytes)) = some (some (.slice none 0 0), 1, 24) := by kernel_rfl
/-- A list put behind a list of lists. -/
theorem wpList_lstA {ops : Array Oper} {rest : List Oper} {o : Oper} {a : Act} {Q : Exit → Act → World → Prop} (wr : World) (B : Nat) (d : Value) (hd : d.oneCell' = true) (hgd : o.guard = none) (s x : Operand)
    (ho : o.op = .call { callee := .builtin .append, args := #[s, x], argTypes := #[35, 35] }) (v : Value) (i : Nat) (fs : List Value) (hs : a.eval s = v) (z : Nat) (hx : a.eval x = .slice (some ⟨z, 0, none⟩) 1 1) (hzz : z = wr.heap.size)
    (hrow : Row wr B 1 v i fs) (hlen : i ≤ 100) (hB : B ≤ wr.heap.size)
    (h : ∀ v' w', Row w' B 1 v' (i + 1) (fs ++ [d]) → (wr.alloc (.cells #[d] 32)).grownBy w' v.ownBlock → (v'.ownBlock = v.ownBlock ∨ v'.ownBlock = some (wr.alloc (.cells #[d] 32)).heap.size) → Below B wr w' → wpList Tryz.prog ops Q rest (a.put o.dst v') w') : wpList Tryz.prog ops Q (o :: rest) a (wr.alloc (.cells #[d] 32)) := by
  subst hzz
  obtain ⟨i0, hi, hz0, hz1, hz2⟩ := info_parts infoIntsK
  refine wpList_append_row _ hgd s x 35 35 ho B 32 i0 (.slice none 0 0) 1 24 Tryz.underlying35 hi hz0 hz1 hz2 rfl v _ _ hs (hrow.alloc _) _ 1 _ hx (Row.src (row_lit wr #[d] 32 1 1 (by unfold maxLen; omega) rfl) Tryz.underlying35 (by intro z hz; simp at hz; subst hz; exact hd)) (by unfold maxLen; omega) (by omega) (Nat.le_trans hB (by simp)) ?_
  intro v' w1 h1 hg hat
  exact h v' w1 h1 hg hat (((Below.refl B wr).alloc hB _).grown hg (Nat.le_trans hB (by simp)) (fun j hj => (hrow.lt j hj).1))
/-- What the third loop reads. -/
theorem Grow.read {B : Nat} {w : World} {lv mv : Value} {vs fs : List Value} {Cs : List (List Int)} {ln : Nat → Nat} {n : Nat} (h : Grow B w lv mv vs fs Cs ln n 0) (hn : vs.length = n) (i : Nat) (hi : i < n) :
    (∃ mg mc fa fc g, mv = .slice (some ⟨mg, 0, none⟩) n mc ∧ mg < w.heap.size ∧ w.cell? ⟨mg, i, none⟩ = some (.slice fa (ln i + 64) fc) ∧ fa = some ⟨g, 0, none⟩ ∧ g < w.heap.size ∧ ∀ e, e < ln i + 64 → w.cell? ⟨g, e, none⟩ = some (.int .i64 (-20 - (i : Int)))) ∧
    ∃ lg lc va vc, lv = .slice (some ⟨lg, 0, none⟩) n lc ∧ lg < w.heap.size ∧ w.cell? ⟨lg, i, none⟩ = some (.slice va (ln i) vc) ∧ ∀ e, e < ln i → ∃ g, va = some ⟨g, 0, none⟩ ∧ g < w.heap.size ∧ w.cell? ⟨g, e, none⟩ = some (.int .i64 (-20 - (i : Int))) := by
  subst hn
  have hif : i < fs.length := by rw [h.len]; exact hi
  have hic : i < Cs.length := by rw [h.fam.len]; exact hif
  have hf : fs[i]? = some fs[i] := by rw [List.getElem?_eq_getElem hif]
  have hc : Cs[i]? = some Cs[i] := by rw [List.getElem?_eq_getElem hic]
  obtain ⟨r1, r2⟩ := h.fam.each i _ _ hf hc
  have hl := h.lens i _ hc
  rw [if_pos hi] at hl
  constructor
  · rcases Row.form h.mrow with ⟨_, h0, _⟩ | ⟨mg, mc, e0, _, hg, _, _, hx, _⟩
    · omega
    · rcases Row.form r1 with ⟨_, h0, _⟩ | ⟨g, fc, e1, _, hg1, _, _, hx1, _⟩
      · omega
      · refine ⟨mg, mc, some ⟨g, 0, none⟩, fc, g, e0, hg, ?_, rfl, hg1, fun e he => ?_⟩
        · rw [hx i fs[i] (by rw [List.getElem?_take_of_lt hi]; exact hf), e1, hl]
        · have hel : e < Cs[i].length := by omega
          exact hx1 e _ (by unfold iV; rw [List.getElem?_map, List.getElem?_eq_getElem hel, r2 _ (List.getElem_mem hel)]; rfl)
  · rcases Row.form h.lrow with ⟨_, h0, _⟩ | ⟨lg, lc, e0, _, hg, _, _, hx, _⟩
    · omega
    · have hv : vs[i]? = some vs[i] := by rw [List.getElem?_eq_getElem hi]
      obtain ⟨a, c, e1, hcs⟩ := h.shown.cells i _ hv
      refine ⟨lg, lc, a, c, e0, hg, by rw [hx i _ hv, e1], fun e he => ?_⟩
      obtain ⟨g, rfl, hg1, hce⟩ := hcs (by omega)
      exact ⟨g, rfl, hg1, hce e he⟩
set_option maxRecDepth 100000 in
set_option maxHeartbeats 4000000 in
theorem apart_calls {B : Nat} (lv : Value) (vs : List Value) (ln : Nat → Nat) (w : World) (h : FillAt B w lv vs ln 0 0 w) (hBw : B ≤ w.heap.size) (hn : vs.length ≤ 100) (hl : ∀ q, q < vs.length → ln q ≤ 4194304) :
    Calls Tryz.prog 16 #[lv] w fun e w' => e = .returned (.bool true) ∧ Below B w w' := by
  have HL := Lib.hid hl
  have HBW := Lib.hid hBw
  have HF := Lib.hid h
  obtain ⟨la, lc, hlv⟩ : ∃ a c, lv = .slice a vs.length c := by
    obtain ⟨Ms, h1, _⟩ := h
    exact h1.row.slice
  subst hlv
  obtain ⟨n, hnn⟩ : ∃ n, vs.length = n := ⟨_, rfl⟩
  have HN := Lib.hid hnn
  rw [hnn] at hn
  rw [hnn] at HF ⊢
  clear h hl hnn hBw
  go_enter Tryz.func16, Tryz.ntmps16
  go_wp2
  go_loopw [3] (fun iv wr => ∃ i : Nat, i ≤ n ∧ iv = .int .i64 i ∧ Hid (FillAt B w (.slice la n lc) vs ln i 0 wr)) (fun iv _ => n - (intOf iv).toNat)
  case atStart => exact ⟨0, by omega, rfl, HF⟩
  case round =>
    obtain ⟨i, hi, rfl, HI⟩ := hrel
    by_cases hlt : i < n
    · have hil : i < vs.length := by rw [HN.out]; exact hlt
      have hii : (i : Int) < n := by omega
      go_wp2
      go_loopw [4] (fun jv wq => ∃ j : Nat, j ≤ ln i ∧ jv = .int .i64 j ∧ Hid (FillAt B w (.slice la n lc) vs ln i j wq)) (fun jv _ => ln i - (intOf jv).toNat)
      case atStart => exact ⟨0, by omega, rfl, HI⟩
      case round =>
        obtain ⟨j, hj, rfl, HJ⟩ := hrel
        obtain ⟨cg, cc, hv, hcg, hcl⟩ := HJ.out.at hil
        injection hv with hv e2 e3
        subst hv
        clear e2 e3
        obtain ⟨va, vc, hvs, hvc⟩ := HJ.out.list hil
        have HVS := Lib.hid (show vs[i]? = some (.slice va (ln i) vc) by rw [List.getElem?_eq_getElem hil, hvs])
        rw [hvs] at hcl
        have hlb := HL.out i hil
        by_cases hjl : j < ln i
        · obtain ⟨g, rfl, hg, hce⟩ := hvc (by omega)
          obtain ⟨⟨u, hu⟩, hfz⟩ := hce j hjl
          have HP := Lib.hid (HJ.out.put HVS.out hjl)
          have hji : (j : Int) < ln i := by omega
          clear hvc hce hvs
          go_wp2
          exact ⟨⟨j + 1, by omega, by go_num, HP⟩, by simp [intOf]; omega⟩
        · obtain rfl : j = ln i := by omega
          have HNX := Lib.hid (HJ.out.next hil (Nat.le_refl _))
          clear hvc hvs
          go_wp2
          exact ⟨⟨i + 1, by omega, by go_num, HNX⟩, by simp [intOf]; omega⟩
    · obtain rfl : n = i := by omega
      obtain ⟨Cs0, hg0⟩ := (show FillAt B w (.slice la n lc) vs ln vs.length 0 wr by rw [HN.out]; exact HI.out).grow
      have HG0 := Lib.hid (And.intro (show ∃ fs Cs, Grow B wr (.slice la n lc) (.slice none 0 0) vs fs Cs ln 0 0 from ⟨vs, Cs0, hg0⟩) HI.out.below)
      clear hi hlt hg0
      go_wp2
      go_loopw [5, 6] (fun mvv iv wq => ∃ (i : Nat) (mv : Value), i ≤ n ∧ mv = mvv ∧ iv = .int .i64 i ∧ Hid ((∃ fs Cs, Grow B wq (.slice la n lc) mv vs fs Cs ln i 0) ∧ Below B w wq)) (fun _ iv _ => n - (intOf iv).toNat)
      case atStart => exact ⟨0, _, by omega, rfl, rfl, HG0⟩
      case round =>
        obtain ⟨i, mv, hi, hmv, rfl, HJ⟩ := hrel
        subst hmv
        obtain ⟨⟨fs, Cs, hgr⟩, hbw⟩ := HJ.out
        by_cases hlt : i < n
        · have hil : i < vs.length := by rw [HN.out]; exact hlt
          have hii : (i : Int) < n := by omega
          have hbi : i ≤ 100 := by omega
          have hlr := hgr.lrow
          rw [HN.out] at hlr
          obtain ⟨lg, rfl, hlg, hlc⟩ : ∃ g, la = some ⟨g, 0, none⟩ ∧ g < wr.heap.size ∧ wr.cell? ⟨g, i, none⟩ = some vs[i] := by
            rcases Row.form hlr with ⟨_, h0, _⟩ | ⟨cg, cap, e0, _, hg, _, _, hx, _⟩
            · omega
            · injection e0 with e1 e2 e3
              exact ⟨cg, e1, hg, hx i _ (by rw [List.getElem?_eq_getElem hil])⟩
          have hfi : fs[i]? = some vs[i] := by rw [hgr.here rfl, List.getElem?_eq_getElem hil]
          have hci : i < Cs.length := by rw [hgr.fam.len, hgr.len]; exact hil
          have HK := Lib.hid (show (∃ fs Cs, Grow B wr (.slice (some ⟨lg, 0, none⟩) n lc) mv vs fs Cs ln i 0 ∧ fs[i]? = some vs[i]) ∧ Below B w wr from ⟨⟨fs, Cs, hgr, hfi⟩, hbw⟩)
          generalize vs[i] = v0 at *
          clear hgr hbw hfi hci hlr HJ
          go_wp2
          go_loopw [7, 8] (fun lvv tv wq => ∃ (t : Nat) (l : Value), t ≤ 64 ∧ l = lvv ∧ tv = .int .i64 t ∧ Hid ((∃ fs Cs, Grow B wq (.slice (some ⟨lg, 0, none⟩) n lc) mv vs fs Cs ln i t ∧ fs[i]? = some l) ∧ Below B w wq)) (fun _ tv _ => 64 - (intOf tv).toNat)
          case atStart => exact ⟨0, _, by omega, rfl, rfl, HK⟩
          case round =>
            obtain ⟨t, l, ht, hlv2, rfl, HT⟩ := hrel
            subst hlv2
            obtain ⟨⟨fs2, Cs2, hg2, hf2⟩, hb2⟩ := HT.out
            have hfl : i < fs2.length := (List.getElem?_eq_some_iff.1 hf2).1
            have hcl2 : i < Cs2.length := by rw [hg2.fam.len]; exact hfl
            have hM2 : Cs2[i]? = some Cs2[i] := by rw [List.getElem?_eq_getElem hcl2]
            by_cases h64 : t < 64
            · have hlen2 := hg2.lens i _ hM2
              rw [if_neg (Nat.lt_irrefl i), if_pos rfl] at hlen2
              have hli := HL.out i hil
              have HG2 := Lib.hid hg2
              have HF2 := Lib.hid hf2
              have HM2 := Lib.hid hM2
              have HB2 := Lib.hid hb2
              have HR2 := Lib.hid (hg2.fam.each i l _ hf2 hM2).1
              generalize Cs2[i] = M at *
              have hcm : M.length ≤ 4194400 := by omega
              have HCM := Lib.hid hcm
              clear hg2 hf2 hM2 hb2 hfl hcl2 hlen2 hli hcm HT
              go_wp2_with (refine wpList_intA2 wr B (-20 - (i : Int)) rfl (.tmp 48) (.tmp 51) rfl l M rfl wr.heap.size rfl rfl HR2.out HCM.out (Nat.le_trans HBW.out HB2.out.size) ?_; intro v5 w5 hr5 hg5 hb5; have HN5 := Lib.hid ((HG2.out.alloc (.cells #[.int .i64 (-20 - (i : Int))] 3)).one HF2.out HM2.out hr5 (by simpa using hg5)); have HB5 := Lib.hid (HB2.out.trans hb5); have HS5 := Lib.hid (show (fs2.set i v5)[i]? = some v5 from List.getElem?_set_self (List.getElem?_eq_some_iff.1 HF2.out).1); clear hr5 hg5 hb5)
              exact ⟨⟨t + 1, v5, by omega, rfl, by go_num, Lib.hid ⟨⟨_, _, HN5.out, HS5.out⟩, HB5.out⟩⟩, by simp [intOf]; omega⟩
            · obtain rfl : t = 64 := by omega
              have HG2 := Lib.hid hg2
              have HF2 := Lib.hid hf2
              have HB2 := Lib.hid hb2
              have HR2 := Lib.hid (hg2.fam.each i l _ hf2 hM2).1
              obtain ⟨ca, cn, cc, hcl⟩ : ∃ a n c, l = .slice a n c := by obtain ⟨a, c, e⟩ := HR2.out.slice; exact ⟨a, _, c, e⟩
              subst hcl
              have HMV := Lib.hid hg2.mrow
              obtain ⟨ma, mc, hmv⟩ := hg2.mrow.slice
              subst hmv
              clear hg2 hf2 hM2 hb2 hfl hcl2 HT h64 HR2
              go_wp2_with (refine wpList_lstA wr B (.slice ca cn cc) rfl rfl (.tmp 53) (.tmp 55) rfl (.slice ma i mc) i _ rfl wr.heap.size rfl rfl HMV.out hbi (Nat.le_trans HBW.out HB2.out.size) ?_; intro v5 w5 hr5 hg5 ho5 hb5; have HN5 := Lib.hid ((HG2.out.alloc (.cells #[.slice ca cn cc] 32)).next HF2.out hr5 hg5 ho5); have HB5 := Lib.hid (HB2.out.trans hb5); clear hr5 hg5 ho5 hb5)
              exact ⟨⟨i + 1, v5, by omega, rfl, by go_num, Lib.hid ⟨⟨_, _, HN5.out⟩, HB5.out⟩⟩, by simp [intOf]; omega⟩
        · obtain rfl : n = i := by omega
          have HR := Lib.hid (hgr.read HN.out)
          have HB3 := Lib.hid hbw
          obtain ⟨ma, mc, hmv⟩ := hgr.mrow.slice
          subst hmv
          clear hgr hbw HJ hi hlt
          go_wp2
          go_loopw [9] (fun iv wq => ∃ i : Nat, i ≤ n ∧ iv = .int .i64 i ∧ wr = wq) (fun iv _ => n - (intOf iv).toNat)
          case atStart => exact ⟨0, by omega, rfl, rfl⟩
          case round =>
            obtain ⟨i, hi, rfl, hwq⟩ := hrel
            subst hwq
            by_cases hlt : i < n
            · have hii : (i : Int) < n := by omega
              have hbi : i ≤ 100 := by omega
              obtain ⟨⟨mg, mc2, fa, fc, fg, e1, hmg, hmc, rfl, hfg, hfc⟩, lg, lc2, va, vc, e2, hlg, hlc, hvc⟩ := HR.out i hlt
              injection e1 with e1 _ e3
              injection e2 with e2 _ e4
              subst e1 e2 e3 e4
              have hli := HL.out i (by rw [HN.out]; exact hlt)
              generalize ln i = m at *
              go_wp2
              go_loopw [10] (fun jv wq => ∃ j : Nat, j ≤ m + 64 ∧ jv = .int .i64 j ∧ wr = wq) (fun jv _ => m + 64 - (intOf jv).toNat)
              case atStart => exact ⟨0, by omega, rfl, rfl⟩
              case round =>
                obtain ⟨j, hj, rfl, hwq⟩ := hrel
                subst hwq
                by_cases hjl : j < m + 64
                · have hfj := hfc j hjl
                  by_cases hjm : j < m
                  · obtain ⟨g, rfl, hg, hgc⟩ := hvc j hjm
                    clear hfc hvc
                    have h9 : (j : Int) < m := by omega
                    go_wp2
                    exact ⟨⟨j + 1, by omega, by go_num, trivial⟩, by simp [intOf]; omega⟩
                  · clear hfc hvc
                    have h9 : ¬ (j : Int) < m := by omega
                    go_wp2
                    exact ⟨⟨j + 1, by omega, by go_num, trivial⟩, by simp [intOf]; omega⟩
                · obtain rfl : j = m + 64 := by omega
                  clear hfc hvc
                  go_wp2
                  exact ⟨⟨i + 1, by omega, by go_num, trivial⟩, by simp [intOf]; omega⟩
            · obtain rfl : i = n := by omega
              clear hlt hi HR
              go_wp2
              go_ret
              exact ⟨rfl, HB3.out⟩
end Go.Proofs.YtcicdgajhheipaaGreat
