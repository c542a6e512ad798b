import Derived.Test.YtkpfbjlbllpahaaDoorMk8
set_option linter.unusedVariables false
namespace Go.Proofs.YtkpfbjlbllpahaaDoor
open Go.RowKit
theorem belowThen {w w1 w2 : World} (h : Below w.heap.size w w1) (k : Below w1.heap.size w1 w2) : Below w.heap.size w w2 := h.trans (k.mono h.size)
theorem belowStep {a w w2 : World} {B : Nat} (h : Below (B + 1) a w) (hB : B < w.heap.size) (k : Below w.heap.size w w2) : Below (B + 1) a w2 := h.trans (k.mono hB)
theorem boxed7 {w wr : World} {t : TypeId} {a b c d e f g : Value} (h : Below (w.heap.size + 1) (w.alloc (.cells #[a, b, c, d, e, f, g] t)) wr) : wr.cell? ⟨w.heap.size, 0, none⟩ = some a ∧ wr.cell? ⟨w.heap.size, 1, none⟩ = some b ∧ wr.cell? ⟨w.heap.size, 2, none⟩ = some c ∧ wr.cell? ⟨w.heap.size, 3, none⟩ = some d ∧ wr.cell? ⟨w.heap.size, 4, none⟩ = some e ∧ wr.cell? ⟨w.heap.size, 5, none⟩ = some f ∧ wr.cell? ⟨w.heap.size, 6, none⟩ = some g := by
  have hb := (boxed h).2.2
  exact ⟨hb 0 _ rfl, hb 1 _ rfl, hb 2 _ rfl, hb 3 _ rfl, hb 4 _ rfl, hb 5 _ rfl, hb 6 _ rfl⟩
/-- The list of the texts: every place is there. -/
def TextsAt (w : World) (g n : Nat) : Prop := g < w.heap.size ∧ ∀ j, j < n → (∃ u, w.cell? ⟨g, j, none⟩ = some u) ∧ w.frozen? ⟨g, j, none⟩ = false
theorem TextsAt.keep {w w' : World} {g n : Nat} (h : TextsAt w g n) (hb : Below w.heap.size w w') : TextsAt w' g n :=
  ⟨Nat.lt_of_lt_of_le h.1 hb.size, fun j hj => ⟨by rw [hb.cell (p := ⟨g, j, none⟩) h.1]; exact (h.2 j hj).1, by rw [hb.frozen (p := ⟨g, j, none⟩) h.1]; exact (h.2 j hj).2⟩⟩
theorem TextsAt.set {w : World} {g n : Nat} (h : TextsAt w g n) (d : Nat) (hd : d < n) (u : Value) : TextsAt (w.setCell ⟨g, d, none⟩ u) g n ∧ (w.setCell ⟨g, d, none⟩ u).cell? ⟨g, d, none⟩ = some u := by
  have hs : (w.setCell ⟨g, d, none⟩ u).cell? ⟨g, d, none⟩ = some u := by
    obtain ⟨v, hv⟩ := (h.2 d hd).1
    exact World.cell?_setCell_same (h := hv) ..
  refine ⟨⟨by simpa [World.setCell] using h.1, fun j hj => ⟨?_, by rw [World.frozen?_setCell]; exact (h.2 j hj).2⟩⟩, hs⟩
  by_cases e : j = d
  · subst e; exact ⟨_, hs⟩
  · obtain ⟨v, hv⟩ := (h.2 j hj).1
    exact ⟨v, by rw [World.cell?_setCell_other (h := fun h => e (by injection h with _ h2; exact h2.symm))]; exact hv⟩
theorem texts_made (w : World) (n : Nat) (e : TypeId) : TextsAt (w.alloc (.cells (madeCells #[.string ⟨#[]⟩] n) e)) w.heap.size n := by
  refine ⟨by simp, fun j hj => ⟨?_, World.frozen?_alloc_new w _ _ j⟩⟩
  rw [World.cell?_alloc_new, Array.getElem?_eq_getElem (by rw [size_madeCells]; exact hj)]
  exact ⟨_, rfl⟩
theorem make_texts (n : Nat) (hn : n ≤ 1000) (w : World) : (Instr.makeSlice 23 (.int .i64 (n : Int)) (.int .i64 (n : Int))).run Tryd.prog w = .ok (.slice (some ⟨w.heap.size, 0, none⟩) n n) (w.alloc (.cells (madeCells #[.string ⟨#[]⟩] n) 9)) := by
  obtain ⟨i0, hi, hz0, hz1, hz2⟩ := info_parts infoStr
  have h := run_make (P := Tryd.prog) w 23 9 i0 (.string ⟨#[]⟩) Tryd.underlying23 hi hz0 .i64 .i64 n n (by omega) (by omega) (by rw [hz2]; omega) (by omega)
  rw [h, hz1]
  simp only [Int.toNat_natCast, Nat.mul_one]
  rfl
set_option maxRecDepth 100000 in
set_option maxHeartbeats 4000000 in
theorem mway_calls (key : ByteArray) (m : Nat) (f b : Bool) (o v : ByteArray) (fs : List Bool) (hs : List ByteArray) (F H : Value) (w : World) (hL : Laid w) (hF : Held w F (bV fs)) (hH : Held w H (tV hs)) (S : Sided m fs hs) (hk : key.size ≤ 1048576) (ho : o.size ≤ 1048576) (hv : v.size ≤ 1048576) :
    Calls Tryd.prog 44 #[.string key, .agg #[.int .i64 m, .bool f, .bool b, .string o, .string v, F, H]] w fun e w' => ∃ g n, 0 < n ∧ e = .returned (.slice (some ⟨g, 0, none⟩) n n) ∧ g < w'.heap.size ∧ w'.cell? ⟨g, 0, none⟩ = some (.string (wayT m (cutB key m) fs hs (if f then saidB key v else if b then saidB o v else ⟨#[]⟩) fs.length)) ∧ Below w.heap.size w w' := by
  have h4 := hL.size
  obtain ⟨aF, cF, rfl, hcF, hxF⟩ := hF.bool
  obtain ⟨aH, cH, rfl, hcH, hxH⟩ := hH.text
  have cC := fun w h => cut_calls key m w h (by omega)
  have cB := fun w => mbottom_calls key m f b o v (.slice aF fs.length cF) (.slice aH hs.length cH) hk ho hv w
  obtain ⟨p, hp⟩ : ∃ p, cutB key m = p := ⟨_, rfl⟩
  obtain ⟨t0, ht0⟩ : ∃ t0, (if f then saidB key v else if b then saidB o v else ⟨#[]⟩ : ByteArray) = t0 := ⟨_, rfl⟩
  have hpz : p.size = m := by rw [← hp, cutB_size, widN_in (by have := S.width; omega) (by have := S.width; omega)]; omega
  have htz : t0.size ≤ 4194304 := by
    rw [← ht0]
    split
    · rw [said_size]; omega
    · split
      · rw [said_size]; omega
      · exact Nat.zero_le _
  simp only [hp] at cC
  simp only [ht0] at cB
  rw [hp, ht0]
  have CC := Lib.hid cC
  have CB := Lib.hid cB
  have HL := Lib.hid hL
  have XF := Lib.hid hxF
  have XH := Lib.hid hxH
  have HS := Lib.hid S
  have hm1 := S.width.1
  have hm2 := S.width.2
  have HFL := Lib.hid S.full
  clear cC cB hL hF hH hxF hxH hp ht0 S
  go_enter Tryd.func44, Tryd.ntmps44
  go_wp2_with fail
  go_region_held3 (fun w' => w'.cell? ⟨w.heap.size, 0, none⟩ = some (.int .i64 m) ∧ w'.cell? ⟨w.heap.size, 6, none⟩ = some (.slice aH hs.length cH) ∧ w.heap.size < w'.heap.size ∧ Below w.heap.size w w' ∧ Below (w.heap.size + 1) (w.alloc (.cells #[.int .i64 m, .bool f, .bool b, .string o, .string v, .slice aF fs.length cF, .slice aH hs.length cH] 25)) w')
    (first
      | (refine ⟨?_, ?_, ?_, ((Below.refl _ _).alloc (Nat.le_refl _) _).drew, (Below.refl _ _).drew⟩ <;> simp)
      | (go_split_ands; refine ⟨(Below.cell (p := ⟨w.heap.size, 0, none⟩) hb1 ?_).trans ?_, (Below.cell (p := ⟨w.heap.size, 6, none⟩) hb1 ?_).trans ?_, Nat.lt_of_lt_of_le ?_ hb1.size, belowThen ?_ hb1, belowStep ?_ ?_ hb1⟩ <;> assumption)
      | go_keep)
    ((go_at_call 42; go_split_ands; refine (CC.out _ (HL.out.below (B := w.heap.size) (by assumption) h4)).mono ?_; rintro e w1 ⟨rfl, hb1⟩))
  go_split_ands
  have hmk := make_texts (8 * m + 1) (by omega)
  simp only [show ((8 * m + 1 : Nat) : Int) = 8 * (m : Int) + 1 by omega] at hmk
  have hBx : Below (w.heap.size + 1) (w.alloc (.cells #[.int .i64 m, .bool f, .bool b, .string o, .string v, .slice aF fs.length cF, .slice aH hs.length cH] 25)) w1 := by assumption
  have hz1 : w.heap.size < w1.heap.size := by assumption
  have hbx : Below (w.heap.size + 1) (w.alloc (.cells #[.int .i64 m, .bool f, .bool b, .string o, .string v, .slice aF fs.length cF, .slice aH hs.length cH] 25)) (w1.alloc (.cells (madeCells #[.string ⟨#[]⟩] (8 * m + 1)) 9)) := hBx.alloc hz1 _
  have HT1 := Lib.hid (texts_made w1 (8 * m + 1) 9)
  obtain ⟨_, hzz, _⟩ := boxed hbx
  obtain ⟨x0, x1, x2, x3, x4, x5, x6⟩ := boxed7 hBx
  have HB1 := Lib.hid hbx
  clear hbx hBx
  go_wp2_with (go_at_call 88; (with_reducible refine (CB.out _).mono ?_); rintro e w2 ⟨rfl, hb2⟩
               have HT2 := Lib.hid (HT1.out.keep hb2)
               have HB2 := Lib.hid (HB1.out.trans (hb2.mono hzz))
               obtain ⟨⟨u8, hu8⟩, hf8⟩ := HT2.out.2 (8 * m) (by omega)
               have hq8 : (8 * (m : Int)) < 8 * m + 1 := by omega
               clear hb2)
  have HT3 := Lib.hid (HT2.out.set (8 * m) (by omega) (.string t0))
  have HB3 := Lib.hid (HB2.out.setCell (p := ⟨w1.heap.size, 8 * m, none⟩) (by show w.heap.size + 1 ≤ w1.heap.size; omega) (.string t0))
  have hcc : hs.length = (fs.take (8 * m - 0)).count true := by rw [Nat.sub_zero, ← HFL.out, List.take_length]; exact HS.out.count
  have HCC := Lib.hid hcc
  clear hcc
  go_loopw [7, 9, 10, 11] (fun nv dv _ _ wr => ∃ (s : Nat) (dI : Int) (c : Nat), s ≤ 8 * m ∧ dI = 8 * m - 1 - s ∧ dv = .int .i64 dI ∧ nv = .int .i64 c ∧ Hid (c = (fs.take (8 * m - s)).count true) ∧ Hid (wr.cell? ⟨w1.heap.size, 8 * m - s, none⟩ = some (.string (wayT m p fs hs t0 s))) ∧ Hid (TextsAt wr w1.heap.size (8 * m + 1)) ∧ Hid (Below (w.heap.size + 1) (w.alloc (.cells #[.int .i64 m, .bool f, .bool b, .string o, .string v, .slice aF fs.length cF, .slice aH hs.length cH] 25)) wr)) (fun _ dv _ _ _ => (intOf dv + 1).toNat)
  case atStart => exact ⟨0, 8 * m - 1, hs.length, by omega, by omega, by go_num, rfl, HCC, Lib.hid HT3.out.2, Lib.hid HT3.out.1, HB3⟩
  case round =>
    obtain ⟨s, dI, c, hs8, hdI, rfl, rfl, HC, HX, HT, HB⟩ := hrel
    by_cases hlt : s < 8 * m
    · obtain ⟨d, rfl⟩ : ∃ d : Nat, dI = d := ⟨8 * m - 1 - s, by omega⟩
      have hd : d < 8 * m := by omega
      have hds : 8 * m - s = d + 1 := by omega
      have hdf : d < fs.length := by rw [HFL.out]; exact hd
      have hx1 := HX.out
      rw [hds] at hx1
      have hc0 := HC.out
      rw [hds, count_step d hdf] at hc0
      have hdi : (d : Int) < fs.length := by omega
      have hdn : (d : Int) + 1 < 8 * m + 1 := by omega
      have hdn2 : (d : Int) < 8 * m + 1 := by omega
      have hbit := bitN_lt p d
      have htx := HS.out.way_size p t0 htz s (by rw [HFL.out]; omega)
      have hsd := HS.out.side_size d hdf
      have hws : fs.length - 1 - s = d := by rw [HFL.out]; omega
      have hstep : wayT m p fs hs t0 (s + 1) = if bitN p d = 1 then aboveB m (sideB m fs hs d) (cutB (wayT m p fs hs t0 s) m) else aboveB m (cutB (wayT m p fs hs t0 s) m) (sideB m fs hs d) := by
        rw [wayT, hws]
      obtain ⟨tx, htxe⟩ : ∃ tx, wayT m p fs hs t0 s = tx := ⟨_, rfl⟩
      obtain ⟨nx, hnx⟩ : ∃ tx, wayT m p fs hs t0 (s + 1) = tx := ⟨_, rfl⟩
      rw [htxe] at hx1 htx hstep
      rw [hnx] at hstep
      have C1 := Lib.hid (fun w h => cut_calls tx m w h (by omega))
      have hhz := cutB_size tx m
      rw [widN_in (by omega) (by omega), Int.toNat_natCast] at hhz
      obtain ⟨h, hh⟩ : ∃ h, cutB tx m = h := ⟨_, rfl⟩
      rw [hh] at C1 hhz hstep
      have CE := Lib.hid (fun w h => empty_calls m w h)
      have CR := Lib.hid (fun w => mright_calls p d (by rw [hpz]; omega) (by omega) w)
      obtain ⟨g1, o1, rfl, hg1, hcell1⟩ := XF.out d hdf
      have H1 := Lib.hid hcell1
      obtain ⟨x, hx⟩ : ∃ x, sideB m fs hs d = x := ⟨_, rfl⟩
      rw [hx] at hstep hsd
      have HNX := Lib.hid hnx
      have HDI := Lib.hid (And.intro hdI hds)
      clear hcell1 HX hnx htxe hws hdI hds
      cases hfd : fs[d]
      · have hk : c = (fs.take d).count true := by rw [hc0, hfd]; simp
        have HK := Lib.hid hk
        have hxe : emptyB m = x := by rw [← hx]; exact (sideB_off hdf hfd).symm
        rw [hxe] at CE
        clear hc0 hk hx hxe
        by_cases hb1 : bitN p d = 1
        · rw [if_pos hb1] at hstep
          have hdec : decide (bitN p d = 1) = true := decide_eq_true hb1
          rw [hdec] at CR
          have HST := Lib.hid hstep
          have CA := Lib.hid (fun w h' => mabove_calls m x h (by omega) (by omega) w h')
          go_wp2_with (first
            | (go_at_call 42; (with_reducible refine (C1.out _ (HL.out.below (boxed HB.out).1 h4)).mono ?_); rintro e w3 ⟨rfl, hb3⟩
               have HT4 := Lib.hid (HT.out.keep hb3)
               have HB4 := Lib.hid (belowStep HB.out (boxed HB.out).2.1 hb3)
               clear hb3)
            | (go_at_call 80; (with_reducible refine (CE.out _ (HL.out.below (boxed HB4.out).1 h4)).mono ?_); rintro e w4 ⟨rfl, hb4⟩
               have HT5 := Lib.hid (HT4.out.keep hb4)
               have HB5 := Lib.hid (belowStep HB4.out (boxed HB4.out).2.1 hb4)
               obtain ⟨y0, y1, y2, y3, y4, y5, y6⟩ := boxed7 HB5.out
               have hq1 := ((boxed HB5.out).1.cell (p := ⟨g1, o1 + d, none⟩) hg1).trans H1.out
               rw [hfd] at hq1
               clear hb4)
            | (go_at_call 79; (with_reducible refine (CR.out _).mono ?_); rintro e w5 ⟨rfl, hb5⟩
               have HT6 := Lib.hid (HT5.out.keep hb5)
               have HB6 := Lib.hid (belowStep HB5.out (boxed HB5.out).2.1 hb5)
               clear hb5)
            | (go_at_call 89; (with_reducible refine (CA.out _ (HL.out.below (boxed HB6.out).1 h4)).mono ?_); rintro e w6 ⟨rfl, hb6⟩
               have HT7 := Lib.hid (HT6.out.keep hb6)
               have HB7 := Lib.hid (belowStep HB6.out (boxed HB6.out).2.1 hb6)
               obtain ⟨⟨u9, hu9⟩, hf9⟩ := HT7.out.2 d (by omega)
               clear hb6))
          have HT8 := Lib.hid (HT7.out.set d (by omega) (.string (aboveB m x h)))
          have HB8 := Lib.hid (HB7.out.setCell (p := ⟨w1.heap.size, d, none⟩) (by show w.heap.size + 1 ≤ w1.heap.size; omega) (.string (aboveB m x h)))
          have hdi2 := HDI.out
          refine ⟨⟨s + 1, (d : Int) - 1, c, by omega, by omega, by go_num, by go_num, Lib.hid ?_, Lib.hid ?_, Lib.hid HT8.out.1, HB8⟩, by simp [intOf] <;> omega⟩
          · rw [show 8 * m - (s + 1) = d by omega]; exact HK.out
          · rw [show 8 * m - (s + 1) = d by omega, HNX.out, HST.out]; exact HT8.out.2
        · rw [if_neg hb1] at hstep
          have hdec : decide (bitN p d = 1) = false := decide_eq_false hb1
          rw [hdec] at CR
          have HST := Lib.hid hstep
          have CA := Lib.hid (fun w h' => mabove_calls m h x (by omega) (by omega) w h')
          go_wp2_with (first
            | (go_at_call 42; (with_reducible refine (C1.out _ (HL.out.below (boxed HB.out).1 h4)).mono ?_); rintro e w3 ⟨rfl, hb3⟩
               have HT4 := Lib.hid (HT.out.keep hb3)
               have HB4 := Lib.hid (belowStep HB.out (boxed HB.out).2.1 hb3)
               clear hb3)
            | (go_at_call 80; (with_reducible refine (CE.out _ (HL.out.below (boxed HB4.out).1 h4)).mono ?_); rintro e w4 ⟨rfl, hb4⟩
               have HT5 := Lib.hid (HT4.out.keep hb4)
               have HB5 := Lib.hid (belowStep HB4.out (boxed HB4.out).2.1 hb4)
               obtain ⟨y0, y1, y2, y3, y4, y5, y6⟩ := boxed7 HB5.out
               have hq1 := ((boxed HB5.out).1.cell (p := ⟨g1, o1 + d, none⟩) hg1).trans H1.out
               rw [hfd] at hq1
               clear hb4)
            | (go_at_call 79; (with_reducible refine (CR.out _).mono ?_); rintro e w5 ⟨rfl, hb5⟩
               have HT6 := Lib.hid (HT5.out.keep hb5)
               have HB6 := Lib.hid (belowStep HB5.out (boxed HB5.out).2.1 hb5)
               clear hb5)
            | (go_at_call 89; (with_reducible refine (CA.out _ (HL.out.below (boxed HB6.out).1 h4)).mono ?_); rintro e w6 ⟨rfl, hb6⟩
               have HT7 := Lib.hid (HT6.out.keep hb6)
               have HB7 := Lib.hid (belowStep HB6.out (boxed HB6.out).2.1 hb6)
               obtain ⟨⟨u9, hu9⟩, hf9⟩ := HT7.out.2 d (by omega)
               clear hb6))
          have HT8 := Lib.hid (HT7.out.set d (by omega) (.string (aboveB m h x)))
          have HB8 := Lib.hid (HB7.out.setCell (p := ⟨w1.heap.size, d, none⟩) (by show w.heap.size + 1 ≤ w1.heap.size; omega) (.string (aboveB m h x)))
          have hdi2 := HDI.out
          refine ⟨⟨s + 1, (d : Int) - 1, c, by omega, by omega, by go_num, by go_num, Lib.hid ?_, Lib.hid ?_, Lib.hid HT8.out.1, HB8⟩, by simp [intOf] <;> omega⟩
          · rw [show 8 * m - (s + 1) = d by omega]; exact HK.out
          · rw [show 8 * m - (s + 1) = d by omega, HNX.out, HST.out]; exact HT8.out.2
      · obtain ⟨k, hk⟩ : ∃ k, (fs.take d).count true = k := ⟨_, rfl⟩
        have hkl : k < hs.length := by rw [← hk, HS.out.count]; exact count_lt hdf hfd
        have hck : c = k + 1 := by rw [hc0, hfd, hk]; simp
        have hxe : hs[k] = x := by rw [← hx, sideB_on hdf hfd (by rw [hk]; exact hkl)]; simp only [hk]
        obtain ⟨g2, o2, rfl, hg2, hcell2⟩ := XH.out k hkl
        rw [hxe] at hcell2
        have H2 := Lib.hid hcell2
        have HK := Lib.hid hk
        have hki : (k : Int) < hs.length := by omega
        have hkb : k ≤ 256 := by { have h1 := List.count_le_length (a := true) (l := fs); have h2 := HS.out.count; have h3 := HFL.out; omega }
        subst hck
        generalize emptyB m = E at CE
        clear hc0 hk hx hxe hcell2
        by_cases hb1 : bitN p d = 1
        · rw [if_pos hb1] at hstep
          have hdec : decide (bitN p d = 1) = true := decide_eq_true hb1
          rw [hdec] at CR
          have HST := Lib.hid hstep
          have CA := Lib.hid (fun w h' => mabove_calls m x h (by omega) (by omega) w h')
          go_wp2_with (first
            | (go_at_call 42; (with_reducible refine (C1.out _ (HL.out.below (boxed HB.out).1 h4)).mono ?_); rintro e w3 ⟨rfl, hb3⟩
               have HT4 := Lib.hid (HT.out.keep hb3)
               have HB4 := Lib.hid (belowStep HB.out (boxed HB.out).2.1 hb3)
               clear hb3)
            | (go_at_call 80; (with_reducible refine (CE.out _ (HL.out.below (boxed HB4.out).1 h4)).mono ?_); rintro e w4 ⟨rfl, hb4⟩
               have HT5 := Lib.hid (HT4.out.keep hb4)
               have HB5 := Lib.hid (belowStep HB4.out (boxed HB4.out).2.1 hb4)
               obtain ⟨y0, y1, y2, y3, y4, y5, y6⟩ := boxed7 HB5.out
               have hq1 := ((boxed HB5.out).1.cell (p := ⟨g1, o1 + d, none⟩) hg1).trans H1.out
               rw [hfd] at hq1
               have hq2 := ((boxed HB5.out).1.cell (p := ⟨g2, o2 + k, none⟩) hg2).trans H2.out
               clear hb4)
            | (go_at_call 79; (with_reducible refine (CR.out _).mono ?_); rintro e w5 ⟨rfl, hb5⟩
               have HT6 := Lib.hid (HT5.out.keep hb5)
               have HB6 := Lib.hid (belowStep HB5.out (boxed HB5.out).2.1 hb5)
               clear hb5)
            | (go_at_call 89; (with_reducible refine (CA.out _ (HL.out.below (boxed HB6.out).1 h4)).mono ?_); rintro e w6 ⟨rfl, hb6⟩
               have HT7 := Lib.hid (HT6.out.keep hb6)
               have HB7 := Lib.hid (belowStep HB6.out (boxed HB6.out).2.1 hb6)
               obtain ⟨⟨u9, hu9⟩, hf9⟩ := HT7.out.2 d (by omega)
               clear hb6))
          have HT8 := Lib.hid (HT7.out.set d (by omega) (.string (aboveB m x h)))
          have HB8 := Lib.hid (HB7.out.setCell (p := ⟨w1.heap.size, d, none⟩) (by show w.heap.size + 1 ≤ w1.heap.size; omega) (.string (aboveB m x h)))
          have hdi2 := HDI.out
          refine ⟨⟨s + 1, (d : Int) - 1, k, by omega, by omega, by go_num, by go_num, Lib.hid ?_, Lib.hid ?_, Lib.hid HT8.out.1, HB8⟩, by simp [intOf] <;> omega⟩
          · rw [show 8 * m - (s + 1) = d by omega]; exact HK.out.symm
          · rw [show 8 * m - (s + 1) = d by omega, HNX.out, HST.out]; exact HT8.out.2
        · rw [if_neg hb1] at hstep
          have hdec : decide (bitN p d = 1) = false := decide_eq_false hb1
          rw [hdec] at CR
          have HST := Lib.hid hstep
          have CA := Lib.hid (fun w h' => mabove_calls m h x (by omega) (by omega) w h')
          go_wp2_with (first
            | (go_at_call 42; (with_reducible refine (C1.out _ (HL.out.below (boxed HB.out).1 h4)).mono ?_); rintro e w3 ⟨rfl, hb3⟩
               have HT4 := Lib.hid (HT.out.keep hb3)
               have HB4 := Lib.hid (belowStep HB.out (boxed HB.out).2.1 hb3)
               clear hb3)
            | (go_at_call 80; (with_reducible refine (CE.out _ (HL.out.below (boxed HB4.out).1 h4)).mono ?_); rintro e w4 ⟨rfl, hb4⟩
               have HT5 := Lib.hid (HT4.out.keep hb4)
               have HB5 := Lib.hid (belowStep HB4.out (boxed HB4.out).2.1 hb4)
               obtain ⟨y0, y1, y2, y3, y4, y5, y6⟩ := boxed7 HB5.out
               have hq1 := ((boxed HB5.out).1.cell (p := ⟨g1, o1 + d, none⟩) hg1).trans H1.out
               rw [hfd] at hq1
               have hq2 := ((boxed HB5.out).1.cell (p := ⟨g2, o2 + k, none⟩) hg2).trans H2.out
               clear hb4)
            | (go_at_call 79; (with_reducible refine (CR.out _).mono ?_); rintro e w5 ⟨rfl, hb5⟩
               have HT6 := Lib.hid (HT5.out.keep hb5)
               have HB6 := Lib.hid (belowStep HB5.out (boxed HB5.out).2.1 hb5)
               clear hb5)
            | (go_at_call 89; (with_reducible refine (CA.out _ (HL.out.below (boxed HB6.out).1 h4)).mono ?_); rintro e w6 ⟨rfl, hb6⟩
               have HT7 := Lib.hid (HT6.out.keep hb6)
               have HB7 := Lib.hid (belowStep HB6.out (boxed HB6.out).2.1 hb6)
               obtain ⟨⟨u9, hu9⟩, hf9⟩ := HT7.out.2 d (by omega)
               clear hb6))
          have HT8 := Lib.hid (HT7.out.set d (by omega) (.string (aboveB m h x)))
          have HB8 := Lib.hid (HB7.out.setCell (p := ⟨w1.heap.size, d, none⟩) (by show w.heap.size + 1 ≤ w1.heap.size; omega) (.string (aboveB m h x)))
          have hdi2 := HDI.out
          refine ⟨⟨s + 1, (d : Int) - 1, k, by omega, by omega, by go_num, by go_num, Lib.hid ?_, Lib.hid ?_, Lib.hid HT8.out.1, HB8⟩, by simp [intOf] <;> omega⟩
          · rw [show 8 * m - (s + 1) = d by omega]; exact HK.out.symm
          · rw [show 8 * m - (s + 1) = d by omega, HNX.out, HST.out]; exact HT8.out.2
    · obtain rfl : s = 8 * m := by omega
      obtain rfl : dI = -1 := by omega
      go_wp2
      go_ret
      refine ⟨_, _, by omega, rfl, HT.out.1, ?_, (boxed HB.out).1⟩
      have h := HX.out
      rw [Nat.sub_self] at h
      rw [HFL.out]
      exact h
end Go.Proofs.YtkpfbjlbllpahaaDoor
