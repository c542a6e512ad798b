import Derived.Test.YtcicdgajhheipaaBw2
import Derived.Test.YtcicdgajhheipaaBk0
set_option linter.unusedVariables false
namespace Go.Proofs.Ytcicdgajhheipaa
open Go.RowKit Go.WideMaps Go.Maps Go.MapKept
/-- The law's space. -/
def spaceW (s0 : Int) : Int := if withinZ s0 = 9223372036854775807 then 5 else withinZ s0
theorem spaceW_in (s0 k0 : Int) (h : s0 ≤ 9223372036854775807) : InS (spaceW s0) (kindZ k0) := by
  obtain ⟨h1, h2⟩ := within_b s0 h
  obtain ⟨k1, k2⟩ := kind_b k0
  unfold spaceW
  split
  · exact ⟨by omega, by omega, k1, k2⟩
  · exact ⟨h1, by omega, k1, k2⟩
theorem psf_lives {B g bn bd : Nat} {w : World} {u : Value} {x : Fld} (h : PSF w g bn bd u x) (q : ∀ m ∈ foot g bn bd u, B ≤ m) : Lives B w g x := ⟨bn, bd, u, h, q⟩
theorem left_get {B K g : Nat} {s k n : Int} {L : List Int} (hi : InS s k) (w : World) (x : Fld) (h : Lives B w g x) (hl : Left x s k L) (hf : Fine K x) (ho : x.off = false) (hn : n ∈ L) :
    Calls Try.prog 23 #[.pointer (some ⟨g, 0, none⟩), .int .i64 (s + 1), .int .i64 k, .int .i64 n] w fun e w' => e = .returned (.tuple #[.string txtB, .int .i64 0]) ∧ Below w.heap.size w w' :=
  bget_frame (K := 0) (s + 1) k n txtB (hi.two (hl.inb n hn)) (by decide) w x h (hl.get hf ho hn)
set_option maxRecDepth 100000 in
set_option maxHeartbeats 4000000 in
theorem bookWiped_walk (s0 : Int) (lv : Value) (l : List Int) (k0 : Int) (W : World) (hs : -9223372036854775808 ≤ s0 ∧ s0 ≤ 9223372036854775807) (hv : Held W lv (iV l)) (hlen : l.length * 8 ≤ 140737488351232)
    (hls : ∀ z ∈ l, -9223372036854775808 ≤ z ∧ z ≤ 9223372036854775807) (hk0 : -9223372036854775808 ≤ k0 ∧ k0 ≤ 9223372036854775807) :
    Calls Try.prog 9 #[.int .i64 s0, lv, .int .i64 k0] W fun e W' => e = .returned (.bool true) ∧ Below W.heap.size W W' := by
  have hi := spaceW_in s0 k0 hs.2
  have CW := Lib.hid (within_calls s0)
  have CKD := Lib.hid (kindOf_calls k0)
  have hsw : spaceW s0 = if withinZ s0 = 9223372036854775807 then 5 else withinZ s0 := rfl
  obtain ⟨s1, hs1⟩ : ∃ z, withinZ s0 = z := ⟨_, rfl⟩
  obtain ⟨k, hk'⟩ : ∃ z, kindZ k0 = z := ⟨_, rfl⟩
  obtain ⟨s, hs'⟩ : ∃ z, spaceW s0 = z := ⟨_, rfl⟩
  rw [hs1] at CW hsw
  rw [hk'] at CKD hi
  rw [hs'] at hi hsw
  have HI := Lib.hid hi
  have i0 := hi.s0
  have i1 := hi.s1
  have k1 := hi.k0
  have k2 := hi.k1
  obtain ⟨a, cap, rfl, hcap, hcell⟩ := hv.int
  have HC := Lib.hid hcell
  have HLS := Lib.hid hls
  obtain ⟨m, hm⟩ : ∃ m, m = l.length := ⟨_, rfl⟩
  rw [← hm] at hlen hcap
  rw [← hm]
  have HM := Lib.hid hm
  have CN0 := Lib.hid (fun (B K g : Nat) (w : World) (x : Fld) (hK : K ≤ 2097152) (h : Lives B w g x) (hf : Fine K x) => bnums_calls hK s k (by omega) (by omega) k1 k2 w x h hf)
  have CN1 := Lib.hid (fun (B K g : Nat) (w : World) (x : Fld) (hK : K ≤ 2097152) (h : Lives B w g x) (hf : Fine K x) => bnums_calls hK (s + 1) k (by omega) (by omega) k1 k2 w x h hf)
  have hw1 : wrap64 (s + 1) = s + 1 := IntWalk.wrap64_in _ (by omega)
  clear hs hk0 hv hls hs1 hk' hs' hi hcell hm
  by_cases hmx : s1 = 9223372036854775807
  all_goals
    first
      | (subst hmx; rw [if_pos rfl] at hsw; have HCS := Lib.hid (show s = 5 from hsw); clear hsw)
      | (rw [if_neg hmx] at hsw; subst hsw; have hcs : (s == 9223372036854775807) = false := by rw [beq_eq_false_iff_ne]; exact hmx)
    go_enter Try.func9, Try.ntmps9
    go_wp2_with fail
    (with_reducible refine (new_lives 536870912 (by decide) _).mono ?_); rintro e w1 ⟨g, rfl, hl1, hb1⟩
    have HL1 := Lib.hid hl1
    have HB1 := Lib.hid hb1
    clear hl1 hb1
    go_wp2_with (first
      | (go_at_call 11; (with_reducible refine (CW.out _).mono ?_); rintro e w2 ⟨rfl, rfl⟩)
      | (go_at_call 12; (with_reducible refine (CKD.out _).mono ?_); rintro e w2 ⟨rfl, rfl⟩))
    (try rw [show Value.int IntKind.i64 5 = Value.int IntKind.i64 s by rw [HCS.out]])
    (try clear hcs)
    (try clear hmx)
    go_loopw [10] (fun iv wr => ∃ (j : Nat), j ≤ m ∧ j ≤ 100 ∧ iv = .int .i64 j ∧ Hid (∃ x L, Lives W.heap.size wr g x ∧ WipS (2 * j) x s k L ∧ L.length ≤ j ∧ (0 < j → 0 < L.length)) ∧ Hid (Below W.heap.size W wr)) (fun iv _ => 100 - (intOf iv).toNat)
    case atStart => exact ⟨0, by omega, by omega, rfl, Lib.hid ⟨_, [], HL1.out, wip_new, Nat.le_refl _, fun h => absurd h (Nat.lt_irrefl 0)⟩, HB1⟩
    case round =>
      obtain ⟨j, hjm, hj100, rfl, HR, HBW⟩ := hrel
      obtain ⟨x, L, hx1, hx2, hx3, hx4⟩ := HR.out
      by_cases hlt : j < m ∧ j < 100
      · obtain ⟨hjm', hj1⟩ := hlt
        have hjl : j < l.length := by rw [← HM.out]; exact hjm'
        obtain ⟨hg, o, rfl, hgl, hcell0⟩ := HC.out j hjl
        have hcell1 : wr.cell? ⟨hg, o + j, none⟩ = some (.int .i64 l[j]) := (HBW.out.cell (p := ⟨hg, o + j, none⟩) hgl).trans hcell0
        have CQ := Lib.hid (within_calls l[j])
        have hq := within_b l[j] (HLS.out _ (List.getElem_mem hjl)).2
        generalize l[j] = raw at *
        obtain ⟨n, hn⟩ : ∃ z, withinZ raw = z := ⟨_, rfl⟩
        rw [hn] at CQ hq
        obtain ⟨x1, x2, p1, p2, f1, q2⟩ := wip_put (by omega) HI.out hq hx2
        have CP1 := Lib.hid (bput_calls (K := 2 * j) (by omega) s k n txtA (HI.out.one hq) (by decide) wr x HBW.out.size hx1 hx2.fine)
        have CP2 := Lib.hid (fun (w : World) (hz : W.heap.size ≤ w.heap.size) (h : Lives W.heap.size w g x1) => bput_calls (K := 2 * j + 1) (by omega) (s + 1) k n txtB (HI.out.two hq) (by decide) w x1 hz h f1)
        simp only [p1] at CP1
        simp only [p2] at CP2
        simp only [txtA] at CP1
        simp only [txtB] at CP2
        have HQ2 := Lib.hid q2
        have HQ3 := Lib.hid (show (insI n L).length ≤ j + 1 by have := len_insI_le n L; omega)
        have h1 : (j : Int) < m := by omega
        have h2 : (j : Int) < 100 := by omega
        clear hx1 hx2 hx3 hx4 hcell0 hn hq hjl p1 p2 f1 q2
        go_wp2_with (go_at_call 11; (with_reducible refine (CQ.out _).mono ?_); rintro e w5 ⟨rfl, rfl⟩)
        (with_reducible refine CP1.out.mono ?_); rintro e w6 ⟨rfl, hl6, hb6⟩
        have HL6 := Lib.hid hl6
        have HB6 := Lib.hid (HBW.out.trans hb6)
        have hcell2 : w6.cell? ⟨hg, o + j, none⟩ = some (.int .i64 raw) := (hb6.cell (p := ⟨hg, o + j, none⟩) hgl).trans hcell1
        clear hl6 hb6
        go_wp2_with (go_at_call 11; (with_reducible refine (CQ.out _).mono ?_); rintro e w7 ⟨rfl, rfl⟩)
        (with_reducible refine (CP2.out w6 HB6.out.size HL6.out).mono ?_); rintro e w7 ⟨rfl, hl7, hb7⟩
        have HL7 := Lib.hid hl7
        have HB7 := Lib.hid (HB6.out.trans hb7)
        clear hl7 hb7
        go_wp2_with fail
        go_roundw
        case rel => exact ⟨j + 1, by omega, by omega, by go_num, Lib.hid ⟨x2, insI n L, HL7.out, HQ2.out, HQ3.out, fun _ => len_insI n L⟩, HB7⟩
        case measure => simp [intOf]; omega
      · have hj2 : (j : Int) < m → ¬ ((j : Int) < 100) := fun a b => hlt ⟨by omega, by omega⟩
        have hpos : 0 < m → 0 < L.length := fun h => by
          by_cases h0 : 0 < j
          · exact hx4 h0
          · exact absurd (And.intro (show j < m by omega) (show j < 100 by omega)) hlt
        obtain ⟨f0, fo, fl, fr, fp⟩ := hx2
        have hky := fp.keys HI.out f0 fo (fun t => prefZ t ++ oneZ k) (fun a t n a0 a1 hb => pre_kind a0 a1 hb)
        have e0 : numsZ (keysZ x (prefZ s ++ oneZ k)) = L := by
          rw [hky.1]
          exact nums_keys fun n hn => HI.out.one (fp.inb n hn)
        have e1 : numsZ (keysZ x (prefZ (s + 1) ++ oneZ k)) = L := by
          rw [hky.2]
          exact nums_keys fun n hn => HI.out.two (fp.inb n hn)
        clear hky
        have CA := Lib.hid (CN0.out W.heap.size (2 * j) g wr x (by omega) hx1 f0)
        have CB := Lib.hid (fun w h => CN1.out W.heap.size (2 * j) g w x (by omega) h f0)
        simp only [e0] at CA
        simp only [e1] at CB
        obtain ⟨w1', w2', w3', w4', w5', w6'⟩ := fp.wiped HI.out f0 fo fl
        obtain ⟨b1, b2⟩ := w4'.keys HI.out w6' w3'
        have HLF := Lib.hid w4'
        have HF6 := Lib.hid w6'
        have HO6 := Lib.hid w3'
        obtain ⟨bn, bd, u, ps, pq⟩ := hx1
        have HPL := Lib.hid ps.foot_lt
        have HPQ := Lib.hid pq
        have HPS := Lib.hid ps
        have CWp := Lib.hid (fun (w : World) (h : PSF w g bn bd u x) => bwipe_calls (by omega) s (by omega) (by omega) w x h f0)
        obtain ⟨z, hz⟩ : ∃ z, wipeZ x s = z := ⟨_, rfl⟩
        rw [hz] at w1' w2' w3' b1 b2 HLF HF6 HO6
        simp only [hz] at CWp
        obtain ⟨z1, z2, y⟩ := z
        simp only at w1' w2' w3' b1 b2 HLF HF6 HO6 CWp
        subst w1' w2'
        have CL0 := Lib.hid (fun w (h : Lives W.heap.size w g y) => CN0.out W.heap.size (2 * j + L.length) g w y (by omega) h HF6.out)
        have CL1 := Lib.hid (fun w (h : Lives W.heap.size w g y) => CN1.out W.heap.size (2 * j + L.length) g w y (by omega) h HF6.out)
        simp only [b1] at CL0
        simp only [b2, nums_keys fun n hn => HI.out.two (HLF.out.inb n hn)] at CL1
        simp only [show numsZ [] = [] from rfl] at CL0
        have HLL := Lib.hid hx3
        obtain ⟨N, hN⟩ : ∃ N, L.length = N := ⟨_, rfl⟩
        have HN := Lib.hid hN
        have hN100 : N ≤ 100 := by omega
        rw [hN] at hpos
        clear hx3 hx4 f0 fo fl fr fp e0 e1 b1 b2 w3' w4' w5' w6' ps pq hz HR
        simp only [hN] at CA CB CWp CL1
        clear hN
        have h3 : (m = 0 ∧ ¬ (j : Int) < m) ∨ (0 < m ∧ ¬ (j : Int) < m) ∨ (0 < m ∧ (j : Int) < m ∧ ¬ (j : Int) < 100) := by
          by_cases h : (j : Int) < m
          · exact .inr (.inr ⟨by omega, h, hj2 h⟩)
          · by_cases h0 : m = 0
            · exact .inl ⟨h0, h⟩
            · exact .inr (.inl ⟨by omega, h⟩)
        clear hj2 hlt
        rcases h3 with ⟨hm0, hj1⟩ | h3
        rotate_left
        rcases h3 with ⟨hm0, hj1⟩ | ⟨hm0, hj1, hj2⟩
        all_goals
            first
              | (subst hm0; clear hpos)
              | (have hgt : (0 : Int) < m := (by omega)
                 have hNp : 0 < N := hpos (by omega)
                 have hNq : ((N : Int) == 0) = false := (by rw [beq_eq_false_iff_ne]; omega)
                 clear hpos hm0)
            go_wp2_with fail
            (with_reducible refine CA.out.mono ?_); rintro e w2 ⟨v0, rfl, hr0, hb0⟩
            obtain ⟨a0, c0, hv0⟩ := hr0.slice
            subst hv0
            have HR0 := Lib.hid hr0
            have HB0 := Lib.hid hb0
            clear hr0 hb0
            go_wp2_with fail
            (with_reducible refine (CB.out w2 (psf_lives (HPS.out.keep HB0.out) HPQ.out)).mono ?_); rintro e w3 ⟨v1, rfl, hr1, hb1⟩
            obtain ⟨a1, c1, hv1⟩ := hr1.slice
            subst hv1
            have HR1 := Lib.hid hr1
            have HR01 := Lib.hid (HR0.out.keep hb1)
            have HB1' := Lib.hid (HB0.out.trans (hb1.mono HB0.out.size))
            clear hr1 hb1
            go_wp2_with fail
            (with_reducible refine (CWp.out w3 (HPS.out.keep HB1'.out)).mono ?_); rintro e w4 ⟨rfl, hk4⟩
            have HL4 := Lib.hid (hk4.lives HPQ.out (Nat.le_trans HBW.out.size HB1'.out.size))
            have HT4 := Lib.hid (show Touch (foot g bn bd u) w3 w4 by { obtain ⟨_, _, _, t, _⟩ := hk4; exact t })
            have HR04 := Lib.hid (HR01.out.touch HT4.out (fun q hq hm => by { have h1 := (HR01.out.lt q hq).1; have h2 := HPL.out q hm; omega }))
            have HR14 := Lib.hid (HR1.out.touch HT4.out (fun q hq hm => by { have h1 := (HR1.out.lt q hq).1; have h2 := HPL.out q hm; have h3 := HB0.out.size; omega }))
            have HB4 := Lib.hid ((HBW.out.trans (HB1'.out.mono HBW.out.size)).trans HL4.out.2)
            clear hk4
            go_wp2_with fail
            (with_reducible refine (CL0.out w4 HL4.out.1).mono ?_); rintro e w5 ⟨v2, rfl, hr2, hb2⟩
            obtain ⟨a2, c2, hv2⟩ := hr2.slice
            subst hv2
            have HB5 := Lib.hid hb2
            clear hr2 hb2
            go_wp2_with fail
            (with_reducible refine (CL1.out w5 (HL4.out.1.keep HB5.out)).mono ?_); rintro e w6 ⟨v3, rfl, hr3, hb3⟩
            obtain ⟨a3, c3, hv3⟩ := hr3.slice
            subst hv3
            have HR3 := Lib.hid hr3
            have HB6 := Lib.hid (HB5.out.trans (hb3.mono HB5.out.size))
            have HR16 := Lib.hid (HR14.out.keep HB6.out)
            have HR06 := Lib.hid (HR04.out.keep HB6.out)
            clear hr3 hb3
            have CS1 := Lib.hid (sameInts_calls (.slice a3 N c3) (.slice a1 N c1) L w6 (by rw [HN.out]; exact HR3.out.mono (Nat.zero_le _)) (by rw [HN.out]; exact HR16.out.mono (Nat.zero_le _)) (by rw [HN.out]; omega))
            go_wp2_with fail
            (with_reducible refine CS1.out.mono ?_); rintro e w7 ⟨rfl, q7, rfl⟩
            have CS2 := Lib.hid (sameInts_calls (.slice a0 N c0) (.slice a1 N c1) L (w6.drewN q7) (by rw [HN.out]; exact HR06.out.mono (Nat.zero_le _)) (by rw [HN.out]; exact HR16.out.mono (Nat.zero_le _)) (by rw [HN.out]; omega))
            go_wp2_with fail
            (with_reducible refine CS2.out.mono ?_); rintro e w8 ⟨rfl, q8, rfl⟩
            have HL8 := Lib.hid ((HL4.out.1.keep HB6.out).drewN (q7 + q8))
            have HB8 := Lib.hid (belowDrewN (HB4.out.trans (HB6.out.mono HB4.out.size)) (q7 + q8))
            go_wp2_with fail
            go_loopw [21] (fun iv wr => ∃ q : Nat, q ≤ N ∧ iv = .int .i64 q ∧ Hid (Below w6.heap.size (w6.drewN (q7 + q8)) wr)) (fun iv _ => N - (intOf iv).toNat)
            case atStart => exact ⟨0, by omega, rfl, Lib.hid (by rw [← World.drewN_drewN]; exact Below.refl _ _)⟩
            case round =>
              obtain ⟨q, hq, rfl, HBR⟩ := hrel
              have HBE := Lib.hid (HB8.out.trans (HBR.out.mono (Nat.le_trans HB4.out.size HB6.out.size)))
              by_cases hlt3 : q < N
              · have hql : q < L.length := by rw [HN.out]; exact hlt3
                obtain ⟨cg, cc, hv3, hcg, hcl⟩ := row_int (l := L) (by rw [HN.out]; exact HR3.out) q hql
                injection hv3 with hv3 x3 y3
                subst hv3
                clear x3 y3
                have hc3 : wr.cell? ⟨cg, q, none⟩ = some (.int .i64 L[q]) := (HBR.out.cell (p := ⟨cg, q, none⟩) hcg).trans hcl
                have HLW := Lib.hid (HL8.out.keep HBR.out)
                have CG := Lib.hid (left_get HI.out wr y HLW.out HLF.out HF6.out HO6.out (List.getElem_mem hql))
                simp only [txtB] at CG
                have hqi : (q : Int) < N := by omega
                by_cases hq0 : q = 0
                · subst hq0
                  generalize L[0] = n at *
                  clear hcl
                  go_wp2_with fail
                  (with_reducible refine CG.out.mono ?_); rintro e w9 ⟨rfl, hb9⟩
                  have hc9 : w9.cell? ⟨cg, 0, none⟩ = some (.int .i64 n) := (hb9.cell (p := ⟨cg, 0, none⟩) (Nat.lt_of_lt_of_le hcg HBR.out.size)).trans hc3
                  have HB9 := Lib.hid (HBR.out.trans (hb9.mono HBR.out.size))
                  clear hb9
                  go_wp2_with fail
                  go_quiet (fail)
                  go_wp2
                  go_roundw
                  case rel => exact ⟨1, by omega, by go_num, Lib.hid (belowDrewN HB9.out _)⟩
                  case measure => simp [intOf]; omega
                · obtain ⟨p, hp⟩ : ∃ p, q = p + 1 := ⟨q - 1, by omega⟩
                  have hpl : p < L.length := by omega
                  obtain ⟨cg2, cc2, hv4, _, hcl4⟩ := row_int (l := L) (by rw [HN.out]; exact HR3.out) p hpl
                  injection hv4 with hv4 x4 y4
                  injection hv4 with hv4
                  injection hv4 with hv4
                  subst hv4
                  clear x4 y4
                  have hc4 : wr.cell? ⟨cg, p, none⟩ = some (.int .i64 L[p]) := (HBR.out.cell (p := ⟨cg, p, none⟩) hcg).trans hcl4
                  have hrise : L[p] < L[q] := List.pairwise_iff_getElem.1 HLF.out.rise p q hpl hql (by omega)
                  generalize L[q] = n at *
                  generalize L[p] = n' at *
                  have hge : decide (n ≤ n') = false := decide_eq_false (by omega)
                  have hgq : (0 : Int) < q := by omega
                  have hgn : 0 < q := by omega
                  have hwp : IntKind.i64.wrap ((q : Int) - 1) = (p : Int) := by rw [IntWalk.i64_in _ (by omega)]; omega
                  have hpN : (p : Int) < N := by omega
                  clear hcl hcl4 hp hrise
                  go_wp2_with fail
                  (with_reducible refine CG.out.mono ?_); rintro e w9 ⟨rfl, hb9⟩
                  have hc9 : w9.cell? ⟨cg, q, none⟩ = some (.int .i64 n) := (hb9.cell (p := ⟨cg, q, none⟩) (Nat.lt_of_lt_of_le hcg HBR.out.size)).trans hc3
                  have hc10 : w9.cell? ⟨cg, p, none⟩ = some (.int .i64 n') := (hb9.cell (p := ⟨cg, p, none⟩) (Nat.lt_of_lt_of_le hcg HBR.out.size)).trans hc4
                  have HB9 := Lib.hid (HBR.out.trans (hb9.mono HBR.out.size))
                  clear hb9 hc3 hc4
                  go_wp2_with fail
                  go_quiet (fail)
                  go_wp2
                  go_roundw
                  case rel => exact ⟨q + 1, by omega, by go_num, Lib.hid (belowDrewN HB9.out _)⟩
                  case measure => simp [intOf]; omega
              · obtain rfl : q = N := by omega
                go_wp2
                go_ret
                exact ⟨rfl, HBE.out⟩
end Go.Proofs.Ytcicdgajhheipaa
