import Derived.Test.YtcicdgajhheipaaBo1
set_option linter.unusedVariables false
namespace Go.Proofs.Ytcicdgajhheipaa
open Go.RowKit Go.WideMaps Go.Maps Go.MapKept
theorem seqB_no2 {a b : ByteArray} (h : a ≠ b) : (a.toList == b.toList) = false := by
  rw [beq_eq_false_iff_ne]
  intro e
  rw [ByteArray.toList_eq, ByteArray.toList_eq] at e
  exact h (ByteArray.ext (Array.toList_inj.1 e))
set_option maxRecDepth 100000 in
set_option maxHeartbeats 4000000 in
theorem bookOutlasts_walk (s0 k0 n0 : Int) (first : ByteArray) (lv : Value) (l : List ByteArray) (keep : ByteArray) (W : World) (hs : -9223372036854775808 ≤ s0 ∧ s0 ≤ 9223372036854775807) (hk0 : -9223372036854775808 ≤ k0 ∧ k0 ≤ 9223372036854775807) (hn : -9223372036854775808 ≤ n0 ∧ n0 ≤ 9223372036854775807) (hf : first.size ≤ 140737488351232)
    (hv : Held W lv (tV l)) (hlen : l.length * 16 ≤ 140737488351232) (hls : ∀ s ∈ l, s.size ≤ 140737488351232) (hkeep : keep.size ≤ 140737488351232) :
    Calls Try.prog 8 #[.int .i64 s0, .int .i64 k0, .int .i64 n0, .string first, lv, .string keep] W fun e W' => e = .returned (.bool true) ∧ Below W.heap.size W W' := by
  have hb : InB (withinZ s0) (kindZ k0) (withinZ n0) := ⟨(within_b s0 hs.2).1, (within_b s0 hs.2).2, (kind_b k0).1, (kind_b k0).2, (within_b n0 hn.2).1, (within_b n0 hn.2).2⟩
  have CW1 := Lib.hid (within_calls s0)
  have CW2 := Lib.hid (within_calls n0)
  have CKD := Lib.hid (kindOf_calls k0)
  have CSH := Lib.hid (short_calls first (by omega))
  have hp := shortZ_size first
  obtain ⟨s, hs'⟩ : ∃ z, withinZ s0 = z := ⟨_, rfl⟩
  obtain ⟨n, hn'⟩ : ∃ z, withinZ n0 = z := ⟨_, rfl⟩
  obtain ⟨k, hk'⟩ : ∃ z, kindZ k0 = z := ⟨_, rfl⟩
  obtain ⟨p0, hp'⟩ : ∃ z, shortZ first = z := ⟨_, rfl⟩
  rw [hs', hn', hk'] at hb
  rw [hs'] at CW1
  rw [hn'] at CW2
  rw [hk'] at CKD
  rw [hp'] at CSH hp
  obtain ⟨x1, x2, x3, e1, e2, e3, f0, f1, f2, hO⟩ := out_begin p0 hb hp
  have CP1 := Lib.hid (fun (w : World) (g : Nat) (hz : W.heap.size ≤ w.heap.size) (h : Lives W.heap.size w g (newF 536870912)) => bput_calls (K := 0) (by omega) s k n p0 hb hp w _ hz h f0)
  have CP2 := Lib.hid (fun (w : World) (g : Nat) (hz : W.heap.size ≤ w.heap.size) (h : Lives W.heap.size w g x1) => bput_calls (K := 1) (by omega) s k (besideZ n) besideT hb.beside (by decide) w _ hz h f1)
  have CS := Lib.hid (fun (w : World) (g : Nat) (hz : W.heap.size ≤ w.heap.size) (h : Lives W.heap.size w g x2) => sync_lives (K := 2) (by omega) hz h f2)
  have CB := Lib.hid (beside_calls n hb.n0 hb.n1)
  simp only [e1] at CP1
  simp only [e2] at CP2
  simp only [besideT] at CP2
  simp only [e3] at CS
  have HO := Lib.hid hO
  have HB := Lib.hid hb
  obtain ⟨a, cap, rfl, hcap, hcell⟩ := hv.text
  have HC := Lib.hid hcell
  have HLS := Lib.hid hls
  obtain ⟨m, hm⟩ : ∃ m, m = l.length := ⟨_, rfl⟩
  rw [← hm] at hlen hcap
  rw [← hm]
  have HM := Lib.hid hm
  clear hs hk0 hn hf hv hls hs' hn' hk' hp' hb e1 e2 e3 f0 f1 f2 hO hcell hm
  go_enter Try.func8, Try.ntmps8
  go_wp2_with fail
  (with_reducible refine (new_lives 536870912 (by decide) _).mono ?_); rintro e w1 ⟨g, rfl, hl1, hb1⟩
  have HL1 := Lib.hid hl1
  have HB1 := Lib.hid hb1
  clear hl1 hb1
  go_wp2_with (first
    | (go_at_call 11; (with_reducible refine (CW1.out _).mono ?_); rintro e w2 ⟨rfl, rfl⟩)
    | (go_at_call 11; (with_reducible refine (CW2.out _).mono ?_); rintro e w2 ⟨rfl, rfl⟩)
    | (go_at_call 12; (with_reducible refine (CKD.out _).mono ?_); rintro e w2 ⟨rfl, rfl⟩)
    | (go_at_call 13; (with_reducible refine (CSH.out _).mono ?_); rintro e w2 ⟨rfl, rfl⟩))
  (with_reducible refine (CP1.out _ g HB1.out.size HL1.out).mono ?_); rintro e w2 ⟨rfl, hl2, hb2⟩
  have HL2 := Lib.hid hl2
  have HB2 := Lib.hid (HB1.out.trans hb2)
  clear hl2 hb2
  go_wp2_with (go_at_call 21; (with_reducible refine (CB.out _).mono ?_); rintro e w3 ⟨rfl, rfl⟩)
  (with_reducible refine (CP2.out _ g HB2.out.size HL2.out).mono ?_); rintro e w3 ⟨rfl, hl3, hb3⟩
  have HL3 := Lib.hid hl3
  have HB3 := Lib.hid (HB2.out.trans hb3)
  clear hl3 hb3
  go_wp2_with fail
  (with_reducible refine (CS.out _ g HB3.out.size HL3.out).mono ?_); rintro e w4 ⟨rfl, hl4, hb4⟩
  have HB4 := Lib.hid (HB3.out.trans hb4)
  have HA := Lib.hid (HO.out W.heap.size g w4 HB4.out.size hl4)
  have HB5 := Lib.hid (HB4.out.alloc HB4.out.size (.cells #[.string p0] 9))
  clear hl4 hb4
  go_wp2_with fail
  go_loopw [21, 22] (fun uv iv wr => ∃ (j : Nat) (ls : List ByteArray) (mv : Value), j ≤ m ∧ j ≤ 50 ∧ mv = uv ∧ iv = .int .i64 j ∧ Hid (OutAt W.heap.size (3 + j) g wr mv s k n ls ls ∧ ls.length = j + 1 ∧ ∀ q ∈ ls, q.size ≤ 524288) ∧ Hid (Below W.heap.size W wr)) (fun _ iv _ => 50 - (intOf iv).toNat)
  case atStart => exact ⟨0, [p0], _, by omega, by omega, rfl, rfl, Lib.hid ⟨HA.out, rfl, fun q hq => by simp at hq; subst hq; exact hp⟩, HB5⟩
  case round =>
    obtain ⟨j, ls, mv, hjm, hj50, hmv, rfl, HR, HBW⟩ := hrel
    subst hmv
    have hinv := HR.out
    obtain ⟨hout, hll, hlsz⟩ := hinv
    by_cases hlt : j < m ∧ j < 50
    · obtain ⟨hjm', hj5⟩ := hlt
      have hjl : j < l.length := by rw [← HM.out]; exact hjm'
      obtain ⟨hg, o, rfl, hgl, hcell0⟩ := HC.out j hjl
      have hcell1 : wr.cell? ⟨hg, o + j, none⟩ = some (.string l[j]) := (HBW.out.cell (p := ⟨hg, o + j, none⟩) hgl).trans hcell0
      have CQ := Lib.hid (short_calls l[j] (by have := HLS.out l[j] (List.getElem_mem hjl); omega))
      have hq := shortZ_size l[j]
      generalize l[j] = raw at *
      obtain ⟨p, hp⟩ : ∃ z, shortZ raw = z := ⟨_, rfl⟩
      rw [hp] at CQ hq
      have CP := Lib.hid (fun (w : World) (hz : W.heap.size ≤ w.heap.size) (h : OutAt W.heap.size (3 + j) g w mv s k n ls ls) => out_put (by omega) p HB.out hq w hz h)
      have CG := Lib.hid (fun (w : World) (h : OutAt W.heap.size (3 + j + 1) g w mv s k n ls (ls ++ [p])) => out_get p HB.out hq w h)
      have HO1 := Lib.hid hout
      have HLL := Lib.hid hll
      have HSZ := Lib.hid (show ∀ q ∈ ls ++ [p], q.size ≤ 524288 from fun q hq' => by
        rcases List.mem_append.1 hq' with h | h
        · exact hlsz q h
        · simp at h; subst h; exact hq)
      have h1 : (j : Int) < m := by omega
      have h2 : (j : Int) < 50 := by omega
      clear hout hll hlsz hcell0 hp hq hjl
      go_wp2_with (go_at_call 13; (with_reducible refine (CQ.out _).mono ?_); rintro e w5 ⟨rfl, rfl⟩)
      (with_reducible refine (CP.out wr HBW.out.size HO1.out).mono ?_); rintro e w6 ⟨rfl, ho6, hb6⟩
      have HO6 := Lib.hid ho6
      have HB6 := Lib.hid (HBW.out.trans hb6)
      clear ho6 hb6
      go_wp2_with fail
      (with_reducible refine (CG.out w6 HO6.out).mono ?_); rintro e w7 ⟨rfl, ho7, hb7⟩
      have HO7 := Lib.hid ho7
      have HB7 := Lib.hid (HB6.out.trans (hb7.mono HB6.out.size))
      clear ho7 hb7
      go_wp2_with (refine wpList_out w7 p rfl (.tmp 109) (.tmp 111) rfl mv rfl rfl HO7.out (by rw [HLL.out]; omega) HB7.out.size ?_; intro v8 w8 ho8 hb8; have HO8 := Lib.hid ho8; have HB8 := Lib.hid (HB7.out.trans hb8); clear ho8 hb8)
      go_roundw
      case rel => exact ⟨j + 1, ls ++ [p], v8, by omega, by omega, rfl, by go_num, Lib.hid ⟨HO8.out, by rw [List.length_append, HLL.out]; rfl, HSZ.out⟩, HB8⟩
      case measure => simp [intOf]; omega
    · have CK := Lib.hid (out_crash (by omega) keep (by omega) wr HBW.out.size hout)
      have HLL := Lib.hid hll
      have HSZ := Lib.hid hlsz
      have hne : j < m → ¬ (j < 50) := fun a b => hlt ⟨a, b⟩
      clear hout hll hlsz hlt
      have hj2 : (j : Int) < m → ¬ ((j : Int) < 50) := fun a b => hne (by omega) (by omega)
      clear hne
      by_cases hjm' : (j : Int) < m
      all_goals
        first
          | (have hj5 := hj2 hjm'; clear hj2)
          | clear hj2
        go_wp2_with fail
        (with_reducible refine CK.out.mono ?_); rintro e w5 ⟨rfl, ⟨p, hpm, ha5⟩, hb5⟩
        obtain ⟨j0, hj0, hpj⟩ := List.getElem_of_mem hpm
        have hps := HSZ.out p hpm
        have HA5 := Lib.hid ha5
        have HB6 := Lib.hid (HBW.out.trans hb5)
        have HPJ := Lib.hid hpj
        have CG := Lib.hid (fun (w : World) (h : AftO W.heap.size g w mv s k n ls p) => aft_get p HB.out hps w h)
        have CN := Lib.hid (fun (w : World) (h : AftO W.heap.size g w mv s k n ls p) => aft_near p HB.out w h)
        simp only [besideT] at CN
        clear ha5 hb5 hpm hpj hps
        go_wp2_with fail
        (with_reducible refine (CG.out w5 HA5.out).mono ?_); rintro e w6 ⟨rfl, ha6, hb6⟩
        have HA6 := Lib.hid ha6
        have HB7 := Lib.hid (HB6.out.trans (hb6.mono HB6.out.size))
        clear ha6 hb6
        go_wp2_with (go_at_call 21; (with_reducible refine (CB.out _).mono ?_); rintro e w7 ⟨rfl, rfl⟩)
        (with_reducible refine (CN.out w6 HA6.out).mono ?_); rintro e w7 ⟨rfl, ha7, hb7⟩
        have HA7 := Lib.hid ha7
        have HB8 := Lib.hid (HB7.out.trans (hb7.mono HB7.out.size))
        clear ha7 hb7
        obtain ⟨cg, cc, rfl, hcg, _⟩ := HA7.out.at j0 hj0
        have hll := HLL.out
        obtain ⟨ln, hln⟩ : ∃ ln, ls.length = ln := ⟨_, rfl⟩
        have HLN := Lib.hid hln
        rw [hln] at hj0 hll
        have hlm : ln ≤ 51 := by omega
        simp only [hln]
        clear hln hll
        go_wp2_with fail
        go_loopw [31] (fun iv wr => ∃ q : Nat, q ≤ j0 ∧ iv = .int .i64 q ∧ Hid (Below w7.heap.size w7 wr)) (fun iv _ => j0 - (intOf iv).toNat)
        case atStart => exact ⟨0, by omega, rfl, Lib.hid (Below.refl _ _)⟩
        case round =>
          obtain ⟨q, hq, rfl, HBR⟩ := hrel
          have hql : q < ls.length := by rw [HLN.out]; omega
          obtain ⟨cg2, cc2, hv2, hcg2, hc2⟩ := HA7.out.at q hql
          injection hv2 with hv2 _ _
          injection hv2 with hv2
          injection hv2 with hv2
          subst hv2
          have hc3 : wr.cell? ⟨cg, q, none⟩ = some (.string ls[q]) := (HBR.out.cell (p := ⟨cg, q, none⟩) hcg).trans hc2
          have hqi : (q : Int) < ln := by omega
          have HNE := Lib.hid (show ls[q] ≠ p → q ≠ j0 from fun h e => h (by subst e; exact HPJ.out))
          have HBE := Lib.hid (HB8.out.trans (HBR.out.mono HB8.out.size))
          clear hc2 hcg2
          by_cases he : ls[q] = p
          · rw [he] at hc3
            clear he
            go_wp2
            go_ret
            exact ⟨rfl, HBE.out⟩
          · have hne := HNE.out he
            have hq2 := seqB_no2 he
            generalize ls[q] = z at *
            clear he
            go_wp2
            go_roundw
            case rel => exact ⟨q + 1, by omega, by go_num, HBR⟩
            case measure => simp [intOf]; omega
end Go.Proofs.Ytcicdgajhheipaa
