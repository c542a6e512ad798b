import Derived.Test.YtpgflnjpohmldaaSamples7
set_option linter.unusedVariables false
namespace Go.Proofs.Ytpgflnjpohmldaa
open Go.RowKit
set_option maxRecDepth 100000 in
set_option maxHeartbeats 8000000 in
theorem meterSamples_walk (v : Value) (l : List Int) (num den : Int) (w : World) (hl : IntsIn w v l) (hlen : l.length ≤ 1048576) (h1 : -9223372036854775808 ≤ num ∧ num ≤ 9223372036854775807) (h2 : -9223372036854775808 ≤ den ∧ den ≤ 9223372036854775807) :
    Calls Try.prog 11 #[v, .int .i64 num, .int .i64 den] w fun e w' => e = .returned (.bool true) ∧ Below w.heap.size w w' := by
  have c27 := twin_calls v l w hl hlen
  have HL := Lib.hid hl
  obtain ⟨x1, y1, m1⟩ := mean_form l
  obtain ⟨x2, y2, m2⟩ := var_form l
  obtain ⟨x3, y3, m3⟩ := rank_form l num den
  have HM1 := Lib.hid m1
  have HM2 := Lib.hid m2
  have HM3 := Lib.hid m3
  have HBND : Hid (∀ x ∈ l, -9223372036854775808 ≤ x ∧ x ≤ 9223372036854775807) := by
    obtain ⟨_, _, _, _, hb⟩ := hl; exact Lib.hid hb
  obtain ⟨n, hnn⟩ : ∃ n, n = l.length := ⟨_, rfl⟩
  rw [← hnn] at hlen
  simp only [← hnn] at c27
  have HN := Lib.hid hnn
  clear hl hnn m1 m2 m3 h1 h2
  go_enter Try.func11, Try.ntmps11
  go_wp2_with (go_at_call 27; (with_reducible refine c27.mono ?_); rintro e w1 ⟨g, cap, rfl, ht, hb⟩; have S0 : Hid (St w w1 g cap n l) := Lib.hid ⟨HN.out.symm, ht, hb, HBND.out⟩; clear ht hb c27)
  go_loopw [8] (fun iv wr => ∃ (k : Nat) (l0 : List Int), k ≤ n ∧ iv = .int .i64 k ∧ Hid (St w wr g cap n l0)) (fun iv _ => n - (intOf iv).toNat)
  case atStart => exact ⟨0, l, by omega, rfl, S0⟩
  case round =>
    obtain ⟨k, l0, hk, rfl, HS⟩ := hrel
    clear S0
    by_cases hlt : k < n
    · obtain ⟨⟨u, hc⟩, hf⟩ := HS.out.at k hlt
      have hst := HS.out.store k hlt (3 * k + 1) (by omega)
      have HT := Lib.hid hst
      have hkb : (k : Int) < n := by omega
      have hkl : (k : Int) ≤ 1048576 := by omega
      clear hst
      go_wp2
      go_roundw
      case rel => exact ⟨k + 1, _, by omega, by go_num, HT⟩
      case measure => simp [intOf]; omega
    · obtain rfl : n = k := by omega
      clear hlt
      go_wp2_with (first
        | (go_at_call 28; first
          | ((with_reducible refine (mean_any HS.out hlen).mono ?_); rintro e w2 ⟨r, rfl, hs⟩; have HX := Lib.hid hs; clear hs HS)
          | ((with_reducible refine (mean_st HM1.out HY.out hlen).mono ?_); rintro e w2 ⟨rfl, hs⟩; have HZ := Lib.hid hs; clear hs HY))
        | (go_at_call 29; (with_reducible refine (back_st HL.out HN.out HX.out hlen).mono ?_); rintro e w2 ⟨rfl, hs⟩; have HY := Lib.hid hs; clear hs HX)
        | (go_at_call 30; (with_reducible refine (rmean_st HL.out HM1.out HZ.out hlen).mono ?_); rintro e w2 ⟨rfl, hs⟩; have S0 := Lib.hid hs; clear hs HZ))
      go_loopw [13] (fun iv wr => ∃ (k : Nat) (l0 : List Int), k ≤ n ∧ iv = .int .i64 k ∧ Hid (St w wr g cap n l0)) (fun iv _ => n - (intOf iv).toNat)
      case atStart => exact ⟨0, l, by omega, rfl, S0⟩
      case round =>
        obtain ⟨k, l0, hk, rfl, HS⟩ := hrel
        clear S0
        by_cases hlt : k < n
        · obtain ⟨⟨u, hc⟩, hf⟩ := HS.out.at k hlt
          have hst := HS.out.store k hlt (5 * k + 2) (by omega)
          have HT := Lib.hid hst
          have hkb : (k : Int) < n := by omega
          have hkl : (k : Int) ≤ 1048576 := by omega
          clear hst
          go_wp2
          go_roundw
          case rel => exact ⟨k + 1, _, by omega, by go_num, HT⟩
          case measure => simp [intOf]; omega
        · obtain rfl : n = k := by omega
          clear hlt
          go_wp2_with (first
            | (go_at_call 31; first
              | ((with_reducible refine (var_any HS.out hlen).mono ?_); rintro e w2 ⟨r, rfl, hs⟩; have HX := Lib.hid hs; clear hs HS)
              | ((with_reducible refine (var_st HM2.out HY.out hlen).mono ?_); rintro e w2 ⟨rfl, hs⟩; have HZ := Lib.hid hs; clear hs HY))
            | (go_at_call 29; (with_reducible refine (back_st HL.out HN.out HX.out hlen).mono ?_); rintro e w2 ⟨rfl, hs⟩; have HY := Lib.hid hs; clear hs HX)
            | (go_at_call 32; (with_reducible refine (rvar_st HL.out HM2.out HZ.out hlen).mono ?_); rintro e w2 ⟨rfl, hs⟩; have S0 := Lib.hid hs; clear hs HZ))
          go_loopw [18] (fun iv wr => ∃ (k : Nat) (l0 : List Int), k ≤ n ∧ iv = .int .i64 k ∧ Hid (St w wr g cap n l0)) (fun iv _ => n - (intOf iv).toNat)
          case atStart => exact ⟨0, l, by omega, rfl, S0⟩
          case round =>
            obtain ⟨k, l0, hk, rfl, HS⟩ := hrel
            clear S0
            by_cases hlt : k < n
            · obtain ⟨⟨u, hc⟩, hf⟩ := HS.out.at k hlt
              have hst := HS.out.store k hlt (7 * k + 3) (by omega)
              have HT := Lib.hid hst
              have hkb : (k : Int) < n := by omega
              have hkl : (k : Int) ≤ 1048576 := by omega
              clear hst
              go_wp2
              go_roundw
              case rel => exact ⟨k + 1, _, by omega, by go_num, HT⟩
              case measure => simp [intOf]; omega
            · obtain rfl : n = k := by omega
              clear hlt
              go_wp2_with (first
                | (go_at_call 26; first
                  | ((with_reducible refine (rank_any num den HS.out hlen).mono ?_); rintro e w2 ⟨r, rfl, hs⟩; have HX := Lib.hid hs; clear hs HS)
                  | ((with_reducible refine (rank_st HM3.out HY.out hlen).mono ?_); rintro e w2 ⟨rfl, hs⟩; have HZ := Lib.hid hs; clear hs HY))
                | (go_at_call 29; (with_reducible refine (back_st HL.out HN.out HX.out hlen).mono ?_); rintro e w2 ⟨rfl, hs⟩; have HY := Lib.hid hs; clear hs HX)
                | (go_at_call 33; (with_reducible refine (rrank_st HL.out HM3.out HZ.out hlen).mono ?_); rintro e w2 ⟨rfl, hs⟩; have S0 := Lib.hid hs; clear hs HZ)
                | (go_at_call 34; (with_reducible refine (kept_st HL.out S0.out hlen).mono ?_); rintro e w2 ⟨rfl, hs⟩; have HE := Lib.hid hs; clear hs S0))
              go_ret
              exact ⟨rfl, HE.out.2.2.1⟩
end Go.Proofs.Ytpgflnjpohmldaa
