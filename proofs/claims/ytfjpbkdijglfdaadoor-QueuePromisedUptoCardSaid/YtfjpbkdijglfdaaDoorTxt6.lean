import Derived.Test.YtfjpbkdijglfdaaDoorTxt5
set_option linter.unusedVariables false
namespace Go.Proofs.YtfjpbkdijglfdaaDoor
open Go.RowKit
theorem dt_new (w : World) : DT w (w.alloc (.cells (aB (List.replicate 20 0)) 52)) (List.replicate 20 0) :=
  ⟨heap_alloc_last w _, by simp, (Below.refl _ _).alloc (Nat.le_refl _) _⟩
set_option maxRecDepth 100000 in
set_option maxHeartbeats 1000000 in
theorem dec_calls (n : Int) (h0 : -9223372036854775808 ≤ n) (h1 : n ≤ 9223372036854775807) (w : World) :
    Calls Tryd.prog 19 #[.int .i64 n] w fun e w' => e = .returned (.string ⟨(decZ n).toArray⟩) ∧ Below w.heap.size w w' := by
  obtain ⟨Y, hY⟩ : ∃ Y : Nat, Y = n.natAbs := ⟨_, rfl⟩
  have h10 : (10 : Nat) ^ (18 + 1) = 10000000000000000000 := by decide
  have hl : (decL Y).length ≤ 18 + 1 := decL_len 18 Y (by rw [h10]; omega)
  obtain ⟨V, hV⟩ : ∃ V : Int, V = (Y : Int) := ⟨_, rfl⟩
  have V0 : 0 ≤ V := by omega
  have V1 : V ≤ 9223372036854775808 := by omega
  have hu : 0 ≤ n → IntKind.u64.wrap n = V := fun h => by rw [IntKind.wrap_u64]; omega
  have hu2 : n < 0 → IntKind.u64.wrap (-(IntKind.u64.wrap n)) = V := fun h => by rw [IntKind.wrap_u64, IntKind.wrap_u64]; omega
  have HDT := Lib.hid (dt_new w)
  have HY := Lib.hid (And.intro hY hV)
  have HU := Lib.hid hu
  have HU2 := Lib.hid hu2
  clear hY hV h10 hu hu2 h0 h1
  by_cases hn : n < 0
  · go_enter Tryd.func19, Tryd.ntmps19
    go_wp2
    rw [HU2.out hn]
    go_loopw [4, 5] (fun av yv wr => ∃ (a y : Nat) (v : Int), av = .int .i64 a ∧ yv = .int .u64 v ∧ 0 ≤ v ∧ v ≤ 9223372036854775808 ∧ a ≤ 20 ∧ Hid (v = (y : Int)) ∧ Hid (∃ L, DT w wr L ∧ decL Y = decL y ++ L.drop a)) (fun av _ _ => (intOf av).toNat)
    case atStart => exact ⟨20, Y, V, rfl, rfl, V0, V1, by omega, Lib.hid HY.out.2, Lib.hid ⟨_, HDT.out, by simp⟩⟩
    case round =>
      obtain ⟨a, y, v, rfl, rfl, v0, v1, ha, HV, HL⟩ := hrel
      obtain ⟨L, hD, hdec⟩ := HL.out
      obtain ⟨hm0, hm1, hm2⟩ := dec_more Y y L a hD.2.1 hdec (by omega) ha
      obtain ⟨b, rfl⟩ : ∃ b, a = b + 1 := ⟨a - 1, by omega⟩
      rw [Nat.add_sub_cancel] at hm1 hm2
      obtain ⟨u0, hc0⟩ := hD.there b (by omega)
      have hf0 := hD.frozen b
      have hst := hD.store b (UInt8.ofNat (48 + y % 10))
      have hdv := dig_val v v0
      have hvy : v.toNat = y := by have := HV.out; omega
      rw [hvy] at hdv
      rw [← hdv] at hst
      have HST := Lib.hid hst
      have HM := Lib.hid (And.intro hm1 hm2)
      have hb : (b : Int) < 20 := by omega
      have hb2 : b < 20 := by omega
      have hlL := hD.2.1
      clear hD hdec hm0 hm1 hm2 hst hdv hvy HL
      by_cases hy : y < 10
      · have hq : ((v / 10 : Int) == 0) = true := by rw [beq_iff_eq]; have := HV.out; omega
        have HFIN := Lib.hid (HM.out.1 hy)
        clear hy
        have hlen := congrArg List.length HFIN.out
        rw [List.length_drop, List.length_set, hlL] at hlen
        obtain ⟨c, rfl⟩ : ∃ c, b = c + 1 := ⟨b - 1, by omega⟩
        have hc20 : c < 20 := by omega
        obtain ⟨u1, hc1⟩ := HST.out.there c hc20
        have hf1 := HST.out.frozen c
        have hst2 := HST.out.store c 45
        rw [show (((45 : UInt8).toNat : Nat) : Int) = 45 from rfl] at hst2
        have hstr := hst2.str c hc20 (20 - c)
        have hd2 : ((L.set (c + 1) (UInt8.ofNat (48 + y % 10))).set c 45).drop c = decZ n := by
          rw [set_drop _ _ _ (by rw [List.length_set]; omega), HFIN.out, decZ, if_pos hn, HY.out.1]
        rw [hd2] at hstr
        have hsl := fun w' => slice_b20 w.heap.size c hc20 w'
        have HB := Lib.hid hst2.2.2
        clear hlen hst2 hd2 hlL
        go_wp2
        go_ret
        exact ⟨rfl, HB.out⟩
      · have hq : ((v / 10 : Int) == 0) = false := by rw [beq_eq_false_iff_ne]; have := HV.out; omega
        go_wp2
        go_roundw
        case rel => exact ⟨b, y / 10, v / 10, by go_num, rfl, by omega, by omega, by omega, Lib.hid (by have := HV.out; omega), Lib.hid ⟨_, HST.out, HM.out.2 (by omega)⟩⟩
        case measure => simp [intOf] <;> omega
  · have hn0 : 0 ≤ n := by omega
    go_enter Tryd.func19, Tryd.ntmps19
    go_wp2
    rw [HU.out hn0]
    go_loopw [4, 5] (fun av yv wr => ∃ (a y : Nat) (v : Int), av = .int .i64 a ∧ yv = .int .u64 v ∧ 0 ≤ v ∧ v ≤ 9223372036854775808 ∧ a ≤ 20 ∧ Hid (v = (y : Int)) ∧ Hid (∃ L, DT w wr L ∧ decL Y = decL y ++ L.drop a)) (fun av _ _ => (intOf av).toNat)
    case atStart => exact ⟨20, Y, V, rfl, rfl, V0, V1, by omega, Lib.hid HY.out.2, Lib.hid ⟨_, HDT.out, by simp⟩⟩
    case round =>
      obtain ⟨a, y, v, rfl, rfl, v0, v1, ha, HV, HL⟩ := hrel
      obtain ⟨L, hD, hdec⟩ := HL.out
      obtain ⟨hm0, hm1, hm2⟩ := dec_more Y y L a hD.2.1 hdec (by omega) ha
      obtain ⟨b, rfl⟩ : ∃ b, a = b + 1 := ⟨a - 1, by omega⟩
      rw [Nat.add_sub_cancel] at hm1 hm2
      obtain ⟨u0, hc0⟩ := hD.there b (by omega)
      have hf0 := hD.frozen b
      have hst := hD.store b (UInt8.ofNat (48 + y % 10))
      have hdv := dig_val v v0
      have hvy : v.toNat = y := by have := HV.out; omega
      rw [hvy] at hdv
      rw [← hdv] at hst
      have HST := Lib.hid hst
      have HM := Lib.hid (And.intro hm1 hm2)
      have hb : (b : Int) < 20 := by omega
      have hb2 : b < 20 := by omega
      clear hD hdec hm0 hm1 hm2 hst hdv hvy HL
      by_cases hy : y < 10
      · have hq : ((v / 10 : Int) == 0) = true := by rw [beq_iff_eq]; have := HV.out; omega
        have HFIN := Lib.hid (HM.out.1 hy)
        clear hy
        have hsl := fun w' => slice_b20 w.heap.size b hb2 w'
        have hstr := HST.out.str b hb2 (20 - b)
        rw [HFIN.out] at hstr
        have hdz : decZ n = decL Y := by rw [decZ, if_neg (by omega), HY.out.1]
        have HDZ := Lib.hid hdz
        have HB := Lib.hid HST.out.2.2
        clear hdz
        go_wp2
        go_ret
        exact ⟨congrArg (fun l => Ending.returned (.string ⟨List.toArray l⟩)) HDZ.out.symm, HB.out⟩
      · have hq : ((v / 10 : Int) == 0) = false := by rw [beq_eq_false_iff_ne]; have := HV.out; omega
        go_wp2
        go_roundw
        case rel => exact ⟨b, y / 10, v / 10, by go_num, rfl, by omega, by omega, by omega, Lib.hid (by have := HV.out; omega), Lib.hid ⟨_, HST.out, HM.out.2 (by omega)⟩⟩
        case measure => simp [intOf] <;> omega
end Go.Proofs.YtfjpbkdijglfdaaDoor
