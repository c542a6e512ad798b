import Derived.Test.YtegplajddhiejaaGreatMgLoneMake5
import Derived.Test.YtegplajddhiejaaGreatBk14
set_option linter.unusedVariables false
set_option linter.unusedSimpArgs false
namespace Go.Proofs.YtegplajddhiejaaGreat
open Go.RowKit
/-! What a key names, as the reference tells it. -/
def partsV (b : ByteArray) : Value := if okN b then .tuple #[.int .i64 (spN b), .int .i64 (kdN b), .int .i64 (nmN b), .bool true] else .tuple #[.int .i64 0, .int .i64 0, .int .i64 0, .bool false]
theorem rd_top (b : ByteArray) (o : Nat) (h : o + 8 ≤ b.size) : ∃ r, r < 72057594037927936 ∧ rdN b o 8 = (b.data.toList.getD o 0).toNat * 72057594037927936 + r := by
  have hl : o < b.data.toList.length := by rw [size_list]; omega
  have hd : b.data.toList.drop o = b.data.toList[o] :: b.data.toList.drop (o + 1) := List.drop_eq_getElem_cons hl
  have hlen : ((b.data.toList.drop (o + 1)).take 7).length = 7 := by rw [List.length_take, List.length_drop, size_list]; omega
  refine ⟨rdL ((b.data.toList.drop (o + 1)).take 7), ?_, ?_⟩
  · have := rdL_lt ((b.data.toList.drop (o + 1)).take 7)
    rw [hlen] at this
    exact this
  · rw [rdN_list b o 8 (by rw [size_list]; exact h), hd, List.take_succ_cons, rdL_cons, hlen, List.getD_eq_getElem?_getD, List.getElem?_eq_getElem hl]
    rfl
theorem top_lt {x r m : Nat} (hr : r < 72057594037927936) (hm : m = x * 72057594037927936 + r) : m < 9223372036854775808 ↔ x < 128 := by omega
theorem okN_bytes {b : ByteArray} (h18 : b.size = 18) : okN b = decide ((b.data.toList.getD 0 0 = 66 ∧ b.data.toList.getD 9 0 ≠ 0) ∧ (b.data.toList.getD 1 0).toNat < 128 ∧ (b.data.toList.getD 10 0).toNat < 128) := by
  obtain ⟨r1, h1, e1⟩ := rd_top b 1 (by omega)
  obtain ⟨r2, h2, e2⟩ := rd_top b 10 (by omega)
  have t1 := top_lt h1 e1
  have t2 := top_lt h2 e2
  unfold okN headN
  rw [← Bool.decide_and]
  refine decide_eq_decide.2 ?_
  rw [t1, t2]
  constructor
  · rintro ⟨⟨_, a, b⟩, c⟩; exact ⟨⟨a, b⟩, c⟩
  · rintro ⟨⟨a, b⟩, c⟩; exact ⟨⟨h18, a, b⟩, c⟩
theorem byteI {b : ByteArray} (i : Nat) (h : i < b.size) : b[i] = b.data.toList.getD i 0 := by
  rw [List.getD_eq_getElem?_getD, List.getElem?_eq_getElem (by rw [size_list]; exact h)]
  rfl
set_option maxRecDepth 100000 in
set_option maxHeartbeats 1000000 in
theorem parts_calls (b : ByteArray) (hs : b.size < 9223372036854775807) (w : World) : Calls Tryz.prog 64 #[.string b] w fun e w' => e = .returned (partsV b) ∧ ∃ n, w.drewN n = w' := by
  by_cases h18 : b.size = 18
  · have hok := okN_bytes h18
    rw [← byteI 0 (by omega), ← byteI 9 (by omega), ← byteI 1 (by omega), ← byteI 10 (by omega)] at hok
    have h9' : kdN b = if headN b then (b[9].toNat : Int) else 0 := by unfold kdN; rw [byteI 9 (by omega)]
    have q0 : b[0] = 66 ↔ b[0].toNat = 66 := ⟨fun e => by rw [e]; rfl, fun e => UInt8.toNat_inj.1 (by simpa using e)⟩
    have q9 : b[9] = 0 ↔ b[9].toNat = 0 := ⟨fun e => by rw [e]; rfl, fun e => UInt8.toNat_inj.1 (by simpa using e)⟩
    have hok : okN b = decide ((b[0].toNat = 66 ∧ ¬ b[9].toNat = 0) ∧ b[1].toNat < 128 ∧ b[10].toNat < 128) := hok.trans (decide_eq_decide.2 (by rw [q0, Ne, q9]))
    have C1 : Hid (∀ w, Calls Tryz.prog 76 #[.string b, .int .i64 1, .int .i64 8] w fun e w' => e = .returned (.tuple #[.int .u64 (rdN b 1 8 : Nat), .int .i64 0]) ∧ w = w') := Lib.hid (fun w => refBE_calls b 1 8 (by omega) (by omega) (by omega) hs w)
    have C2 : Hid (∀ w, Calls Tryz.prog 76 #[.string b, .int .i64 10, .int .i64 8] w fun e w' => e = .returned (.tuple #[.int .u64 (rdN b 10 8 : Nat), .int .i64 0]) ∧ w = w') := Lib.hid (fun w => refBE_calls b 10 8 (by omega) (by omega) (by omega) hs w)
    have hb1 : okN b = true → headN b = true ∧ rdN b 1 8 < 9223372036854775808 ∧ rdN b 10 8 < 9223372036854775808 := fun h => by
      unfold okN at h
      rw [Bool.and_eq_true, decide_eq_true_eq] at h
      exact ⟨h.1, h.2⟩
    have HB1 := Lib.hid hb1
    have H9 := Lib.hid h9'
    have t9 := b[9].toNat_lt
    obtain ⟨x0, h0⟩ : ∃ x, b[0].toNat = x := ⟨_, rfl⟩
    obtain ⟨x1, h1⟩ : ∃ x, b[1].toNat = x := ⟨_, rfl⟩
    obtain ⟨x9, h9⟩ : ∃ x, b[9].toNat = x := ⟨_, rfl⟩
    obtain ⟨x10, h10⟩ : ∃ x, b[10].toNat = x := ⟨_, rfl⟩
    rw [h0, h1, h9, h10] at hok
    rw [h9] at H9 t9
    have HOK := Lib.hid hok
    clear hok hb1 q0 q9 h9'
    by_cases a0 : (x0 : Int) = 66
    · by_cases a1 : (x1 : Int) < 128
      · by_cases a9 : (x9 : Int) = 0
        · have hz : okN b = false := by rw [HOK.out]; exact decide_eq_false (fun h => h.1.2 (by omega))
          rw [show partsV b = .tuple #[.int .i64 0, .int .i64 0, .int .i64 0, .bool false] by unfold partsV; rw [if_neg (by rw [hz]; simp)]]
          clear hz
          go_enter Tryz.func64, Tryz.ntmps64
          go_wp2
          (try simp only [Exit.inBlock, Exit.then])
          refine bodyPost_ret (results_tmp4 rfl _ _ _) rfl ?_
          exact ⟨rfl, 0, rfl⟩
        · by_cases a10 : (x10 : Int) < 128
          · have hz : okN b = true := by rw [HOK.out]; exact decide_eq_true ⟨⟨by omega, by omega⟩, by omega, by omega⟩
            obtain ⟨g1, g2, g3⟩ := HB1.out hz
            have hp : partsV b = .tuple #[.int .i64 (wrap64 (rdN b 1 8 : Nat)), .int .i64 (x9 : Nat), .int .i64 (wrap64 (rdN b 10 8 : Nat)), .bool true] := by
              unfold partsV
              rw [if_pos hz, H9.out, if_pos g1]
              unfold spN nmN
              rw [if_pos g1, if_pos g1]
            have u1 : wrap64 (rdN b 1 8 : Nat) = (rdN b 1 8 : Nat) := IntWalk.wrap64_in _ (by omega)
            have u2 : wrap64 (rdN b 10 8 : Nat) = (rdN b 10 8 : Nat) := IntWalk.wrap64_in _ (by omega)
            have u9 : wrap64 (x9 : Int) = x9 := IntWalk.wrap64_in _ (by omega)
            rw [hp]
            have HU1 := Lib.hid u1
            have HU2 := Lib.hid u2
            have HU9 := Lib.hid u9
            obtain ⟨m1, hm1⟩ : ∃ m, rdN b 1 8 = m := ⟨_, rfl⟩
            obtain ⟨m2, hm2⟩ : ∃ m, rdN b 10 8 = m := ⟨_, rfl⟩
            simp only [hm1] at C1 HU1 ⊢
            simp only [hm2] at C2 HU2 ⊢
            have h9i : (9 : Int) < b.size := by omega
            have b9 : ((x9 : Int) == 0) = false := by rw [beq_eq_false_iff_ne]; exact a9
            have b1 : ¬ (128 : Int) ≤ x1 := by omega
            have b10 : ¬ (128 : Int) ≤ x10 := by omega
            clear hz hp g1 g2 g3 u1 u2 u9 hm1 hm2 a9
            go_enter Tryz.func64, Tryz.ntmps64
            go_wp2_with (first
              | (go_at_call 76; (with_reducible refine (C1.out _).mono ?_); rintro e w1 ⟨rfl, rfl⟩)
              | (go_at_call 76; (with_reducible refine (C2.out _).mono ?_); rintro e w1 ⟨rfl, rfl⟩))
            go_quiet (fail)
            go_wp2
            (try simp only [Exit.inBlock, Exit.then])
            refine bodyPost_ret (results_tmp4 rfl _ _ _) rfl ?_
            refine ⟨?_, _, rfl⟩
            simp [HU1.out, HU2.out, HU9.out]
          · have hz : okN b = false := by rw [HOK.out]; exact decide_eq_false (fun h => a10 (by have := h.2.2; omega))
            rw [show partsV b = .tuple #[.int .i64 0, .int .i64 0, .int .i64 0, .bool false] by unfold partsV; rw [if_neg (by rw [hz]; simp)]]
            have b9 : ((x9 : Int) == 0) = false := by rw [beq_eq_false_iff_ne]; exact a9
            have b1 : ¬ (128 : Int) ≤ x1 := by omega
            have b10 : (128 : Int) ≤ x10 := by omega
            clear hz a9 a10
            go_enter Tryz.func64, Tryz.ntmps64
            go_wp2
            (try simp only [Exit.inBlock, Exit.then])
            refine bodyPost_ret (results_tmp4 rfl _ _ _) rfl ?_
            exact ⟨rfl, 0, rfl⟩
      · have hz : okN b = false := by rw [HOK.out]; exact decide_eq_false (fun h => a1 (by have := h.2.1; omega))
        rw [show partsV b = .tuple #[.int .i64 0, .int .i64 0, .int .i64 0, .bool false] by unfold partsV; rw [if_neg (by rw [hz]; simp)]]
        have b1 : (128 : Int) ≤ x1 := by omega
        clear hz a1
        go_enter Tryz.func64, Tryz.ntmps64
        go_wp2
        (try simp only [Exit.inBlock, Exit.then])
        refine bodyPost_ret (results_tmp4 rfl _ _ _) rfl ?_
        exact ⟨rfl, 0, rfl⟩
    · have hz : okN b = false := by rw [HOK.out]; exact decide_eq_false (fun h => a0 (by have := h.1.1; omega))
      rw [show partsV b = .tuple #[.int .i64 0, .int .i64 0, .int .i64 0, .bool false] by unfold partsV; rw [if_neg (by rw [hz]; simp)]]
      have b0 : ((x0 : Int) == 66) = false := by rw [beq_eq_false_iff_ne]; exact a0
      have b0' : ((x0 : Int) != 66) = true := by rw [bne_iff_ne]; exact a0
      clear hz a0
      go_enter Tryz.func64, Tryz.ntmps64
      go_wp2
      (try simp only [Exit.inBlock, Exit.then])
      refine bodyPost_ret (results_tmp4 rfl _ _ _) rfl ?_
      exact ⟨rfl, 0, rfl⟩
  · have hz : okN b = false := by unfold okN headN; rw [decide_eq_false (fun h => h18 h.1)]; rfl
    rw [show partsV b = .tuple #[.int .i64 0, .int .i64 0, .int .i64 0, .bool false] by unfold partsV; rw [if_neg (by rw [hz]; simp)]]
    have hne : ((b.size : Int) != 18) = true := by rw [bne_iff_ne]; omega
    go_enter Tryz.func64, Tryz.ntmps64
    go_wp2
    (try simp only [Exit.inBlock, Exit.then])
    refine bodyPost_ret (results_tmp4 rfl _ _ _) rfl ?_
    exact ⟨rfl, 0, rfl⟩
end Go.Proofs.YtegplajddhiejaaGreat
