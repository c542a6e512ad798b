import Derived.Test.YtkpfbjlbllpahaaDoorSha9
set_option linter.unusedVariables false
namespace Go.Proofs.YtkpfbjlbllpahaaDoor
open Go.RowKit
set_option maxRecDepth 100000 in
set_option maxHeartbeats 1000000 in
theorem padded_calls (s : ByteArray) (hs : s.size + 80 ≤ 140737488355328) (w : World) :
    Calls Tryd.prog 112 #[.string s] w fun e w' => ∃ v, e = .returned v ∧ RowB w' w.heap.size v (s.data.toList ++ padZ s.size) ∧ Below w.heap.size w w' := by
  have hl : s.data.toList.length = s.size := by simp
  obtain ⟨cap0, w0, hconv, hr0, hb0⟩ := bytes_row w s (by unfold maxLen; omega)
  have HR0 := Lib.hid hr0
  have HB0 := Lib.hid hb0
  have HL := Lib.hid hl
  have hzl := zeros_le s.size
  obtain ⟨n, hn⟩ : ∃ n, s.size = n := ⟨_, rfl⟩
  have HN := Lib.hid hn
  have hs0 : w.heap.size ≤ w0.heap.size := hb0.size
  clear hr0 hb0 hl hn
  go_enter Tryd.func112, Tryd.ntmps112
  go_wp2_with (at_builtin; refine wpList_byte w0 _ rfl _ _ rfl w.heap.size _ s.data.toList rfl rfl 128 rfl HR0.out (by have := HL.out; omega) hs0 ?_; intro v1 w1 ho1 hb1 hat1 hg1; obtain ⟨a1, c1, hv1⟩ := ho1.slice; subst hv1; have HO1 := Lib.hid ho1; have HB1 := Lib.hid hb1; clear ho1 hb1 hat1 hg1)
  go_loopw [3] (fun lv wr => ∃ (j m : Nat) (a : Option Addr) (cap : Nat), lv = .slice a m cap ∧ Hid (m = s.size + (j + 1) ∧ j ≤ zerosZ s.size) ∧ Hid (RowB wr w.heap.size (.slice a m cap) (s.data.toList ++ pad0 j)) ∧ Hid (Below w.heap.size w wr)) (fun lv _ => s.size + zerosZ s.size + 1 - sliceLen lv)
  case atStart => exact ⟨0, s.size + 1, a1, c1, rfl, Lib.hid ⟨by omega, by omega⟩, by have := HO1.out; rw [List.length_append, HL.out] at this; exact Lib.hid this, Lib.hid (HB0.out.trans HB1.out)⟩
  case round =>
    obtain ⟨j, m, a, cap, rfl, HM, HO, HB⟩ := hrel
    have hsz : w.heap.size ≤ wr.heap.size := HB.out.size
    have hmb : m ≤ 140737488355328 := by have := HM.out; omega
    by_cases hlt : j < zerosZ s.size
    · have ht : ((m : Int) % 64 != 56) = true := by
        have := zeros_lt s.size j hlt
        obtain ⟨h1, h2⟩ := HM.out
        rw [bne_iff_ne]; omega
      have hll : (s.data.toList ++ pad0 j).length < 140737488355328 := by rw [List.length_append, pad0_len, HL.out]; omega
      have HLL := Lib.hid hll
      have HLT := Lib.hid hlt
      clear hll hlt
      go_wp2_with (at_builtin; refine wpList_byte wr _ rfl _ _ rfl w.heap.size _ (s.data.toList ++ pad0 j) rfl rfl 0 rfl HO.out HLL.out hsz ?_; intro v2 w2 ho2 hb2 hat2 hg2; obtain ⟨a2, c2, hv2⟩ := ho2.slice; subst hv2; have HO2 := Lib.hid ho2; have HB2 := Lib.hid hb2; clear ho2 hb2 hat2 hg2)
      go_roundw
      case rel =>
        obtain ⟨h1, h2⟩ := HM.out
        have h3 := HLT.out
        refine ⟨j + 1, ((s.data.toList ++ pad0 j) ++ [0]).length, a2, c2, by simp, Lib.hid ⟨?_, by omega⟩, Lib.hid ?_, Lib.hid (HB.out.trans HB2.out)⟩
        · rw [List.length_append, List.length_append, pad0_len, HL.out]; rfl
        · rw [pad0_step, ← List.append_assoc]; exact HO2.out
      case measure =>
        have h3 := HLT.out
        obtain ⟨h1, h2⟩ := HM.out
        have h4 := HL.out
        have hp := pad0_len j
        simp [sliceLen]; omega
    · have ht : ((m : Int) % 64 != 56) = false := by
        have := zeros_eq s.size
        obtain ⟨h1, h2⟩ := HM.out
        rw [bne_eq_false_iff_eq]
        have : j = zerosZ s.size := by omega
        subst this; omega
      obtain ⟨h1, h2⟩ := HM.out
      obtain rfl : j = zerosZ s.size := by omega
      have hsb : s.size ≤ 140737488355328 := by omega
      clear h2 hlt
      have HM1 := Lib.hid h1
      clear h1
      obtain ⟨wo, rfl⟩ : ∃ wo : World, wo = wr := ⟨_, rfl⟩
      go_wp2
      go_loopw [3, 5] (fun lv iv wr => ∃ k : Nat, k ≤ 8 ∧ iv = .int .i64 k ∧ Hid (RowB wr w.heap.size lv (s.data.toList ++ pad0 (zerosZ s.size) ++ (putZ (8 * s.size) 8).take k)) ∧ Hid (Below w.heap.size w wr)) (fun _ iv _ => (8 - (intOf iv)).toNat)
      case atStart => exact ⟨0, by omega, rfl, by simpa using HO, HB⟩
      case round =>
        obtain ⟨k, hk, rfl, HP, HC⟩ := hrel
        have hsz2 : w.heap.size ≤ wr.heap.size := HC.out.size
        by_cases hlt : k < 8
        · have hy : ((s.size : Int) * 8) / 2 ^ (56 - 8 * k) % 256 = (((UInt8.ofNat (8 * s.size / 2 ^ (56 - 8 * k))).toNat : Nat) : Int) := by
            rw [← shr_val, show ((8 * s.size : Nat) : Int) = (s.size : Int) * 8 by omega]
          have HY := Lib.hid hy
          clear hy
          have hll : (s.data.toList ++ pad0 (zerosZ s.size) ++ (putZ (8 * s.size) 8).take k).length < 140737488355328 := by
            rw [List.length_append, List.length_append, pad0_len, HL.out, List.length_take, putZ_len]; omega
          have HLL := Lib.hid hll
          clear hll
          have hki : (k : Int) < 8 := by omega
          go_wp2_with (at_builtin; refine wpList_byte wr _ rfl _ _ rfl w.heap.size _ (s.data.toList ++ pad0 (zerosZ s.size) ++ (putZ (8 * s.size) 8).take k) rfl rfl (UInt8.ofNat (8 * s.size / 2 ^ (56 - 8 * k))) HY.out HP.out HLL.out hsz2 ?_; intro v2 w2 ho2 hb2 hat2 hg2; have HO2 := Lib.hid ho2; have HB2 := Lib.hid hb2; clear ho2 hb2 hat2 hg2)
          go_roundw
          case rel =>
            refine ⟨k + 1, by omega, by go_num, Lib.hid ?_, Lib.hid (HC.out.trans HB2.out)⟩
            rw [putZ_take (8 * s.size) 8 k hlt, ← List.append_assoc, show 8 * (8 - 1 - k) = 56 - 8 * k by omega]
            exact HO2.out
          case measure => simp [intOf]; omega
        · obtain rfl : k = 8 := by omega
          rw [show (((8 : Nat)) : Int) = 8 from rfl]
          have hend := HP.out
          rw [List.take_of_length_le (by rw [putZ_len]; exact Nat.le_refl _), List.append_assoc] at hend
          have HE := Lib.hid hend
          clear hend hlt hk
          go_wp2
          go_ret
          exact ⟨_, rfl, HE.out, HC.out⟩
end Go.Proofs.YtkpfbjlbllpahaaDoor
