import Derived.Test.YtfjpbkdijglfdaaDoorMac1
set_option linter.unusedVariables false
namespace Go.Proofs.YtfjpbkdijglfdaaDoor
open Go.RowKit
set_option maxRecDepth 100000 in
set_option maxHeartbeats 1000000 in
theorem keyed_calls (key : ByteArray) (x : UInt8) (X : Int) (hX : X = (x.toNat : Int)) (w : World) (hL : Laid w) (hs : key.size + 80 ≤ 140737488355328) :
    Calls Tryd.prog 23 #[.string key, .int .u8 X] w fun e w' => e = .returned (.string ⟨(xorZ (blkZ key.data.toList) x).toArray⟩) ∧ Below w.heap.size w w' := by
  have cS := Lib.hid (refsum_calls key w hL hs)
  have hl : key.data.toList.length = key.size := by simp
  have hbl := blkZ_len key.data.toList
  obtain ⟨B, hB⟩ : ∃ B, blkZ key.data.toList = B := ⟨_, rfl⟩
  rw [hB] at hbl
  rw [hB]
  have HX := Lib.hid hX
  have HBL := Lib.hid hbl
  have X0 : 0 ≤ X := by omega
  have X1 : X ≤ 255 := by have := x.toNat_lt; omega
  -- the key's block, byte by byte
  have hat : ∀ ks : ByteArray, ks.data.toList = hkeyZ key.data.toList → ks.size ≤ 64 ∧ (∀ k (h : k < ks.size) (h' : k < B.length), B[k] = ks[k]) ∧ ∀ k (h' : k < B.length), ks.size ≤ k → B[k] = 0 := by
    intro ks hks
    have hkl : ks.data.toList.length = ks.size := by simp
    have h64 := hkeyZ_len key.data.toList
    rw [← hks, hkl] at h64
    refine ⟨h64, fun k h h' => ?_, fun k h' h => ?_⟩
    · subst hB
      simp only [blkZ]
      rw [List.getElem_append_left (by rw [← hks, hkl]; exact h)]
      simp only [← hks]
      simp [ByteArray.getElem_eq_getElem_data]
    · subst hB
      simp only [blkZ]
      rw [List.getElem_append_right (by rw [← hks, hkl]; exact h)]
      simp
  have hk1 : 64 < key.size → (⟨(shaZ key.data.toList).toArray⟩ : ByteArray).data.toList = hkeyZ key.data.toList := fun h => by rw [hkeyZ, if_pos (by omega)]
  have hk2 : key.size ≤ 64 → key.data.toList = hkeyZ key.data.toList := fun h => by rw [hkeyZ, if_neg (by omega)]
  have HAT := Lib.hid hat
  have HK1 := Lib.hid hk1
  have HK2 := Lib.hid hk2
  clear hat hk1 hk2 hB hX hbl hl hL
  by_cases hkey : 64 < key.size
  · have hki : (64 : Int) < key.size := by omega
    go_enter Tryd.func23, Tryd.ntmps23
    go_wp2_with (go_at_call 10; (with_reducible refine cS.out.mono ?_); rintro e w1 ⟨rfl, hb1⟩; have HB1 := Lib.hid hb1; clear hb1)
    obtain ⟨ks, hksd⟩ : ∃ ks : ByteArray, (⟨(shaZ key.data.toList).toArray⟩ : ByteArray) = ks := ⟨_, rfl⟩
    have hks : ks.data.toList = hkeyZ key.data.toList := by rw [← hksd]; exact HK1.out hkey
    rw [hksd]
    clear hksd
    have hat := HAT.out ks hks
    have HA := Lib.hid hat
    have h64 := hat.1
    clear hat hks
    go_loopw [5, 6, 7] (fun lv iv _ wr => ∃ k : Nat, k ≤ 64 ∧ iv = .int .i64 k ∧ Hid (RowB wr w.heap.size lv ((xorZ B x).take k)) ∧ Hid (Below w.heap.size w wr)) (fun _ iv _ _ => (64 - (intOf iv)).toNat)
    case atStart => exact ⟨0, by omega, rfl, Lib.hid (RowB.nil _ _), HB1⟩
    case round =>
      obtain ⟨k, hk, rfl, HO, HB⟩ := hrel
      have hsz : w.heap.size ≤ wr.heap.size := HB.out.size
      by_cases hlt : k < 64
      · have hki : (k : Int) < 64 := by omega
        have hkB : k < B.length := by rw [HBL.out]; exact hlt
        have htk := xorZ_take B x k hkB
        have HTK := Lib.hid htk
        have hll : ((xorZ B x).take k).length < 140737488355328 := by rw [List.length_take, xorZ_len, HBL.out]; omega
        have HLL := Lib.hid hll
        clear htk hll
        by_cases hks : k < ks.size
        · have hki2 : (k : Int) < ks.size := by omega
          have hy : bits BinOp.xor IntKind.u8 (ks[k].toNat : Int) X = ((B[k] ^^^ x).toNat : Int) := by
            rw [HA.out.2.1 k hks hkB, HX.out]; exact xor8 _ _
          have HY := Lib.hid hy
          clear hy
          go_wp2_with (at_builtin; refine wpList_byte wr _ rfl _ _ rfl w.heap.size _ ((xorZ B x).take k) rfl rfl (B[k] ^^^ x) HY.out HO.out HLL.out hsz ?_; intro v2 w2 ho2 hb2 hat2 hg2; have HO2 := Lib.hid ho2; have HB2 := Lib.hid hb2; clear ho2 hb2 hat2 hg2)
          go_roundw
          case rel => exact ⟨k + 1, by omega, by go_num, Lib.hid (by rw [HTK.out]; exact HO2.out), Lib.hid (HB.out.trans HB2.out)⟩
          case measure => simp [intOf]; omega
        · have hki2 : (ks.size : Int) ≤ k := by omega
          have hy : bits BinOp.xor IntKind.u8 0 X = ((B[k] ^^^ x).toNat : Int) := by
            rw [HA.out.2.2 k hkB (by omega), HX.out]; exact xor8 0 x
          have HY := Lib.hid hy
          clear hy
          go_wp2_with (at_builtin; refine wpList_byte wr _ rfl _ _ rfl w.heap.size _ ((xorZ B x).take k) rfl rfl (B[k] ^^^ x) HY.out HO.out HLL.out hsz ?_; intro v2 w2 ho2 hb2 hat2 hg2; have HO2 := Lib.hid ho2; have HB2 := Lib.hid hb2; clear ho2 hb2 hat2 hg2)
          go_roundw
          case rel => exact ⟨k + 1, by omega, by go_num, Lib.hid (by rw [HTK.out]; exact HO2.out), Lib.hid (HB.out.trans HB2.out)⟩
          case measure => simp [intOf]; omega
      · obtain rfl : k = 64 := by omega
        rw [show (((64 : Nat)) : Int) = 64 from rfl]
        have hstr := HO.out.str
        rw [List.take_of_length_le (by rw [xorZ_len, HBL.out]; exact Nat.le_refl _)] at hstr
        go_wp2
        go_ret
        exact ⟨rfl, HB.out⟩
  · have hki : (key.size : Int) ≤ 64 := by omega
    have hks : key.data.toList = hkeyZ key.data.toList := HK2.out (by omega)
    have HKS := Lib.hid hks
    clear hks
    go_enter Tryd.func23, Tryd.ntmps23
    go_wp2_with fail
    have hks := HKS.out
    have hat := HAT.out key hks
    have HA := Lib.hid hat
    have h64 := hat.1
    clear hat hks
    go_loopw [5, 6, 7] (fun lv iv _ wr => ∃ k : Nat, k ≤ 64 ∧ iv = .int .i64 k ∧ Hid (RowB wr w.heap.size lv ((xorZ B x).take k)) ∧ Hid (Below w.heap.size w wr)) (fun _ iv _ _ => (64 - (intOf iv)).toNat)
    case atStart => exact ⟨0, by omega, rfl, Lib.hid (RowB.nil _ _), Lib.hid (Below.refl _ _)⟩
    case round =>
      obtain ⟨k, hk, rfl, HO, HB⟩ := hrel
      have hsz : w.heap.size ≤ wr.heap.size := HB.out.size
      by_cases hlt : k < 64
      · have hki : (k : Int) < 64 := by omega
        have hkB : k < B.length := by rw [HBL.out]; exact hlt
        have htk := xorZ_take B x k hkB
        have HTK := Lib.hid htk
        have hll : ((xorZ B x).take k).length < 140737488355328 := by rw [List.length_take, xorZ_len, HBL.out]; omega
        have HLL := Lib.hid hll
        clear htk hll
        by_cases hks : k < key.size
        · have hki2 : (k : Int) < key.size := by omega
          have hy : bits BinOp.xor IntKind.u8 (key[k].toNat : Int) X = ((B[k] ^^^ x).toNat : Int) := by
            rw [HA.out.2.1 k hks hkB, HX.out]; exact xor8 _ _
          have HY := Lib.hid hy
          clear hy
          go_wp2_with (at_builtin; refine wpList_byte wr _ rfl _ _ rfl w.heap.size _ ((xorZ B x).take k) rfl rfl (B[k] ^^^ x) HY.out HO.out HLL.out hsz ?_; intro v2 w2 ho2 hb2 hat2 hg2; have HO2 := Lib.hid ho2; have HB2 := Lib.hid hb2; clear ho2 hb2 hat2 hg2)
          go_roundw
          case rel => exact ⟨k + 1, by omega, by go_num, Lib.hid (by rw [HTK.out]; exact HO2.out), Lib.hid (HB.out.trans HB2.out)⟩
          case measure => simp [intOf]; omega
        · have hki2 : (key.size : Int) ≤ k := by omega
          have hy : bits BinOp.xor IntKind.u8 0 X = ((B[k] ^^^ x).toNat : Int) := by
            rw [HA.out.2.2 k hkB (by omega), HX.out]; exact xor8 0 x
          have HY := Lib.hid hy
          clear hy
          go_wp2_with (at_builtin; refine wpList_byte wr _ rfl _ _ rfl w.heap.size _ ((xorZ B x).take k) rfl rfl (B[k] ^^^ x) HY.out HO.out HLL.out hsz ?_; intro v2 w2 ho2 hb2 hat2 hg2; have HO2 := Lib.hid ho2; have HB2 := Lib.hid hb2; clear ho2 hb2 hat2 hg2)
          go_roundw
          case rel => exact ⟨k + 1, by omega, by go_num, Lib.hid (by rw [HTK.out]; exact HO2.out), Lib.hid (HB.out.trans HB2.out)⟩
          case measure => simp [intOf]; omega
      · obtain rfl : k = 64 := by omega
        rw [show (((64 : Nat)) : Int) = 64 from rfl]
        have hstr := HO.out.str
        rw [List.take_of_length_le (by rw [xorZ_len, HBL.out]; exact Nat.le_refl _)] at hstr
        go_wp2
        go_ret
        exact ⟨rfl, HB.out⟩
end Go.Proofs.YtfjpbkdijglfdaaDoor
