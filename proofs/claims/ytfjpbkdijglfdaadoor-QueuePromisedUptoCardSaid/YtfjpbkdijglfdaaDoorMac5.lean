import Derived.Test.YtfjpbkdijglfdaaDoorMac4
set_option linter.unusedVariables false
namespace Go.Proofs.YtfjpbkdijglfdaaDoor
open Go.RowKit
/-- The key laid into the block. -/
theorem copy_key (w : World) (kb : Nat) (ks : ByteArray) (h64 : ks.size ≤ 64) (hw : w.heap[kb]? = some (.cells (aB (List.replicate 64 0)) 43 (0, 0))) :
    (Builtin.copy_ #[34, 9] 3 #[.slice (some ⟨kb, 0, none⟩) 64 64, .string ks]).run Tryd.prog w = .ok (.int .i64 ks.size) (w.setRow kb (aB (ks.data.toList ++ List.replicate (64 - ks.size) 0))) := by
  have hl : ks.data.toList.length = ks.size := by simp
  have h := run_copy_part (P := Tryd.prog) w 34 9 3 5 kb 0 64 64 ks ks.size (aB (List.replicate 64 0)) 43 Tryd.underlying34 u8_one hw (Nat.min_eq_left h64).symm (by rw [aB_size]; simp; omega)
  have e : ((aB (List.replicate 64 0)).toList.take 0 ++ bC (ks.data.toList.take ks.size) ++ (aB (List.replicate 64 0)).toList.drop (0 + ks.size)).toArray = aB (ks.data.toList ++ List.replicate (64 - ks.size) 0) := by
    have e1 : ks.data.toList.take ks.size = ks.data.toList := List.take_of_length_le (by omega)
    have e2 : (aB (List.replicate 64 0)).toList.drop ks.size = bC (List.replicate (64 - ks.size) 0) := by
      rw [aB, List.toList_toArray, bC, bC, ← List.map_drop, List.drop_replicate]
    rw [List.take_zero, List.nil_append, Nat.zero_add, e1, e2, aB, bC_app]
  rw [h, e]
set_option maxRecDepth 100000 in
set_option maxHeartbeats 1000000 in
/-- mac.Sum, where the key does for the block. -/
theorem mac_calls (key msg : ByteArray) (w : World) (hL : Laid w) (hs : key.size + 200 ≤ 140737488355328) (hm : msg.size + 200 ≤ 140737488355328) :
    Calls Tryd.prog 17 #[.string key, .string msg] w fun e w' => e = .returned (.string ⟨(macZ key.data.toList msg.data.toList).toArray⟩) ∧ Below w.heap.size w w' := by
  have h4 := hL.size
  have hbl := blkZ_len key.data.toList
  have hl : key.data.toList.length = key.size := by simp
  have cS0 := Lib.hid (shasum_calls key w hL (by omega))
  obtain ⟨B, hB⟩ : ∃ B, blkZ key.data.toList = B := ⟨_, rfl⟩
  have hBs : ∀ ks : ByteArray, ks.data.toList = hkeyZ key.data.toList → ks.size ≤ 64 ∧ ks.data.toList ++ List.replicate (64 - ks.size) 0 = B := by
    intro ks hks
    have hkl : ks.data.toList.length = ks.size := by simp
    have h64 := hkeyZ_len key.data.toList
    rw [← hks, hkl] at h64
    exact ⟨h64, by rw [← hB, blkZ, ← hks, hkl]⟩
  rw [hB] at hbl
  obtain ⟨a1, ha1⟩ : ∃ a : ByteArray, a = ⟨(xorZ B 54).toArray⟩ := ⟨_, rfl⟩
  obtain ⟨a2, ha2⟩ : ∃ a : ByteArray, a = ⟨(xorZ B 92).toArray⟩ := ⟨_, rfl⟩
  have s1 : a1.size ≤ 64 := by rw [ha1, mk_size, xorZ_len, hbl]; omega
  have s2 : a2.size ≤ 64 := by rw [ha2, mk_size, xorZ_len, hbl]; omega
  have cM1 := fun w kb hk => mixed_calls kb B hbl 54 54 rfl w hk
  have cM2 := fun w kb hk => mixed_calls kb B hbl 92 92 rfl w hk
  have t1 : (a1 ++ msg).data.toList = xorZ B 54 ++ msg.data.toList := by rw [app_toList, ha1]
  obtain ⟨a3, ha3⟩ : ∃ a : ByteArray, a = ⟨(shaZ (a1 ++ msg).data.toList).toArray⟩ := ⟨_, rfl⟩
  have s3 : a3.size ≤ 64 := by rw [ha3, mk_size, shaZ_len]; omega
  have t2 : shaZ (a2 ++ a3).data.toList = macZ key.data.toList msg.data.toList := by rw [app_toList, ha2, ha3, t1, macZ, hB]
  have cS1 := fun w hL => shasum_calls (a1 ++ msg) w hL (by rw [ByteArray.size_append]; omega)
  have cS2 := fun w hL => shasum_calls (a2 ++ a3) w hL (by rw [ByteArray.size_append]; omega)
  simp only [← ha1] at cM1
  simp only [← ha2] at cM2
  simp only [← ha3] at cS1
  simp only [t2] at cS2
  have CM1 := Lib.hid cM1
  have CM2 := Lib.hid cM2
  have CS1 := Lib.hid cS1
  have CS2 := Lib.hid cS2
  have hk1 : 64 < key.size → (⟨(shaZ key.data.toList).toArray⟩ : ByteArray).data.toList = hkeyZ key.data.toList := fun h => by rw [hkeyZ, if_pos (by omega)]
  have hk2 : key.size ≤ 64 → key.data.toList = hkeyZ key.data.toList := fun h => by rw [hkeyZ, if_neg (by omega)]
  have HBS := Lib.hid hBs
  have HL := Lib.hid hL
  have HK1 := Lib.hid hk1
  have HK2 := Lib.hid hk2
  clear cM1 cM2 cS1 cS2 ha1 ha2 ha3 t1 t2 hB hbl hBs hL hk1 hk2 hl
  have z64 := fun w : World => heap_alloc_last w (.cells (aB (List.replicate 64 0)) 43)
  have Z64 := Lib.hid z64
  clear z64
  by_cases hkey : 64 < key.size
  · have hki : (64 : Int) < key.size := by omega
    go_enter Tryd.func17, Tryd.ntmps17
    go_wp2_with (go_at_call 7; (with_reducible refine cS0.out.mono ?_); rintro e w1 ⟨rfl, hb1⟩; have HB1 := Lib.hid hb1; clear hb1; fail)
    refine cS0.out.mono ?_
    rintro e w1 ⟨rfl, hb1⟩
    have HB1 := Lib.hid hb1
    clear hb1
    obtain ⟨ks, hksd⟩ : ∃ ks : ByteArray, (⟨(shaZ key.data.toList).toArray⟩ : ByteArray) = ks := ⟨_, rfl⟩
    have hks : ks.data.toList = hkeyZ key.data.toList := by rw [← hksd]; exact HK1.out hkey
    rw [hksd]
    clear hksd
    obtain ⟨h64, hBe⟩ := HBS.out ks hks
    have hcp := copy_key (w1.alloc (.cells (aB (List.replicate 64 0)) 43)) w1.heap.size ks h64 (Z64.out w1)
    rw [hBe] at hcp
    clear hBe hks
    obtain ⟨w2, hw2⟩ : ∃ w2, (w1.alloc (.cells (aB (List.replicate 64 0)) 43)).setRow w1.heap.size (aB B) = w2 := ⟨_, rfl⟩
    have hkb : w2.heap[w1.heap.size]? = some (.cells (aB B) 43 (0, 0)) := by rw [← hw2]; exact setRow_same (Z64.out w1) _
    have hb2 : Below w.heap.size w w2 := by rw [← hw2]; exact below_setRow (HB1.out.alloc HB1.out.size _) HB1.out.size _
    have HW2 := Lib.hid hw2
    have HKB := Lib.hid hkb
    have HB2 := Lib.hid hb2
    rw [hw2] at hcp
    have HCP := Lib.hid hcp
    clear hw2 hkb hb2 hcp
    go_wp2_with (with_reducible refine Lib.wpList_copy_run _ (o := ⟨some 14, .call { callee := .builtin .copy, args := #[.tmp 12, .tmp 13], argTypes := #[34, 9] }, _, _, _, _⟩) ?_ (.tmp 12) (.tmp 13) 34 9 ?_ (.slice (some ⟨w1.heap.size, 0, none⟩) 64 64) (.string ks) ?_ ?_ (v' := .int .i64 ks.size) (w' := w2) ?_ ?_
                 · exact rfl
                 · exact rfl
                 · exact rfl
                 · exact rfl
                 · exact HCP.out)
    refine (CM2.out w2 w1.heap.size HKB.out).mono ?_
    rintro e w3 ⟨rfl, hb3⟩
    have HK3 := Lib.hid ((hb3.block w1.heap.size (Array.getElem?_eq_some_iff.1 HKB.out).1).trans HKB.out)
    have HB3 := Lib.hid (HB2.out.trans (hb3.mono HB2.out.size))
    clear hb3
    go_wp2_with fail
    refine (CM1.out w3 w1.heap.size HK3.out).mono ?_
    rintro e w4 ⟨rfl, hb4⟩
    have HB4 := Lib.hid (HB3.out.trans (hb4.mono HB3.out.size))
    have HL4 := Lib.hid (HL.out.below HB4.out h4)
    clear hb4
    go_wp2_with fail
    refine (CS1.out w4 HL4.out).mono ?_
    rintro e w5 ⟨rfl, hb5⟩
    have HB5 := Lib.hid (HB4.out.trans (hb5.mono HB4.out.size))
    have HL5 := Lib.hid (HL.out.below HB5.out h4)
    clear hb5
    go_wp2_with fail
    refine (CS2.out w5 HL5.out).mono ?_
    rintro e w6 ⟨rfl, hb6⟩
    have HB6 := Lib.hid (HB5.out.trans (hb6.mono HB5.out.size))
    clear hb6
    go_wp2
    go_ret
    exact ⟨rfl, HB6.out⟩
  · have hki : (key.size : Int) ≤ 64 := by omega
    have HKS := Lib.hid (HK2.out (by omega))
    have HB1 := Lib.hid (Below.refl w.heap.size w)
    go_enter Tryd.func17, Tryd.ntmps17
    have hks := HKS.out
    obtain ⟨h64, hBe⟩ := HBS.out key hks
    have hcp := copy_key (w.alloc (.cells (aB (List.replicate 64 0)) 43)) w.heap.size key h64 (Z64.out w)
    rw [hBe] at hcp
    clear hBe hks
    obtain ⟨w2, hw2⟩ : ∃ w2, (w.alloc (.cells (aB (List.replicate 64 0)) 43)).setRow w.heap.size (aB B) = w2 := ⟨_, rfl⟩
    have hkb : w2.heap[w.heap.size]? = some (.cells (aB B) 43 (0, 0)) := by rw [← hw2]; exact setRow_same (Z64.out w) _
    have hb2 : Below w.heap.size w w2 := by rw [← hw2]; exact below_setRow (HB1.out.alloc HB1.out.size _) HB1.out.size _
    have HW2 := Lib.hid hw2
    have HKB := Lib.hid hkb
    have HB2 := Lib.hid hb2
    rw [hw2] at hcp
    have HCP := Lib.hid hcp
    clear hw2 hkb hb2 hcp
    go_wp2_with (with_reducible refine Lib.wpList_copy_run _ (o := ⟨some 14, .call { callee := .builtin .copy, args := #[.tmp 12, .tmp 13], argTypes := #[34, 9] }, _, _, _, _⟩) ?_ (.tmp 12) (.tmp 13) 34 9 ?_ (.slice (some ⟨w.heap.size, 0, none⟩) 64 64) (.string key) ?_ ?_ (v' := .int .i64 key.size) (w' := w2) ?_ ?_
                 · exact rfl
                 · exact rfl
                 · exact rfl
                 · exact rfl
                 · exact HCP.out)
    refine (CM2.out w2 w.heap.size HKB.out).mono ?_
    rintro e w3 ⟨rfl, hb3⟩
    have HK3 := Lib.hid ((hb3.block w.heap.size (Array.getElem?_eq_some_iff.1 HKB.out).1).trans HKB.out)
    have HB3 := Lib.hid (HB2.out.trans (hb3.mono HB2.out.size))
    clear hb3
    go_wp2_with fail
    refine (CM1.out w3 w.heap.size HK3.out).mono ?_
    rintro e w4 ⟨rfl, hb4⟩
    have HB4 := Lib.hid (HB3.out.trans (hb4.mono HB3.out.size))
    have HL4 := Lib.hid (HL.out.below HB4.out h4)
    clear hb4
    go_wp2_with fail
    refine (CS1.out w4 HL4.out).mono ?_
    rintro e w5 ⟨rfl, hb5⟩
    have HB5 := Lib.hid (HB4.out.trans (hb5.mono HB4.out.size))
    have HL5 := Lib.hid (HL.out.below HB5.out h4)
    clear hb5
    go_wp2_with fail
    refine (CS2.out w5 HL5.out).mono ?_
    rintro e w6 ⟨rfl, hb6⟩
    have HB6 := Lib.hid (HB5.out.trans (hb6.mono HB5.out.size))
    clear hb6
    go_wp2
    go_ret
    exact ⟨rfl, HB6.out⟩
end Go.Proofs.YtfjpbkdijglfdaaDoor
