import Derived.Test.YtfjpbkdijglfdaaDoorMac2
set_option linter.unusedVariables false
namespace Go.Proofs.YtfjpbkdijglfdaaDoor
open Go.RowKit
theorem app_toList (a b : ByteArray) : (a ++ b).data.toList = a.data.toList ++ b.data.toList := by simp [ByteArray.data_append]
theorem mk_toList (l : List UInt8) : (⟨l.toArray⟩ : ByteArray).data.toList = l := by simp
theorem mk_size (l : List UInt8) : (⟨l.toArray⟩ : ByteArray).size = l.length := by simp [ByteArray.size]
set_option maxRecDepth 100000 in
set_option maxHeartbeats 1000000 in
/-- annalsref3.Sum. -/
theorem refmac_calls (key msg : ByteArray) (w : World) (hL : Laid w) (hs : key.size + 200 ≤ 140737488355328) (hm : msg.size + 200 ≤ 140737488355328) :
    Calls Tryd.prog 13 #[.string key, .string msg] w fun e w' => e = .returned (.string ⟨(macZ key.data.toList msg.data.toList).toArray⟩) ∧ Below w.heap.size w w' := by
  have h4 := hL.size
  have cK1 := Lib.hid (keyed_calls key 54 54 rfl w hL (by omega))
  have hb := blkZ_len key.data.toList
  have HL := Lib.hid hL
  obtain ⟨a1, ha1⟩ : ∃ a : ByteArray, a = ⟨(xorZ (blkZ key.data.toList) 54).toArray⟩ := ⟨_, rfl⟩
  obtain ⟨a2, ha2⟩ : ∃ a : ByteArray, a = ⟨(xorZ (blkZ key.data.toList) 92).toArray⟩ := ⟨_, rfl⟩
  have s1 : a1.size = 64 := by rw [ha1, mk_size, xorZ_len, hb]
  have s2 : a2.size = 64 := by rw [ha2, mk_size, xorZ_len, hb]
  have cK2 := fun w hL => keyed_calls key 92 92 rfl w hL (by omega)
  have t1 : (a1 ++ msg).data.toList = xorZ (blkZ key.data.toList) 54 ++ msg.data.toList := by rw [app_toList, ha1]
  obtain ⟨a3, ha3⟩ : ∃ a : ByteArray, a = ⟨(shaZ (a1 ++ msg).data.toList).toArray⟩ := ⟨_, rfl⟩
  have s3 : a3.size = 32 := by rw [ha3, mk_size, shaZ_len]
  have t2 : shaZ (a2 ++ a3).data.toList = macZ key.data.toList msg.data.toList := by rw [app_toList, ha2, ha3, t1]; rfl
  have cS1 := fun w hL => refsum_calls (a1 ++ msg) w hL (by rw [ByteArray.size_append]; omega)
  have cS2 := fun w hL => refsum_calls (a2 ++ a3) w hL (by rw [ByteArray.size_append]; omega)
  rw [← ha1] at cK1
  simp only [← ha2] at cK2
  simp only [← ha3] at cS1
  simp only [t2] at cS2
  have CK2 := Lib.hid cK2
  have CS1 := Lib.hid cS1
  have CS2 := Lib.hid cS2
  clear cK2 cS1 cS2 ha1 ha2 ha3 t1 t2 hb hL
  have z1 : a1.size ≤ 64 := by omega
  have z2 : a2.size ≤ 64 := by omega
  have z3 : a3.size ≤ 64 := by omega
  clear s1 s2 s3
  go_enter Tryd.func13, Tryd.ntmps13
  go_wp2_with fail
  refine cK1.out.mono ?_
  rintro e w1 ⟨rfl, hb1⟩
  have HL1 := Lib.hid (HL.out.below hb1 h4)
  have HB1 := Lib.hid hb1
  clear hb1
  go_wp2_with fail
  refine (CS1.out _ HL1.out).mono ?_
  rintro e w2 ⟨rfl, hb2⟩
  have HB2 := Lib.hid (HB1.out.trans (hb2.mono HB1.out.size))
  have HL2 := Lib.hid (HL.out.below HB2.out h4)
  clear hb2
  go_wp2_with fail
  refine (CK2.out _ HL2.out).mono ?_
  rintro e w3 ⟨rfl, hb3⟩
  have HB3 := Lib.hid (HB2.out.trans (hb3.mono HB2.out.size))
  have HL3 := Lib.hid (HL.out.below HB3.out h4)
  clear hb3
  go_wp2_with fail
  refine (CS2.out _ HL3.out).mono ?_
  rintro e w4 ⟨rfl, hb4⟩
  have HB4 := Lib.hid (HB3.out.trans (hb4.mono HB3.out.size))
  clear hb4
  go_wp2
  go_ret
  exact ⟨rfl, HB4.out⟩
end Go.Proofs.YtfjpbkdijglfdaaDoor
