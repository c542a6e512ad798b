import Derived.Test.YtfjpbkdijglfdaaDoorPrm4
set_option linter.unusedVariables false
namespace Go.Proofs.YtfjpbkdijglfdaaDoor
open Go.RowKit
set_option maxRecDepth 100000 in
set_option maxHeartbeats 2000000 in
theorem queuePromised_walk (s l h m : ByteArray) (T D : Int) (hs : s.size ≤ 1048576) (hls : l.size ≤ 1048576) (hh : h.size ≤ 1048576) (hm : m.size ≤ 1048576) (t0 : -9223372036854775808 ≤ T) (t1 : T ≤ 9223372036854775807) (d0 : -9223372036854775808 ≤ D) (d1 : D ≤ 9223372036854775807) (w : World) (hL : Laid w) :
    Calls Tryd.prog 3 #[.string s, .string l, .agg #[.string h, .int .i64 T, .int .i64 D, .string m]] w fun e w' => e = .returned (.bool true) ∧ Below w.heap.size w w' := by
  have h4 := hL.size
  have cA := fun m hm w hL => promised_calls s l h m T D hs hls hh hm t0 t1 d0 d1 w hL
  have cB := fun m w hL => refpromised_calls s l h m T D hs hls hh t0 t1 d0 d1 w hL
  have cC := fun m w hL => refcode_calls s h m T D hs hh t0 t1 d0 d1 w hL
  obtain ⟨X, hX⟩ : ∃ X : ByteArray, X = ⟨(shaZ l.data.toList).toArray⟩ := ⟨_, rfl⟩
  obtain ⟨Y, hY⟩ : ∃ X : ByteArray, X = ⟨(codeZ s.data.toList h.data.toList T D).toArray⟩ := ⟨_, rfl⟩
  have ysz : Y.size ≤ 1048576 := by rw [hY, mk_size, codeZ, macZ_len]; omega
  simp only [← hX, ← hY] at cA cB
  simp only [← hY] at cC
  obtain ⟨b1, hb1⟩ : ∃ b, promZ h m X Y = b := ⟨_, rfl⟩
  obtain ⟨b2, hb2⟩ : ∃ b, promZ h Y X Y = b := ⟨_, rfl⟩
  have cA1 := cA m hm
  have cA2 := cA Y ysz
  have cB1 := cB m
  have cB2 := cB Y
  have cC1 := cC m
  simp only [hb1] at cA1 cB1
  simp only [hb2] at cA2 cB2
  have CA1 := Lib.hid cA1
  have CA2 := Lib.hid cA2
  have CB1 := Lib.hid cB1
  have CB2 := Lib.hid cB2
  have CC1 := Lib.hid cC1
  have HB0 := Lib.hid ((Below.refl w.heap.size w).alloc (Nat.le_refl _) (.cells #[.string h, .int .i64 T, .int .i64 D, .string m] 23))
  have HL := Lib.hid hL
  clear cA cB cC cA1 cA2 cB1 cB2 cC1 hX hY hb1 hb2 hL
  go_enter Tryd.func3, Tryd.ntmps3
  go_wp2_with fail
  refine (CA1.out _ (HL.out.below HB0.out h4)).mono ?_
  rintro e w1 ⟨rfl, hb1⟩
  obtain ⟨hc1, hf1⟩ := bcell hb1
  have hz1 : w.heap.size < w1.heap.size := by have := hb1.size; simp at this; omega
  have HB1 := Lib.hid (HB0.out.trans (hb1.mono (by simp)))
  clear hb1
  go_wp2_with fail
  refine (CB1.out _ (HL.out.below HB1.out h4)).mono ?_
  rintro e w2 ⟨rfl, hb2⟩
  obtain ⟨hc2, hf2⟩ := bcell hb2
  have hz2 : w.heap.size < w2.heap.size := by have := hb2.size; omega
  have HB2 := Lib.hid (HB1.out.trans (hb2.mono (by omega)))
  clear hb2
  go_wp2_with fail
  refine (CC1.out _ (HL.out.below HB2.out h4)).mono ?_
  rintro e w3 ⟨rfl, hb3⟩
  obtain ⟨hc3, hf3⟩ := bcell hb3
  have hz3 : w.heap.size < w3.heap.size := by have := hb3.size; omega
  have HB3 := Lib.hid (HB2.out.trans (hb3.mono (by omega)))
  clear hb3
  go_wp2_with fail
  have HB4 := Lib.hid (HB3.out.setCell (p := ⟨w.heap.size, 3, none⟩) (Nat.le_refl _) (.string Y))
  refine (CA2.out _ (HL.out.below HB4.out h4)).mono ?_
  rintro e w5 ⟨rfl, hb5⟩
  have hs5 : (w3.setCell ⟨w.heap.size, 3, none⟩ (.string Y)).heap.size = w3.heap.size := by simp [World.setCell]
  obtain ⟨hc5, hf5⟩ := bcell hb5
  rw [hs5] at hc5 hf5
  have hz5 : w.heap.size < w5.heap.size := by have := hb5.size; omega
  have HB5 := Lib.hid (HB4.out.trans (hb5.mono (by omega)))
  clear hb5
  go_wp2_with fail
  refine (CB2.out _ (HL.out.below HB5.out h4)).mono ?_
  rintro e w6 ⟨rfl, hb6⟩
  have HB6 := Lib.hid (HB5.out.trans (hb6.mono (by omega)))
  clear hb6
  go_wp2
  go_ret
  exact ⟨rfl, HB6.out⟩
end Go.Proofs.YtfjpbkdijglfdaaDoor
