import Derived.Test.YtfjpbkdijglfdaaDoorPrm3
set_option linter.unusedVariables false
namespace Go.Proofs.YtfjpbkdijglfdaaDoor
open Go.RowKit
theorem bcell {W w1 : World} (hb : Below W.heap.size W w1) : (∀ b o, b < W.heap.size → w1.cell? ⟨b, o, none⟩ = W.cell? ⟨b, o, none⟩) ∧ (∀ b o, b < W.heap.size → w1.frozen? ⟨b, o, none⟩ = W.frozen? ⟨b, o, none⟩) :=
  ⟨fun b o h => hb.cell (p := ⟨b, o, none⟩) h, fun b o h => hb.frozen (p := ⟨b, o, none⟩) h⟩
/-- Was the promise given? -/
def promZ (h m X Y : ByteArray) : Bool := (h.toList == X.toList) && (m.toList == Y.toList)
theorem sameZ_eq (a b : ByteArray) : sameZ a b = (a.toList == b.toList) := by
  unfold sameZ
  rw [ByteArray.toList_eq, ByteArray.toList_eq, Bool.eq_iff_iff, beq_iff_eq, decide_eq_true_iff]
set_option maxRecDepth 100000 in
set_option maxHeartbeats 2000000 in
theorem refpromised_calls (s l h m : ByteArray) (T D : Int) (hs : s.size ≤ 1048576) (hls : l.size ≤ 1048576) (hh : h.size ≤ 1048576) (t0 : -9223372036854775808 ≤ T) (t1 : T ≤ 9223372036854775807) (d0 : -9223372036854775808 ≤ D) (d1 : D ≤ 9223372036854775807) (w : World) (hL : Laid w) :
    Calls Tryd.prog 5 #[.string s, .string l, .agg #[.string h, .int .i64 T, .int .i64 D, .string m]] w fun e w' => e = .returned (.bool (promZ h m ⟨(shaZ l.data.toList).toArray⟩ ⟨(codeZ s.data.toList h.data.toList T D).toArray⟩)) ∧ Below w.heap.size w w' := by
  have h4 := hL.size
  have cS := fun w hL => refsum_calls l w hL (by omega)
  have cC := fun w hL => refcode_calls s h m T D hs hh t0 t1 d0 d1 w hL
  obtain ⟨X, hX⟩ : ∃ X : ByteArray, X = ⟨(shaZ l.data.toList).toArray⟩ := ⟨_, rfl⟩
  obtain ⟨Y, hY⟩ : ∃ X : ByteArray, X = ⟨(codeZ s.data.toList h.data.toList T D).toArray⟩ := ⟨_, rfl⟩
  simp only [← hX] at cS
  simp only [← hY] at cC
  rw [← hX, ← hY]
  have CS := Lib.hid cS
  have CC := Lib.hid cC
  have HL := Lib.hid hL
  clear cS cC hX hY hL
  have hp : promZ h m X Y = ((h.toList == X.toList) && (m.toList == Y.toList)) := rfl
  have HB0 := Lib.hid ((Below.refl w.heap.size w).alloc (Nat.le_refl _) (.cells #[.string h, .int .i64 T, .int .i64 D, .string m] 23))
  cases e1 : (h.toList == X.toList) <;> cases e2 : (m.toList == Y.toList)
  all_goals
    rw [e1, e2] at hp
    have HP := Lib.hid hp
    clear hp
    go_enter Tryd.func5, Tryd.ntmps5
    go_wp2_with fail
    refine (CS.out _ (HL.out.below HB0.out h4)).mono ?_
    rintro e w1 ⟨rfl, hb1⟩
    obtain ⟨hc1, hf1⟩ := bcell hb1
    have hz1 : w.heap.size < w1.heap.size := by have := hb1.size; simp at this; omega
    have HB1 := Lib.hid (HB0.out.trans (hb1.mono (by simp)))
    clear hb1
    go_wp2_with fail
    refine (CC.out _ (HL.out.below HB1.out h4)).mono ?_
    rintro e w2 ⟨rfl, hb2⟩
    obtain ⟨hc2, hf2⟩ := bcell hb2
    have HB2 := Lib.hid (HB1.out.trans (hb2.mono (by omega)))
    clear hb2
    go_wp2
    go_ret
    exact ⟨by rw [HP.out]; rfl, HB2.out⟩
set_option maxRecDepth 100000 in
set_option maxHeartbeats 2000000 in
theorem promised_calls (s l h m : ByteArray) (T D : Int) (hs : s.size ≤ 1048576) (hls : l.size ≤ 1048576) (hh : h.size ≤ 1048576) (hm : m.size ≤ 1048576) (t0 : -9223372036854775808 ≤ T) (t1 : T ≤ 9223372036854775807) (d0 : -9223372036854775808 ≤ D) (d1 : D ≤ 9223372036854775807) (w : World) (hL : Laid w) :
    Calls Tryd.prog 4 #[.string s, .string l, .agg #[.string h, .int .i64 T, .int .i64 D, .string m]] w fun e w' => e = .returned (.bool (promZ h m ⟨(shaZ l.data.toList).toArray⟩ ⟨(codeZ s.data.toList h.data.toList T D).toArray⟩)) ∧ Below w.heap.size w w' := by
  have h4 := hL.size
  have cS := fun w hL => shasum_calls l w hL (by omega)
  have cC := fun w hL => code_calls s h m T D hs hh t0 t1 d0 d1 w hL
  obtain ⟨X, hX⟩ : ∃ X : ByteArray, X = ⟨(shaZ l.data.toList).toArray⟩ := ⟨_, rfl⟩
  obtain ⟨Y, hY⟩ : ∃ X : ByteArray, X = ⟨(codeZ s.data.toList h.data.toList T D).toArray⟩ := ⟨_, rfl⟩
  have ysz : Y.size ≤ 32 := by rw [hY, mk_size, codeZ, macZ_len]; omega
  simp only [← hX] at cS
  simp only [← hY] at cC
  rw [← hX, ← hY]
  have cM := fun w => same_calls m Y (by omega) (by omega) w
  simp only [sameZ_eq] at cM
  have hp : promZ h m X Y = ((h.toList == X.toList) && (m.toList == Y.toList)) := rfl
  have CS := Lib.hid cS
  have CC := Lib.hid cC
  have HB0 := Lib.hid ((Below.refl w.heap.size w).alloc (Nat.le_refl _) (.cells #[.string h, .int .i64 T, .int .i64 D, .string m] 23))
  have HLd := Lib.hid (hL.below HB0.out.drew h4)
  have HL := Lib.hid hL
  clear cS cC hX hY hL
  cases e1 : (h.toList == X.toList) <;> cases e2 : (m.toList == Y.toList)
  all_goals
    rw [e1, e2] at hp
    rw [e2] at cM
    have CM := Lib.hid cM
    have HP := Lib.hid hp
    clear hp cM
    go_enter Tryd.func4, Tryd.ntmps4
    go_wp2_with fail
    first | (go_region_with (first
      | (go_at_call 7; (with_reducible refine (CS.out _ HLd.out).mono ?_); rintro e w1 ⟨rfl, hb1⟩
         obtain ⟨hc1, hf1⟩ := bcell hb1
         have hz1 : w.heap.size < w1.heap.size := by have := hb1.size; simp at this; omega
         have HB1 := Lib.hid (HB0.out.drew.trans (hb1.mono (by simp)))
         have HL1 := Lib.hid (HL.out.below HB1.out h4)
         clear hb1)
      | (go_at_call 9; (with_reducible refine (CC.out _ HL1.out).mono ?_); rintro e w2 ⟨rfl, hb2⟩
         obtain ⟨hc2, hf2⟩ := bcell hb2
         have HB2 := Lib.hid (HB1.out.trans (hb2.mono (by omega)))
         clear hb2)
      | (go_at_call 8; (with_reducible refine (CM.out _).mono ?_); rintro e w3 ⟨rfl, hb3⟩; have HB3 := Lib.hid (HB2.out.trans (hb3.mono HB2.out.size)); clear hb3))) | fail
    all_goals go_wp2
    all_goals go_ret
    all_goals first
      | exact ⟨by rw [HP.out]; rfl, HB3.out⟩
      | exact ⟨by rw [HP.out]; rfl, HB1.out⟩
end Go.Proofs.YtfjpbkdijglfdaaDoor
