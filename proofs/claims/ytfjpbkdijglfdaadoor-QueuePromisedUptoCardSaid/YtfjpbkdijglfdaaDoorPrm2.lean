import Derived.Test.YtfjpbkdijglfdaaDoorPrm1
import Derived.Deep.RegionHeld3
set_option linter.unusedVariables false
namespace Go.Proofs.YtfjpbkdijglfdaaDoor
open Go.RowKit
def wordP : ByteArray := ⟨#[112, 114, 111, 109, 105, 115, 101, 10]⟩
/-- What a promise's code is of. -/
def ptextZ (H : List UInt8) (T D : Int) : List UInt8 := wordP.data.toList ++ hexZ H ++ [10] ++ decZ T ++ [10] ++ decZ D ++ [10]
def codeZ (secret H : List UInt8) (T D : Int) : List UInt8 := macZ secret (ptextZ H T D)
theorem belowThen {w w1 w2 : World} (h : Below w.heap.size w w1) (k : Below w1.heap.size w1 w2) : Below w.heap.size w w2 := h.trans (k.mono h.size)
set_option maxRecDepth 100000 in
set_option maxHeartbeats 1000000 in
theorem code_calls (s h m : ByteArray) (T D : Int) (hs : s.size ≤ 1048576) (hh : h.size ≤ 1048576) (t0 : -9223372036854775808 ≤ T) (t1 : T ≤ 9223372036854775807) (d0 : -9223372036854775808 ≤ D) (d1 : D ≤ 9223372036854775807) (w : World) (hL : Laid w) :
    Calls Tryd.prog 9 #[.string s, .agg #[.string h, .int .i64 T, .int .i64 D, .string m]] w fun e w' => e = .returned (.string ⟨(codeZ s.data.toList h.data.toList T D).toArray⟩) ∧ Below w.heap.size w w' := by
  have h4 := hL.size
  have hl : h.data.toList.length = h.size := by simp
  have cH := fun w => hex_calls h (by omega) w
  have cT := fun w => dec_calls T t0 t1 w
  have cD := fun w => dec_calls D d0 d1 w
  obtain ⟨x, hx⟩ : ∃ x : ByteArray, x = ⟨(hexZ h.data.toList).toArray⟩ := ⟨_, rfl⟩
  obtain ⟨a, ha⟩ : ∃ x : ByteArray, x = ⟨(decZ T).toArray⟩ := ⟨_, rfl⟩
  obtain ⟨b, hb⟩ : ∃ x : ByteArray, x = ⟨(decZ D).toArray⟩ := ⟨_, rfl⟩
  have xsz : x.size ≤ 2097152 := by rw [hx, mk_size, hexZ_len]; omega
  have asz : a.size ≤ 20 := by rw [ha, mk_size]; exact decZ_len T t0 t1
  have bsz : b.size ≤ 20 := by rw [hb, mk_size]; exact decZ_len D d0 d1
  simp only [← hx] at cH
  simp only [← ha] at cT
  simp only [← hb] at cD
  have e1 : (wordP ++ x ++ (⟨#[10]⟩ : ByteArray) ++ a ++ (⟨#[10]⟩ : ByteArray) ++ b ++ (⟨#[10]⟩ : ByteArray)).data.toList = ptextZ h.data.toList T D := by
    simp only [app_toList, hx, ha, hb, ptextZ]
  have cM := fun w hL => mac_calls s (wordP ++ x ++ (⟨#[10]⟩ : ByteArray) ++ a ++ (⟨#[10]⟩ : ByteArray) ++ b ++ (⟨#[10]⟩ : ByteArray)) w hL (by omega) (by
    have hw : wordP.size = 8 := rfl
    have h1 : (⟨#[10]⟩ : ByteArray).size = 1 := rfl
    simp only [ByteArray.size_append]; omega)
  rw [e1, show macZ s.data.toList (ptextZ h.data.toList T D) = codeZ s.data.toList h.data.toList T D from rfl] at cM
  unfold wordP at cM
  have CH := Lib.hid cH
  have CT := Lib.hid cT
  have CD := Lib.hid cD
  have CM := Lib.hid cM
  have HL := Lib.hid hL
  clear cH cT cD cM hL hx ha hb e1 hl
  have q1 : ¬ 9223372036854775807 < 8 + x.size := by omega
  have q2 : ¬ 9223372036854775807 < 8 + x.size + 1 := by omega
  have q3 : ¬ 9223372036854775807 < 8 + x.size + 1 + a.size := by omega
  have q4 : ¬ 9223372036854775807 < 8 + x.size + 1 + a.size + 1 := by omega
  have q5 : ¬ 9223372036854775807 < 8 + x.size + 1 + a.size + 1 + b.size := by omega
  have q6 : ¬ 9223372036854775807 < 8 + x.size + 1 + a.size + 1 + b.size + 1 := by omega
  go_enter Tryd.func9, Tryd.ntmps9
  go_wp2_with fail
  go_region_held3 (fun w' => w'.cell? ⟨w.heap.size, 0, none⟩ = some (.string h) ∧ w'.cell? ⟨w.heap.size, 1, none⟩ = some (.int .i64 T) ∧ w'.cell? ⟨w.heap.size, 2, none⟩ = some (.int .i64 D) ∧ w.heap.size < w'.heap.size ∧ Below w.heap.size w w')
    (first
      | (refine ⟨?_, ?_, ?_, ?_, ((Below.refl _ _).alloc (Nat.le_refl _) _).drew⟩ <;> simp)
      | (go_split_ands; refine ⟨(Below.cell (p := ⟨w.heap.size, 0, none⟩) hb1 ?_).trans ?_, (Below.cell (p := ⟨w.heap.size, 1, none⟩) hb1 ?_).trans ?_, (Below.cell (p := ⟨w.heap.size, 2, none⟩) hb1 ?_).trans ?_, Nat.lt_of_lt_of_le ?_ hb1.size, belowThen ?_ hb1⟩ <;> assumption)
      | go_keep)
    (first
      | (go_at_call 18; (with_reducible refine (CH.out _).mono ?_); rintro e w1 ⟨rfl, hb1⟩)
      | (go_at_call 19; (with_reducible refine (CT.out _).mono ?_); rintro e w1 ⟨rfl, hb1⟩)
      | (go_at_call 19; (with_reducible refine (CD.out _).mono ?_); rintro e w1 ⟨rfl, hb1⟩)
      | (go_at_call 17; go_split_ands; refine (CM.out _ (HL.out.below (B := w.heap.size) (by assumption) h4)).mono ?_; rintro e w1 ⟨rfl, hb1⟩))
  go_wp2
  go_ret
  go_split_ands
  exact ⟨rfl, by assumption⟩
end Go.Proofs.YtfjpbkdijglfdaaDoor
