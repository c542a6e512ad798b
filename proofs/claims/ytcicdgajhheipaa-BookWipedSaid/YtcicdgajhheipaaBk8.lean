import Derived.Test.YtcicdgajhheipaaBk7
import Derived.Deep.RegionHeld3
set_option linter.unusedVariables false
namespace Go.Proofs.Ytcicdgajhheipaa
open Go.RowKit
set_option maxRecDepth 100000 in
set_option maxHeartbeats 1000000 in
theorem doubt9_calls (b : ByteArray) (hbs : b.size < 9223372036854775807) (h4 : 18 ≤ b.size) (w : World) : Calls Try.prog 62 #[headZ b] w fun e w' => e = .returned (.bool (wrongZ b 8)) ∧ Below w.heap.size w w' := by
  have k1 := kF_lt b
  have n1 := nF_lt b
  have l1 := lF_lt b
  unfold headZ
  obtain ⟨o, ho⟩ : ∃ o, b.size = o + 4 := ⟨b.size - 4, by omega⟩
  have hw : IntKind.i64.wrap (o : Int) = (o : Int) := IntWalk.i64_in _ (by omega)
  have hw2 : ((b.size : Int) - 4) = (o : Int) := by omega
  have he : (b.extract 0 o).size < 9223372036854775807 := by rw [ByteArray.size_extract]; omega
  have ho4 : o + 4 ≤ b.size := by omega
  have ho5 : (o : Int) ≤ b.size := by omega
  have ho6 : o ≤ b.size := by omega
  have hoN : (o : Int).toNat = o := by omega
  have hg : wrongZ b 8 = ((rdN b o 4 : Int) != (crcZ (b.extract 0 o) : Int)) := by rw [wrongZ, show b.size - 4 = o by omega]
  have HG := Lib.hid hg
  clear hg
  rw [HG.out]
  clear ho h4 HG
  go_enter Try.func62, Try.ntmps62
  go_wp2_with fail
  go_region_held3 (fun w' => w'.cell? ⟨w.heap.size, 0, none⟩ = some (.string b) ∧ w.heap.size < w'.heap.size ∧ Below w.heap.size w w')
    (first
      | (refine ⟨?_, ?_, ((Below.refl _ _).alloc (Nat.le_refl _) _).drew⟩ <;> simp)
      | (go_split_ands; refine ⟨(Below.cell (p := ⟨w.heap.size, 0, none⟩) hb1 ?_).trans ?_, Nat.lt_of_lt_of_le ?_ hb1.size, belowThen ?_ hb1⟩ <;> assumption)
      | go_keep)
    (first | (go_at_call 53; refine (big32_calls b o ho4 hbs _).mono ?_; rintro e w1 ⟨rfl, rfl⟩) | (go_at_call 30; refine (crc_calls _ he _).mono ?_; rintro e w1 ⟨rfl, hb1⟩))
  go_wp2
  go_ret
  go_split_ands
  exact ⟨rfl, by assumption⟩
set_option maxHeartbeats 1000000 in
theorem doubt_calls (b : ByteArray) (hbs : b.size < 9223372036854775807) (j : Nat) (hj : j < 9) (hbe : ∀ i, i < j → wrongZ b i = false) (w : World) : Calls Try.prog (54 + j) #[headZ b] w fun e w' => e = .returned (.bool (wrongZ b j)) ∧ Below w.heap.size w w' := by
  have k1 := kF_lt b
  have n1 := nF_lt b
  have l1 := lF_lt b
  unfold headZ
  have hc : j = 0 ∨ j = 1 ∨ j = 2 ∨ j = 3 ∨ j = 4 ∨ j = 5 ∨ j = 6 ∨ j = 7 ∨ j = 8 := by omega
  rcases hc with rfl | rfl | rfl | rfl | rfl | rfl | rfl | rfl | rfl
  · clear hbe
    go_enter Try.func54, Try.ntmps54
    go_wp2
    go_ret
    exact ⟨rfl, (Below.refl _ _).alloc (Nat.le_refl _) _⟩
  · have h0 : 0 < b.size := by
      have := hbe 0 (by omega)
      simp only [wrongZ, beq_eq_false_iff_ne] at this
      omega
    have he : b.data.toList.getD 0 0 = b[0] := by
      rw [List.getD_eq_getElem?_getD, List.getElem?_eq_getElem (by simpa using h0)]; rfl
    have hg : wrongZ b 1 = ((b[0].toNat : Int) != 165) := by rw [wrongZ, he]
    have HG := Lib.hid hg
    clear hbe he hg
    go_enter Try.func55, Try.ntmps55
    go_wp2
    go_ret
    rw [HG.out]
    exact ⟨rfl, (Below.refl _ _).alloc (Nat.le_refl _) _⟩
  · clear hbe
    go_enter Try.func56, Try.ntmps56
    go_wp2
    go_ret
    exact ⟨rfl, (Below.refl _ _).alloc (Nat.le_refl _) _⟩
  · clear hbe
    go_enter Try.func57, Try.ntmps57
    go_wp2
    go_ret
    exact ⟨rfl, (Below.refl _ _).alloc (Nat.le_refl _) _⟩
  · clear hbe
    go_enter Try.func58, Try.ntmps58
    go_wp2
    go_ret
    exact ⟨rfl, (Below.refl _ _).alloc (Nat.le_refl _) _⟩
  · clear hbe
    go_enter Try.func59, Try.ntmps59
    go_wp2
    go_ret
    exact ⟨rfl, (Below.refl _ _).alloc (Nat.le_refl _) _⟩
  · clear hbe
    go_enter Try.func60, Try.ntmps60
    go_wp2
    go_ret
    exact ⟨rfl, (Below.refl _ _).alloc (Nat.le_refl _) _⟩
  · clear hbe
    go_enter Try.func61, Try.ntmps61
    go_wp2
    go_ret
    exact ⟨rfl, (Below.refl _ _).alloc (Nat.le_refl _) _⟩
  · have h4 : 18 ≤ b.size := by
      have := hbe 6 (by omega)
      simp only [wrongZ, decide_eq_false_iff_not] at this
      omega
    clear hbe
    exact doubt9_calls b hbs h4 w
end Go.Proofs.Ytcicdgajhheipaa
