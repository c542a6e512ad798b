import Derived.Test.YtpddnbkmiogheaaRs9
import Derived.Test.YtpddnbkmiogheaaSp4
set_option linter.unusedVariables false
namespace Go.Proofs.Ytpddnbkmiogheaa
open Go.RowKit Go.WideMaps Go.Maps Go.MapKept
/-- A store that was just laid. -/
theorem rsf_new (w : World) (c : Int) : RSF (w.alloc (.cells #[.int .i64 c, .slice none 0 0, .slice none 0 0, .bool false, .int .i64 0, .int .i64 0, .slice none 0 0] 101)) w.heap.size (.slice none 0 0) (.slice none 0 0) (.slice none 0 0) (newF c) := by
  have hc : ∀ j, (w.alloc (.cells #[.int .i64 c, .slice none 0 0, .slice none 0 0, .bool false, .int .i64 0, .int .i64 0, .slice none 0 0] 101)).cell? ⟨w.heap.size, j, none⟩ = _ := fun j => World.cell?_alloc_new w _ _ j
  exact ⟨hc 0, hc 1, hc 2, hc 3, hc 4, hc 5, hc 6, fun j => World.frozen?_alloc_new w _ _ j, RecL.nil _, RecL.nil _, Row.nil _ 0 3, fun e => (by cases e), fun e => (by cases e), fun k hk => (by cases hk), by simp⟩
theorem rnew_no (c : Int) (hc : goesB c = false) (w : World) : Calls Try.prog 31 #[.int .i64 c] w fun e w' => e = .returned (.pointer none) ∧ w = w' := by
  have hcc : c < 0 ∨ (0 ≤ c ∧ 1073741824 < c) := by
    unfold goesB at hc
    simp only [decide_eq_false_iff_not] at hc
    omega
  clear hc
  rcases hcc with h | ⟨h0, h⟩
  · go_enter Try.func31, Try.ntmps31
    go_wp2
    go_ret
    exact ⟨rfl, rfl⟩
  · go_enter Try.func31, Try.ntmps31
    go_wp2
    go_ret
    exact ⟨rfl, rfl⟩
theorem rnew_yes (c : Int) (hc : goesB c = true) (w : World) : Calls Try.prog 31 #[.int .i64 c] w fun e w' => e = .returned (.pointer (some ⟨w.heap.size, 0, none⟩)) ∧ RSF w' w.heap.size (.slice none 0 0) (.slice none 0 0) (.slice none 0 0) (newF c) ∧ Below w.heap.size w w' := by
  have hcc : 0 ≤ c ∧ c ≤ 1073741824 := of_decide_eq_true hc
  have HN := Lib.hid (rsf_new w c)
  obtain ⟨h0, h1⟩ := hcc
  clear hc
  go_enter Try.func31, Try.ntmps31
  go_wp2
  go_ret
  exact ⟨rfl, HN.out, (Below.refl _ _).alloc (Nat.le_refl _) _⟩
def rdP (b : ByteArray) (p : Nat) : Nat → Nat
  | 0 => 0
  | k + 1 => 256 * rdP b p k + (b.data.toList.getD (p + k) 0).toNat
theorem rdP_lt (b : ByteArray) (p : Nat) : ∀ k, rdP b p k < 256 ^ k
  | 0 => by simp [rdP]
  | k + 1 => by
    have ih := rdP_lt b p k
    have h := (b.data.toList.getD (p + k) 0).toNat_lt
    rw [rdP, Nat.pow_succ]
    omega
theorem rdP_num (b : ByteArray) (p : Nat) (h : p + 4 ≤ b.size) : num4 (b.data.toList.drop p) = rdP b p 4 := by
  have hl : b.data.toList.length = b.size := by simp
  have e : ∀ j, j < 4 → (b.data.toList.getD (p + j) 0) = (b.data.toList.drop p).getD j 0 := fun j hj => by
    rw [List.getD_eq_getElem?_getD, List.getD_eq_getElem?_getD, List.getElem?_drop]
  have hd : (b.data.toList.drop p).length = b.size - p := by rw [List.length_drop, hl]
  simp only [rdP]
  rw [show p + 0 = p + 0 from rfl, e 0 (by omega), e 1 (by omega), e 2 (by omega), e 3 (by omega)]
  match hx : b.data.toList.drop p with
  | [] => rw [hx] at hd; simp at hd; omega
  | [_] => rw [hx] at hd; simp at hd; omega
  | [_, _] => rw [hx] at hd; simp at hd; omega
  | [_, _, _] => rw [hx] at hd; simp at hd; omega
  | x :: y :: z :: t :: r => simp [num4, beN4]; omega
set_option maxRecDepth 100000 in
set_option maxHeartbeats 2000000 in
theorem rnumber_calls (b : ByteArray) (p : Nat) (hp : p + 4 ≤ b.size) (hb : b.size ≤ 4398046511104) (w : World) : Calls Try.prog 90 #[.string b, .int .i64 p] w fun e w' => e = .returned (.int .i64 (num4 (b.data.toList.drop p) : Nat)) ∧ w = w' := by
  rw [rdP_num b p hp]
  go_enter Try.func90, Try.ntmps90
  go_wp2
  go_loop [5, 6] (fun v i => ∃ (k r : Nat), k ≤ 4 ∧ i = .int .i64 k ∧ v = .int .i64 r ∧ r = rdP b p k) (fun _ i => 4 - (intOf i).toNat)
  case atStart => exact ⟨0, 0, by omega, rfl, rfl, rfl⟩
  case round =>
    obtain ⟨k, r, hk, rfl, rfl, hR⟩ := hrel
    have HR := Lib.hid hR
    by_cases hlt : k < 4
    · have hr : r < 16777216 := by
        have h1 := rdP_lt b p k
        have h2 : 256 ^ k ≤ 256 ^ 3 := Nat.pow_le_pow_right (by omega) (by omega)
        rw [show (256 : Nat) ^ 3 = 16777216 by decide] at h2
        omega
      clear hR
      have hin : p + k < b.size := by omega
      have hy : b[p + k].toNat < 256 := b[p + k].toNat_lt
      have hnat : ((p : Int) + k).toNat = p + k := by omega
      have hini : (p : Int) + k < b.size := by omega
      go_wp2
      go_round
      case rel =>
        refine ⟨k + 1, 256 * r + b[p + k].toNat, by omega, by go_num, by go_num, ?_⟩
        rw [rdP, ← HR.out, List.getD_eq_getElem?_getD, List.getElem?_eq_getElem (by simpa using hin)]
        rfl
      case measure => simp [intOf]; omega
    · obtain rfl : k = 4 := by omega
      clear hR
      go_wp2
      go_ret
      rw [HR.out]
      exact ⟨rfl, rfl⟩
end Go.Proofs.Ytpddnbkmiogheaa
