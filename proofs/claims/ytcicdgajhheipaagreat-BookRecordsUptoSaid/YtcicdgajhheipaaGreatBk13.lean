import Derived.Test.YtcicdgajhheipaaGreatBk12
set_option linter.unusedVariables false
namespace Go.Proofs.YtcicdgajhheipaaGreat
open Go.RowKit
/-- Is there such a key? -/
def keyOk (s k n : Int) : Prop := 0 ≤ s ∧ 1 ≤ k ∧ k ≤ 255 ∧ 0 ≤ n
set_option maxHeartbeats 1000000 in
theorem key_bad (s k n : Int) (h : ¬ keyOk s k n) (w : World) : Calls Tryz.prog 59 #[.int .i64 s, .int .i64 k, .int .i64 n] w fun e w' => e = .returned (.tuple #[.string ⟨#[]⟩, .int .i64 10]) ∧ w = w' := by
  unfold keyOk at h
  go_enter Tryz.func59, Tryz.ntmps59
  rcases Int.lt_or_le s 0 with a | a <;> rcases Int.lt_or_le k 1 with b | b <;> rcases Int.lt_or_le 255 k with c | c <;> rcases Int.lt_or_le n 0 with d | d
  all_goals (try (exfalso; omega))
  all_goals (clear h; go_wp2_with fail; go_ret2; exact ⟨rfl, rfl⟩)
set_option maxHeartbeats 1000000 in
theorem refKey_bad (s k n : Int) (h : ¬ keyOk s k n) (w : World) : Calls Tryz.prog 38 #[.int .i64 s, .int .i64 k, .int .i64 n] w fun e w' => e = .returned (.tuple #[.string ⟨#[]⟩, .int .i64 10]) ∧ w = w' := by
  unfold keyOk at h
  go_enter Tryz.func38, Tryz.ntmps38
  rcases Int.lt_or_le s 0 with a | a <;> rcases Int.lt_or_le k 1 with b | b <;> rcases Int.lt_or_le 255 k with c | c <;> rcases Int.lt_or_le n 0 with d | d
  all_goals (try (exfalso; omega))
  all_goals (clear h; go_wp2_with fail; go_ret2; exact ⟨rfl, rfl⟩)
set_option maxHeartbeats 1000000 in
theorem frame_bad (k n : Int) (p : ByteArray) (h : ¬ (1 ≤ k ∧ k ≤ 255 ∧ 0 ≤ n)) (w : World) : Calls Tryz.prog 60 #[.int .i64 k, .int .i64 n, .string p] w fun e w' => e = .returned (.tuple #[.string ⟨#[]⟩, .int .i64 10]) ∧ w = w' := by
  go_enter Tryz.func60, Tryz.ntmps60
  rcases Int.lt_or_le k 1 with b | b <;> rcases Int.lt_or_le 255 k with c | c <;> rcases Int.lt_or_le n 0 with d | d
  all_goals (try (exfalso; omega))
  all_goals (clear h; go_wp2_with fail; go_ret2; exact ⟨rfl, rfl⟩)
set_option maxHeartbeats 1000000 in
theorem refFrame_bad (k n : Int) (p : ByteArray) (h : ¬ (1 ≤ k ∧ k ≤ 255 ∧ 0 ≤ n)) (w : World) : Calls Tryz.prog 37 #[.int .i64 k, .int .i64 n, .string p] w fun e w' => e = .returned (.tuple #[.string ⟨#[]⟩, .int .i64 10]) ∧ w = w' := by
  go_enter Tryz.func37, Tryz.ntmps37
  rcases Int.lt_or_le k 1 with b | b <;> rcases Int.lt_or_le 255 k with c | c <;> rcases Int.lt_or_le n 0 with d | d
  all_goals (try (exfalso; omega))
  all_goals (clear h; go_wp2_with fail; go_ret2; exact ⟨rfl, rfl⟩)
theorem frame_big (k n : Int) (p : ByteArray) (k1 : 1 ≤ k) (k2 : k ≤ 255) (n0 : 0 ≤ n) (hp : 524288 < (p.size : Int)) (w : World) : Calls Tryz.prog 60 #[.int .i64 k, .int .i64 n, .string p] w fun e w' => e = .returned (.tuple #[.string ⟨#[]⟩, .int .i64 121]) ∧ w = w' := by
  go_enter Tryz.func60, Tryz.ntmps60
  go_wp2_with fail
  go_ret2
  exact ⟨rfl, rfl⟩
theorem refFrame_big (k n : Int) (p : ByteArray) (k1 : 1 ≤ k) (k2 : k ≤ 255) (n0 : 0 ≤ n) (hp : 524288 < (p.size : Int)) (w : World) : Calls Tryz.prog 37 #[.int .i64 k, .int .i64 n, .string p] w fun e w' => e = .returned (.tuple #[.string ⟨#[]⟩, .int .i64 121]) ∧ w = w' := by
  go_enter Tryz.func37, Tryz.ntmps37
  go_wp2_with fail
  go_ret2
  exact ⟨rfl, rfl⟩
theorem belowAlloc {w x : World} (h : Below w.heap.size w x) (o : Obj) : Below w.heap.size w (x.alloc o) := h.alloc h.size o
theorem belowDrew {w x : World} (h : Below w.heap.size w x) : Below w.heap.size w x.drew := h.drew
theorem refBig_any (V z : Int) (hz : (z = 8 ∧ 0 ≤ V ∧ V ≤ 9223372036854775807) ∨ (z = 4 ∧ 0 ≤ V ∧ V < 4294967296)) (w : World) :
    Calls Tryz.prog 67 #[.int .i64 V, .int .i64 z] w fun e w' => e = .returned (.string (beZ z V)) ∧ Below w.heap.size w w' := by
  rcases hz with ⟨rfl, h⟩ | ⟨rfl, h⟩
  · exact refBig_calls V 8 (by omega) w
  · exact refBig_calls V 4 (by omega) w
theorem pref_be (s : Int) : (⟨#[66]⟩ : ByteArray) ++ beZ 8 s = prefZ s := rfl
set_option maxRecDepth 100000 in
set_option maxHeartbeats 2000000 in
theorem refKey_calls (s k n : Int) (h0 : 0 ≤ s) (h1 : s ≤ 9223372036854775807) (k1 : 1 ≤ k) (k2 : k ≤ 255) (n0 : 0 ≤ n) (n1 : n ≤ 9223372036854775807) (w : World) :
    Calls Tryz.prog 38 #[.int .i64 s, .int .i64 k, .int .i64 n] w fun e w' => e = .returned (.tuple #[.string (keyZ s k n), .int .i64 0]) ∧ Below w.heap.size w w' := by
  have hs := be_size8 n
  have hs' := be_size8 s
  have ho := one_size k
  have hk : IntKind.u8.wrap k = k := by rw [IntKind.wrap_u8]; omega
  have hcv : ∀ (w : World) (b : Nat), w.cell? ⟨b, 0, none⟩ = some (.int .u8 k) → (convert 87 9 (.slice (some ⟨b, 0, none⟩) 1 1)).run Tryz.prog w = .ok (.string (oneZ k)) w :=
    fun w b hc => run_convert_bytes_arg w 87 5 Tryz.underlying87 Tryz.underlying5 b 0 1 1 [k] rfl (fun i hi => by
      obtain rfl : i = 0 := by omega
      exact hc) 9 Tryz.underlying9
  go_enter Tryz.func38, Tryz.ntmps38
  go_wp2_with fail
  go_region_with (go_at_call 67; refine (refBig_calls _ 8 ?_ _).mono ?_ <;> first | omega | (rintro e w1 ⟨rfl, hb1⟩; obtain ⟨hc1, hf1⟩ := bcell hb1; have hz1 := hb1.size; try simp [Nat.add_one_le_iff] at hz1))
  all_goals go_wp2
  all_goals go_ret2
  all_goals refine ⟨rfl, ?_⟩
  all_goals (repeat (first | exact Below.refl _ _ | refine belowThen ?_ (by assumption) | refine belowAlloc ?_ _ | refine belowDrew ?_))
set_option maxRecDepth 100000 in
set_option maxHeartbeats 2000000 in
theorem refFrame_calls (k n : Int) (p : ByteArray) (k1 : 1 ≤ k) (k2 : k ≤ 255) (n0 : 0 ≤ n) (n1 : n ≤ 9223372036854775807) (hp : p.size ≤ 524288) (w : World) : Calls Tryz.prog 37 #[.int .i64 k, .int .i64 n, .string p] w fun e w' => e = .returned (.tuple #[.string (frameZ k n p), .int .i64 0]) ∧ Below w.heap.size w w' := by
  have hk : IntKind.u8.wrap k = k := by rw [IntKind.wrap_u8]; omega
  have hcv : ∀ (w : World) (b : Nat), w.cell? ⟨b, 0, none⟩ = some (.int .u8 k) → (convert 87 9 (.slice (some ⟨b, 0, none⟩) 1 1)).run Tryz.prog w = .ok (.string (oneZ k)) w :=
    fun w b hc => run_convert_bytes_arg w 87 5 Tryz.underlying87 Tryz.underlying5 b 0 1 1 [k] rfl (fun i hi => by
      obtain rfl : i = 0 := by omega
      exact hc) 9 Tryz.underlying9
  have s1 := one_size k
  have s8 := be_size8 n
  have s4 := be_size4 p.size
  have hbe : (⟨#[165]⟩ : ByteArray) ++ oneZ k ++ beZ 8 n ++ beZ 4 p.size ++ p = bodyZ k n p := rfl
  have hbs := body_size k n p
  have sum4 := be_size4 (crcZ (bodyZ k n p) : Nat)
  have HB := Lib.hid hbe
  clear hbe
  go_enter Tryz.func37, Tryz.ntmps37
  go_wp2_with fail
  go_region_with (go_at_call 67; refine (refBig_any _ _ ?_ _).mono ?_ <;> first | omega | (rintro e w1 ⟨rfl, hb1⟩; obtain ⟨hc1, hf1⟩ := bcell hb1; have hz1 := hb1.size; try simp [Nat.add_one_le_iff] at hz1))
  all_goals (try rw [HB.out])
  all_goals go_wp2_with (go_at_call 74; refine (refSum_calls _ ?_ _).mono ?_ <;> first | omega | (rintro e w2 ⟨rfl, hb2⟩))
  all_goals go_ret2
  all_goals refine ⟨rfl, ?_⟩
  all_goals (repeat (first | exact Below.refl _ _ | refine belowThen ?_ (by assumption) | refine belowAlloc ?_ _ | refine belowDrew ?_))
end Go.Proofs.YtcicdgajhheipaaGreat
