import Derived.Test.YtkpfbjlbllpahaaDoorSha1
import Derived.WalkLawsBesides
import Derived.WalkSpells
set_option linter.unusedVariables false
namespace Go.Proofs.YtkpfbjlbllpahaaDoor
open Go.RowKit
theorem shor (v x : Nat) (hv : v < 16777216) (hx : x < 256) : bits BinOp.or IntKind.u32 ((v : Int) * 256) (x : Int) = ((v * 256 + x : Nat) : Int) := by
  rw [show (v : Int) * 256 = ((v * 256 : Nat) : Int) by omega, u32_or_nat _ _ (by omega) (by omega)]
  congr 1
  rw [show v * 256 = 2 ^ 8 * v by omega, ← Nat.two_pow_add_eq_or_of_lt (i := 8) (by omega) v]
/-- Four bytes, the highest first. -/
def beN (a b c d : Nat) : Nat := ((a * 256 + b) * 256 + c) * 256 + d
theorem word_val (x0 x1 x2 x3 : Nat) (r0 : x0 < 256) (r1 : x1 < 256) (r2 : x2 < 256) (r3 : x3 < 256) :
    bits BinOp.or IntKind.u32 (bits BinOp.or IntKind.u32 (bits BinOp.or IntKind.u32 ((x0 : Int) * 16777216) ((x1 : Int) * 65536)) ((x2 : Int) * 256)) (x3 : Int) = (beN x0 x1 x2 x3 : Nat) := by
  have e1 : bits BinOp.or IntKind.u32 ((x0 : Int) * 16777216) ((x1 : Int) * 65536) = (((x0 * 256 + x1) * 65536 : Nat) : Int) := by
    rw [show (x0 : Int) * 16777216 = ((x0 * 16777216 : Nat) : Int) by omega, show (x1 : Int) * 65536 = ((x1 * 65536 : Nat) : Int) by omega, u32_or_nat _ _ (by omega) (by omega)]
    congr 1
    rw [show x0 * 16777216 = 2 ^ 24 * x0 by omega, ← Nat.two_pow_add_eq_or_of_lt (i := 24) (by omega) x0]; omega
  have e2 : bits BinOp.or IntKind.u32 (((x0 * 256 + x1) * 65536 : Nat) : Int) ((x2 : Int) * 256) = ((((x0 * 256 + x1) * 256 + x2) * 256 : Nat) : Int) := by
    rw [show (x2 : Int) * 256 = ((x2 * 256 : Nat) : Int) by omega, u32_or_nat _ _ (by omega) (by omega)]
    congr 1
    rw [show (x0 * 256 + x1) * 65536 = 2 ^ 16 * (x0 * 256 + x1) by omega, ← Nat.two_pow_add_eq_or_of_lt (i := 16) (by omega) _]; omega
  rw [e1, e2, show ((((x0 * 256 + x1) * 256 + x2) * 256 : Nat) : Int) = (((x0 * 256 + x1) * 256 + x2 : Nat) : Int) * 256 by omega, shor _ _ (by omega) r3]
  rfl
/-- The number that bytes are. -/
def beL (l : List UInt8) : Nat := l.foldl (fun v x => v * 256 + x.toNat) 0
theorem beL_step (l : List UInt8) (k : Nat) (h : k < l.length) : beL (l.take (k + 1)) = beL (l.take k) * 256 + l[k].toNat := by
  rw [beL, List.take_add_one, List.getElem?_eq_getElem h, List.foldl_append]; rfl
theorem beL_lt : ∀ (l : List UInt8), beL l < 256 ^ l.length := by
  intro l
  have : ∀ (l : List UInt8) (v n : Nat), v < 256 ^ n → l.foldl (fun v x => v * 256 + x.toNat) v < 256 ^ (n + l.length) := by
    intro l
    induction l with
    | nil => intro v n h; simpa using h
    | cons x r ih =>
      intro v n h
      rw [List.foldl_cons, List.length_cons, show n + (r.length + 1) = (n + 1) + r.length by omega]
      refine ih _ _ ?_
      have := x.toNat_lt
      rw [Nat.pow_succ]; omega
  have h := this l 0 0 (by decide)
  rw [Nat.zero_add] at h; exact h
set_option maxRecDepth 100000 in
set_option maxHeartbeats 1000000 in
theorem number_calls (b : ByteArray) (hb : b.size = 4) (w : World) :
    Calls Tryd.prog 152 #[.string b] w fun e w' => e = .returned (.int .u32 (beL b.data.toList : Nat)) ∧ w = w' := by
  have hbl : b.data.toList.length = 4 := by rw [← hb]; simp
  go_enter Tryd.func152, Tryd.ntmps152
  go_wp2
  go_loop [3, 4, 7] (fun v _ i => ∃ (k : Nat) (R : Int), k ≤ 4 ∧ i = .int .i64 k ∧ v = .int .u32 R ∧ 0 ≤ R ∧ R ≤ 4294967295 ∧ Hid (R = (beL (b.data.toList.take k) : Nat))) (fun _ _ i => 4 - (intOf i).toNat)
  case atStart => exact ⟨0, 0, by omega, rfl, rfl, by omega, by omega, Lib.hid rfl⟩
  case round =>
    obtain ⟨k, R, hk, rfl, rfl, R0, R1, HR⟩ := hrel
    by_cases hlt : k < 4
    · have hkl : k < b.data.toList.length := by omega
      have hkb : k < b.size := by omega
      have hst := beL_step b.data.toList k hkl
      have hr : beL (b.data.toList.take k) < 16777216 := by
        have := beL_lt (b.data.toList.take k)
        rw [List.length_take, Nat.min_eq_left (by omega)] at this
        have : 256 ^ k ≤ 256 ^ 3 := Nat.pow_le_pow_right (by omega) (by omega)
        omega
      have hx : b[k] = b.data.toList[k] := by simp [ByteArray.getElem_eq_getElem_data]
      have hx2 := (b.data.toList[k]).toNat_lt
      have hsh := shor (beL (b.data.toList.take k)) (b.data.toList[k]).toNat hr hx2
      rw [← hst, ← HR.out, ← hx] at hsh
      have hR2 : R ≤ 16777215 := by have := HR.out; omega
      have hlt2 := beL_lt (b.data.toList.take (k + 1))
      rw [List.length_take, Nat.min_eq_left (by omega)] at hlt2
      have hlt3 : beL (b.data.toList.take (k + 1)) ≤ 4294967295 := by
        have : 256 ^ (k + 1) ≤ 256 ^ 4 := Nat.pow_le_pow_right (by omega) (by omega)
        omega
      obtain ⟨R', hR'⟩ : ∃ R' : Int, ((beL (b.data.toList.take (k + 1)) : Nat) : Int) = R' := ⟨_, rfl⟩
      rw [hR'] at hsh
      have HB := Lib.hid (And.intro hR' hlt3)
      have hkI : (k : Int) < 4 := by omega
      clear hst hr hx hx2 hlt2 hlt3 hR' hkl
      go_wp2
      refine ⟨⟨k + 1, R', by omega, by go_num, ?_, by have := HB.out; omega, by have := HB.out; omega, Lib.hid HB.out.1.symm⟩, by simp [intOf]; omega⟩
      have hlt4 := b[k].toNat_lt
      rw [show ((b[k].toNat : Nat) : Int) % 4294967296 = (b[k].toNat : Int) by omega, hsh]
    · obtain rfl : k = 4 := by omega
      have hend := HR.out
      rw [List.take_of_length_le (by omega)] at hend
      have HE := Lib.hid hend
      clear hend
      rw [show (((4 : Nat)) : Int) = 4 from rfl]
      go_wp2
      go_ret
      exact ⟨by rw [← HE.out]; rfl, rfl⟩
set_option maxRecDepth 100000 in
set_option maxHeartbeats 1000000 in
theorem word_calls (g cap len p : Nat) (x0 x1 x2 x3 : Nat) (w : World) (hp : p + 3 < len) (hl : len ≤ 140737488355328)
    (c0 : w.cell? ⟨g, p, none⟩ = some (.int .u8 x0)) (c1 : w.cell? ⟨g, p + 1, none⟩ = some (.int .u8 x1)) (c2 : w.cell? ⟨g, p + 2, none⟩ = some (.int .u8 x2)) (c3 : w.cell? ⟨g, p + 3, none⟩ = some (.int .u8 x3))
    (r0 : x0 < 256) (r1 : x1 < 256) (r2 : x2 < 256) (r3 : x3 < 256) :
    Calls Tryd.prog 145 #[.slice (some ⟨g, 0, none⟩) len cap, .int .i64 p] w fun e w' => e = .returned (.int .u32 (beN x0 x1 x2 x3 : Nat)) ∧ Below w.heap.size w w' := by
  have i0 : (p : Int) < len := by omega
  have i1 : (p : Int) + 1 < len := by omega
  have i2 : (p : Int) + 2 < len := by omega
  have i3 : (p : Int) + 3 < len := by omega
  go_enter Tryd.func145, Tryd.ntmps145
  go_wp2
  go_quiet (fail)
  go_wp2
  go_ret
  exact ⟨by rw [← word_val x0 x1 x2 x3 r0 r1 r2 r3]; rfl, ⟨rfl, rfl, rfl, Nat.le_refl _, fun _ _ => rfl⟩⟩
end Go.Proofs.YtkpfbjlbllpahaaDoor
