import Derived.Test.YtegplajddhiejaaGreatMgLoneMake1
set_option linter.unusedVariables false
namespace Go.Proofs.YtegplajddhiejaaGreat
open Go.RowKit
/-- One byte into the register. -/
def crcIn (v x : Nat) : Nat := (v / 256) ^^^ crcBits 8 ((v % 256) ^^^ x)
def crcRun (v : Nat) (bs : List UInt8) : Nat := bs.foldl (fun v x => crcIn v x.toNat) v
theorem crcRun_take (v : Nat) (b : List UInt8) (k : Nat) (h : k < b.length) : crcRun v (b.take (k + 1)) = crcIn (crcRun v (b.take k)) b[k].toNat := by
  unfold crcRun
  rw [List.take_succ_eq_append_getElem h, List.foldl_append]; rfl
theorem u8_xor_lt (a b : Nat) (ha : a < 256) (hb : b < 256) : a ^^^ b < 256 := Nat.xor_lt_two_pow (n := 8) ha hb
theorem u32_xor_lt (a b : Nat) (ha : a < 4294967296) (hb : b < 4294967296) : a ^^^ b < 4294967296 := Nat.xor_lt_two_pow (n := 32) ha hb
theorem crcIn_lt (v x : Nat) (hv : v < 4294967296) (hx : x < 256) : crcIn v x < 4294967296 := by
  unfold crcIn
  exact u32_xor_lt _ _ (by omega) (crcBits_lt _ _ (by have := u8_xor_lt (v % 256) x (by omega) hx; omega))
theorem u32_flip (c : Nat) (hc : c < 4294967296) : bits BinOp.xor IntKind.u32 IntKind.u32.max (c : Int) = ((4294967295 ^^^ c : Nat) : Int) := by
  rw [show IntKind.u32.max = ((4294967295 : Nat) : Int) from by kernel_rfl, u32_xor_nat _ _ (by omega) hc]
theorem tab_cell (x : Nat) (h : x < 256) : (crcTab 256)[x]? = some (.int .u32 (crcBits 8 x : Nat)) := by
  simp [crcTab, h]
set_option maxRecDepth 100000 in
set_option maxHeartbeats 1000000 in
theorem crcOn_calls (c : Nat) (b : ByteArray) (hc : c < 4294967296) (hbs : b.size < 9223372036854775807) (w : World) : Calls Tryz.prog 108 #[.int .u32 c, .string b] w fun e w' => e = .returned (.int .u32 (4294967295 ^^^ crcRun (4294967295 ^^^ c) b.data.toList : Nat)) ∧ Below w.heap.size w w' := by
  have ti : (Tryz.prog.info? 160).map (·.size) = some (crcTab 256).size := by rw [crcTab_size]; exact tab_info
  have ts : Tryz.zeroCells160.size = (crcTab 256).size := by rw [← crcTab_zero, crcTab_size, crcTab_size]
  have hf := u32_flip c hc
  have hs : IntKind.u32.signed = false := rfl
  have hl := u32_xor_lt 4294967295 c (by omega) hc
  go_enter Tryz.func108, Tryz.ntmps108
  go_wp2_with (first
    | (go_at_call 111; refine (table_calls _).mono ?_; rintro e w1 ⟨rfl, hb1⟩)
    | (refine wpList_store_row rfl 160 _ _ rfl _ (crcTab 256) rfl rfl 160 Tryz.zeroCells160 (heap_alloc_last _ _) ti ts (tab_one _) ?_; rw [World.setRow_alloc_new]))
  go_loop [6, 7, 13] (fun v _ i => ∃ (k r : Nat), k ≤ b.size ∧ i = .int .i64 k ∧ r < 4294967296 ∧ v = .int .u32 r ∧ r = crcRun (4294967295 ^^^ c) (b.data.toList.take k)) (fun _ _ i => b.size - (intOf i).toNat)
  case atStart => exact ⟨0, 4294967295 ^^^ c, by omega, rfl, hl, rfl, rfl⟩
  case round =>
    obtain ⟨k, r, hk, rfl, hr, rfl, hR⟩ := hrel
    have HR := Lib.hid hR
    clear hR
    by_cases hlt : k < b.size
    · have hy : b[k].toNat < 256 := b[k].toNat_lt
      have hx := u8_xor_lt (r % 256) b[k].toNat (by omega) hy
      have hxe : bits BinOp.xor IntKind.u8 ((r : Int) % 256) (b[k].toNat : Int) = (((r % 256) ^^^ b[k].toNat : Nat) : Int) := by
        rw [show (r : Int) % 256 = ((r % 256 : Nat) : Int) by omega, u8_xor_nat _ _ (by omega) hy]
      generalize hX : (r % 256) ^^^ b[k].toNat = x at *
      have ht := tab_cell x hx
      have hB := crcBits_lt 8 x (by omega)
      have hr2 : bits BinOp.xor IntKind.u32 ((r : Int) / 256) ((crcBits 8 x : Nat) : Int) = (((r / 256) ^^^ crcBits 8 x : Nat) : Int) := by
        rw [show (r : Int) / 256 = ((r / 256 : Nat) : Int) by omega, u32_xor_nat _ _ (by omega) hB]
      have hn : ∃ z, z = (r / 256) ^^^ crcBits 8 x ∧ z < 4294967296 := ⟨_, rfl, u32_xor_lt _ _ (by omega) hB⟩
      obtain ⟨z, hz, hzl⟩ := hn
      rw [← hz] at hr2
      have HZ := Lib.hid (And.intro hz hX)
      clear hz hX
      go_wp2
      go_round
      case rel =>
        refine ⟨k + 1, z, by omega, by go_num, hzl, rfl, ?_⟩
        rw [crcRun_take _ _ _ (by simpa using hlt), ← HR.out, crcIn]
        rw [show b.data.toList[k] = b[k] from rfl, HZ.out.2, HZ.out.1]
      case measure => simp [intOf]; omega
    · obtain rfl : k = b.size := by omega
      have hf2 := u32_flip r hr
      go_wp2
      go_ret
      rw [HR.out, List.take_of_length_le (by simp)]
      exact ⟨rfl, hb1.alloc hb1.size _⟩
/-- The check sum of a text. -/
def crcZ (b : ByteArray) : Nat := 4294967295 ^^^ crcRun 4294967295 b.data.toList
theorem crcRun_lt (bs : List UInt8) : ∀ v, v < 4294967296 → crcRun v bs < 4294967296 := by
  induction bs with
  | nil => intro v h; exact h
  | cons x p ih => intro v h; exact ih _ (crcIn_lt _ _ h x.toNat_lt)
theorem crcZ_lt (b : ByteArray) : crcZ b < 4294967296 := u32_xor_lt _ _ (by omega) (crcRun_lt _ _ (by omega))
theorem crc_calls (b : ByteArray) (hbs : b.size < 9223372036854775807) (w : World) : Calls Tryz.prog 99 #[.string b] w fun e w' => e = .returned (.int .u32 (crcZ b : Nat)) ∧ Below w.heap.size w w' := by
  go_enter Tryz.func99, Tryz.ntmps99
  go_wp2_with (go_at_call 108; refine (crcOn_calls 0 b (by omega) hbs _).mono ?_; rintro e w1 ⟨rfl, hb1⟩)
  go_ret
  exact ⟨rfl, hb1⟩
end Go.Proofs.YtegplajddhiejaaGreat

set_option linter.unusedVariables false
namespace Go.Proofs.YtegplajddhiejaaGreat
open Go.RowKit
/-- A number in eight bytes or in four. -/
def beZ (size v : Int) : ByteArray := if size = 8 then be8Z v else be4Z v
theorem be_size8 (v : Int) : (beZ 8 v).size = 8 := be8_size v
theorem be_size4 (v : Int) : (beZ 4 v).size = 4 := be4_size v
theorem putbe_both (v z : Int) (h : (z = 8 ∧ 0 ≤ v) ∨ (z = 4 ∧ 0 ≤ v ∧ v ≤ 4294967295)) (w : World) : Calls Tryz.prog 52 #[.int .u64 v, .int .i64 z] w fun e w' => e = .returned (.tuple #[.string (beZ z v), .int .i64 0]) ∧ Below w.heap.size w w' := by
  rcases h with ⟨rfl, h⟩ | ⟨rfl, h, h'⟩
  · exact putbe_calls v h w
  · exact putbe4_calls v h h' w
/-- A frame ahead of its sum. -/
def bodyZ (k n : Int) (p : ByteArray) : ByteArray := strOfNums [165, k] ++ beZ 8 n ++ beZ 4 p.size ++ p
def frameZ (k n : Int) (p : ByteArray) : ByteArray := bodyZ k n p ++ beZ 4 (crcZ (bodyZ k n p) : Nat)
theorem two_size (k : Int) : (strOfNums [165, k]).size = 2 := by rw [strOfNums_size]; rfl
theorem body_size (k n : Int) (p : ByteArray) : (bodyZ k n p).size = 14 + p.size := by
  unfold bodyZ; rw [ByteArray.size_append, ByteArray.size_append, ByteArray.size_append, two_size, be_size8, be_size4]
theorem frame_size (k n : Int) (p : ByteArray) : (frameZ k n p).size = 18 + p.size := by
  unfold frameZ; rw [ByteArray.size_append, body_size, be_size4]; omega
end Go.Proofs.YtegplajddhiejaaGreat

set_option linter.unusedVariables false
namespace Go.Proofs.YtegplajddhiejaaGreat
open Go.RowKit
/-- The number that stands in so many bytes. -/
def rdN (b : ByteArray) (o : Nat) : Nat → Nat
  | 0 => 0
  | k+1 => rdN b o k * 256 + (b.data.toList.getD (o + k) 0).toNat
theorem rdN_lt (b : ByteArray) (o k : Nat) : rdN b o k < 256 ^ k := by
  induction k with
  | zero => simp [rdN]
  | succ k ih =>
    have := (b.data.toList.getD (o + k) 0).toNat_lt
    rw [rdN, Nat.pow_succ]; omega
theorem u64_shor (v x : Nat) (hv : v < 72057594037927936) (hx : x < 256) : bits BinOp.or IntKind.u64 ((v : Int) * 256) (x : Int) = ((v * 256 + x : Nat) : Int) := by
  rw [show (v : Int) * 256 = ((v * 256 : Nat) : Int) by omega, u64_or_nat _ _ (by omega) (by omega)]
  congr 1
  rw [show v * 256 = 2 ^ 8 * v by omega, ← Nat.two_pow_add_eq_or_of_lt (i := 8) (by omega) v]
set_option maxRecDepth 100000 in
set_option maxHeartbeats 1000000 in
theorem be_calls (b : ByteArray) (o z : Nat) (hz : 1 ≤ z) (hz8 : z ≤ 8) (hb : o + z ≤ b.size) (hbs : b.size < 9223372036854775807) (w : World) : Calls Tryz.prog 100 #[.string b, .int .i64 o, .int .i64 z] w fun e w' => e = .returned (.tuple #[.int .u64 (rdN b o z : Nat), .int .i64 0]) ∧ w = w' := by
  have hz0 : (z : Int) ≤ 8 := by omega
  have hbi : ¬ (b.size < z) := by omega
  have hbo : (o : Int) ≤ b.size - z := by omega
  go_enter Tryz.func100, Tryz.ntmps100
  go_wp2
  go_loop [8, 9, 35] (fun v _ i => ∃ (k r : Nat), k ≤ z ∧ i = .int .i64 k ∧ v = .int .u64 r ∧ r = rdN b o k) (fun _ _ i => z - (intOf i).toNat)
  case atStart => exact ⟨0, 0, by omega, rfl, rfl, rfl⟩
  case round =>
    obtain ⟨k, r, hk, rfl, rfl, hR⟩ := hrel
    have HR := Lib.hid hR
    by_cases hlt : k < z
    · have hr : r < 72057594037927936 := by
        have h1 := rdN_lt b o k
        have h2 : 256 ^ k ≤ 256 ^ 7 := Nat.pow_le_pow_right (by omega) (by omega)
        rw [show (256 : Nat) ^ 7 = 72057594037927936 by decide] at h2
        omega
      clear hR
      have hin : o + k < b.size := by omega
      have hy : b[o + k].toNat < 256 := b[o + k].toNat_lt
      have hor := u64_shor r b[o + k].toNat hr hy
      have hnat : ((o : Int) + k).toNat = o + k := by omega
      go_wp2
      go_round
      case rel =>
        refine ⟨k + 1, r * 256 + b[o + k].toNat, by omega, by go_num, by go_num, ?_⟩
        rw [rdN, ← HR.out, List.getD_eq_getElem?_getD, List.getElem?_eq_getElem (by simpa using hin)]
        rfl
      case measure => simp [intOf]; omega
    · obtain rfl : k = z := by omega
      clear hR
      go_wp2
      go_ret2
      rw [HR.out]
      exact ⟨rfl, rfl⟩
theorem big64_calls (b : ByteArray) (o : Nat) (hb : o + 8 ≤ b.size) (hbs : b.size < 9223372036854775807) (w : World) : Calls Tryz.prog 75 #[.string b, .int .i64 o] w fun e w' => e = .returned (.int .u64 (rdN b o 8 : Nat)) ∧ w = w' := by
  have hr := rdN_lt b o 8
  rw [show (256 : Nat) ^ 8 = 18446744073709551616 by decide] at hr
  go_enter Tryz.func75, Tryz.ntmps75
  go_wp2_with (go_at_call 100; refine (be_calls b o 8 ?_ ?_ hb hbs _).mono ?_ <;> first | omega | (rintro e w1 ⟨rfl, rfl⟩))
  go_ret
  exact ⟨rfl, rfl⟩
theorem big32_calls (b : ByteArray) (o : Nat) (hb : o + 4 ≤ b.size) (hbs : b.size < 9223372036854775807) (w : World) : Calls Tryz.prog 89 #[.string b, .int .i64 o] w fun e w' => e = .returned (.int .u32 (rdN b o 4 : Nat)) ∧ w = w' := by
  have hr := rdN_lt b o 4
  rw [show (256 : Nat) ^ 4 = 4294967296 by decide] at hr
  go_enter Tryz.func89, Tryz.ntmps89
  go_wp2_with (go_at_call 100; refine (be_calls b o 4 ?_ ?_ hb hbs _).mono ?_ <;> first | omega | (rintro e w1 ⟨rfl, rfl⟩))
  go_ret
  exact ⟨rfl, rfl⟩
end Go.Proofs.YtegplajddhiejaaGreat
