import Derived.Test.YtcicdgajhheipaaBk3
set_option linter.unusedVariables false
namespace Go.Proofs.Ytcicdgajhheipaa
open Go.RowKit
/-- One byte into the register. -/
def crcIn (v x : Nat) : Nat := (v / 256) ^^^ crcBits 8 ((v % 256) ^^^ x)
def crcRun (v : Nat) (bs : List UInt8) : Nat := bs.foldl (fun v x => crcIn v x.toNat) v
theorem crcRun_take (v : Nat) (b : List UInt8) (k : Nat) (h : k < b.length) : crcRun v (b.take (k + 1)) = crcIn (crcRun v (b.take k)) b[k].toNat := by
  unfold crcRun
  rw [List.take_succ_eq_append_getElem h, List.foldl_append]; rfl
theorem u8_xor_lt (a b : Nat) (ha : a < 256) (hb : b < 256) : a ^^^ b < 256 := Nat.xor_lt_two_pow (n := 8) ha hb
theorem u32_xor_lt (a b : Nat) (ha : a < 4294967296) (hb : b < 4294967296) : a ^^^ b < 4294967296 := Nat.xor_lt_two_pow (n := 32) ha hb
theorem crcIn_lt (v x : Nat) (hv : v < 4294967296) (hx : x < 256) : crcIn v x < 4294967296 := by
  unfold crcIn
  exact u32_xor_lt _ _ (by omega) (crcBits_lt _ _ (by have := u8_xor_lt (v % 256) x (by omega) hx; omega))
theorem u32_flip (c : Nat) (hc : c < 4294967296) : bits BinOp.xor IntKind.u32 IntKind.u32.max (c : Int) = ((4294967295 ^^^ c : Nat) : Int) := by
  rw [show IntKind.u32.max = ((4294967295 : Nat) : Int) from by kernel_rfl, u32_xor_nat _ _ (by omega) hc]
theorem tab_cell (x : Nat) (h : x < 256) : (crcTab 256)[x]? = some (.int .u32 (crcBits 8 x : Nat)) := by
  simp [crcTab, h]
set_option maxRecDepth 100000 in
set_option maxHeartbeats 1000000 in
theorem crcOn_calls (c : Nat) (b : ByteArray) (hc : c < 4294967296) (hbs : b.size < 9223372036854775807) (w : World) : Calls Try.prog 51 #[.int .u32 c, .string b] w fun e w' => e = .returned (.int .u32 (4294967295 ^^^ crcRun (4294967295 ^^^ c) b.data.toList : Nat)) ∧ Below w.heap.size w w' := by
  have ti : (Try.prog.info? 103).map (·.size) = some (crcTab 256).size := by rw [crcTab_size]; exact tab_info
  have ts : Try.zeroCells103.size = (crcTab 256).size := by rw [← crcTab_zero, crcTab_size, crcTab_size]
  have hf := u32_flip c hc
  have hs : IntKind.u32.signed = false := rfl
  have hl := u32_xor_lt 4294967295 c (by omega) hc
  go_enter Try.func51, Try.ntmps51
  go_wp2_with (first
    | (go_at_call 73; refine (table_calls _).mono ?_; rintro e w1 ⟨rfl, hb1⟩)
    | (refine wpList_store_row rfl 103 _ _ rfl _ (crcTab 256) rfl rfl 103 Try.zeroCells103 (heap_alloc_last _ _) ti ts (tab_one _) ?_; rw [World.setRow_alloc_new]))
  go_loop [6, 7, 13] (fun v _ i => ∃ (k r : Nat), k ≤ b.size ∧ i = .int .i64 k ∧ r < 4294967296 ∧ v = .int .u32 r ∧ r = crcRun (4294967295 ^^^ c) (b.data.toList.take k)) (fun _ _ i => b.size - (intOf i).toNat)
  case atStart => exact ⟨0, 4294967295 ^^^ c, by omega, rfl, hl, rfl, rfl⟩
  case round =>
    obtain ⟨k, r, hk, rfl, hr, rfl, hR⟩ := hrel
    have HR := Lib.hid hR
    clear hR
    by_cases hlt : k < b.size
    · have hy : b[k].toNat < 256 := b[k].toNat_lt
      have hx := u8_xor_lt (r % 256) b[k].toNat (by omega) hy
      have hxe : bits BinOp.xor IntKind.u8 ((r : Int) % 256) (b[k].toNat : Int) = (((r % 256) ^^^ b[k].toNat : Nat) : Int) := by
        rw [show (r : Int) % 256 = ((r % 256 : Nat) : Int) by omega, u8_xor_nat _ _ (by omega) hy]
      generalize hX : (r % 256) ^^^ b[k].toNat = x at *
      have ht := tab_cell x hx
      have hB := crcBits_lt 8 x (by omega)
      have hr2 : bits BinOp.xor IntKind.u32 ((r : Int) / 256) ((crcBits 8 x : Nat) : Int) = (((r / 256) ^^^ crcBits 8 x : Nat) : Int) := by
        rw [show (r : Int) / 256 = ((r / 256 : Nat) : Int) by omega, u32_xor_nat _ _ (by omega) hB]
      have hn : ∃ z, z = (r / 256) ^^^ crcBits 8 x ∧ z < 4294967296 := ⟨_, rfl, u32_xor_lt _ _ (by omega) hB⟩
      obtain ⟨z, hz, hzl⟩ := hn
      rw [← hz] at hr2
      have HZ := Lib.hid (And.intro hz hX)
      clear hz hX
      go_wp2
      go_round
      case rel =>
        refine ⟨k + 1, z, by omega, by go_num, hzl, rfl, ?_⟩
        rw [crcRun_take _ _ _ (by simpa using hlt), ← HR.out, crcIn]
        rw [show b.data.toList[k] = b[k] from rfl, HZ.out.2, HZ.out.1]
      case measure => simp [intOf]; omega
    · obtain rfl : k = b.size := by omega
      have hf2 := u32_flip r hr
      go_wp2
      go_ret
      rw [HR.out, List.take_of_length_le (by simp)]
      exact ⟨rfl, hb1.alloc hb1.size _⟩
/-- The check sum of a text. -/
def crcZ (b : ByteArray) : Nat := 4294967295 ^^^ crcRun 4294967295 b.data.toList
theorem crcRun_lt (bs : List UInt8) : ∀ v, v < 4294967296 → crcRun v bs < 4294967296 := by
  induction bs with
  | nil => intro v h; exact h
  | cons x p ih => intro v h; exact ih _ (crcIn_lt _ _ h x.toNat_lt)
theorem crcZ_lt (b : ByteArray) : crcZ b < 4294967296 := u32_xor_lt _ _ (by omega) (crcRun_lt _ _ (by omega))
theorem crc_calls (b : ByteArray) (hbs : b.size < 9223372036854775807) (w : World) : Calls Try.prog 30 #[.string b] w fun e w' => e = .returned (.int .u32 (crcZ b : Nat)) ∧ Below w.heap.size w w' := by
  go_enter Try.func30, Try.ntmps30
  go_wp2_with (go_at_call 51; refine (crcOn_calls 0 b (by omega) hbs _).mono ?_; rintro e w1 ⟨rfl, hb1⟩)
  go_ret
  exact ⟨rfl, hb1⟩
end Go.Proofs.Ytcicdgajhheipaa
