import Derived.Test.YtkpfbjlbllpahaaDoorByt
import Derived.Test.YtkpfbjlbllpahaaDoorSha8
set_option linter.unusedVariables false
namespace Go.Proofs.YtkpfbjlbllpahaaDoor
open Go.RowKit
/-- A number as so many bytes, the highest first. -/
def putZ (V n : Nat) : List UInt8 := (List.range n).map fun i => UInt8.ofNat (V / 2 ^ (8 * (n - 1 - i)))
theorem putZ_len (V n : Nat) : (putZ V n).length = n := by simp [putZ]
theorem putZ_take (V n k : Nat) (h : k < n) : (putZ V n).take (k + 1) = (putZ V n).take k ++ [UInt8.ofNat (V / 2 ^ (8 * (n - 1 - k)))] := by
  rw [List.take_succ_eq_append_getElem (by rw [putZ_len]; exact h)]
  simp [putZ]
theorem u8_val (x : Nat) : (((UInt8.ofNat x).toNat : Nat) : Int) = (x : Int) % 256 := by
  rw [UInt8.toNat_ofNat']; omega
theorem shr_val (V t : Nat) : (V : Int) / 2 ^ t % 256 = (((UInt8.ofNat (V / 2 ^ t)).toNat : Nat) : Int) := by
  rw [u8_val, Int.natCast_ediv, Int.natCast_pow]; rfl
def sliceLen : Value → Nat
  | .slice _ n _ => n
  | _ => 0
/-- What put leaves. -/
def Put (base : Nat) (l : List UInt8) (w : World) (e : Ending) (w' : World) : Prop := ∃ v, e = .returned v ∧ RowB w' base v l ∧ Below base w w' ∧ ∀ k, v.ownBlock = some k → k < w'.heap.size
set_option maxRecDepth 100000 in
set_option maxHeartbeats 1000000 in
theorem put_calls (base : Nat) (v : Value) (l : List UInt8) (V n : Nat) (hV : V < 18446744073709551616) (hn : n ≤ 8) (w : World) (hrow : RowB w base v l) (hlen : l.length + 8 < 140737488355328) (hbase : base ≤ w.heap.size) :
    Calls Tryd.prog 144 #[v, .int .u64 V, .int .i64 n] w (Put base (l ++ putZ V n) w) := by
  obtain ⟨X, hX⟩ : ∃ X : Int, X = (V : Int) := ⟨_, rfl⟩
  have X0 : 0 ≤ X := by omega
  have X1 : X ≤ 18446744073709551615 := by omega
  rw [← hX]
  have HX := Lib.hid hX
  have HR := Lib.hid hrow
  clear hX hV hrow
  go_enter Tryd.func144, Tryd.ntmps144
  go_wp2
  go_loopw [0, 2] (fun lv iv wr => ∃ (k : Nat) (i : Int), k ≤ n ∧ i + k + 1 = n ∧ iv = .int .i64 i ∧ Hid (RowB wr base lv (l ++ (putZ V n).take k)) ∧ Hid (Below base w wr)) (fun _ iv _ => (intOf iv + 1).toNat)
  case atStart => exact ⟨0, (n : Int) - 1, by omega, by omega, rfl, Lib.hid (by simpa using HR.out), Lib.hid (Below.refl _ _)⟩
  case round =>
    obtain ⟨k, i, hk, hik, rfl, HO, HB⟩ := hrel
    by_cases hlt : k < n
    · obtain ⟨t, rfl⟩ : ∃ t : Nat, i = (t : Int) := ⟨i.toNat, by omega⟩
      have ht7 : (t : Int) ≤ 7 := by omega
      have HIK := Lib.hid (And.intro hik (And.intro hk hlt))
      clear hik hk hlt
      have hy : X / 2 ^ (8 * t) % 256 = (((UInt8.ofNat (V / 2 ^ (8 * t))).toNat : Nat) : Int) := by rw [HX.out]; exact shr_val V (8 * t)
      have HY := Lib.hid hy
      clear hy
      have hsz : base ≤ wr.heap.size := Nat.le_trans hbase HB.out.size
      have hll : (l ++ (putZ V n).take k).length < 140737488355328 := by rw [List.length_append, List.length_take, putZ_len]; omega
      have HLL := Lib.hid hll
      clear hll
      go_wp2_with (at_builtin; refine wpList_byte wr _ rfl _ _ rfl base _ (l ++ (putZ V n).take k) rfl rfl (UInt8.ofNat (V / 2 ^ (8 * t))) HY.out HO.out HLL.out hsz ?_; intro v1 w1 ho1 hb1 hat1 hg1; have HO1 := Lib.hid ho1; have HB1 := Lib.hid hb1; clear ho1 hb1 hat1 hg1)
      go_roundw
      case rel =>
        obtain ⟨h1, h2, h3⟩ := HIK.out
        refine ⟨k + 1, (t : Int) - 1, by omega, by omega, rfl, Lib.hid ?_, Lib.hid (HB.out.trans HB1.out)⟩
        rw [putZ_take V n k h3, ← List.append_assoc, show n - 1 - k = t by omega]
        exact HO1.out
      case measure => simp [intOf]
    · obtain rfl : k = n := by omega
      obtain rfl : i = -1 := by omega
      have hend := HO.out
      rw [List.take_of_length_le (by rw [putZ_len]; exact Nat.le_refl _)] at hend
      have HE := Lib.hid hend
      clear hend
      go_wp2
      go_ret
      exact ⟨_, rfl, HE.out, HB.out, fun q hq => (HE.out.lt q hq).2⟩
theorem put8_calls (base : Nat) (v : Value) (l : List UInt8) (X : Int) (h0 : 0 ≤ X) (h1 : X ≤ 18446744073709551615) (w : World) (hrow : RowB w base v l) (hlen : l.length + 8 < 140737488355328) (hbase : base ≤ w.heap.size) :
    Calls Tryd.prog 144 #[v, .int .u64 X, .int .i64 8] w (Put base (l ++ putZ X.toNat 8) w) := by
  have h := put_calls base v l X.toNat 8 (by omega) (by omega) w hrow hlen hbase
  rw [Int.toNat_of_nonneg h0] at h
  exact h
theorem put4_calls (base : Nat) (v : Value) (l : List UInt8) (X : Int) (h0 : 0 ≤ X) (h1 : X ≤ 4294967295) (w : World) (hrow : RowB w base v l) (hlen : l.length + 8 < 140737488355328) (hbase : base ≤ w.heap.size) :
    Calls Tryd.prog 144 #[v, .int .u64 X, .int .i64 4] w (Put base (l ++ putZ X.toNat 4) w) := by
  have h := put_calls base v l X.toNat 4 (by omega) (by omega) w hrow hlen hbase
  rw [Int.toNat_of_nonneg h0] at h
  exact h
/-- How many noughts are put behind n bytes. -/
def zerosZ (n : Nat) : Nat := (119 - n % 64) % 64
/-- What is put behind a text of n bytes. -/
def padZ (n : Nat) : List UInt8 := (128 :: List.replicate (zerosZ n) 0) ++ putZ (8 * n) 8
def pad0 (j : Nat) : List UInt8 := 128 :: List.replicate j 0
theorem pad0_len (j : Nat) : (pad0 j).length = j + 1 := by simp [pad0]
theorem pad0_step (j : Nat) : pad0 (j + 1) = pad0 j ++ [0] := by simp [pad0, List.replicate_succ']
theorem zeros_lt (n j : Nat) (h : j < zerosZ n) : (n + (j + 1)) % 64 ≠ 56 := by unfold zerosZ at h; omega
theorem zeros_eq (n : Nat) : (n + (zerosZ n + 1)) % 64 = 56 := by unfold zerosZ; omega
theorem zeros_le (n : Nat) : zerosZ n < 64 := by unfold zerosZ; omega
theorem padZ_len (n : Nat) : (n + (padZ n).length) % 64 = 0 := by
  have := zeros_eq n
  unfold padZ
  rw [List.length_append, putZ_len, List.length_cons, List.length_replicate]
  omega
set_option maxRecDepth 100000 in
set_option maxHeartbeats 1000000 in
theorem padding_calls (n : Nat) (hn : n ≤ 140737488355328) (w : World) :
    Calls Tryd.prog 126 #[.int .i64 n] w fun e w' => e = .returned (.string ⟨(padZ n).toArray⟩) ∧ Below w.heap.size w w' := by
  have h0 := lit_row w 128
  have HL0 := Lib.hid h0
  clear h0
  have hzl := zeros_le n
  go_enter Tryd.func126, Tryd.ntmps126
  go_wp2
  go_loopw [3] (fun lv wr => ∃ (j m : Nat) (a : Option Addr) (cap : Nat), lv = .slice a m cap ∧ m ≤ 64 ∧ Hid (m = j + 1 ∧ j ≤ zerosZ n) ∧ Hid (RowB wr w.heap.size (.slice a m cap) (pad0 j)) ∧ Hid (Below w.heap.size w wr)) (fun lv _ => zerosZ n + 1 - sliceLen lv)
  case atStart => exact ⟨0, 1, _, 1, rfl, by omega, Lib.hid ⟨rfl, by omega⟩, HL0, Lib.hid ((Below.refl _ _).alloc (Nat.le_refl _) _)⟩
  case round =>
    obtain ⟨j, m, a, cap, rfl, hm, HM, HO, HB⟩ := hrel
    have hsz : w.heap.size ≤ wr.heap.size := HB.out.size
    by_cases hlt : j < zerosZ n
    · have ht : (((n : Int) + m) % 64 != 56) = true := by
        have := zeros_lt n j hlt
        obtain ⟨h1, h2⟩ := HM.out
        rw [bne_iff_ne]; omega
      have hll : (pad0 j).length < 140737488355328 := by rw [pad0_len]; omega
      have HLL := Lib.hid hll
      have HLT := Lib.hid hlt
      clear hll hlt
      go_wp2_with (at_builtin; refine wpList_byte wr _ rfl _ _ rfl w.heap.size _ (pad0 j) rfl rfl 0 rfl HO.out HLL.out hsz ?_; intro v1 w1 ho1 hb1 hat1 hg1; obtain ⟨a1, c1, hv1⟩ := ho1.slice; subst hv1; have HO1 := Lib.hid ho1; have HB1 := Lib.hid hb1; clear ho1 hb1 hat1 hg1)
      go_roundw
      case rel =>
        obtain ⟨h1, h2⟩ := HM.out
        have h3 := HLT.out
        refine ⟨j + 1, (pad0 j ++ [0]).length, a1, c1, by rw [List.length_append]; rfl, ?_, Lib.hid ⟨?_, by omega⟩, Lib.hid ?_, Lib.hid (HB.out.trans HB1.out)⟩
        · rw [List.length_append, pad0_len]; simp; omega
        · rw [List.length_append, pad0_len]; rfl
        · rw [pad0_step]; exact HO1.out
      case measure =>
        have h3 := HLT.out
        obtain ⟨h1, h2⟩ := HM.out
        simp [sliceLen, pad0_len]; omega
    · have ht : (((n : Int) + m) % 64 != 56) = false := by
        have := zeros_eq n
        obtain ⟨h1, h2⟩ := HM.out
        rw [bne_eq_false_iff_eq]
        have : j = zerosZ n := by omega
        subst this; omega
      obtain ⟨h1, h2⟩ := HM.out
      obtain rfl : j = zerosZ n := by omega
      have c := fun w' (hr : RowB w' w.heap.size (.slice a m cap) (pad0 (zerosZ n))) (hs : w.heap.size ≤ w'.heap.size) => put8_calls w.heap.size (.slice a m cap) (pad0 (zerosZ n)) (8 * (n : Int)) (by omega) (by omega) w' hr (by rw [pad0_len]; omega) hs
      have hfin : (pad0 (zerosZ n) ++ putZ ((8 * (n : Int)).toNat) 8) = padZ n := by
        rw [show (8 * (n : Int)).toNat = 8 * n by omega]; rfl
      rw [hfin] at c
      clear h1 h2 hfin hlt
      have C := Lib.hid c
      clear c
      go_wp2_with (go_at_call 144; (with_reducible refine (C.out _ HO.out hsz).mono ?_); rintro e w1 ⟨v1, rfl, hr1, hb1, -⟩; have hstr := hr1.str; have HB1 := Lib.hid hb1; clear hr1 hb1)
      go_ret
      exact ⟨rfl, HB.out.trans HB1.out⟩
end Go.Proofs.YtkpfbjlbllpahaaDoor
