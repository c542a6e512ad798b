import Derived.Test.YtkpfbjlbllpahaaDoorMk6
import Derived.Test.YtkpfbjlbllpahaaDoorMk1
set_option linter.unusedVariables false
namespace Go.Proofs.YtkpfbjlbllpahaaDoor
open Go.RowKit
set_option maxRecDepth 100000 in
set_option maxHeartbeats 2000000 in
theorem mrefsaid_calls (k v : ByteArray) (hk : k.size ≤ 1048576) (hv : v.size ≤ 1048576) (w : World) : Calls Tryd.prog 50 #[.agg #[.string k, .string v]] w fun e w' => e = .returned (.string (saidB k v)) ∧ Below w.heap.size w w' := by
  obtain ⟨n, hn⟩ : ∃ n, k.size = n := ⟨_, rfl⟩
  have HN := Lib.hid hn
  have hnb : n ≤ 1048576 := by omega
  go_enter Tryd.func50, Tryd.ntmps50
  go_wp2_with fail
  have hr0 := (lit_row (w.alloc (.cells #[.string k, .string v] 42)) 2).mono (base' := w.heap.size + 1) (by simp)
  have HR0 := Lib.hid hr0
  clear hr0
  go_loopw [3, 5] (fun bv iv wr => ∃ (j : Nat) (i : Int) (a : Option Addr) (cap m : Nat), j ≤ 8 ∧ m = 1 + j ∧ i = 7 - j ∧ iv = .int .i64 i ∧ bv = .slice a m cap ∧ Hid (RowB wr (w.heap.size + 1) (.slice a m cap) ([2] ++ beU n j)) ∧ Hid (Below (w.heap.size + 1) (w.alloc (.cells #[.string k, .string v] 42)) wr)) (fun _ iv _ => (intOf iv + 1).toNat)
  case atStart => exact ⟨0, 7, _, _, 1, by omega, rfl, by omega, rfl, rfl, Lib.hid (by have h := HR0.out; simp at h; simpa [beU] using h), Lib.hid ((Below.refl _ _).alloc (by simp) _)⟩
  case round =>
    obtain ⟨j, i, a, cap, m, hj, hm, hi, rfl, rfl, HO, HB⟩ := hrel
    have hsz : w.heap.size + 1 ≤ wr.heap.size := by have := HB.out.size; simp at this; omega
    obtain ⟨hbw, hlw, hbox⟩ := boxed HB.out
    have x0 : wr.cell? ⟨w.heap.size, 0, none⟩ = some (.string k) := hbox 0 _ rfl
    have x1 : wr.cell? ⟨w.heap.size, 1, none⟩ = some (.string v) := hbox 1 _ rfl
    have HW := Lib.hid hbw
    clear hbox hbw
    by_cases hlt : j < 8
    · obtain ⟨q, rfl⟩ : ∃ q : Nat, i = q := ⟨7 - j, by omega⟩
      have hq : q = 7 - j := by omega
      have hq8 : q < 8 := by omega
      have hyy : ((n : Int) / 2 ^ (8 * (7 - j)) % 256) = ((UInt8.ofNat (n / 2 ^ (8 * (7 - j)))).toNat : Int) := by
        rw [UInt8.toNat_ofNat', show ((n : Int) / 2 ^ (8 * (7 - j)) % 256) = ((n / 2 ^ (8 * (7 - j)) % 256 : Nat) : Int) by simp]
      have hll : ([2] ++ beU n j).length < 140737488355328 := by rw [List.length_append, beU_len]; simp; omega
      have HY := Lib.hid (And.intro hyy hll)
      have HLN : Hid (([2] ++ beU n j ++ [UInt8.ofNat (n / 2 ^ (8 * (7 - j)))]).length = 1 + (j + 1)) := Lib.hid (by simp only [List.length_append, List.length_cons, List.length_nil, beU_len]; omega)
      clear hyy hll
      go_wp2_with (at_builtin; refine wpList_byte wr _ rfl _ _ rfl (w.heap.size + 1) _ ([2] ++ beU n j) rfl rfl _ HY.out.1 HO.out HY.out.2 hsz ?_; intro v2 w2 ho2 hb2 hat2 hg2; obtain ⟨a2, c2, hv2⟩ := ho2.slice; rw [HLN.out] at hv2; subst hv2; have HO2 := Lib.hid ho2; have HB2 := Lib.hid hb2; clear ho2 hb2 hat2 hg2)
      refine ⟨⟨j + 1, _, a2, c2, 1 + (j + 1), by omega, rfl, ?_, rfl, rfl, Lib.hid ?_, Lib.hid (HB.out.trans HB2.out)⟩, ?_⟩
      · omega
      · rw [beU_step, ← List.append_assoc]; exact HO2.out
      · simp [intOf]; omega
    · obtain rfl : j = 8 := by omega
      obtain rfl : i = -1 := by omega
      have hkl : k.data.toList.length = k.size := by simp
      have hvl : v.data.toList.length = v.size := by simp
      have h2l : ([2] ++ beU n 8).length = 9 := by rw [List.length_append, beU_len]; rfl
      have HKL := Lib.hid (And.intro hkl (And.intro hvl h2l))
      clear hkl hvl h2l
      go_wp2_with (first
        | (at_builtin; refine wpList_bytes _ rfl _ _ 9 rfl (w.heap.size + 1) _ ([2] ++ beU n 8) rfl _ k.data.toList rfl (by rw [HKL.out.1]; exact Src.ofString _ Tryd.underlying9 k) HO.out (by rw [HKL.out.1, HKL.out.2.2]; omega) hsz ?_; intro v2 w2 ho2 hb2 _ _
           obtain ⟨a2, c2, hv2⟩ := ho2.slice
           have hHB := HB.out.trans hb2
           obtain ⟨hbw2, hlw2, hbox2⟩ := boxed hHB
           have y0 : w2.cell? ⟨w.heap.size, 0, none⟩ = some (.string k) := hbox2 0 _ rfl
           have y1 : w2.cell? ⟨w.heap.size, 1, none⟩ = some (.string v) := hbox2 1 _ rfl
           have hsz2 : w.heap.size + 1 ≤ w2.heap.size := by omega
           have HO2 := Lib.hid ho2
           have HB2 := Lib.hid hHB
           have HV2 := Lib.hid hv2
           clear ho2 hb2 hHB hbox2 hbw2 hv2)
        | (at_builtin; refine wpList_bytes _ rfl _ _ 9 rfl (w.heap.size + 1) _ ([2] ++ beU n 8 ++ k.data.toList) rfl _ v.data.toList rfl (by rw [HKL.out.2.1]; exact Src.ofString _ Tryd.underlying9 v) HO2.out (by rw [List.length_append, HKL.out.1, HKL.out.2.1, HKL.out.2.2]; omega) hsz2 ?_; intro v3 w3 ho3 hb3 _ _
           have hHB := HB2.out.trans hb3
           have hconv := ho3.str
           have HB3 := Lib.hid (boxed hHB).1
           clear ho3 hb3 hHB))
      go_ret
      refine ⟨congrArg (fun z => Ending.returned (.string z)) ?_, HB3.out⟩
      refine ByteArray.ext (Array.toList_inj.1 ?_)
      have h2 : twoB.data.toList = [2] := rfl
      simp only [saidB, ByteArray.data_append, Array.toList_append, h2]
      rw [hn, beU_be8]
      simp
end Go.Proofs.YtkpfbjlbllpahaaDoor
