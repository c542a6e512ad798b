import Derived.Test.YtkpfbjlbllpahaaDoorSha3
import Derived.Deep.WholeRow
set_option linter.unusedVariables false
namespace Go.Proofs.YtkpfbjlbllpahaaDoor
open Go.RowKit
def wOk (x : Int) : Prop := 0 ≤ x ∧ x ≤ 4294967295
theorem getD_ok (l : List Int) (h : ∀ x ∈ l, wOk x) (j : Nat) : wOk (l.getD j 0) := by
  rw [List.getD_eq_getElem?_getD]
  by_cases hj : j < l.length
  · rw [List.getElem?_eq_getElem hj]; exact h _ (List.getElem_mem _)
  · rw [List.getElem?_eq_none (by omega)]; exact ⟨Int.le_refl _, by show (0 : Int) ≤ 4294967295; omega⟩
theorem firstW_ok (b : List UInt8) (k : Nat) : ∀ x ∈ firstW b k, wOk x := by
  induction k with
  | zero => intro x hx; cases hx
  | succ k ih =>
    intro x hx
    rw [firstW, List.mem_append, List.mem_singleton] at hx
    rcases hx with h | rfl
    · exact ih x h
    · have := beL_lt ((b.drop (4 * k)).take 4)
      have : 256 ^ ((b.drop (4 * k)).take 4).length ≤ 256 ^ 4 := Nat.pow_le_pow_right (by omega) (by rw [List.length_take]; omega)
      exact ⟨by omega, by omega⟩
theorem moreW_ok (l : List Int) (h : ∀ x ∈ l, wOk x) (k : Nat) : ∀ x ∈ moreW l k, wOk x := by
  induction k with
  | zero => exact h
  | succ k ih =>
    intro x hx
    rw [moreW, List.mem_append, List.mem_singleton] at hx
    rcases hx with h' | rfl
    · exact ih x h'
    · exact wrap32_rng _
theorem row_end {w wr : World} {l : List Int} (h : WT w wr l) (W : List Int) : (wr.setRow w.heap.size (a64 W)).heap[w.heap.size]? = some (.cells (a64 W) 163 (0, 0)) ∧ Below w.heap.size w (wr.setRow w.heap.size (a64 W)) := by
  constructor
  · simp only [World.setRow]
    rw [Array.getElem?_modify, h.1]
    simp
  · have b := h.2.2
    refine ⟨b.os, b.tape, b.output, ?_, fun k hk => ?_⟩
    · simp only [World.setRow, Array.size_modify]; exact b.size
    · simp only [World.setRow]
      rw [Array.getElem?_modify, if_neg (by omega)]
      exact b.block k hk
set_option maxRecDepth 100000 in
set_option maxHeartbeats 2000000 in
theorem words_calls (b : ByteArray) (hb : b.size = 64) (w : World) :
    Calls Tryd.prog 142 #[.string b] w fun e w' => e = .returned (.agg (a64 (wordsZ b.data.toList))) ∧ Below w.heap.size w w' := by
  have hbl : b.data.toList.length = 64 := by rw [← hb]; simp
  go_enter Tryd.func142, Tryd.ntmps142
  go_wp2
  go_loopw [4, 10] (fun _ i wr => ∃ k : Nat, k ≤ 16 ∧ i = .int .i64 k ∧ Hid (WT w wr (firstW b.data.toList k))) (fun _ i _ => 16 - (intOf i).toNat)
  case atStart => exact ⟨0, by omega, rfl, Lib.hid (WT.new w)⟩
  case round =>
    obtain ⟨k, hk, rfl, HW⟩ := hrel
    by_cases hlt : k < 16
    · have hsz : (b.extract (4 * k) (4 * k + 4)).size = 4 := by rw [ByteArray.size_extract]; omega
      have c := number_calls (b.extract (4 * k) (4 * k + 4)) hsz
      have hf := HW.out.frozen k
      have hc := HW.out.cell k (by omega)
      have hst := HW.out.store ((beL (b.extract (4 * k) (4 * k + 4)).data.toList : Nat) : Int) (by rw [firstW_len]; omega)
      rw [firstW_len] at hst
      have he : (b.extract (4 * k) (4 * k + 4)).data.toList = (b.data.toList.drop (4 * k)).take 4 := by
        simp [ByteArray.data_extract, Array.toList_extract, List.extract]
      rw [he] at c hst
      have HST := Lib.hid hst
      have HS := Lib.hid hsz
      clear hst he hsz
      have hki : (k : Int) < 16 := by omega
      generalize hv : beL ((b.data.toList.drop (4 * k)).take 4) = v at *
      have HV := Lib.hid hv
      clear hv
      go_wp2_with (go_at_call 152; (with_reducible refine (c _).mono ?_); rintro e w1 ⟨rfl, rfl⟩)
      exact ⟨⟨k + 1, by omega, by go_num, Lib.hid (by rw [firstW, HV.out]; exact HST.out)⟩, by simp [intOf]; omega⟩
    · obtain rfl : k = 16 := by omega
      rw [show (((16 : Nat)) : Int) = 16 from rfl]
      obtain ⟨wo, rfl⟩ : ∃ wo : World, wo = wr := ⟨_, rfl⟩
      go_wp2
      go_loopw [5, 6, 7, 8, 9] (fun tv _ _ _ _ wr => ∃ (k t : Nat), t = 16 + k ∧ k ≤ 48 ∧ tv = .int .i64 t ∧ Hid (WT w wr (moreW (firstW b.data.toList 16) k))) (fun tv _ _ _ _ _ => 64 - (intOf tv).toNat)
      case atStart => exact ⟨0, 16, by omega, by omega, rfl, HW⟩
      case round =>
        obtain ⟨k, t, ht, hk, rfl, HR⟩ := hrel
        have hlen : (moreW (firstW b.data.toList 16) k).length = t := by rw [moreW_len, firstW_len]; omega
        by_cases hlt : k < 48
        · have c1 := HR.out.cell (t - 15) (by omega)
          have c2 := HR.out.cell (t - 2) (by omega)
          have c3 := HR.out.cell (t - 7) (by omega)
          have c4 := HR.out.cell (t - 16) (by omega)
          have f1 := HR.out.frozen t
          have hc := HR.out.cell t (by omega)
          have hst := fun n => (HR.out.drew n).store (nextW (moreW (firstW b.data.toList 16) k) t) (by omega)
          simp only [hlen] at hst
          have hmk : moreW (firstW b.data.toList 16) k ++ [nextW (moreW (firstW b.data.toList 16) k) t] = moreW (firstW b.data.toList 16) (k + 1) := by rw [moreW, ← ht]
          have hall := moreW_ok _ (firstW_ok b.data.toList 16) k
          have r1 := getD_ok _ hall (t - 15)
          have r2 := getD_ok _ hall (t - 2)
          have r3 := getD_ok _ hall (t - 7)
          have r4 := getD_ok _ hall (t - 16)
          have hnx : nextW (moreW (firstW b.data.toList 16) k) t = nextW (moreW (firstW b.data.toList 16) k) t := rfl
          conv at hnx => rhs; unfold nextW
          simp only [] at hnx
          have HST := Lib.hid hst
          have HMK := Lib.hid hmk
          have HLN := Lib.hid hlen
          clear hst hmk hlen hall
          generalize (moreW (firstW b.data.toList 16) k).getD (t - 15) 0 = x at *
          generalize (moreW (firstW b.data.toList 16) k).getD (t - 2) 0 = y at *
          generalize (moreW (firstW b.data.toList 16) k).getD (t - 7) 0 = z at *
          generalize (moreW (firstW b.data.toList 16) k).getD (t - 16) 0 = u at *
          generalize nextW (moreW (firstW b.data.toList 16) k) t = nx at *
          have hnv : (bits BinOp.xor IntKind.u32 (bits BinOp.xor IntKind.u32 (rotI y 17) (rotI y 19)) (y / 1024) + z + bits BinOp.xor IntKind.u32 (bits BinOp.xor IntKind.u32 (rotI x 7) (rotI x 18)) (x / 8) + u) % 4294967296 = nx := by
            rw [hnx]; simp only [IntKind.wrap_u32]; omega
          have HNX := Lib.hid hnv
          clear hnx hnv
          obtain ⟨x0, x1⟩ := r1
          obtain ⟨y0, y1⟩ := r2
          obtain ⟨z0, z1⟩ := r3
          obtain ⟨u0, u1⟩ := r4
          have p1 : ∀ w, Calls Tryd.prog 143 #[.int .u32 x, .int .i64 7] w fun e w' => e = .returned (.int .u32 (rotI x 7)) ∧ w = w' := turned_calls x 7 x0 x1 (by omega) (by omega)
          have p2 : ∀ w, Calls Tryd.prog 143 #[.int .u32 x, .int .i64 18] w fun e w' => e = .returned (.int .u32 (rotI x 18)) ∧ w = w' := turned_calls x 18 x0 x1 (by omega) (by omega)
          have p3 : ∀ w, Calls Tryd.prog 143 #[.int .u32 y, .int .i64 17] w fun e w' => e = .returned (.int .u32 (rotI y 17)) ∧ w = w' := turned_calls y 17 y0 y1 (by omega) (by omega)
          have p4 : ∀ w, Calls Tryd.prog 143 #[.int .u32 y, .int .i64 19] w fun e w' => e = .returned (.int .u32 (rotI y 19)) ∧ w = w' := turned_calls y 19 y0 y1 (by omega) (by omega)
          have t0 : (16 : Int) ≤ t := by omega
          have t1 : (t : Int) < 64 := by omega
          have HTK := Lib.hid ht
          have HKK := Lib.hid (And.intro hk hlt)
          clear ht hk hlt
          go_wp2
          go_quiet (fail)
          go_wp2_with (go_at_call 143; first
            | ((with_reducible refine (p1 _).mono ?_); rintro e w1 ⟨rfl, rfl⟩)
            | ((with_reducible refine (p2 _).mono ?_); rintro e w1 ⟨rfl, rfl⟩)
            | ((with_reducible refine (p3 _).mono ?_); rintro e w1 ⟨rfl, rfl⟩)
            | ((with_reducible refine (p4 _).mono ?_); rintro e w1 ⟨rfl, rfl⟩))
          go_region
          go_wp2
          rw [HNX.out]
          go_roundw
          case rel =>
            refine ⟨k + 1, t + 1, by have := HTK.out; omega, by have := HKK.out; omega, by go_num, Lib.hid ?_⟩
            rw [← HMK.out]; exact HST.out _
          case measure => simp [intOf]; omega
        · obtain rfl : k = 48 := by omega
          obtain rfl : t = 64 := by omega
          rw [show (((64 : Nat)) : Int) = 64 from rfl]
          have hw := HR.out
          rw [show moreW (firstW b.data.toList 16) 48 = wordsZ b.data.toList from rfl] at hw
          have HE := Lib.hid hw
          clear hw hlen hlt hk ht
          have g1 := HE.out.2.1
          have g2 := HE.out.1
          have ti := a64_info (wordsZ b.data.toList)
          have ts : (a64 []).size = (a64 (wordsZ b.data.toList)).size := by rw [a64_size, a64_size]
          have te := row_end HE.out (wordsZ b.data.toList)
          generalize hWW : wordsZ b.data.toList = W at *
          go_wp2_with (first
            | (refine wpList_load_row rfl 163 _ rfl (w.heap.size + 1) rfl 163 (a64 W) (0, 0) _ g1 Tryd.underlying163 rfl ti ?_)
            | (refine wpList_store_row rfl 163 _ _ rfl w.heap.size (a64 W) rfl rfl 163 (a64 []) g2 ti ts (a64_one _) ?_))
          refine bodyPost_ret (v := .agg (a64 W)) (results_cell_row rfl _ _ w.heap.size 163 (a64 W) (0, 0) _ rfl te.1 Tryd.underlying163 rfl ti) rfl ⟨by rw [hWW], te.2⟩
end Go.Proofs.YtkpfbjlbllpahaaDoor
