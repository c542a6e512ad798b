import Derived.Test.YtkpfbjlbllpahaaDoorSha4
set_option linter.unusedVariables false
namespace Go.Proofs.YtkpfbjlbllpahaaDoor
open Go.RowKit
theorem WT.step {w wr w' : World} {l : List Int} (h : WT w wr l) (hb : Below wr.heap.size wr w') : WT w w' l :=
  ⟨by rw [hb.block _ (Array.getElem?_eq_some_iff.1 h.1).1]; exact h.1, by rw [hb.block _ (Array.getElem?_eq_some_iff.1 h.2.1).1]; exact h.2.1, h.2.2.trans (hb.mono h.2.2.size)⟩
theorem beL_four (l : List UInt8) (k : Nat) (h : 4 * k + 4 ≤ l.length) : beL ((l.drop (4 * k)).take 4) = beN l[4 * k].toNat l[4 * k + 1].toNat l[4 * k + 2].toNat l[4 * k + 3].toNat := by
  have e : (l.drop (4 * k)).take 4 = [l[4 * k], l[4 * k + 1], l[4 * k + 2], l[4 * k + 3]] := by
    apply List.ext_getElem
    · simp; omega
    · intro i h1 h2
      simp at h2
      rw [List.getElem_take, List.getElem_drop]
      have : i = 0 ∨ i = 1 ∨ i = 2 ∨ i = 3 := by omega
      rcases this with rfl | rfl | rfl | rfl <;> rfl
  rw [e]; simp [beL, beN]
set_option maxRecDepth 100000 in
set_option maxHeartbeats 2000000 in
theorem schedule_calls (g cap len p : Nat) (blk : List UInt8) (hbl : blk.length = 64) (hp : p + 64 ≤ len) (hlen' : len ≤ 140737488355328) (w : World) (hg : g < w.heap.size)
    (hc : ∀ j (h : j < blk.length), w.cell? ⟨g, p + j, none⟩ = some (.int .u8 blk[j].toNat)) :
    Calls Tryd.prog 128 #[.slice (some ⟨g, 0, none⟩) len cap, .int .i64 p] w fun e w' => e = .returned (.agg (a64 (wordsZ blk))) ∧ Below w.heap.size w w' := by
  have HC := Lib.hid hc
  clear hc
  go_enter Tryd.func128, Tryd.ntmps128
  go_wp2
  go_loopw [6] (fun i wr => ∃ k : Nat, k ≤ 16 ∧ i = .int .i64 k ∧ Hid (WT w wr (firstW blk k))) (fun i _ => 16 - (intOf i).toNat)
  case atStart => exact ⟨0, by omega, rfl, Lib.hid (WT.new w)⟩
  case round =>
    obtain ⟨k, hk, rfl, HW⟩ := hrel
    by_cases hlt : k < 16
    · have hce := fun j (h : j < blk.length) => (HW.out.2.2.cell (p := ⟨g, p + j, none⟩) hg).trans (HC.out j h)
      have c := fun w' (hb : Below wr.heap.size wr w') => word_calls g cap len (p + 4 * k) blk[4 * k].toNat blk[4 * k + 1].toNat blk[4 * k + 2].toNat blk[4 * k + 3].toNat wr (by omega) hlen' (hce (4 * k) (by omega)) (hce (4 * k + 1) (by omega)) (hce (4 * k + 2) (by omega)) (hce (4 * k + 3) (by omega)) (UInt8.toNat_lt _) (UInt8.toNat_lt _) (UInt8.toNat_lt _) (UInt8.toNat_lt _)
      have c' := c wr (Below.refl _ _)
      rw [← beL_four blk k (by omega), show (((p + 4 * k : Nat)) : Int) = (p : Int) + 4 * k by omega] at c'
      have hst := fun w' (hb : Below wr.heap.size wr w') => (HW.out.step hb).store ((beL ((blk.drop (4 * k)).take 4) : Nat) : Int) (by rw [firstW_len]; omega)
      rw [firstW_len] at hst
      have hf := fun w' (hb : Below wr.heap.size wr w') => (HW.out.step hb).frozen k
      have hcl := fun w' (hb : Below wr.heap.size wr w') => (HW.out.step hb).cell k (by omega)
      clear c hce
      have HST := Lib.hid hst
      have HF := Lib.hid hf
      have HCL := Lib.hid hcl
      clear hst hf hcl
      have hki : (k : Int) < 16 := by omega
      have hpi : (p : Int) ≤ 140737488355328 := by omega
      generalize hv : beL ((blk.drop (4 * k)).take 4) = v at *
      have HV := Lib.hid hv
      clear hv
      go_wp2_with (go_at_call 145; (with_reducible refine c'.mono ?_); rintro e w1 ⟨rfl, hb1⟩; have hcl1 := HCL.out _ hb1; have hf1 := HF.out _ hb1; have HB1 := Lib.hid hb1; clear hb1)
      exact ⟨⟨k + 1, by omega, by go_num, Lib.hid (by rw [firstW, HV.out]; exact HST.out _ HB1.out)⟩, by simp [intOf]; omega⟩
    · obtain rfl : k = 16 := by omega
      rw [show (((16 : Nat)) : Int) = 16 from rfl]
      obtain ⟨wo, rfl⟩ : ∃ wo : World, wo = wr := ⟨_, rfl⟩
      go_wp2
      go_loopw [7, 8, 9, 10, 11] (fun tv _ _ _ _ wr => ∃ (k t : Nat), t = 16 + k ∧ k ≤ 48 ∧ tv = .int .i64 t ∧ Hid (WT w wr (moreW (firstW blk 16) k))) (fun tv _ _ _ _ _ => 64 - (intOf tv).toNat)
      case atStart => exact ⟨0, 16, by omega, by omega, rfl, HW⟩
      case round =>
        obtain ⟨k, t, ht, hk, rfl, HR⟩ := hrel
        have hlen : (moreW (firstW blk 16) k).length = t := by rw [moreW_len, firstW_len]; omega
        by_cases hlt : k < 48
        · have c1 := HR.out.cell (t - 15) (by omega)
          have c2 := HR.out.cell (t - 2) (by omega)
          have c3 := HR.out.cell (t - 7) (by omega)
          have c4 := HR.out.cell (t - 16) (by omega)
          have f1 := HR.out.frozen t
          have hc := HR.out.cell t (by omega)
          have hst := fun n => (HR.out.drew n).store (nextW (moreW (firstW blk 16) k) t) (by omega)
          simp only [hlen] at hst
          have hmk : moreW (firstW blk 16) k ++ [nextW (moreW (firstW blk 16) k) t] = moreW (firstW blk 16) (k + 1) := by rw [moreW, ← ht]
          have hall := moreW_ok _ (firstW_ok blk 16) k
          have r1 := getD_ok _ hall (t - 15)
          have r2 := getD_ok _ hall (t - 2)
          have r3 := getD_ok _ hall (t - 7)
          have r4 := getD_ok _ hall (t - 16)
          have hnx : nextW (moreW (firstW blk 16) k) t = nextW (moreW (firstW blk 16) k) t := rfl
          conv at hnx => rhs; unfold nextW
          simp only [] at hnx
          have HST := Lib.hid hst
          have HMK := Lib.hid hmk
          have HLN := Lib.hid hlen
          clear hst hmk hlen hall
          generalize (moreW (firstW blk 16) k).getD (t - 15) 0 = x at *
          generalize (moreW (firstW blk 16) k).getD (t - 2) 0 = y at *
          generalize (moreW (firstW blk 16) k).getD (t - 7) 0 = z at *
          generalize (moreW (firstW blk 16) k).getD (t - 16) 0 = u at *
          generalize nextW (moreW (firstW blk 16) k) t = nx at *
          have hnv : (bits BinOp.xor IntKind.u32 (bits BinOp.xor IntKind.u32 (rotI y 17) (rotI y 19)) (y / 1024) + z + bits BinOp.xor IntKind.u32 (bits BinOp.xor IntKind.u32 (rotI x 7) (rotI x 18)) (x / 8) + u) % 4294967296 = nx := by
            rw [hnx]; simp only [IntKind.wrap_u32]; omega
          have HNX := Lib.hid hnv
          clear hnx hnv
          obtain ⟨x0, x1⟩ := r1
          obtain ⟨y0, y1⟩ := r2
          obtain ⟨z0, z1⟩ := r3
          obtain ⟨u0, u1⟩ := r4
          have p1 : ∀ w, Calls Tryd.prog 129 #[.int .u32 x, .int .u64 7] w fun e w' => e = .returned (.int .u32 (rotI x 7)) ∧ w = w' := rotr_calls x 7 x0 x1 (by omega) (by omega)
          have p2 : ∀ w, Calls Tryd.prog 129 #[.int .u32 x, .int .u64 18] w fun e w' => e = .returned (.int .u32 (rotI x 18)) ∧ w = w' := rotr_calls x 18 x0 x1 (by omega) (by omega)
          have p3 : ∀ w, Calls Tryd.prog 129 #[.int .u32 y, .int .u64 17] w fun e w' => e = .returned (.int .u32 (rotI y 17)) ∧ w = w' := rotr_calls y 17 y0 y1 (by omega) (by omega)
          have p4 : ∀ w, Calls Tryd.prog 129 #[.int .u32 y, .int .u64 19] w fun e w' => e = .returned (.int .u32 (rotI y 19)) ∧ w = w' := rotr_calls y 19 y0 y1 (by omega) (by omega)
          have t0 : (16 : Int) ≤ t := by omega
          have t1 : (t : Int) < 64 := by omega
          have HTK := Lib.hid ht
          have HKK := Lib.hid (And.intro hk hlt)
          clear ht hk hlt
          go_wp2_with (go_at_call 129; first
            | ((with_reducible refine (p1 _).mono ?_); rintro e w1 ⟨rfl, rfl⟩)
            | ((with_reducible refine (p2 _).mono ?_); rintro e w1 ⟨rfl, rfl⟩)
            | ((with_reducible refine (p3 _).mono ?_); rintro e w1 ⟨rfl, rfl⟩)
            | ((with_reducible refine (p4 _).mono ?_); rintro e w1 ⟨rfl, rfl⟩))
          go_region
          go_wp2
          rw [HNX.out]
          go_roundw
          case rel =>
            refine ⟨k + 1, t + 1, by have := HTK.out; omega, by have := HKK.out; omega, by go_num, Lib.hid ?_⟩
            rw [← HMK.out]; exact HST.out _
          case measure => simp [intOf]; omega
        · obtain rfl : k = 48 := by omega
          obtain rfl : t = 64 := by omega
          rw [show (((64 : Nat)) : Int) = 64 from rfl]
          have hw := HR.out
          rw [show moreW (firstW blk 16) 48 = wordsZ blk from rfl] at hw
          have HE := Lib.hid hw
          clear hw hlen hlt hk ht
          have g1 := HE.out.2.1
          have g2 := HE.out.1
          have ti := a64_info (wordsZ blk)
          have ts : (a64 []).size = (a64 (wordsZ blk)).size := by rw [a64_size, a64_size]
          have te := row_end HE.out (wordsZ blk)
          generalize hWW : wordsZ blk = W at *
          go_wp2_with (first
            | (refine wpList_load_row rfl 163 _ rfl (w.heap.size + 1) rfl 163 (a64 W) (0, 0) _ g1 Tryd.underlying163 rfl ti ?_)
            | (refine wpList_store_row rfl 163 _ _ rfl w.heap.size (a64 W) rfl rfl 163 (a64 []) g2 ti ts (a64_one _) ?_))
          refine bodyPost_ret (v := .agg (a64 W)) (results_cell_row rfl _ _ w.heap.size 163 (a64 W) (0, 0) _ rfl te.1 Tryd.underlying163 rfl ti) rfl ⟨by rw [hWW], te.2⟩
end Go.Proofs.YtkpfbjlbllpahaaDoor
