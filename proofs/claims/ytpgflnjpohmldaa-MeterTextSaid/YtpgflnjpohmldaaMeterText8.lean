import Derived.Test.YtpgflnjpohmldaaMeterText7
set_option linter.unusedVariables false
namespace Go.Proofs.Ytpgflnjpohmldaa
open Go.RowKit
set_option maxRecDepth 100000 in
set_option maxHeartbeats 1000000 in
theorem rnext_calls (l : List Nat) (hd : allDig l) (hlen : l.length ≤ 3000) (v : Value) (w : World) (hr : Reads w v l) : Calls Try.prog 67 #[v] w (NewRow (nxtR l 1) w) := by
  obtain ⟨i0, hi, hz0, hz1, hz2⟩ := info_parts infoInt
  obtain ⟨ax, capx, rfl, hcells⟩ := hr
  obtain ⟨n, hn⟩ : ∃ n, n = l.length := ⟨_, rfl⟩
  rw [← hn] at hlen
  rw [← hn]
  have HC := Lib.hid hcells
  have HN := Lib.hid hn
  clear hn hcells
  go_enter Try.func67, Try.ntmps67
  go_wp2
  go_loopw [3, 4, 5, 6] (fun ov cv iv _ wr => ∃ (k c : Nat) (p : List Nat) (a : Option Addr) (cap : Nat), k ≤ n ∧ c ≤ 1 ∧ p.length = k ∧ iv = .int .i64 k ∧ cv = .int .i64 c ∧ ov = .slice a k cap ∧ Hid (nxtR l 1 = p ++ nxtR (l.drop k) c) ∧ Hid (wr.ownsRow w.heap.size 3 1 (.slice a k cap) k (intC p)) ∧ Hid (Below w.heap.size w wr)) (fun _ _ k _ _ => n - (intOf k).toNat)
  case atStart => exact ⟨0, 1, [], none, 0, by omega, by omega, rfl, rfl, rfl, rfl, Lib.hid rfl, Lib.hid (World.ownsRow_nil _ _ _ _), Lib.hid (Below.refl _ _)⟩
  case round =>
    obtain ⟨k, c, p, a, cap, hk, hc, hpk, rfl, rfl, rfl, HP, HO, HB⟩ := hrel
    have HPK := Lib.hid hpk
    clear hpk
    by_cases hlt : k < n
    · have hkl : k < l.length := by rw [← HN.out]; exact hlt
      obtain ⟨g, rfl, hg, hcs⟩ := HC.out (by intro h; rw [h] at hkl; simp at hkl)
      have hdrop : l.drop k = l[k] :: l.drop (k + 1) := List.drop_eq_getElem_cons hkl
      have hd10 : l[k] < 10 := hd _ (List.getElem_mem _)
      have hcell : wr.cell? ⟨g, k, none⟩ = some (.int .i64 (l[k] : Nat)) := (HB.out.cell (p := ⟨g, k, none⟩) hg).trans (hcs k hkl)
      have HD := Lib.hid hdrop
      clear hdrop hcs
      generalize hx : l[k] = d at *
      clear hx
      have hb : (k : Int) < n := by omega
      have hW := HO.out.alloc (.cells #[Value.int .i64 (((d : Int) + c) % 10)] 3)
      have HW := Lib.hid hW
      have hsz : w.heap.size ≤ (wr.alloc (.cells #[Value.int .i64 (((d : Int) + c) % 10)] 3)).heap.size := Nat.le_trans HB.out.size (by simp)
      have HS := Lib.hid hsz
      clear hsz hW
      go_wp2_with (at_builtin; refine wpList_append_own _ rfl _ _ 48 rfl w.heap.size 3 i0 (.int .i64 0) 1 8 Try.underlying48 hi hz0 hz1 hz2 rfl (by decide) _ _ _ rfl HW.out ⟨wr.heap.size, 0, none⟩ 1 1 [.int .i64 (((d : Int) + c) % 10)] rfl rfl (one_news _ _ _) (one_cell _ rfl) (by unfold maxLen; omega) (by omega) HS.out ?_; intro v' w1 hown1 hgrow1 _; obtain ⟨a1, cap1, rfl, _⟩ := own_form hown1; have HO1 := Lib.hid hown1; have HG1 := Lib.hid hgrow1; clear hown1 hgrow1)
      go_roundw
      case rel =>
        refine ⟨k + 1, (d + c) / 10, p ++ [(d + c) % 10], a1, cap1, by omega, by omega, by rw [List.length_append, HPK.out]; rfl, by go_num, by go_num, rfl, Lib.hid ?_, Lib.hid ?_, Lib.hid (grown_own3 HB.out HO.out HG1.out)⟩
        · rw [HP.out, HD.out, nxtR, List.append_assoc]; rfl
        · have e : intC (p ++ [(d + c) % 10]) = intC p ++ [Value.int .i64 (((d : Int) + c) % 10)] := by
            rw [intC_append]
            show _ ++ [Value.int .i64 (((d + c) % 10 : Nat) : Int)] = _
            rw [show (((d + c) % 10 : Nat) : Int) = ((d : Int) + c) % 10 by omega]
          rw [e]; exact HO1.out
      case measure => simp [intOf]; omega
    · obtain rfl : k = n := by omega
      have hend := HP.out
      rw [List.drop_of_length_le (by rw [← HN.out]; exact Nat.le_refl _), nxtR] at hend
      have HE := Lib.hid hend
      clear hend
      by_cases hc0 : c = 0
      · subst hc0
        go_wp2
        go_ret
        refine ⟨_, rfl, ⟨a, cap, ?_⟩, HB.out⟩
        have hE : nxtR l 1 = p := by rw [HE.out]; simp
        rw [hE, HPK.out]
        exact ⟨rfl, HO.out⟩
      · obtain rfl : c = 1 := by omega
        have hsz : w.heap.size ≤ (wr.alloc (.cells #[Value.int .i64 1] 3)).heap.size := Nat.le_trans HB.out.size (by simp)
        have HS := Lib.hid hsz
        have hW := HO.out.alloc (.cells #[Value.int .i64 1] 3)
        have HW := Lib.hid hW
        clear hsz hW
        go_wp2_with (at_builtin; refine wpList_append_own _ rfl _ _ 48 rfl w.heap.size 3 i0 (.int .i64 0) 1 8 Try.underlying48 hi hz0 hz1 hz2 rfl (by decide) _ _ _ rfl HW.out ⟨wr.heap.size, 0, none⟩ 1 1 [.int .i64 1] rfl rfl (one_news _ _ _) (one_cell _ rfl) (by unfold maxLen; omega) (by omega) HS.out ?_; intro v' w1 hown1 hgrow1 _; obtain ⟨a1, cap1, rfl, _⟩ := own_form hown1; have HO1 := Lib.hid hown1; have HG1 := Lib.hid hgrow1; clear hown1 hgrow1)
        go_ret
        refine ⟨_, rfl, ⟨a1, cap1, ?_⟩, grown_own3 HB.out HO.out HG1.out⟩
        have hE : nxtR l 1 = p ++ [1] := by rw [HE.out]; simp
        rw [hE, List.length_append, HPK.out]
        refine ⟨rfl, ?_⟩
        rw [intC_append]; exact HO1.out
theorem hlvR_drop (l : List Nat) (hd : allDig l) : ∀ k, k < l.length → hlvR (l.drop k) = ((10 * (hlvR (l.drop (k + 1))).2 + l.getD k 0) / 2 :: (hlvR (l.drop (k + 1))).1, (10 * (hlvR (l.drop (k + 1))).2 + l.getD k 0) % 2) := by
  intro k hk
  rw [List.drop_eq_getElem_cons hk, hlvR, List.getD_eq_getElem?_getD, List.getElem?_eq_getElem hk]; rfl
def Halved (l : List Nat) (w : World) (e : Ending) (w' : World) : Prop := ∃ v, e = .returned (.tuple #[v, .bool (decide (vald l % 2 = 1))]) ∧ RowI w' w.heap.size v (hlvR l).1 ∧ Below w.heap.size w w'
set_option maxRecDepth 100000 in
set_option maxHeartbeats 1000000 in
theorem rhalved_calls (l : List Nat) (hd : allDig l) (hlen : l.length ≤ 3000) (v : Value) (w : World) (hr : Reads w v l) : Calls Try.prog 66 #[v] w (Halved l w) := by
  obtain ⟨i0, hi, hz0, hz1, hz2⟩ := info_parts infoInt
  obtain ⟨ax, capx, rfl, hcells⟩ := hr
  obtain ⟨n, hn⟩ : ∃ n, n = l.length := ⟨_, rfl⟩
  rw [← hn] at hlen
  rw [← hn]
  have HC := Lib.hid hcells
  have HN := Lib.hid hn
  have hv := hlvR_val l hd
  have HV := Lib.hid hv
  clear hn hcells hv
  go_enter Try.func66, Try.ntmps66
  go_wp2_with (at_make; refine wpList_make_full _ rfl _ _ 48 rfl w.heap.size 3 i0 (.int .i64 0) 1 Try.underlying48 hi hz0 hz1 .i64 .i64 _ _ n rfl rfl rfl rfl (by rw [hz2]; omega) (by unfold maxLen; omega) (Nat.le_refl _) ?_; intro w1 hown1 hgr1; have HO1 := Lib.hid hown1; have HG1 := Lib.hid hgr1; clear hown1 hgr1)
  go_loopw [5, 6, 7] (fun lv iv _ wr => ∃ (k c : Nat), k ≤ n ∧ c ≤ 1 ∧ iv = .int .i64 ((k : Int) - 1) ∧ lv = .int .i64 c ∧ Hid (c = (hlvR (l.drop k)).2) ∧ Hid (wr.ownsRow w.heap.size 3 1 (.slice (some ⟨w.heap.size, 0, none⟩) n n) n (intC (List.replicate k 0 ++ (hlvR (l.drop k)).1))) ∧ Hid (Below w.heap.size w wr)) (fun _ i _ _ => (intOf i + 1).toNat)
  case atStart =>
    refine ⟨n, 0, by omega, by omega, rfl, rfl, Lib.hid ?_, Lib.hid ?_, Lib.hid ?_⟩
    · rw [List.drop_of_length_le (by rw [← HN.out]; exact Nat.le_refl _)]; rfl
    · have := HO1.out
      rw [show (Value.int .i64 0).cells = #[Value.int .i64 0] from rfl, Nat.mul_one, toList_madeCells_one] at this
      rw [List.drop_of_length_le (by rw [← HN.out]; exact Nat.le_refl _)]
      show World.ownsRow _ _ _ _ _ _ (intC (List.replicate n 0 ++ []))
      rw [List.append_nil]
      unfold intC
      rw [List.map_replicate]; exact this
    · have g := HG1.out
      exact ⟨g.os, g.tape, g.output, g.size, fun k hk => g.block k hk (by simp)⟩
  case round =>
    obtain ⟨k, c, hk, hc, rfl, rfl, HC2, HO, HB⟩ := hrel
    by_cases hlt : 0 < k
    · obtain ⟨j, rfl⟩ : ∃ j, k = j + 1 := ⟨k - 1, by omega⟩
      have hkl : j < l.length := by rw [← HN.out]; omega
      obtain ⟨g, rfl, hg, hcs⟩ := HC.out (by intro h; rw [h] at hkl; simp at hkl)
      have hstep := hlvR_drop l hd j hkl
      have hd10 : l.getD j 0 < 10 := by rw [List.getD_eq_getElem?_getD, List.getElem?_eq_getElem hkl]; exact hd _ (List.getElem_mem _)
      have hcell : wr.cell? ⟨g, j, none⟩ = some (.int .i64 (l.getD j 0 : Nat)) := by
        rw [List.getD_eq_getElem?_getD, List.getElem?_eq_getElem hkl]
        exact (HB.out.cell (p := ⟨g, j, none⟩) hg).trans (hcs j hkl)
      rw [← HC2.out] at hstep
      have HST := Lib.hid hstep
      clear hstep hcs
      generalize hx : l.getD j 0 = d at *
      clear hx
      have hb : (j : Int) < n := by omega
      have hown : ∃ v0, wr.cell? ⟨w.heap.size, j, none⟩ = some v0 := by
        refine ⟨_, HO.out.cellAt j (by omega) |>.trans (intC_at _ j ?_)⟩
        rw [List.length_append, List.length_replicate]; omega
      obtain ⟨v0, hv0⟩ := hown
      have hfr := HO.out.frozenAt j
      have hj1 : (((j + 1 : Nat) : Int) - 1) = (j : Int) := by omega
      rw [hj1]
      have hne : (⟨w.heap.size, j, none⟩ : Addr) ≠ ⟨g, j, none⟩ := by intro h; injection h; omega
      clear hj1
      go_wp2
      go_roundw
      case rel =>
        refine ⟨j, (10 * c + d) % 2, by omega, by omega, by go_num, by go_num, Lib.hid ?_, Lib.hid ?_, Lib.hid (HB.out.setCell (Nat.le_refl _) _)⟩
        · rw [HST.out]
        · have h1 := (HO.out.stored j (.int .i64 (((10 * c + d) / 2 : Nat) : Int))).1
          rw [← intC_set, List.replicate_succ', List.append_assoc, List.set_append_right _ _ (by simp), List.length_replicate, Nat.sub_self] at h1
          rw [HST.out]
          rw [show (((10 * c + d) / 2 : Nat) : Int) = (10 * (c : Int) + d) / 2 by omega] at h1
          exact h1
      case measure => simp [intOf]
    · obtain rfl : k = 0 := by omega
      have hc2 := HC2.out
      rw [List.drop_zero, HV.out.2.2.1] at hc2
      have hown := HO.out
      rw [List.drop_zero, List.replicate_zero, List.nil_append] at hown
      have HO2 := Lib.hid hown
      have HC3 := Lib.hid hc2
      clear hown hc2
      have hm1 : ((0 : Nat) : Int) - 1 = -1 := by omega
      rw [hm1]
      go_wp2
      go_ret2
      refine ⟨.slice (some ⟨w.heap.size, 0, none⟩) n n, ?_, ⟨some ⟨w.heap.size, 0, none⟩, n, ?_, ?_⟩, HB.out⟩
      · rw [← HC3.out]
        have : ((c : Int) == 1) = decide (c = 1) := by rw [Bool.eq_iff_iff, beq_iff_eq, decide_eq_true_iff]; omega
        rw [← this]; rfl
      · rw [HV.out.1, ← HN.out]
      · rw [HV.out.1, ← HN.out]; exact HO2.out
end Go.Proofs.Ytpgflnjpohmldaa
