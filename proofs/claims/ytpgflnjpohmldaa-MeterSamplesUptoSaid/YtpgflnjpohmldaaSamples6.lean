import Derived.Test.YtpgflnjpohmldaaSamples2
import Derived.Deep.QuietTactic
set_option linter.unusedVariables false
namespace Go.Proofs.Ytpgflnjpohmldaa
open Go.RowKit
def iC (l : List Int) : List Value := l.map (Value.int .i64)
theorem iC_len (l : List Int) : (iC l).length = l.length := by simp [iC]
theorem iC_append (a b : List Int) : iC (a ++ b) = iC a ++ iC b := by simp [iC]
theorem iC_at (l : List Int) (j : Nat) (h : j < l.length) : (iC l)[j]? = some (.int .i64 l[j]) := by
  simp [iC, List.getElem?_eq_getElem h]
theorem iC_set (l : List Int) (j : Nat) (x : Int) : iC (l.set j x) = (iC l).set j (.int .i64 x) := by simp [iC]
/-- The twin: a row of the call's own, these ints and the mark behind them. -/
def TwinAt (w : World) (base g cap : Nat) (l : List Int) : Prop :=
  w.ownsRow base 3 1 (.slice (some ⟨g, 0, none⟩) (l.length + 1) cap) (l.length + 1) (iC (l ++ [-7]))
theorem TwinAt.keep {w w' : World} {base g cap : Nat} {l : List Int} (h : TwinAt w base g cap l) (hk : Below w.heap.size w w') : TwinAt w' base g cap l := by
  refine ⟨h.1, ?_⟩
  rcases h.2 with h | ⟨g, c, cur, h1, h2, h3, h4⟩
  · exact .inl h
  · exact .inr ⟨g, c, cur, h1, h2, by rw [hk.block g (Array.getElem?_eq_some_iff.1 h3).1]; exact h3, h4⟩
theorem TwinAt.ints {w : World} {base g cap : Nat} {l : List Int} (h : TwinAt w base g cap l) (hl : ∀ n ∈ l, -9223372036854775808 ≤ n ∧ n ≤ 9223372036854775807) : IntsIn w (.slice (some ⟨g, 0, none⟩) l.length cap) l := by
  refine ⟨_, cap, rfl, fun _ => ⟨g, 0, rfl, (h.lt g rfl).2, fun j hj => ?_⟩, hl⟩
  rw [Nat.zero_add, h.cellAt j (by omega), iC_at _ _ (by rw [List.length_append]; omega), List.getElem_append_left hj]
theorem TwinAt.cap {w : World} {base g cap : Nat} {l : List Int} (h : TwinAt w base g cap l) : l.length + 1 ≤ cap ∧ cap ≤ maxLen := by
  rcases h.2 with ⟨h0, _⟩ | ⟨g', cap', cur, hv, hg, hb, hn, hcap, hsz, htk⟩
  · cases h0
  · cases hv; exact ⟨hn, hcap⟩
theorem own_full {w : World} {base e size n : Nat} {v : Value} {xs : List Value} (h : w.ownsRow base e size v (n + 1) xs) : ∃ g cap, v = .slice (some ⟨g, 0, none⟩) (n + 1) cap ∧ n + 1 ≤ cap := by
  rcases h.2 with ⟨_, h0⟩ | ⟨g, cap, cur, h1, _, _, hn, _⟩
  · omega
  · exact ⟨g, cap, h1, hn⟩
set_option maxRecDepth 100000 in
set_option maxHeartbeats 1000000 in
theorem twin_calls (v : Value) (l : List Int) (w : World) (hl : IntsIn w v l) (hlen : l.length ≤ 1048576) :
    Calls Try.prog 27 #[v] w fun e w' => ∃ g cap, e = .returned (.slice (some ⟨g, 0, none⟩) l.length cap) ∧ TwinAt w' w.heap.size g cap l ∧ Below w.heap.size w w' := by
  obtain ⟨i0, hi, hz0, hz1, hz2⟩ := info_parts infoInt
  obtain ⟨a, capv, rfl, hcs, _⟩ := hl
  obtain ⟨n, hnn⟩ : ∃ n, n = l.length := ⟨_, rfl⟩
  have HC := Lib.hid hcs
  rw [← hnn] at hlen
  rw [← hnn]
  have HN := Lib.hid hnn
  clear hcs hnn
  go_enter Try.func27, Try.ntmps27
  go_wp2
  go_loopw [3, 4] (fun ov iv wr => ∃ (k : Nat) (a' : Option Addr) (cap : Nat), k ≤ n ∧ iv = .int .i64 k ∧ ov = .slice a' k cap ∧ Hid (wr.ownsRow w.heap.size 3 1 (.slice a' k cap) k (iC (l.take k))) ∧ Hid (Below w.heap.size w wr)) (fun _ iv _ => n - (intOf iv).toNat)
  case atStart => exact ⟨0, none, 0, by omega, rfl, rfl, Lib.hid (World.ownsRow_nil _ _ _ _), Lib.hid (Below.refl _ _)⟩
  case round =>
    obtain ⟨k, a', cap, hk, rfl, rfl, HO, HB⟩ := hrel
    by_cases hlt : k < n
    · have hkl : k < l.length := by rw [← HN.out]; exact hlt
      obtain ⟨b, off, rfl, hb, hcell⟩ := HC.out (by intro h; rw [h] at hkl; simp at hkl)
      have hc1 : wr.cell? ⟨b, off + k, none⟩ = some (.int .i64 l[k]) := (HB.out.cell (p := ⟨b, off + k, none⟩) hb).trans (hcell k hkl)
      have htk : l.take (k + 1) = l.take k ++ [l[k]] := by rw [List.take_add_one, List.getElem?_eq_getElem hkl]; rfl
      have HTK := Lib.hid htk
      clear hcell htk
      generalize l[k] = x at *
      have hbk : (k : Int) < n := by omega
      have hW := HO.out.alloc (.cells #[Value.int .i64 x] 3)
      have HW := Lib.hid hW
      have hsz : w.heap.size ≤ (wr.alloc (.cells #[Value.int .i64 x] 3)).heap.size := Nat.le_trans HB.out.size (by simp)
      have HS := Lib.hid hsz
      clear hsz hW
      go_wp2_with (at_builtin; refine wpList_append_own _ rfl _ _ 48 rfl w.heap.size 3 i0 (.int .i64 0) 1 8 Try.underlying48 hi hz0 hz1 hz2 rfl (by decide) _ _ _ rfl HW.out ⟨wr.heap.size, 0, none⟩ 1 1 [.int .i64 x] rfl rfl (one_news _ _ _) (one_cell _ rfl) (by unfold maxLen; omega) (by omega) HS.out ?_; intro v' w1 hown1 hgrow1 _; obtain ⟨a1, cap1, rfl, _⟩ := own_form hown1; have HO1 := Lib.hid hown1; have HG1 := Lib.hid hgrow1; clear hown1 hgrow1)
      go_roundw
      case rel =>
        refine ⟨k + 1, a1, cap1, by omega, by go_num, rfl, Lib.hid ?_, Lib.hid (grown_own3 HB.out HO.out HG1.out)⟩
        have e : iC (l.take (k + 1)) = iC (l.take k) ++ [Value.int .i64 x] := by rw [HTK.out, iC_append]; rfl
        rw [e]; exact HO1.out
      case measure => simp [intOf]; omega
    · obtain rfl : k = n := by omega
      have HO2 := HO.out
      rw [List.take_of_length_le (by rw [← HN.out]; exact Nat.le_refl _)] at HO2
      have HW := Lib.hid (HO2.alloc (.cells #[Value.int .i64 (-7)] 3))
      have HS : Hid (w.heap.size ≤ (wr.alloc (.cells #[Value.int .i64 (-7)] 3)).heap.size) := Lib.hid (Nat.le_trans HB.out.size (by simp))
      clear HO2
      go_wp2_with (at_builtin; refine wpList_append_own _ rfl _ _ 48 rfl w.heap.size 3 i0 (.int .i64 0) 1 8 Try.underlying48 hi hz0 hz1 hz2 rfl (by decide) _ _ _ rfl HW.out ⟨wr.heap.size, 0, none⟩ 1 1 [.int .i64 (-7)] rfl rfl (one_news _ _ _) (one_cell _ rfl) (by unfold maxLen; omega) (by omega) HS.out ?_; intro v' w1 hown1 hgrow1 _; obtain ⟨g, cap1, hve, hcap⟩ := own_full (n := k) hown1; subst hve; have hcapi : (k : Int) ≤ cap1 := (by omega); have HO1 := Lib.hid hown1; have HG1 := Lib.hid hgrow1; clear hown1 hgrow1)
      refine bodyPost_ret (v := .slice (some ⟨g, 0, none⟩) k cap1) (by simp [results, Try.results27, go_sem]) rfl ?_
      refine ⟨g, cap1, rfl, ?_, grown_own3 HB.out HO.out HG1.out⟩
      have h := HO1.out
      unfold TwinAt
      rw [iC_append, ← HN.out]
      exact h
theorem TwinAt.lt {w : World} {base g cap : Nat} {l : List Int} (h : TwinAt w base g cap l) : base ≤ g ∧ g < w.heap.size := World.ownsRow.lt h g rfl
theorem TwinAt.at {w : World} {base g cap : Nat} {l : List Int} (h : TwinAt w base g cap l) (j : Nat) (hj : j < l.length) : w.cell? ⟨g, j, none⟩ = some (.int .i64 l[j]) := by
  rw [World.ownsRow.cellAt h j (by omega), iC_at _ _ (by rw [List.length_append]; omega), List.getElem_append_left hj]
theorem TwinAt.mark {w : World} {base g cap : Nat} {l : List Int} (h : TwinAt w base g cap l) : w.cell? ⟨g, l.length, none⟩ = some (.int .i64 (-7)) := by
  rw [World.ownsRow.cellAt h l.length (by omega), iC_at _ _ (by rw [List.length_append]; simp)]; simp
theorem TwinAt.store {w : World} {base g cap : Nat} {l : List Int} (h : TwinAt w base g cap l) (j : Nat) (hj : j < l.length) (x : Int) : TwinAt (w.setCell ⟨g, j, none⟩ (.int .i64 x)) base g cap (l.set j x) := by
  have := (World.ownsRow.stored h j (.int .i64 x)).1
  unfold TwinAt
  rw [List.length_set, show l.set j x ++ [-7] = (l ++ [-7]).set j x from (List.set_append_left _ _ hj).symm, iC_set]
  exact this
theorem belowDrewM {B : Nat} {w W : World} (h : Below B w W) (n : Nat) : Below B w (W.drewN n) := ⟨h.os, h.tape, h.output, h.size, h.block⟩
set_option maxRecDepth 100000 in
set_option maxHeartbeats 1000000 in
/-- kept: the twin as it was made. -/
theorem kept_calls (v : Value) (l : List Int) (base g cap : Nat) (w : World) (hl : IntsIn w v l) (hlen : l.length ≤ 1048576) (ht : TwinAt w base g cap l) :
    Calls Try.prog 34 #[.slice (some ⟨g, 0, none⟩) l.length cap, v] w fun e w' => e = .returned (.bool true) ∧ Below w.heap.size w w' := by
  have hcap := ht.cap
  obtain ⟨a, capv, rfl, hcs, _⟩ := hl
  have hmark := ht.mark
  have hat := fun j hj => ht.at j hj
  obtain ⟨n, hnn⟩ : ∃ n, n = l.length := ⟨_, rfl⟩
  have HC := Lib.hid hcs
  have HA := Lib.hid hat
  have hglt := ht.lt.2
  rw [← hnn] at hlen hcap hmark
  rw [← hnn]
  have HN := Lib.hid hnn
  have hcap1 : (n : Int) + 1 ≤ cap := by omega
  clear hcs hnn hat ht
  go_enter Try.func34, Try.ntmps34
  go_wp2
  go_loopw [6] (fun iv wr => ∃ k : Nat, k ≤ n ∧ iv = .int .i64 k ∧ Hid (Below w.heap.size w wr)) (fun iv _ => n - (intOf iv).toNat)
  case atStart => exact ⟨0, by omega, rfl, Lib.hid (Below.refl _ _)⟩
  case round =>
    obtain ⟨k, hk, rfl, HB⟩ := hrel
    by_cases hlt : k < n
    · have hkl : k < l.length := by rw [← HN.out]; exact hlt
      obtain ⟨b, off, rfl, hb, hcell⟩ := HC.out (by intro h; rw [h] at hkl; simp at hkl)
      have hc1 : wr.cell? ⟨b, off + k, none⟩ = some (.int .i64 l[k]) := (HB.out.cell (p := ⟨b, off + k, none⟩) hb).trans (hcell k hkl)
      have hc2 : wr.cell? ⟨g, k, none⟩ = some (.int .i64 l[k]) := (HB.out.cell (p := ⟨g, k, none⟩) hglt).trans (HA.out k hkl)
      clear hcell
      generalize l[k] = x at *
      have hbk : (k : Int) < n := by omega
      have hbk1 : (k : Int) < n + 1 := by omega
      go_wp2
      go_quiet (fail)
      go_wp2
      go_roundw
      case rel => exact ⟨k + 1, by omega, by go_num, Lib.hid (belowDrewM HB.out _)⟩
      case measure => simp [intOf]; omega
    · obtain rfl : k = n := by omega
      have hc2 : wr.cell? ⟨g, k, none⟩ = some (.int .i64 (-7)) := (HB.out.cell (p := ⟨g, k, none⟩) hglt).trans hmark
      go_wp2
      go_ret
      exact ⟨rfl, HB.out⟩
set_option maxRecDepth 100000 in
set_option maxHeartbeats 1000000 in
/-- back: what is to stand in the twin, written into it. -/
theorem back_calls (v : Value) (l l0 : List Int) (base g cap : Nat) (w : World) (hl : IntsIn w v l) (hlen : l.length ≤ 1048576) (h0 : l0.length = l.length) (ht : TwinAt w base g cap l0) (hbase : l ≠ [] → ∀ a k c b off, v = .slice a k c → a = some ⟨b, off, none⟩ → b < base) :
    Calls Try.prog 29 #[.slice (some ⟨g, 0, none⟩) l.length cap, v] w fun e w' => e = .returned (.tuple #[]) ∧ TwinAt w' base g cap l ∧ w.grownBy w' (some g) := by
  obtain ⟨a, capv, rfl, hcs, _⟩ := hl
  obtain ⟨n, hnn⟩ : ∃ n, n = l.length := ⟨_, rfl⟩
  have HC := Lib.hid hcs
  have HT := Lib.hid ht
  have HBS := Lib.hid hbase
  rw [← hnn] at hlen
  rw [← hnn] at h0 ⊢
  have HN := Lib.hid hnn
  clear hcs hnn ht hbase
  go_enter Try.func29, Try.ntmps29
  go_wp2
  go_loopw [4] (fun iv wr => ∃ k : Nat, k ≤ n ∧ iv = .int .i64 k ∧ Hid (TwinAt wr base g cap (l.take k ++ l0.drop k)) ∧ Hid (w.grownBy wr (some g))) (fun iv _ => n - (intOf iv).toNat)
  case atStart => exact ⟨0, by omega, rfl, HT, Lib.hid (World.grownBy.refl _ _)⟩
  case round =>
    obtain ⟨k, hk, rfl, HO, HG⟩ := hrel
    have hlenk : (l.take k ++ l0.drop k).length = n := by rw [List.length_append, List.length_take, List.length_drop, h0, ← HN.out]; omega
    by_cases hlt : k < n
    · have hkl : k < l.length := by rw [← HN.out]; exact hlt
      obtain ⟨b, off, rfl, hb, hcell⟩ := HC.out (by intro h; rw [h] at hkl; simp at hkl)
      have hbg : b ≠ g := by have := HBS.out (by intro h; rw [h] at hkl; simp at hkl) _ _ _ b off rfl rfl; have := HT.out.lt.1; omega
      have hc1 : wr.cell? ⟨b, off + k, none⟩ = some (.int .i64 l[k]) := (World.cell?_of_block (w := w) (a := ⟨b, off + k, none⟩) (HG.out.block b hb (by intro e; cases e; exact hbg rfl))).trans (hcell k hkl)
      have f1 := World.ownsRow.frozenAt HO.out k
      have hc2 : ∃ u, wr.cell? ⟨g, k, none⟩ = some u := ⟨_, HO.out.at k (by rw [hlenk]; exact hlt)⟩
      have hset : (l.take k ++ l0.drop k).set k l[k] = l.take (k + 1) ++ l0.drop (k + 1) := by
        have e1 : (l.take k).length = k := by rw [List.length_take]; omega
        have e2 : k < l0.length := by omega
        rw [List.set_append_right _ _ (by omega), e1, Nat.sub_self, List.drop_eq_getElem_cons e2, List.set_cons_zero, List.take_add_one, List.getElem?_eq_getElem hkl, List.append_assoc]
        rfl
      have hst := HO.out.store k (by rw [hlenk]; exact hlt) l[k]
      rw [hset] at hst
      have hgr := (World.ownsRow.stored HO.out k (.int .i64 l[k])).2
      clear hcell hset
      generalize l[k] = x at *
      have HST := Lib.hid hst
      have HGR := Lib.hid hgr
      clear hst hgr
      obtain ⟨u, hc2⟩ := hc2
      have hbk : (k : Int) < n := by omega
      have HLK := Lib.hid hlenk
      clear hlenk
      go_wp2
      go_roundw
      case rel => exact ⟨k + 1, by omega, by go_num, HST, Lib.hid (HG.out.trans HGR.out)⟩
      case measure => simp [intOf]; omega
    · obtain rfl : k = n := by omega
      have ho := HO.out
      rw [List.take_of_length_le (by rw [← HN.out]; exact Nat.le_refl _), List.drop_of_length_le (by omega), List.append_nil] at ho
      have HH := Lib.hid ho
      clear ho hlenk
      go_wp2
      go_end0
      exact ⟨rfl, HH.out, HG.out⟩
end Go.Proofs.Ytpgflnjpohmldaa
