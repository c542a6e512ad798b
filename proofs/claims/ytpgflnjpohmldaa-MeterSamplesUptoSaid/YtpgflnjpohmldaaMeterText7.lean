import Derived.Test.YtpgflnjpohmldaaMeterText6
import Derived.OwnWalk
set_option linter.unusedVariables false
namespace Go.Proofs.Ytpgflnjpohmldaa
open Go.RowKit
theorem infoInt : (Try.prog.info? 3).map (fun i => (i.zero, i.size, i.bytes)) = some (some (.int .i64 0), 1, 8) := by kernel_rfl
def intV (d : Nat) : Value := .int .i64 (d : Int)
def intC (l : List Nat) : List Value := l.map intV
theorem intC_len (l : List Nat) : (intC l).length = l.length := by simp [intC]
theorem intC_append (a b : List Nat) : intC (a ++ b) = intC a ++ intC b := by simp [intC]
theorem intC_at (l : List Nat) (j : Nat) (h : j < l.length) : (intC l)[j]? = some (.int .i64 (l[j] : Nat)) := by
  simp [intC, intV, List.getElem?_eq_getElem h]
theorem intC_set (l : List Nat) (j x : Nat) : intC (l.set j x) = (intC l).set j (.int .i64 (x : Int)) := by
  simp [intC, intV]
/-- A slice of ints of the call's own that holds these digits. -/
def RowI (w : World) (base : Nat) (v : Value) (l : List Nat) : Prop := ∃ a cap, v = .slice a l.length cap ∧ w.ownsRow base 3 1 (.slice a l.length cap) l.length (intC l)
theorem RowI.cases {w : World} {base : Nat} {v : Value} {l : List Nat} (h : RowI w base v l) : (v = .slice none 0 0 ∧ l = []) ∨ ∃ g cap, v = .slice (some ⟨g, 0, none⟩) l.length cap ∧ base ≤ g ∧ w.ownsRow base 3 1 (.slice (some ⟨g, 0, none⟩) l.length cap) l.length (intC l) := by
  obtain ⟨a, cap, rfl, h⟩ := h
  rcases own_cases h with ⟨rfl, h0, rfl⟩ | ⟨g, rfl, hg⟩
  · exact .inl ⟨by rw [h0], List.eq_nil_of_length_eq_zero h0⟩
  · exact .inr ⟨g, cap, rfl, hg, h⟩
/-- What such a slice reads as: its length and its cells. -/
def Reads (w : World) (v : Value) (l : List Nat) : Prop := ∃ a cap, v = .slice a l.length cap ∧ (l ≠ [] → ∃ g, a = some ⟨g, 0, none⟩ ∧ g < w.heap.size ∧ ∀ k (h : k < l.length), w.cell? ⟨g, k, none⟩ = some (.int .i64 (l[k] : Nat)))
theorem RowI.reads {w : World} {base : Nat} {v : Value} {l : List Nat} (h : RowI w base v l) : Reads w v l := by
  rcases h.cases with ⟨rfl, rfl⟩ | ⟨g, cap, rfl, hg, ho⟩
  · exact ⟨none, 0, rfl, fun h => absurd rfl h⟩
  · exact ⟨_, cap, rfl, fun _ => ⟨g, rfl, (ho.lt g rfl).2, fun k hk => by rw [ho.cellAt k (by omega), intC_at l k hk]⟩⟩
theorem RowI.mono {w : World} {b b' : Nat} {v : Value} {l : List Nat} (h : RowI w b v l) (hb : b' ≤ b) : RowI w b' v l := by
  obtain ⟨a, cap, rfl, h⟩ := h
  refine ⟨a, cap, rfl, h.1, ?_⟩
  rcases h.2 with h | ⟨g, c, cur, h1, h2, h3⟩
  · exact .inl h
  · exact .inr ⟨g, c, cur, h1, Nat.le_trans hb h2, h3⟩
theorem RowI.keep {w w' : World} {b : Nat} {v : Value} {l : List Nat} (h : RowI w b v l) (hk : Below w.heap.size w w') : RowI w' b v l := by
  obtain ⟨a, cap, rfl, h⟩ := h
  refine ⟨a, cap, rfl, h.1, ?_⟩
  rcases h.2 with h | ⟨g, c, cur, h1, h2, h3, h4⟩
  · exact .inl h
  · exact .inr ⟨g, c, cur, h1, h2, by rw [hk.block g (Array.getElem?_eq_some_iff.1 h3).1]; exact h3, h4⟩
/-- A new list: its row is the call's own. -/
def NewRow (l : List Nat) (w : World) (e : Ending) (w' : World) : Prop := ∃ v, e = .returned v ∧ RowI w' w.heap.size v l ∧ Below w.heap.size w w'
theorem grown_own3 {w wr w1 : World} {a : Option Addr} {k cap : Nat} {xs : List Value} {e : Nat} {o : Obj} (hb : Below w.heap.size w wr) (ho : wr.ownsRow w.heap.size e 1 (.slice a k cap) k xs) (hg : (wr.alloc o).grownBy w1 (Value.slice a k cap).ownBlock) : Below w.heap.size w w1 :=
  (belowAlloc hb o).grown hg (Nat.le_trans hb.size (by simp)) (fun g h => (ho.lt g h).1)
set_option maxRecDepth 100000 in
set_option maxHeartbeats 1000000 in
theorem rdigits_calls (M : Nat) (hM : M < 9007199254740992) (w : World) : Calls Try.prog 64 #[.int .u64 M] w (NewRow (digs M) w) := by
  obtain ⟨i0, hi, hz0, hz1, hz2⟩ := info_parts infoInt
  obtain ⟨Y, hY⟩ : ∃ Y : Int, (M : Int) = Y := ⟨_, rfl⟩
  have hY0 : 0 ≤ Y := by omega
  have hY1 : Y ≤ 9007199254740992 := by omega
  have hYN : Y.toNat = M := by omega
  have hlenM := digs_pow_len 0 M hM
  rw [Nat.pow_zero, Nat.mul_one] at hlenM
  rw [hY]
  have HN := Lib.hid (And.intro hYN (And.intro hM hlenM))
  clear hY hYN hM hlenM
  go_enter Try.func64, Try.ntmps64
  go_wp2
  go_loopw [0, 3] (fun n l wr => ∃ (y : Int) (out : List Nat) (a : Option Addr) (cap : Nat), n = .int .u64 y ∧ 0 ≤ y ∧ y ≤ 9007199254740992 ∧ l = .slice a out.length cap ∧ Hid (wr.ownsRow w.heap.size 3 1 (.slice a out.length cap) out.length (intC out)) ∧
      Hid (digs M = out ++ digs y.toNat) ∧ Hid (Below w.heap.size w wr)) (fun n _ _ => (intOf n).toNat)
  case atStart =>
    refine ⟨Y, [], none, 0, rfl, hY0, hY1, rfl, Lib.hid (World.ownsRow_nil _ _ _ _), Lib.hid ?_, Lib.hid (Below.refl _ _)⟩
    rw [HN.out.1]; rfl
  case round =>
    obtain ⟨y, out, a, cap, rfl, y0, y1, rfl, HO, HP, HB⟩ := hrel
    by_cases hc : 0 < y
    · have hl : out.length ≤ 16 := by
        have := congrArg List.length HP.out
        rw [List.length_append] at this
        have := HN.out.2.2
        omega
      have hW := HO.out.alloc (.cells #[Value.int .i64 (y % 10)] 3)
      have HW := Lib.hid hW
      have hsz : w.heap.size ≤ (wr.alloc (.cells #[Value.int .i64 (y % 10)] 3)).heap.size := Nat.le_trans HB.out.size (by simp)
      have HS := Lib.hid hsz
      clear hsz hW
      go_wp2_with (at_builtin; refine wpList_append_own _ rfl _ _ 48 rfl w.heap.size 3 i0 (.int .i64 0) 1 8 Try.underlying48 hi hz0 hz1 hz2 rfl (by decide) _ _ _ rfl HW.out ⟨wr.heap.size, 0, none⟩ 1 1 [.int .i64 (y % 10)] rfl rfl (one_news _ _ _) (one_cell _ rfl) (by unfold maxLen; omega) (by omega) HS.out ?_; intro v' w1 hown1 hgrow1 _; obtain ⟨a1, cap1, rfl, _⟩ := own_form hown1; have HO1 := Lib.hid hown1; have HG1 := Lib.hid hgrow1; clear hown1 hgrow1)
      go_roundw
      case rel =>
        refine ⟨y / 10, out ++ [(y % 10).toNat], a1, cap1, by go_num, by omega, by omega, by simp, Lib.hid ?_, Lib.hid ?_, Lib.hid (grown_own3 HB.out HO.out HG1.out)⟩
        · have e : intC (out ++ [(y % 10).toNat]) = intC out ++ [Value.int .i64 (y % 10)] := by
            rw [intC_append]
            show _ ++ [Value.int .i64 (((y % 10).toNat : Nat) : Int)] = _
            rw [show (((y % 10).toNat : Nat) : Int) = y % 10 by omega]
          rw [e, List.length_append]; exact HO1.out
        · rw [HP.out, digs_pos y.toNat (by omega), List.append_assoc]
          show _ = out ++ (_ :: _)
          rw [show (y % 10).toNat = y.toNat % 10 by omega, show (y / 10).toNat = y.toNat / 10 by omega]; rfl
      case measure => simp [intOf]; omega
    · obtain rfl : y = 0 := by omega
      have hd : digs M = out := by
        have := HP.out
        rwa [show Int.toNat 0 = 0 from rfl, digs_zero, List.append_nil] at this
      have HD := Lib.hid hd
      clear hd
      go_wp2
      go_ret
      exact ⟨_, rfl, by rw [HD.out]; exact ⟨a, cap, rfl, HO.out⟩, HB.out⟩
set_option maxRecDepth 100000 in
set_option maxHeartbeats 1000000 in
theorem rdoubled_calls (l : List Nat) (hd : allDig l) (hlen : l.length ≤ 3000) (v : Value) (w : World) (hr : Reads w v l) : Calls Try.prog 65 #[v] w (NewRow (dblR l 0) w) := by
  obtain ⟨i0, hi, hz0, hz1, hz2⟩ := info_parts infoInt
  obtain ⟨ax, capx, rfl, hcells⟩ := hr
  obtain ⟨n, hn⟩ : ∃ n, n = l.length := ⟨_, rfl⟩
  rw [← hn] at hlen
  rw [← hn]
  have HC := Lib.hid hcells
  have HN := Lib.hid hn
  clear hn hcells
  go_enter Try.func65, Try.ntmps65
  go_wp2
  go_loopw [3, 4, 5, 6] (fun ov cv iv _ wr => ∃ (k c : Nat) (p : List Nat) (a : Option Addr) (cap : Nat), k ≤ n ∧ c ≤ 1 ∧ p.length = k ∧ iv = .int .i64 k ∧ cv = .int .i64 c ∧ ov = .slice a k cap ∧ Hid (dblR l 0 = p ++ dblR (l.drop k) c) ∧ Hid (wr.ownsRow w.heap.size 3 1 (.slice a k cap) k (intC p)) ∧ Hid (Below w.heap.size w wr)) (fun _ _ k _ _ => n - (intOf k).toNat)
  case atStart => exact ⟨0, 0, [], none, 0, by omega, by omega, rfl, rfl, rfl, rfl, Lib.hid rfl, Lib.hid (World.ownsRow_nil _ _ _ _), Lib.hid (Below.refl _ _)⟩
  case round =>
    obtain ⟨k, c, p, a, cap, hk, hc, hpk, rfl, rfl, rfl, HP, HO, HB⟩ := hrel
    have HPK := Lib.hid hpk
    clear hpk
    by_cases hlt : k < n
    · have hkl : k < l.length := by rw [← HN.out]; exact hlt
      obtain ⟨g, rfl, hg, hcs⟩ := HC.out (by intro h; rw [h] at hkl; simp at hkl)
      have hdrop : l.drop k = l[k] :: l.drop (k + 1) := List.drop_eq_getElem_cons hkl
      have hd10 : l[k] < 10 := hd _ (List.getElem_mem _)
      have hcell : wr.cell? ⟨g, k, none⟩ = some (.int .i64 (l[k] : Nat)) := (HB.out.cell (p := ⟨g, k, none⟩) hg).trans (hcs k hkl)
      have HD := Lib.hid hdrop
      clear hdrop hcs
      generalize hx : l[k] = d at *
      clear hx
      have hb : (k : Int) < n := by omega
      have hW := HO.out.alloc (.cells #[Value.int .i64 ((2 * (d : Int) + c) % 10)] 3)
      have HW := Lib.hid hW
      have hsz : w.heap.size ≤ (wr.alloc (.cells #[Value.int .i64 ((2 * (d : Int) + c) % 10)] 3)).heap.size := Nat.le_trans HB.out.size (by simp)
      have HS := Lib.hid hsz
      clear hsz hW
      go_wp2_with (at_builtin; refine wpList_append_own _ rfl _ _ 48 rfl w.heap.size 3 i0 (.int .i64 0) 1 8 Try.underlying48 hi hz0 hz1 hz2 rfl (by decide) _ _ _ rfl HW.out ⟨wr.heap.size, 0, none⟩ 1 1 [.int .i64 ((2 * (d : Int) + c) % 10)] rfl rfl (one_news _ _ _) (one_cell _ rfl) (by unfold maxLen; omega) (by omega) HS.out ?_; intro v' w1 hown1 hgrow1 _; obtain ⟨a1, cap1, rfl, _⟩ := own_form hown1; have HO1 := Lib.hid hown1; have HG1 := Lib.hid hgrow1; clear hown1 hgrow1)
      go_roundw
      case rel =>
        refine ⟨k + 1, (2 * d + c) / 10, p ++ [(2 * d + c) % 10], a1, cap1, by omega, by omega, by rw [List.length_append, HPK.out]; rfl, by go_num, by go_num, rfl, Lib.hid ?_, Lib.hid ?_, Lib.hid (grown_own3 HB.out HO.out HG1.out)⟩
        · rw [HP.out, HD.out, dblR, List.append_assoc]; rfl
        · have e : intC (p ++ [(2 * d + c) % 10]) = intC p ++ [Value.int .i64 ((2 * (d : Int) + c) % 10)] := by
            rw [intC_append]
            show _ ++ [Value.int .i64 (((2 * d + c) % 10 : Nat) : Int)] = _
            rw [show (((2 * d + c) % 10 : Nat) : Int) = (2 * (d : Int) + c) % 10 by omega]
          rw [e]; exact HO1.out
      case measure => simp [intOf]; omega
    · obtain rfl : k = n := by omega
      have hend := HP.out
      rw [List.drop_of_length_le (by rw [← HN.out]; exact Nat.le_refl _), dblR] at hend
      have HE := Lib.hid hend
      clear hend
      by_cases hc0 : c = 0
      · subst hc0
        go_wp2
        go_ret
        refine ⟨_, rfl, ⟨a, cap, ?_⟩, HB.out⟩
        have hE : dblR l 0 = p := by rw [HE.out]; simp
        rw [hE, HPK.out]
        exact ⟨rfl, HO.out⟩
      · obtain rfl : c = 1 := by omega
        have hsz : w.heap.size ≤ (wr.alloc (.cells #[Value.int .i64 1] 3)).heap.size := Nat.le_trans HB.out.size (by simp)
        have HS := Lib.hid hsz
        have hW := HO.out.alloc (.cells #[Value.int .i64 1] 3)
        have HW := Lib.hid hW
        clear hsz hW
        go_wp2_with (at_builtin; refine wpList_append_own _ rfl _ _ 48 rfl w.heap.size 3 i0 (.int .i64 0) 1 8 Try.underlying48 hi hz0 hz1 hz2 rfl (by decide) _ _ _ rfl HW.out ⟨wr.heap.size, 0, none⟩ 1 1 [.int .i64 1] rfl rfl (one_news _ _ _) (one_cell _ rfl) (by unfold maxLen; omega) (by omega) HS.out ?_; intro v' w1 hown1 hgrow1 _; obtain ⟨a1, cap1, rfl, _⟩ := own_form hown1; have HO1 := Lib.hid hown1; have HG1 := Lib.hid hgrow1; clear hown1 hgrow1)
        go_ret
        refine ⟨_, rfl, ⟨a1, cap1, ?_⟩, grown_own3 HB.out HO.out HG1.out⟩
        have hE : dblR l 0 = p ++ [1] := by rw [HE.out]; simp
        rw [hE, List.length_append, HPK.out]
        refine ⟨rfl, ?_⟩
        rw [intC_append]; exact HO1.out
end Go.Proofs.Ytpgflnjpohmldaa
