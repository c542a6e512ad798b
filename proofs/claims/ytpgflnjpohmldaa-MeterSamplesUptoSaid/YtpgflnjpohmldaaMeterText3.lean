import Derived.Test.YtpgflnjpohmldaaMeterText2
set_option linter.unusedVariables false
namespace Go.Proofs.Ytpgflnjpohmldaa
open Go.RowKit
/-- A slice of the call's own that holds these digits. -/
def RowD (w : World) (base : Nat) (v : Value) (l : List Nat) : Prop := ∃ a cap, v = .slice a l.length cap ∧ w.ownsRow base 5 1 (.slice a l.length cap) l.length (byteC l)
def Doubled (base : Nat) (row : Option Nat) (l : List Nat) (w : World) (e : Ending) (w' : World) : Prop := ∃ v, e = .returned v ∧ RowD w' base v l ∧ w.grownBy w' row
theorem dblR_len (l : List Nat) : ∀ c, (dblR l c).length ≤ l.length + 1 := by
  induction l with
  | nil => intro c; rw [dblR]; split <;> simp
  | cons d t ih => intro c; rw [dblR, List.length_cons, List.length_cons]; have := ih ((2 * d + c) / 10); omega
set_option maxRecDepth 100000 in
set_option maxHeartbeats 1000000 in
theorem doubled_own (base g cap n : Nat) (l : List Nat) (hn : l.length = n) (hd : allDig l) (hlen : n ≤ 2000) (w : World) (hbase : base ≤ w.heap.size) (hown : w.ownsRow base 5 1 (.slice (some ⟨g, 0, none⟩) n cap) n (byteC l)) :
    Calls Try.prog 74 #[.slice (some ⟨g, 0, none⟩) n cap] w (Doubled base (some g) (dblR l 0) w) := by
  obtain ⟨i0, hi, hz0, hz1, hz2⟩ := info_parts infoByte
  have HOWN := Lib.hid hown
  clear hown
  go_enter Try.func74, Try.ntmps74
  go_wp2
  go_loopw [3, 4, 5, 8] (fun cv _ _ kv wr => ∃ (k c : Nat) (p : List Nat), k ≤ n ∧ c ≤ 1 ∧ kv = .int .i64 k ∧ cv = .int .u8 c ∧ Hid (p.length = k ∧ dblR l 0 = p ++ dblR (l.drop k) c) ∧ Hid (wr.ownsRow base 5 1 (.slice (some ⟨g, 0, none⟩) n cap) n (byteC (p ++ l.drop k))) ∧ Hid (w.grownBy wr (some g))) (fun _ _ _ k _ => n - (intOf k).toNat)
  case atStart => exact ⟨0, 0, [], by omega, by omega, rfl, rfl, Lib.hid ⟨rfl, rfl⟩, HOWN, Lib.hid (World.grownBy.refl _ _)⟩
  case round =>
    obtain ⟨k, c, p, hk, hc, rfl, rfl, HP, HO, HG⟩ := hrel
    by_cases hlt : k < n
    · have hdrop : l.drop k = l[k] :: l.drop (k + 1) := List.drop_eq_getElem_cons (by omega)
      have hd10 : l[k] < 10 := hd _ (List.getElem_mem _)
      have hcell := HO.out.cellAt k (by omega)
      have hfr := HO.out.frozenAt k
      have hat : (byteC (p ++ l.drop k))[k]? = some (.int .u8 (l[k] : Nat)) := by
        rw [byteC_at _ _ (by rw [List.length_append, List.length_drop, HP.out.1]; omega), List.getD_eq_getElem?_getD, List.getElem?_append_right (by rw [HP.out.1]; exact Nat.le_refl _), HP.out.1, Nat.sub_self, hdrop]
        rfl
      rw [hat] at hcell
      have HD := Lib.hid hdrop
      clear hdrop hat
      generalize hx : l[k] = d at *
      clear hx
      have hb : (k : Int) < n := by omega
      go_wp2
      go_roundw
      case rel =>
        refine ⟨k + 1, (2 * d + c) / 10, p ++ [(2 * d + c) % 10], by omega, by omega, by go_num, by go_num, Lib.hid ⟨by rw [List.length_append, HP.out.1]; rfl, ?_⟩, Lib.hid ?_, Lib.hid ?_⟩
        · rw [HP.out.2, HD.out, dblR, List.append_assoc]; rfl
        · have h1 := (HO.out.stored k (.int .u8 (((2 * d + c) % 10 : Nat) : Int))).1
          rw [HD.out, ← byteC_set, List.set_append_right _ _ (by rw [HP.out.1]; exact Nat.le_refl _), HP.out.1, Nat.sub_self, List.set_cons_zero] at h1
          rw [List.append_assoc]
          rw [show (((2 * d + c) % 10 : Nat) : Int) = (2 * (d : Int) + c) % 10 by omega] at h1
          exact h1
        · exact HG.out.trans (HO.out.stored k _).2
      case measure => simp [intOf]; omega
    · obtain rfl : k = n := by omega
      have hdrop : l.drop k = [] := List.drop_of_length_le (by omega)
      have hend := HP.out.2
      rw [hdrop, dblR] at hend
      have HE := Lib.hid hend
      have hown2 := HO.out
      rw [hdrop, List.append_nil] at hown2
      have HO2 := Lib.hid hown2
      clear hend hown2 hdrop
      by_cases hc0 : c = 0
      · subst hc0
        go_wp2
        go_ret
        refine ⟨_, rfl, ⟨some ⟨g, 0, none⟩, cap, ?_⟩, HG.out⟩
        have hE : dblR l 0 = p := by rw [HE.out]; simp
        rw [hE, HP.out.1]
        exact ⟨rfl, HO2.out⟩
      · obtain rfl : c = 1 := by omega
        have hsz : base ≤ (wr.alloc (.cells #[Value.int .u8 1] 5)).heap.size := Nat.le_trans hbase (Nat.le_trans HG.out.size (by simp))
        have HS := Lib.hid hsz
        have hW := HO2.out.alloc (.cells #[Value.int .u8 1] 5)
        have HW := Lib.hid hW
        clear hsz hW hbase
        go_wp2_with (at_builtin; refine wpList_append_own _ rfl _ _ 77 rfl base 5 i0 (.int .u8 0) 1 1 Try.underlying77 hi hz0 hz1 hz2 rfl (by decide) _ _ _ rfl HW.out ⟨wr.heap.size, 0, none⟩ 1 1 [.int .u8 1] rfl rfl (one_news _ _ _) (one_cell _ rfl) (by unfold maxLen; omega) (by omega) HS.out ?_; intro v' w1 hown1 hgrow1 _; obtain ⟨a1, cap1, rfl, _⟩ := own_form hown1; have HO1 := Lib.hid hown1; have HG1 := Lib.hid hgrow1; clear hown1 hgrow1)
        go_ret
        refine ⟨_, rfl, ⟨a1, cap1, ?_⟩, HG.out.trans ((World.grownBy_alloc wr _ _).trans HG1.out)⟩
        have hE : dblR l 0 = p ++ [1] := by rw [HE.out]; simp
        rw [hE, List.length_append, HP.out.1]
        refine ⟨rfl, ?_⟩
        rw [byteC_append]; exact HO1.out
theorem doubled_nil (base : Nat) (w : World) : Calls Try.prog 74 #[.slice none 0 0] w (Doubled base none [] w) := by
  go_enter Try.func74, Try.ntmps74
  go_wp2
  refine wp_loop_rounds 1 ?_
  rw [rounds_succ]
  go_wp2
  go_ret
  exact ⟨_, rfl, ⟨none, 0, rfl, World.ownsRow_nil _ _ _ _⟩, World.grownBy.refl _ _⟩
theorem RowD.cases {w : World} {base : Nat} {v : Value} {l : List Nat} (h : RowD w base v l) : (v = .slice none 0 0 ∧ l = []) ∨ ∃ g cap, v = .slice (some ⟨g, 0, none⟩) l.length cap ∧ base ≤ g ∧ w.ownsRow base 5 1 (.slice (some ⟨g, 0, none⟩) l.length cap) l.length (byteC l) := by
  obtain ⟨a, cap, rfl, h⟩ := h
  rcases own_cases h with ⟨rfl, h0, rfl⟩ | ⟨g, rfl, hg⟩
  · exact .inl ⟨by rw [h0], List.eq_nil_of_length_eq_zero h0⟩
  · exact .inr ⟨g, cap, rfl, hg, h⟩
theorem doubled_calls (base : Nat) (v : Value) (l : List Nat) (hd : allDig l) (hlen : l.length ≤ 2000) (w : World) (hbase : base ≤ w.heap.size) (h : RowD w base v l) :
    Calls Try.prog 74 #[v] w fun e w' => ∃ v', e = .returned v' ∧ RowD w' base v' (dblR l 0) ∧ Below base w w' := by
  rcases h.cases with ⟨rfl, rfl⟩ | ⟨g, cap, rfl, hg, ho⟩
  · refine (doubled_nil base w).mono fun e w' ⟨v', h1, h2, h3⟩ => ⟨v', h1, h2, ⟨h3.os, h3.tape, h3.output, h3.size, fun k hk => h3.block k (by omega) (by simp)⟩⟩
  · refine (doubled_own base g cap l.length l rfl hd hlen w hbase ho).mono fun e w' ⟨v', h1, h2, h3⟩ => ⟨v', h1, h2, ⟨h3.os, h3.tape, h3.output, h3.size, fun k hk => h3.block k (by omega) (by simp; omega)⟩⟩
def GoodRow (base : Nat) (l : List Nat) (w : World) (e : Ending) (w' : World) : Prop := ∃ v', e = .returned v' ∧ RowD w' base v' l ∧ Below base w w'
theorem digs_pow_len (e m : Nat) (hm : m < 9007199254740992) : (digs (m * 2 ^ e)).length ≤ 16 + e := by
  apply digs_len
  have h1 : 2 ^ e ≤ 10 ^ e := Nat.pow_le_pow_left (show 2 ≤ 10 by omega) e
  have h2 : m < 10 ^ 16 := by have : (10 : Nat) ^ 16 = 10000000000000000 := by decide
                              omega
  rw [Nat.pow_add]
  calc m * 2 ^ e ≤ m * 10 ^ e := Nat.mul_le_mul_left _ h1
    _ < 10 ^ 16 * 10 ^ e := Nat.mul_lt_mul_of_pos_right h2 (Nat.pow_pos (by omega))
set_option maxRecDepth 100000 in
set_option maxHeartbeats 1000000 in
/-- Two loops of great: the digits of m times 2 to the e. -/
theorem great_calls (M E : Nat) (hM : M < 9007199254740992) (hE : E ≤ 1000) (w : World) : Calls Try.prog 61 #[.int .u64 M, .int .i64 E] w fun e w' => e = .returned (.string ⟨(digT (digs (M * 2 ^ E))).toArray⟩) ∧ Below w.heap.size w w' := by
  obtain ⟨i0, hi, hz0, hz1, hz2⟩ := info_parts infoByte
  obtain ⟨Y, hY⟩ : ∃ Y : Int, (M : Int) = Y := ⟨_, rfl⟩
  have hY0 : 0 ≤ Y := by omega
  have hY1 : Y ≤ 18446744073709551615 := by omega
  have hYN : Y.toNat = M := by omega
  have hlenM := digs_pow_len 0 M hM
  rw [Nat.pow_zero, Nat.mul_one] at hlenM
  rw [hY]
  have HN := Lib.hid (And.intro hYN (And.intro hM hlenM))
  clear hY hYN hM hlenM
  go_enter Try.func61, Try.ntmps61
  go_wp2
  go_loopw [0, 5] (fun n l wr => ∃ (y : Int) (out : List Nat) (a : Option Addr) (cap : Nat), n = .int .u64 y ∧ 0 ≤ y ∧ y ≤ 18446744073709551615 ∧ l = .slice a out.length cap ∧ Hid (wr.ownsRow w.heap.size 5 1 (.slice a out.length cap) out.length (byteC out)) ∧
      Hid (digs M = out ++ digs y.toNat) ∧ Hid (Below w.heap.size w wr)) (fun n _ _ => (intOf n).toNat)
  case atStart =>
    refine ⟨Y, [], none, 0, rfl, hY0, hY1, rfl, Lib.hid (World.ownsRow_nil _ _ _ _), Lib.hid ?_, Lib.hid (Below.refl _ _)⟩
    rw [HN.out.1]; rfl
  case round =>
    obtain ⟨y, out, a, cap, rfl, y0, y1, rfl, HO, HP, HB⟩ := hrel
    by_cases hc : 0 < y
    · have hl : out.length ≤ 1016 := by
        have := congrArg List.length HP.out
        rw [List.length_append] at this
        have := HN.out.2.2
        omega
      have hW := HO.out.alloc (.cells #[Value.int .u8 (y % 10)] 5)
      have HW := Lib.hid hW
      have hsz : w.heap.size ≤ (wr.alloc (.cells #[Value.int .u8 (y % 10)] 5)).heap.size := Nat.le_trans HB.out.size (by simp)
      have HS := Lib.hid hsz
      clear hsz hW
      go_wp2_with (at_builtin; refine wpList_append_own _ rfl _ _ 77 rfl w.heap.size 5 i0 (.int .u8 0) 1 1 Try.underlying77 hi hz0 hz1 hz2 rfl (by decide) _ _ _ rfl HW.out ⟨wr.heap.size, 0, none⟩ 1 1 [.int .u8 (y % 10)] rfl rfl (one_news _ _ _) (one_cell _ rfl) (by unfold maxLen; omega) (by omega) HS.out ?_; intro v' w1 hown1 hgrow1 _; obtain ⟨a1, cap1, rfl, _⟩ := own_form hown1; have HO1 := Lib.hid hown1; have HG1 := Lib.hid hgrow1; clear hown1 hgrow1)
      go_roundw
      case rel =>
        refine ⟨y / 10, out ++ [(y % 10).toNat], a1, cap1, by go_num, by omega, by omega, by simp, Lib.hid ?_, Lib.hid ?_, Lib.hid (grown_own (base := 0) HB.out HO.out HG1.out)⟩
        · have e : byteC (out ++ [(y % 10).toNat]) = byteC out ++ [Value.int .u8 (y % 10)] := by
            rw [byteC_append]
            show _ ++ [Value.int .u8 (((y % 10).toNat : Nat) : Int)] = _
            rw [show (((y % 10).toNat : Nat) : Int) = y % 10 by omega]
          rw [e, List.length_append]; exact HO1.out
        · rw [HP.out, digs_pos y.toNat (by omega), List.append_assoc]
          show _ = out ++ (_ :: _)
          rw [show (y % 10).toNat = y.toNat % 10 by omega, show (y / 10).toNat = y.toNat / 10 by omega]; rfl
      case measure => simp [intOf]; omega
    · obtain rfl : y = 0 := by omega
      have hrow : RowD wr w.heap.size (.slice a out.length cap) (digs (M * 2 ^ 0)) := by
        have := HP.out
        rw [show Int.toNat 0 = 0 from rfl, digs_zero, List.append_nil] at this
        rw [Nat.pow_zero, Nat.mul_one, this]; exact ⟨a, cap, rfl, HO.out⟩
      have HR := Lib.hid hrow
      clear hrow HP HO
      generalize Value.slice a out.length cap = v0 at *
      have hb0 := HB.out.size
      go_wp2
      go_loopw [5, 18] (fun l i wx => ∃ j : Nat, j ≤ E ∧ i = .int .i64 j ∧ Hid (RowD wx w.heap.size l (digs (M * 2 ^ j))) ∧ Hid (Below w.heap.size w wx)) (fun _ i _ => E - (intOf i).toNat)
      case atStart => exact ⟨0, by omega, rfl, HR, HB⟩
      case round =>
        obtain ⟨j, hj, rfl, HRJ, HBJ⟩ := hrel
        clear HR HB hb0
        have hdl := digs_pow_len j M HN.out.2.1
        by_cases hlt : j < E
        · have hdc := fun wx h hb => doubled_calls w.heap.size u5 (digs (M * 2 ^ j)) (digs_dig _) (by omega) wx hb h
          go_wp2_with (go_at_call 74; refine (hdc _ HRJ.out HBJ.out.size).mono ?_; rintro e w1 ⟨v1, rfl, hr1, hb1⟩; have H1 := Lib.hid (And.intro hr1 hb1); clear hr1 hb1)
          go_roundw
          case rel =>
            refine ⟨j + 1, by omega, by go_num, Lib.hid ?_, Lib.hid (HBJ.out.trans H1.out.2)⟩
            have := H1.out.1
            rw [dblR_digs _ _ (by omega), Nat.add_zero, show 2 * (M * 2 ^ j) = M * 2 ^ (j + 1) by rw [Nat.pow_succ, Nat.mul_comm 2, Nat.mul_assoc]] at this
            exact this
          case measure => simp [intOf]; omega
        · obtain rfl : j = E := by omega
          have hcs := HRJ.out.cases
          rcases hcs with ⟨rfl, h0⟩ | ⟨g, cap, rfl, hg, ho⟩
          · have H0 := Lib.hid h0
            clear h0
            have hnil := fun w => run_convert_bytes_nil (P := Try.prog) (w := w) 77 5 Try.underlying77 Try.underlying5 0 0 9 Try.underlying9
            go_wp2
            refine wp_loop_rounds 1 ?_
            rw [rounds_succ]
            go_wp2_with (go_at_call 75; refine (reverse_none _).mono ?_; rintro e w1 ⟨rfl, rfl⟩)
            go_ret
            exact ⟨by rw [H0.out]; rfl, HBJ.out⟩
          · obtain ⟨D, hD⟩ : ∃ D, D = digs (M * 2 ^ j) := ⟨_, rfl⟩
            rw [← hD] at ho hdl; try rw [← hD]
            have hdig : allDig D := by rw [hD]; exact digs_dig _
            have HDG := Lib.hid hdig
            have HDD := Lib.hid hD
            clear hD hdig HRJ
            have HO := Lib.hid ho
            have HBB := Lib.hid (And.intro HBJ.out hg)
            clear ho HBJ hg
            obtain ⟨n, hn⟩ : ∃ n, n = D.length := ⟨_, rfl⟩
            rw [← hn] at HO hdl
            try rw [← hn]
            have HLN := Lib.hid hn
            clear hn
            go_wp2
            go_loopw [6, 25] (fun _ i wy => ∃ k : Nat, k ≤ n ∧ i = .int .i64 k ∧ Hid (wy.ownsRow w.heap.size 5 1 (.slice (some ⟨g, 0, none⟩) n cap) n (byteC ((D.take k).map (48 + ·) ++ D.drop k))) ∧ Hid (Below w.heap.size w wy)) (fun _ i _ => n - (intOf i).toNat)
            case atStart => exact ⟨0, by omega, rfl, HO, Lib.hid HBB.out.1⟩
            case round =>
              obtain ⟨k, hk, rfl, HOK, HBK⟩ := hrel
              by_cases hlt : k < n
              · have hkD : k < D.length := by rw [← HLN.out]; exact hlt
                have hd10 : D[k] < 10 := HDG.out _ (List.getElem_mem _)
                have hcell := HOK.out.cellAt k (by omega)
                have hfr := HOK.out.frozenAt k
                have hpl : ((D.take k).map (48 + ·)).length = k := by rw [List.length_map, List.length_take]; omega
                have hdr : D.drop k = D[k] :: D.drop (k + 1) := List.drop_eq_getElem_cons hkD
                have hat : (byteC ((D.take k).map (48 + ·) ++ D.drop k))[k]? = some (.int .u8 (D[k] : Nat)) := by
                  rw [byteC_at _ _ (by rw [List.length_append, List.length_drop, hpl]; omega), List.getD_eq_getElem?_getD, List.getElem?_append_right (by rw [hpl]; exact Nat.le_refl _), hpl, Nat.sub_self, hdr]; rfl
                rw [hat] at hcell
                have htk : D.take (k + 1) = D.take k ++ [D[k]] := List.take_succ_eq_append_getElem hkD
                have HX := Lib.hid (And.intro hpl (And.intro hdr htk))
                clear hpl hdr hat htk
                generalize hx : D[k] = d at *
                clear hx
                have hb : (k : Int) < n := by omega
                go_wp2
                go_roundw
                case rel =>
                  have h1 := HOK.out.stored k (.int .u8 ((d + 48 : Nat) : Int))
                  refine ⟨k + 1, by omega, by go_num, Lib.hid ?_, Lib.hid (HBK.out.setCell HBB.out.2 _)⟩
                  have h2 := h1.1
                  rw [HX.out.2.1, ← byteC_set, List.set_append_right _ _ (by rw [HX.out.1]; exact Nat.le_refl _), HX.out.1, Nat.sub_self, List.set_cons_zero] at h2
                  rw [HX.out.2.2, List.map_append, List.append_assoc]
                  show World.ownsRow _ _ _ _ _ _ (byteC (_ ++ ((48 + d) :: _)))
                  rw [Nat.add_comm 48 d]
                  exact h2
                case measure => simp [intOf]; omega
              · obtain rfl : k = n := by omega
                have ho2 := HOK.out
                rw [List.take_of_length_le (by rw [← HLN.out]; exact Nat.le_refl _), List.drop_of_length_le (by rw [← HLN.out]; exact Nat.le_refl _), List.append_nil] at ho2
                have HO3 := Lib.hid ho2
                clear ho2
                have hrev := fun w' h => reverse_own w.heap.size g cap k (D.map (48 + ·)) (by rw [List.length_map, ← HLN.out]) (by omega) w' h
                have hdb : ∀ d ∈ (D.map (48 + ·)).reverse, d < 256 := by
                  intro d hd
                  rw [List.mem_reverse, List.mem_map] at hd
                  obtain ⟨x, hx, rfl⟩ := hd
                  have := HDG.out x hx
                  omega
                have HDB := Lib.hid hdb
                clear hdb
                go_wp2_with (go_at_call 75; refine (hrev _ HO3.out).mono ?_; rintro e w1 ⟨rfl, hown1, hgr1⟩; have hcv := row_str _ _ _ _ _ _ hown1 HDB.out; have HB1 := Lib.hid (And.intro hown1 hgr1); clear hown1 hgr1)
                go_ret
                refine ⟨?_, HBK.out.grown HB1.out.2 HBK.out.size (fun k hk => by cases hk; exact HBB.out.2)⟩
                rw [← HDD.out, ← digT_bytes]; simp
end Go.Proofs.Ytpgflnjpohmldaa
