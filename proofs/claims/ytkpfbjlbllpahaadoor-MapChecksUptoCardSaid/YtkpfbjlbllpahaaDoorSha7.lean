import Derived.Test.YtkpfbjlbllpahaaDoorSha6
import Derived.LoopTactic
set_option linter.unusedVariables false
namespace Go.Proofs.YtkpfbjlbllpahaaDoor
open Go.RowKit
/-- Where block stands in its rounds. -/
def BT (w wr : World) (bw : Nat) (st W v : List Int) : Prop :=
  w.heap.size + 2 ≤ bw ∧ wr.heap[w.heap.size]? = some (.cells (a8 st) 144 (0, 0)) ∧ wr.heap[w.heap.size + 1]? = some (.cells (a8 []) 144 (0, 0)) ∧
  wr.heap[bw]? = some (.cells (a64 W) 163 (0, 0)) ∧ wr.heap[bw + 1]? = some (.cells (a8 v) 144 (0, 0)) ∧ Below w.heap.size w wr
theorem setRow_other (w : World) (b : Nat) (r : Array Value) (k : Nat) (h : k ≠ b) : (w.setRow b r).heap[k]? = w.heap[k]? := by
  simp only [World.setRow]
  rw [Array.getElem?_modify, if_neg (by omega)]
theorem setRow_same {w : World} {b : Nat} {cs : Array Value} {t : TypeId} {fr : Nat × Nat} (h : w.heap[b]? = some (.cells cs t fr)) (r : Array Value) : (w.setRow b r).heap[b]? = some (.cells r t fr) := by
  simp only [World.setRow]
  rw [Array.getElem?_modify, if_pos rfl, h]
  rfl
theorem below_setRow {B : Nat} {a w : World} (h : Below B a w) {b : Nat} (hb : B ≤ b) (r : Array Value) : Below B a (w.setRow b r) :=
  ⟨h.os, h.tape, h.output, by simp only [World.setRow, Array.size_modify]; exact h.size, fun k hk => (setRow_other w b r k (by omega)).trans (h.block k hk)⟩
theorem BT_start (w w1 : World) (st W : List Int) (hb1 : Below ((w.alloc (.cells (a8 st) 144)).alloc (.cells (a8 []) 144)).heap.size ((w.alloc (.cells (a8 st) 144)).alloc (.cells (a8 []) 144)) w1) :
    BT w ((((w1.alloc (.cells (a64 []) 163)).setRow w1.heap.size (a64 W)).alloc (.cells (a8 []) 144)).setRow (w1.heap.size + 1) (a8 st)) w1.heap.size st W st := by
  have hs : ((w.alloc (.cells (a8 st) 144)).alloc (.cells (a8 []) 144)).heap.size = w.heap.size + 2 := by show ((w.heap.push _).push _).size = _; simp
  have hle := hb1.size
  rw [hs] at hle
  have hs1 : ((w1.alloc (.cells (a64 []) 163)).setRow w1.heap.size (a64 W)).heap.size = w1.heap.size + 1 := by
    simp only [World.setRow, Array.size_modify]; show (w1.heap.push _).size = _; simp
  have old : ∀ k, k < w1.heap.size → ((((w1.alloc (.cells (a64 []) 163)).setRow w1.heap.size (a64 W)).alloc (.cells (a8 []) 144)).setRow (w1.heap.size + 1) (a8 st)).heap[k]? = w1.heap[k]? := by
    intro k hk
    rw [setRow_other _ _ _ _ (by omega), Below.heap_alloc _ _ _ (by rw [hs1]; omega), setRow_other _ _ _ _ (by omega), Below.heap_alloc _ _ _ hk]
  refine ⟨hle, ?_, ?_, ?_, ?_, ?_⟩
  · rw [old _ (by omega), hb1.block _ (by rw [hs]; omega), Below.heap_alloc _ _ _ (by show _ < (w.heap.push _).size; simp)]
    show (w.heap.push _)[w.heap.size]? = _
    simp
  · rw [old _ (by omega), hb1.block _ (by rw [hs]; omega)]
    show ((w.heap.push _).push _)[w.heap.size + 1]? = _
    rw [Array.getElem?_push, if_pos (by simp)]
  · rw [setRow_other _ _ _ _ (by omega), Below.heap_alloc _ _ _ (by rw [hs1]; omega)]
    exact setRow_same (new64 w1) _
  · exact setRow_same (new8 w1 W) _
  · have hb0 : Below w.heap.size w w1 := (((Below.refl w.heap.size w).alloc (Nat.le_refl _) _).alloc (by show _ ≤ (w.heap.push _).size; simp) _).trans (hb1.mono (by rw [hs]; omega))
    exact below_setRow ((below_setRow (hb0.alloc hb0.size _) hb0.size _).alloc (by rw [hs1]; omega) _) (by omega) _
theorem BT.cellX {w wr : World} {bw : Nat} {st W v : List Int} (h : BT w wr bw st W v) (j : Nat) (hj : j < 8) : wr.cell? ⟨bw + 1, j, none⟩ = some (.int .u32 (v.getD j 0)) := by
  simp only [World.cell?, h.2.2.2.2.1]
  simpa using a8_at v j hj
theorem BT.cellW {w wr : World} {bw : Nat} {st W v : List Int} (h : BT w wr bw st W v) (j : Nat) (hj : j < 64) : wr.cell? ⟨bw, j, none⟩ = some (.int .u32 (W.getD j 0)) := by
  simp only [World.cell?, h.2.2.2.1]
  simpa using a64_at W j hj
theorem BT.step {w wr : World} {bw : Nat} {st W v v' : List Int} (h : BT w wr bw st W v) (n : Nat) (r : Array Value) (hr : r = a8 v') : BT w ((wr.drewN n).setRow (bw + 1) r) bw st W v' := by
  subst hr
  obtain ⟨h0, h1, h2, h3, h4, h5⟩ := h
  have h5' : Below w.heap.size w (wr.drewN n) := ⟨h5.os, h5.tape, h5.output, h5.size, h5.block⟩
  exact ⟨h0, by rw [setRow_other _ _ _ _ (by omega)]; exact h1, by rw [setRow_other _ _ _ _ (by omega)]; exact h2, by rw [setRow_other _ _ _ _ (by omega)]; exact h3, setRow_same (w := wr.drewN n) h4 _, below_setRow h5' (by omega) _⟩
theorem one8 (a b c d e f g h : Int) : (#[Value.int .u32 a, .int .u32 b, .int .u32 c, .int .u32 d, .int .u32 e, .int .u32 f, .int .u32 g, .int .u32 h] : Array Value).all (·.oneCell') = true := a8_one [a, b, c, d, e, f, g, h]
theorem BT.cellV {w wr : World} {bw : Nat} {st W v : List Int} (h : BT w wr bw st W v) (j : Nat) (hj : j < 8) : wr.cell? ⟨w.heap.size, j, none⟩ = some (.int .u32 (st.getD j 0)) := by
  simp only [World.cell?, h.2.1]
  simpa using a8_at st j hj
theorem BT.frozenV {w wr : World} {bw : Nat} {st W v : List Int} (h : BT w wr bw st W v) (j : Nat) : wr.frozen? ⟨w.heap.size, j, none⟩ = false := by
  simp [World.frozen?, h.2.1]
theorem BT.store {w wr : World} {bw : Nat} {st st' W v : List Int} (h : BT w wr bw st W v) (i : Nat) (u : Value) (hr : (a8 st).setIfInBounds i u = a8 st') : BT w (wr.setCell ⟨w.heap.size, i, none⟩ u) bw st' W v := by
  obtain ⟨h0, h1, h2, h3, h4, h5⟩ := h
  refine ⟨h0, ?_, ?_, ?_, ?_, h5.setCell (Nat.le_refl _) _⟩
  · simp only [World.setCell, Array.getElem?_modify, h1]
    simp [hr]
  · rw [Below.heap_setCell _ _ _ _ (by simp)]; exact h2
  · rw [Below.heap_setCell _ _ _ _ (by simp; omega)]; exact h3
  · rw [Below.heap_setCell _ _ _ _ (by simp; omega)]; exact h4
theorem BT.drew {w wr : World} {bw : Nat} {st W v : List Int} (h : BT w wr bw st W v) : BT w wr.drew bw st W v := by
  obtain ⟨h0, h1, h2, h3, h4, h5⟩ := h
  exact ⟨h0, h1, h2, h3, h4, ⟨h5.os, h5.tape, h5.output, h5.size, h5.block⟩⟩
theorem BT.start2 {w wr : World} {bw : Nat} {st W v : List Int} (h : BT w wr bw st W v) (x : List Int) : BT w wr bw (addZ st x 0) W v := by
  obtain ⟨h0, h1, h2, h3, h4, h5⟩ := h
  exact ⟨h0, by rw [a8_zero]; exact h1, h2, h3, h4, h5⟩
theorem BT.last {w wr : World} {bw : Nat} {st W v : List Int} (h : BT w wr bw st W v) : (wr.setRow (w.heap.size + 1) (a8 st)).heap[w.heap.size + 1]? = some (.cells (a8 st) 144 (0, 0)) ∧ Below w.heap.size w (wr.setRow (w.heap.size + 1) (a8 st)) :=
  ⟨setRow_same h.2.2.1 _, below_setRow h.2.2.2.2.2 (by omega) _⟩
theorem compl32 : (if IntKind.u32.signed = true then (-1 : Int) else IntKind.u32.max) = 4294967295 := rfl
theorem one_eq (e f gg h kt wt : Int) : ((h + bits BinOp.xor IntKind.u32 (bits BinOp.xor IntKind.u32 (rotI e 6) (rotI e 11)) (rotI e 25) + bits BinOp.xor IntKind.u32 (bits BinOp.and IntKind.u32 e f) (bits BinOp.and IntKind.u32 (bits BinOp.xor IntKind.u32 4294967295 e) gg) + kt) % 4294967296 + wt) % 4294967296 = oneZ e f gg h kt wt := by
  unfold oneZ; rw [IntKind.wrap_u32, show big1 e = bits BinOp.xor IntKind.u32 (bits BinOp.xor IntKind.u32 (rotI e 6) (rotI e 11)) (rotI e 25) from rfl, show chZ e f gg = bits BinOp.xor IntKind.u32 (bits BinOp.and IntKind.u32 e f) (bits BinOp.and IntKind.u32 (bits BinOp.xor IntKind.u32 4294967295 e) gg) from rfl]
  omega
theorem two_eq (a b c : Int) : (bits BinOp.xor IntKind.u32 (bits BinOp.xor IntKind.u32 (rotI a 2) (rotI a 13)) (rotI a 22) + bits BinOp.xor IntKind.u32 (bits BinOp.xor IntKind.u32 (bits BinOp.and IntKind.u32 a b) (bits BinOp.and IntKind.u32 a c)) (bits BinOp.and IntKind.u32 b c)) % 4294967296 = twoZ a b c := by
  unfold twoZ; rw [IntKind.wrap_u32]; rfl
theorem lit8 (v : List Int) (h : v.length = 8) : (#[Value.int .u32 (v.getD 0 0), .int .u32 (v.getD 1 0), .int .u32 (v.getD 2 0), .int .u32 (v.getD 3 0), .int .u32 (v.getD 4 0), .int .u32 (v.getD 5 0), .int .u32 (v.getD 6 0), .int .u32 (v.getD 7 0)] : Array Value) = a8 v := rfl
set_option maxRecDepth 100000 in
set_option maxHeartbeats 2000000 in
theorem block_calls (g cap len p : Nat) (st : List Int) (hst : stOk st) (blk : List UInt8) (hbl : blk.length = 64) (hp : p + 64 ≤ len) (hlen' : len ≤ 140737488355328) (w : World) (hg : g < w.heap.size)
    (hL : Laid w) (hc : ∀ j (h : j < blk.length), w.cell? ⟨g, p + j, none⟩ = some (.int .u8 blk[j].toNat)) :
    Calls Tryd.prog 113 #[.agg (a8 st), .slice (some ⟨g, 0, none⟩) len cap, .int .i64 p] w fun e w' => e = .returned (.agg (a8 (takeZ st blk))) ∧ Below w.heap.size w w' := by
  have c33 := fun wc (hb : Below w.heap.size w wc) => schedule_calls g cap len p blk hbl hp hlen' wc (Nat.lt_of_lt_of_le hg hb.size) (fun j h => (hb.cell (p := ⟨g, p + j, none⟩) hg).trans (hc j h))
  clear hc
  have HL := Lib.hid hL
  have HST := Lib.hid hst
  clear hL hst
  go_enter Tryd.func113, Tryd.ntmps113
  go_wp2_with (first | (refine wpList_store_row rfl 144 _ _ rfl (w1.heap.size + 1) (a8 st) rfl rfl 144 (a8 []) (new8 w1 _) (a8_info _) (by rw [a8_size, a8_size]) (a8_one _) ?_) | (refine wpList_load_row rfl 144 _ rfl w.heap.size rfl 144 (a8 st) (0, 0) _ (first_row w w1 st _ _ hb1) Tryd.underlying144 rfl (a8_info _) ?_) | (refine wpList_store_row rfl 163 _ _ rfl w1.heap.size (a64 (wordsZ blk)) rfl rfl 163 (a64 []) (new64 w1) (a64_info _) (by rw [a64_size, a64_size]) (a64_one _) ?_) | (go_at_call 128; refine (c33 _ (((Below.refl _ _).alloc (Nat.le_refl _) _).alloc (by show w.heap.size ≤ (w.heap.push _).size; simp) _)).mono ?_; rintro e w1 ⟨rfl, hb1⟩))
  go_loopw [9, 10, 11, 12, 13] (fun i _ _ _ _ wr => ∃ k : Nat, k ≤ 64 ∧ i = .int .i64 k ∧ Hid (BT w wr w1.heap.size st (wordsZ blk) (roundsZ (wordsZ blk) st k))) (fun i _ _ _ _ _ => 64 - (intOf i).toNat)
  case atStart => exact ⟨0, by omega, rfl, Lib.hid (BT_start w w1 st (wordsZ blk) hb1)⟩
  case round =>
    obtain ⟨k, hk, rfl, HB⟩ := hrel
    by_cases hlt : k < 64
    · have hki : (k : Int) < 64 := by omega
      have hv := roundsZ_ok (wordsZ blk) HST.out k
      have x0 := HB.out.cellX 0 (by omega)
      have x1 := HB.out.cellX 1 (by omega)
      have x2 := HB.out.cellX 2 (by omega)
      have x3 := HB.out.cellX 3 (by omega)
      have x4 := HB.out.cellX 4 (by omega)
      have x5 := HB.out.cellX 5 (by omega)
      have x6 := HB.out.cellX 6 (by omega)
      have x7 := HB.out.cellX 7 (by omega)
      have xw := HB.out.cellW k hlt
      have xt := (HL.out.below HB.out.2.2.2.2.2 HL.out.size).rtable k hlt
      obtain ⟨a0, a1⟩ := hv.at 0
      obtain ⟨e0, e1⟩ := hv.at 4
      have HX := Lib.hid HB.out.2.2.2.2.1
      have hnext : roundsZ (wordsZ blk) st (k + 1) = roundZ (roundsZ (wordsZ blk) st k) (tabZ.getD k 0) ((wordsZ blk).getD k 0) := rfl
      have HN := Lib.hid hnext
      clear hnext hv
      generalize hvv : roundsZ (wordsZ blk) st k = v at *
      have HV := Lib.hid hvv
      clear hvv
      generalize hkt : tabZ.getD k 0 = kt at *
      have HKT := Lib.hid hkt
      clear hkt
      generalize hwt : (wordsZ blk).getD k 0 = wt at *
      have HWT := Lib.hid hwt
      clear hwt
      obtain ⟨a, ha⟩ : ∃ a, v.getD 0 0 = a := ⟨_, rfl⟩
      obtain ⟨b, hb⟩ : ∃ a, v.getD 1 0 = a := ⟨_, rfl⟩
      obtain ⟨c, hc⟩ : ∃ a, v.getD 2 0 = a := ⟨_, rfl⟩
      obtain ⟨d, hd⟩ : ∃ a, v.getD 3 0 = a := ⟨_, rfl⟩
      obtain ⟨e, he⟩ : ∃ a, v.getD 4 0 = a := ⟨_, rfl⟩
      obtain ⟨f, hf⟩ : ∃ a, v.getD 5 0 = a := ⟨_, rfl⟩
      obtain ⟨gg, hgg⟩ : ∃ a, v.getD 6 0 = a := ⟨_, rfl⟩
      obtain ⟨h, hh⟩ : ∃ a, v.getD 7 0 = a := ⟨_, rfl⟩
      rw [ha] at x0 a0 a1
      rw [hb] at x1
      rw [hc] at x2
      rw [hd] at x3
      rw [he] at x4 e0 e1
      rw [hf] at x5
      rw [hgg] at x6
      rw [hh] at x7
      have HE := Lib.hid (And.intro ha (And.intro hb (And.intro hc (And.intro hd (And.intro he (And.intro hf (And.intro hgg hh)))))))
      clear ha hb hc hd he hf hgg hh
      have Q1 := Lib.hid (fun w => rotr_calls e 6 e0 e1 (by omega) (by omega) w)
      have Q2 := Lib.hid (fun w => rotr_calls e 11 e0 e1 (by omega) (by omega) w)
      have Q3 := Lib.hid (fun w => rotr_calls e 25 e0 e1 (by omega) (by omega) w)
      have R1 := Lib.hid (fun w => rotr_calls a 2 a0 a1 (by omega) (by omega) w)
      have R2 := Lib.hid (fun w => rotr_calls a 13 a0 a1 (by omega) (by omega) w)
      have R3 := Lib.hid (fun w => rotr_calls a 22 a0 a1 (by omega) (by omega) w)
      go_wp2
      go_quiet ((go_at_call 129; first | with_reducible exact quiet_left (Q1.out _) | with_reducible exact quiet_left (Q2.out _) | with_reducible exact quiet_left (Q3.out _)))
      rw [compl32, one_eq]
      obtain ⟨t1, ht1⟩ : ∃ t1, oneZ e f gg h kt wt = t1 := ⟨_, rfl⟩
      rw [ht1]
      have HT1 := Lib.hid ht1
      clear ht1
      go_wp2
      go_quiet ((go_at_call 129; first | with_reducible exact quiet_add_left (R1.out _) | with_reducible exact quiet_add_left (R2.out _) | with_reducible exact quiet_add_left (R3.out _)))
      rw [two_eq]
      obtain ⟨t2, ht2⟩ : ∃ t2, twoZ a b c = t2 := ⟨_, rfl⟩
      rw [ht2]
      have HT2 := Lib.hid ht2
      clear ht2 Q1 Q2 Q3 R1 R2 R3
      have hi8 : (Tryd.prog.info? 144).map (·.size) = some 8 := by kernel_rfl
      go_wp2_with (with_reducible refine wpList_store_row (o := ⟨none, .store 144 (.tmp 8) (.tmp 98), _, _, _, _⟩) ?_ 144 (.tmp 8) (.tmp 98) ?_ (w1.heap.size + 1) #[.int .u32 ((t1 + t2) % 4294967296), .int .u32 a, .int .u32 b, .int .u32 c, .int .u32 ((d + t1) % 4294967296), .int .u32 e, .int .u32 f, .int .u32 gg] ?_ ?_ 144 (a8 v) ?_ ?_ ?_ ?_ ?_
                   · exact rfl
                   · exact rfl
                   · exact rfl
                   · exact rfl
                   · exact HX.out
                   · exact hi8
                   · exact a8_size v
                   · exact one8 _ _ _ _ _ _ _ _)
      refine ⟨⟨k + 1, by omega, by go_num, Lib.hid ?_⟩, by simp [intOf]; omega⟩
      rw [HN.out]
      refine BT.step HB.out _ _ ?_
      obtain ⟨ha, hb, hc, hd, he, hf, hgg, hh⟩ := HE.out
      have hT1 := HT1.out
      have hT2 := HT2.out
      have hR : roundZ v kt wt = [(t1 + t2) % 4294967296, a, b, c, (d + t1) % 4294967296, e, f, gg] := by
        unfold roundZ; rw [ha, hb, hc, hd, he, hf, hgg, hh, hT1, hT2, IntKind.wrap_u32, IntKind.wrap_u32]
      rw [hR]; rfl
    · obtain rfl : k = 64 := by omega
      rw [show (((64 : Nat)) : Int) = 64 from rfl]
      obtain ⟨X, hX⟩ : ∃ X, roundsZ (wordsZ blk) st 64 = X := ⟨_, rfl⟩
      rw [hX] at HB
      have hXo : stOk X := hX ▸ roundsZ_ok (wordsZ blk) HST.out 64
      have hfin : takeZ st blk = addZ st X 8 := by rw [takeZ, hX]
      have HF := Lib.hid (And.intro hfin hXo)
      clear hX hXo hfin hlt hk
      obtain ⟨wo, rfl⟩ : ∃ wo : World, wo = wr := ⟨_, rfl⟩
      go_wp2
      go_loopw [14] (fun i wr => ∃ k : Nat, k ≤ 8 ∧ i = .int .i64 k ∧ Hid (BT w wr w1.heap.size (addZ st X k) (wordsZ blk) X)) (fun i _ => 8 - (intOf i).toNat)
      case atStart => exact ⟨0, by omega, rfl, Lib.hid (HB.out.start2 X)⟩
      case round =>
        obtain ⟨k, hk, rfl, HR⟩ := hrel
        by_cases hlt : k < 8
        · have hki : (k : Int) < 8 := by omega
          have c1 := HR.out.cellV k hlt
          have c2 := HR.out.cellX k hlt
          have f1 := HR.out.frozenV k
          rw [addZ_getD _ _ _ _ hlt, if_neg (by omega)] at c1
          have hs := HR.out.store k _ (a8_set st X k hlt)
          rw [IntKind.wrap_u32] at hs
          have HS := Lib.hid hs
          obtain ⟨s0, s1⟩ := HST.out.at k
          obtain ⟨y0, y1⟩ := HF.out.2.at k
          clear hs
          generalize st.getD k 0 = x at *
          generalize X.getD k 0 = y at *
          go_wp2
          go_region
          go_wp2
          go_roundw
          case rel => exact ⟨k + 1, by omega, by go_num, Lib.hid HS.out.drew⟩
          case measure => simp [intOf]; omega
        · obtain rfl : k = 8 := by omega
          rw [show (((8 : Nat)) : Int) = 8 from rfl]
          have hw := HR.out
          rw [← HF.out.1] at hw
          have HE := Lib.hid hw
          clear hw hlt hk
          generalize hWW : takeZ st blk = V at *
          have HV := Lib.hid hWW
          clear hWW
          have hi8 : (Tryd.prog.info? 144).map (·.size) = some (a8 V).size := a8_info V
          have g1 := HE.out.2.1
          have g2 := HE.out.2.2.1
          have te := HE.out.last
          go_wp2_with (first
            | (refine wpList_load_row rfl 144 _ rfl w.heap.size rfl 144 (a8 V) (0, 0) _ g1 Tryd.underlying144 rfl hi8 ?_)
            | (refine wpList_store_row rfl 144 _ _ rfl (w.heap.size + 1) (a8 V) rfl rfl 144 (a8 []) g2 hi8 (by rw [a8_size, a8_size]) (a8_one _) ?_))
          refine bodyPost_ret (v := .agg (a8 V)) (results_cell_row rfl _ _ (w.heap.size + 1) 144 (a8 V) (0, 0) _ rfl te.1 Tryd.underlying144 rfl hi8) rfl ⟨by rw [HV.out], te.2⟩
end Go.Proofs.YtkpfbjlbllpahaaDoor
