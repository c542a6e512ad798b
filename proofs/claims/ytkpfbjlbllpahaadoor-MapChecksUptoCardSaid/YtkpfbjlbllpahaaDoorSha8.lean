import Derived.Test.YtkpfbjlbllpahaaDoorSha7
import Derived.RegionTactic
import Derived.BigRegion
import Derived.Deep.MidRow
set_option linter.unusedVariables false
namespace Go.Proofs.YtkpfbjlbllpahaaDoor
open Go.RowKit
theorem only_drewN {a w : World} {row : Option Nat} (h : a.grownBy w row) (n : Nat) : a.grownBy (w.drewN n) row := ⟨h.os, h.tape, h.output, h.size, h.block⟩
theorem only_drew {a w : World} {row : Option Nat} (h : a.grownBy w row) : a.grownBy w.drew row := ⟨h.os, h.tape, h.output, h.size, h.block⟩
theorem only_alloc {a w : World} {row : Option Nat} (h : a.grownBy w row) (o : Obj) : a.grownBy (w.alloc o) row :=
  ⟨h.os, h.tape, h.output, Nat.le_trans h.size (by simp), fun i hi hne => (Below.heap_alloc w o i (Nat.lt_of_lt_of_le hi h.size)).trans (h.block i hi hne)⟩
theorem only_setCell {a w : World} {g : Nat} (h : a.grownBy w (some g)) {p : Addr} (hp : p.block = g ∨ a.heap.size ≤ p.block) (u : Value) : a.grownBy (w.setCell p u) (some g) :=
  ⟨h.os, h.tape, h.output, by simpa [World.setCell] using h.size, fun i hi hne => (Below.heap_setCell w p u i (by
    rintro rfl
    rcases hp with hp | hp
    · exact hne (by rw [hp])
    · omega)).trans (h.block i hi hne)⟩
theorem only_setRow {a w : World} {row : Option Nat} (h : a.grownBy w row) {b : Nat} (hb : a.heap.size ≤ b) (r : Array Value) : a.grownBy (w.setRow b r) row :=
  ⟨h.os, h.tape, h.output, by simp only [World.setRow, Array.size_modify]; exact h.size, fun i hi hne => (setRow_other w b r i (by omega)).trans (h.block i hi hne)⟩
theorem only_of_below {a w : World} (h : Below a.heap.size a w) (row : Option Nat) : a.grownBy w row := ⟨h.os, h.tape, h.output, h.size, fun i hi _ => h.block i hi⟩
theorem only_trans {a b c : World} {row : Option Nat} (h : a.grownBy b row) (k : b.grownBy c row) : a.grownBy c row :=
  ⟨k.os.trans h.os, k.tape.trans h.tape, k.output.trans h.output, Nat.le_trans h.size k.size, fun i hi hne => (k.block i (Nat.lt_of_lt_of_le hi h.size) hne).trans (h.block i hi hne)⟩
/-- The cells of a hash: its state, and what stands behind. -/
def hcells (st : List Int) (tl : Array Value) : Array Value := a8 st ++ tl
theorem hcells_at (st : List Int) (tl : Array Value) (j : Nat) (h : j < 8) : (hcells st tl)[j]? = some (.int .u32 (st.getD j 0)) := by
  rw [hcells, Array.getElem?_append_left (by rw [a8_size]; exact h), a8_at _ _ h]
theorem hcells_set (st : List Int) (tl : Array Value) (j : Nat) (h : j < 8) (u : Value) : (hcells st tl).setIfInBounds j u = (a8 st).setIfInBounds j u ++ tl := by
  rw [hcells]
  apply Array.ext_getElem?
  intro i
  rw [Array.getElem?_setIfInBounds]
  by_cases e : j = i
  · subst e
    rw [if_pos rfl, Array.getElem?_append_left (by simp [a8_size]; exact h), Array.getElem?_setIfInBounds, if_pos rfl, a8_size, if_pos h, if_pos (by simp [a8_size]; omega)]
  · rw [if_neg e]
    by_cases hi : i < 8
    · rw [Array.getElem?_append_left (by rw [a8_size]; exact hi), Array.getElem?_append_left (by simp [a8_size]; exact hi), Array.getElem?_setIfInBounds, if_neg e]
    · rw [Array.getElem?_append_right (by rw [a8_size]; omega), Array.getElem?_append_right (by simp [a8_size]; omega)]
      simp [a8_size]
/-- Where take stands in its rounds. -/
def TT (w wr : World) (hb : Nat) (tl : Array Value) (bw : Nat) (st W v : List Int) : Prop :=
  hb < w.heap.size ∧ w.heap.size ≤ bw ∧ wr.heap[hb]? = some (.cells (hcells st tl) 159 (0, 0)) ∧
  wr.heap[bw]? = some (.cells (a64 W) 163 (0, 0)) ∧ wr.heap[bw + 1]? = some (.cells (a8 v) 156 (0, 0)) ∧ w.grownBy wr (some hb)
theorem TT.cellX {w wr : World} {hb bw : Nat} {tl : Array Value} {st W v : List Int} (h : TT w wr hb tl bw st W v) (j : Nat) (hj : j < 8) : wr.cell? ⟨bw + 1, j, none⟩ = some (.int .u32 (v.getD j 0)) := by
  simp only [World.cell?, h.2.2.2.2.1]
  simpa using a8_at v j hj
theorem TT.cellW {w wr : World} {hb bw : Nat} {tl : Array Value} {st W v : List Int} (h : TT w wr hb tl bw st W v) (j : Nat) (hj : j < 64) : wr.cell? ⟨bw, j, none⟩ = some (.int .u32 (W.getD j 0)) := by
  simp only [World.cell?, h.2.2.2.1]
  simpa using a64_at W j hj
theorem TT.cellV {w wr : World} {hb bw : Nat} {tl : Array Value} {st W v : List Int} (h : TT w wr hb tl bw st W v) (j : Nat) (hj : j < 8) : wr.cell? ⟨hb, j, none⟩ = some (.int .u32 (st.getD j 0)) := by
  simp only [World.cell?, h.2.2.1]
  simpa using hcells_at st tl j hj
theorem TT.frozenV {w wr : World} {hb bw : Nat} {tl : Array Value} {st W v : List Int} (h : TT w wr hb tl bw st W v) (j : Nat) : wr.frozen? ⟨hb, j, none⟩ = false := by
  simp [World.frozen?, h.2.2.1]
theorem TT.step {w wr : World} {hb bw : Nat} {tl : Array Value} {st W v v' : List Int} (h : TT w wr hb tl bw st W v) (n : Nat) (r : Array Value) (hr : r = a8 v') : TT w ((wr.drewN n).setRow (bw + 1) r) hb tl bw st W v' := by
  subst hr
  obtain ⟨h0, h1, h2, h3, h4, h5⟩ := h
  exact ⟨h0, h1, by rw [setRow_other _ _ _ _ (by omega)]; exact h2, by rw [setRow_other _ _ _ _ (by omega)]; exact h3, setRow_same (w := wr.drewN n) h4 _, only_setRow (only_drewN h5 n) (by omega) _⟩
theorem TT.store {w wr : World} {hb bw : Nat} {tl : Array Value} {st st' W v : List Int} (h : TT w wr hb tl bw st W v) (i : Nat) (hi : i < 8) (u : Value) (hr : (a8 st).setIfInBounds i u = a8 st') : TT w (wr.setCell ⟨hb, i, none⟩ u) hb tl bw st' W v := by
  obtain ⟨h0, h1, h2, h3, h4, h5⟩ := h
  refine ⟨h0, h1, ?_, ?_, ?_, only_setCell h5 (.inl rfl) _⟩
  · simp only [World.setCell, Array.getElem?_modify, h2]
    simp only [if_true, Option.map_some, hcells_set st tl i hi u, hr]
    rfl
  · rw [Below.heap_setCell _ _ _ _ (by simp; omega)]; exact h3
  · rw [Below.heap_setCell _ _ _ _ (by simp; omega)]; exact h4
theorem TT.drew {w wr : World} {hb bw : Nat} {tl : Array Value} {st W v : List Int} (h : TT w wr hb tl bw st W v) : TT w wr.drew hb tl bw st W v := by
  obtain ⟨h0, h1, h2, h3, h4, h5⟩ := h
  exact ⟨h0, h1, h2, h3, h4, only_drew h5⟩
theorem TT.start2 {w wr : World} {hb bw : Nat} {tl : Array Value} {st W v : List Int} (h : TT w wr hb tl bw st W v) (x : List Int) : TT w wr hb tl bw (addZ st x 0) W v := by
  obtain ⟨h0, h1, h2, h3, h4, h5⟩ := h
  exact ⟨h0, h1, by rw [hcells, a8_zero]; exact h2, h3, h4, h5⟩
theorem new8s (w1 : World) (W : List Int) : (((w1.alloc (.cells (a64 []) 163)).setRow w1.heap.size (a64 W)).alloc (.cells (a8 []) 156)).heap[w1.heap.size + 1]? = some (.cells (a8 []) 156 (0, 0)) := by
  have hs : ((w1.alloc (.cells (a64 []) 163)).setRow w1.heap.size (a64 W)).heap.size = w1.heap.size + 1 := by
    simp only [World.setRow, Array.size_modify]; show (w1.heap.push _).size = _; simp
  show (((w1.alloc (.cells (a64 []) 163)).setRow w1.heap.size (a64 W)).heap.push _)[w1.heap.size + 1]? = _
  rw [Array.getElem?_push, if_pos hs.symm]
theorem TT_start (w w1 : World) (hb : Nat) (tl : Array Value) (st W : List Int) (h : w.heap[hb]? = some (.cells (hcells st tl) 159 (0, 0))) (hb1 : Below w.heap.size w w1) :
    TT w ((((w1.alloc (.cells (a64 []) 163)).setRow w1.heap.size (a64 W)).alloc (.cells (a8 []) 156)).setRow (w1.heap.size + 1) (a8 st)) hb tl w1.heap.size st W st := by
  have hlt := (Array.getElem?_eq_some_iff.1 h).1
  have hle := hb1.size
  have hs1 : ((w1.alloc (.cells (a64 []) 163)).setRow w1.heap.size (a64 W)).heap.size = w1.heap.size + 1 := by
    simp only [World.setRow, Array.size_modify]; show (w1.heap.push _).size = _; simp
  have old : ∀ k, k < w1.heap.size → ((((w1.alloc (.cells (a64 []) 163)).setRow w1.heap.size (a64 W)).alloc (.cells (a8 []) 156)).setRow (w1.heap.size + 1) (a8 st)).heap[k]? = w1.heap[k]? := by
    intro k hk
    rw [setRow_other _ _ _ _ (by omega), Below.heap_alloc _ _ _ (by rw [hs1]; omega), setRow_other _ _ _ _ (by omega), Below.heap_alloc _ _ _ hk]
  refine ⟨hlt, hle, ?_, ?_, ?_, only_of_below ?_ _⟩
  · rw [old _ (by omega), hb1.block _ hlt]; exact h
  · rw [setRow_other _ _ _ _ (by omega), Below.heap_alloc _ _ _ (by rw [hs1]; omega)]
    exact setRow_same (new64 w1) _
  · exact setRow_same (new8s w1 W) _
  · exact below_setRow ((below_setRow (hb1.alloc hb1.size _) hb1.size _).alloc (by rw [hs1]; omega) _) (by omega) _
theorem state_info (l : List Int) : (Tryd.prog.info? 156).map (·.size) = some (a8 l).size := by rw [a8_size]; kernel_rfl
set_option maxRecDepth 100000 in
set_option maxHeartbeats 2000000 in
theorem take_calls (hb : Nat) (st : List Int) (tl : Array Value) (hst : stOk st) (blk : ByteArray) (hbl : blk.size = 64) (w : World)
    (hL : Laid w) (hS : w.heap[hb]? = some (.cells (hcells st tl) 159 (0, 0))) (h4 : 4 ≤ hb) :
    Calls Tryd.prog 123 #[.pointer (some ⟨hb, 0, none⟩), .string blk] w fun e w' => e = .returned (.tuple #[]) ∧ w'.heap[hb]? = some (.cells (hcells (takeZ st blk.data.toList) tl) 159 (0, 0)) ∧ w.grownBy w' (some hb) := by
  have c35 := fun wc => words_calls blk hbl wc
  have hlt := (Array.getElem?_eq_some_iff.1 hS).1
  have k0 : ∀ w1, Below w.heap.size w w1 → ∀ o r, ((w1.alloc o).setRow w1.heap.size r).heap[hb]? = some (.cells (hcells st tl) 159 (0, 0)) := fun w1 h o r => by
    rw [setRow_other _ _ _ _ (by have := h.size; omega), Below.heap_alloc _ _ _ (by have := h.size; omega), h.block _ hlt]; exact hS
  have k1 : ∀ w1, Below w.heap.size w w1 → ∀ o r, ((w1.alloc o).setRow w1.heap.size r).rangeAt hb 0 (a8 st).toList := fun w1 h o r j u hj => by
    have hj8 : j < 8 := by
      have := (List.getElem?_eq_some_iff.1 hj).1
      rw [Array.length_toList, a8_size] at this; exact this
    rw [Nat.zero_add]
    simp only [World.cell?, k0 w1 h o r]
    rw [Array.getElem?_toList] at hj
    have : (hcells st tl)[j]? = some u := by rw [hcells_at st tl j hj8, ← a8_at st j hj8]; exact hj
    simpa using this
  have K1 := Lib.hid k1
  have HL := Lib.hid hL
  have HST := Lib.hid hst
  have HSS := Lib.hid hS
  clear hL hst hS k0 k1
  go_enter Tryd.func123, Tryd.ntmps123
  go_wp2_with (first | (refine wpList_store_row rfl 156 _ _ rfl (w1.heap.size + 1) (a8 st) rfl rfl 156 (a8 []) (new8s w1 _) (state_info _) (by rw [a8_size, a8_size]) (a8_one _) ?_) | (refine wpList_load_mid rfl 156 _ rfl hb 0 rfl (a8 st).toList _ (K1.out w1 hb1 _ _) Tryd.underlying156 rfl (by rw [Array.length_toList]; exact state_info _) ?_) | (refine wpList_store_row rfl 163 _ _ rfl w1.heap.size (a64 (wordsZ blk.data.toList)) rfl rfl 163 (a64 []) (new64 w1) (a64_info _) (by rw [a64_size, a64_size]) (a64_one _) ?_) | (go_at_call 142; refine (c35 _).mono ?_; rintro e w1 ⟨rfl, hb1⟩))
  go_loopw [6, 7, 8, 9, 10, 17] (fun _ _ _ _ _ i wr => ∃ k : Nat, k ≤ 64 ∧ i = .int .i64 k ∧ Hid (TT w wr hb tl w1.heap.size st (wordsZ blk.data.toList) (roundsZ (wordsZ blk.data.toList) st k))) (fun _ _ _ _ _ i _ => 64 - (intOf i).toNat)
  case atStart => exact ⟨0, by omega, rfl, Lib.hid (TT_start w w1 hb tl st (wordsZ blk.data.toList) HSS.out hb1)⟩
  case round =>
    obtain ⟨k, hk, rfl, HB⟩ := hrel
    by_cases hlt : k < 64
    · have hki : (k : Int) < 64 := by omega
      have hv := roundsZ_ok (wordsZ blk.data.toList) HST.out k
      have x0 := HB.out.cellX 0 (by omega)
      have x1 := HB.out.cellX 1 (by omega)
      have x2 := HB.out.cellX 2 (by omega)
      have x3 := HB.out.cellX 3 (by omega)
      have x4 := HB.out.cellX 4 (by omega)
      have x5 := HB.out.cellX 5 (by omega)
      have x6 := HB.out.cellX 6 (by omega)
      have x7 := HB.out.cellX 7 (by omega)
      have xw := HB.out.cellW k hlt
      have xt := (HL.out.grown HB.out.2.2.2.2.2.size (fun p hp => World.cell?_of_block (HB.out.2.2.2.2.2.block p.block (by have := HL.out.size; omega) (by intro e; injection e with e; omega)))).table k hlt
      obtain ⟨a0, a1⟩ := hv.at 0
      obtain ⟨e0, e1⟩ := hv.at 4
      have HX := Lib.hid HB.out.2.2.2.2.1
      have hnext : roundsZ (wordsZ blk.data.toList) st (k + 1) = roundZ (roundsZ (wordsZ blk.data.toList) st k) (tabZ.getD k 0) ((wordsZ blk.data.toList).getD k 0) := rfl
      have HN := Lib.hid hnext
      clear hnext hv
      generalize hvv : roundsZ (wordsZ blk.data.toList) st k = v at *
      have HV := Lib.hid hvv
      clear hvv
      generalize hkt : tabZ.getD k 0 = kt at *
      have HKT := Lib.hid hkt
      clear hkt
      generalize hwt : (wordsZ blk.data.toList).getD k 0 = wt at *
      have HWT := Lib.hid hwt
      clear hwt
      obtain ⟨a, ha⟩ : ∃ a, v.getD 0 0 = a := ⟨_, rfl⟩
      obtain ⟨b, hb'⟩ : ∃ a, v.getD 1 0 = a := ⟨_, rfl⟩
      obtain ⟨c, hc⟩ : ∃ a, v.getD 2 0 = a := ⟨_, rfl⟩
      obtain ⟨d, hd⟩ : ∃ a, v.getD 3 0 = a := ⟨_, rfl⟩
      obtain ⟨e, he⟩ : ∃ a, v.getD 4 0 = a := ⟨_, rfl⟩
      obtain ⟨f, hf⟩ : ∃ a, v.getD 5 0 = a := ⟨_, rfl⟩
      obtain ⟨gg, hgg⟩ : ∃ a, v.getD 6 0 = a := ⟨_, rfl⟩
      obtain ⟨h, hh⟩ : ∃ a, v.getD 7 0 = a := ⟨_, rfl⟩
      rw [ha] at x0 a0 a1
      rw [hb'] at x1
      rw [hc] at x2
      rw [hd] at x3
      rw [he] at x4 e0 e1
      rw [hf] at x5
      rw [hgg] at x6
      rw [hh] at x7
      have HE := Lib.hid (And.intro ha (And.intro hb' (And.intro hc (And.intro hd (And.intro he (And.intro hf (And.intro hgg hh)))))))
      clear ha hb' hc hd he hf hgg hh
      have Q1 := Lib.hid (fun w => turned_calls e 6 e0 e1 (by omega) (by omega) w)
      have Q2 := Lib.hid (fun w => turned_calls e 11 e0 e1 (by omega) (by omega) w)
      have Q3 := Lib.hid (fun w => turned_calls e 25 e0 e1 (by omega) (by omega) w)
      have R1 := Lib.hid (fun w => turned_calls a 2 a0 a1 (by omega) (by omega) w)
      have R2 := Lib.hid (fun w => turned_calls a 13 a0 a1 (by omega) (by omega) w)
      have R3 := Lib.hid (fun w => turned_calls a 22 a0 a1 (by omega) (by omega) w)
      go_wp2
      go_quiet (fail)
      go_wp2
      go_quiet ((go_at_call 143; first | with_reducible exact quiet_add_left (Q1.out _) | with_reducible exact quiet_add_left (Q2.out _) | with_reducible exact quiet_add_left (Q3.out _)))
      rw [compl32, one_eq]
      obtain ⟨t1, ht1⟩ : ∃ t1, oneZ e f gg h kt wt = t1 := ⟨_, rfl⟩
      rw [ht1]
      have HT1 := Lib.hid ht1
      clear ht1
      go_wp2
      go_quiet ((go_at_call 143; first | with_reducible exact quiet_add_left (R1.out _) | with_reducible exact quiet_add_left (R2.out _) | with_reducible exact quiet_add_left (R3.out _)))
      rw [two_eq]
      obtain ⟨t2, ht2⟩ : ∃ t2, twoZ a b c = t2 := ⟨_, rfl⟩
      rw [ht2]
      have HT2 := Lib.hid ht2
      clear ht2 Q1 Q2 Q3 R1 R2 R3
      have hi8 : (Tryd.prog.info? 156).map (·.size) = some 8 := by kernel_rfl
      go_wp2_with (with_reducible refine wpList_store_row (o := ⟨none, .store 156 (.tmp 5) (.tmp 97), _, _, _, _⟩) ?_ 156 (.tmp 5) (.tmp 97) ?_ (w1.heap.size + 1) #[.int .u32 ((t1 + t2) % 4294967296), .int .u32 a, .int .u32 b, .int .u32 c, .int .u32 ((d + t1) % 4294967296), .int .u32 e, .int .u32 f, .int .u32 gg] ?_ ?_ 156 (a8 v) ?_ ?_ ?_ ?_ ?_
                   · exact rfl
                   · exact rfl
                   · exact rfl
                   · exact rfl
                   · exact HX.out
                   · exact hi8
                   · exact a8_size v
                   · exact one8 _ _ _ _ _ _ _ _)
      refine ⟨⟨k + 1, by omega, by go_num, Lib.hid ?_⟩, by simp [intOf]; omega⟩
      rw [HN.out]
      refine TT.step HB.out _ _ ?_
      obtain ⟨ha, hb, hc, hd, he, hf, hgg, hh⟩ := HE.out
      have hT1 := HT1.out
      have hT2 := HT2.out
      have hR : roundZ v kt wt = [(t1 + t2) % 4294967296, a, b, c, (d + t1) % 4294967296, e, f, gg] := by
        unfold roundZ; rw [ha, hb, hc, hd, he, hf, hgg, hh, hT1, hT2, IntKind.wrap_u32, IntKind.wrap_u32]
      rw [hR]; rfl
    · obtain rfl : k = 64 := by omega
      rw [show (((64 : Nat)) : Int) = 64 from rfl]
      obtain ⟨X, hX⟩ : ∃ X, roundsZ (wordsZ blk.data.toList) st 64 = X := ⟨_, rfl⟩
      rw [hX] at HB
      have hXo : stOk X := hX ▸ roundsZ_ok (wordsZ blk.data.toList) HST.out 64
      have hfin : takeZ st blk.data.toList = addZ st X 8 := by rw [takeZ, hX]
      have HF := Lib.hid (And.intro hfin hXo)
      clear hX hXo hfin hlt hk
      obtain ⟨wo, rfl⟩ : ∃ wo : World, wo = wr := ⟨_, rfl⟩
      go_wp2
      go_loopw [11, 99] (fun _ i wr => ∃ k : Nat, k ≤ 8 ∧ i = .int .i64 k ∧ Hid (TT w wr hb tl w1.heap.size (addZ st X k) (wordsZ blk.data.toList) X)) (fun _ i _ => 8 - (intOf i).toNat)
      case atStart => exact ⟨0, by omega, rfl, Lib.hid (HB.out.start2 X)⟩
      case round =>
        obtain ⟨k, hk, rfl, HR⟩ := hrel
        by_cases hlt : k < 8
        · have hki : (k : Int) < 8 := by omega
          have c1 := HR.out.cellV k hlt
          have c2 := HR.out.cellX k hlt
          have f1 := HR.out.frozenV k
          rw [addZ_getD _ _ _ _ hlt, if_neg (by omega)] at c1
          have hs := HR.out.store k hlt _ (a8_set st X k hlt)
          rw [IntKind.wrap_u32] at hs
          have HS := Lib.hid hs
          obtain ⟨s0, s1⟩ := HST.out.at k
          obtain ⟨y0, y1⟩ := HF.out.2.at k
          clear hs
          generalize st.getD k 0 = x at *
          generalize X.getD k 0 = y at *
          go_wp2
          go_region
          go_wp2
          go_roundw
          case rel => exact ⟨k + 1, by omega, by go_num, Lib.hid HS.out.drew⟩
          case measure => simp [intOf]; omega
        · obtain rfl : k = 8 := by omega
          rw [show (((8 : Nat)) : Int) = 8 from rfl]
          have hw := HR.out
          rw [← HF.out.1] at hw
          have HE := Lib.hid hw
          clear hw hlt hk
          go_wp2
          go_end0
          exact ⟨rfl, HE.out.2.2.1, HE.out.2.2.2.2.2⟩
end Go.Proofs.YtkpfbjlbllpahaaDoor
