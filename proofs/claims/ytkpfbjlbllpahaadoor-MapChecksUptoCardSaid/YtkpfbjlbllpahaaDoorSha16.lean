import Derived.Test.YtkpfbjlbllpahaaDoorSha15
import Derived.Deep.RegionLaw
set_option linter.unusedVariables false
namespace Go.Proofs.YtkpfbjlbllpahaaDoor
open Go.RowKit
theorem first_range (w : World) (hL : Laid w) : w.rangeAt 0 0 (a8 beginZ).toList := fun j u hj => by
  have hj8 : j < 8 := by
    have := (List.getElem?_eq_some_iff.1 hj).1
    rw [Array.length_toList, a8_size] at this; exact this
  rw [Nat.zero_add, hL.first j hj8, ← hj, Array.getElem?_toList, a8_at _ _ hj8]
theorem RowB.pos {w : World} {base : Nat} {v : Value} {l : List UInt8} (h : RowB w base v l) (hl : 0 < l.length) : ∃ g cap, v = .slice (some ⟨g, 0, none⟩) l.length cap ∧ base ≤ g ∧ g < w.heap.size ∧
    ∀ j (hj : j < l.length), w.cell? ⟨g, j, none⟩ = some (.int .u8 l[j].toNat) := by
  rcases h.form with ⟨_, rfl⟩ | ⟨g, cap, hv, h1, h2, _, h3⟩
  · cases hl
  · exact ⟨g, cap, hv, h1, h2, h3⟩
/-- Where the reference's sum stands: the bytes in block g, the state in block bv. -/
def ST (w wr : World) (g bv : Nat) (l : List UInt8) (v : List Int) : Prop :=
  w.heap.size ≤ bv ∧ wr.heap[bv]? = some (.cells (a8 v) 144 (0, 0)) ∧ (g < bv ∧ ∀ j (hj : j < l.length), wr.cell? ⟨g, j, none⟩ = some (.int .u8 l[j].toNat)) ∧ Below w.heap.size w wr
theorem ST.lt {w wr : World} {g bv : Nat} {l : List UInt8} {v : List Int} (h : ST w wr g bv l v) : bv < wr.heap.size := (Array.getElem?_eq_some_iff.1 h.2.1).1
theorem ST.start {w w1 : World} {g : Nat} {l : List UInt8} (v0 : Array Value) (hb : Below w.heap.size w w1) (hg : g < w1.heap.size) (hc : ∀ j (hj : j < l.length), w1.cell? ⟨g, j, none⟩ = some (.int .u8 l[j].toNat)) (v : List Int) :
    ST w ((w1.alloc (.cells v0 144)).setRow w1.heap.size (a8 v)) g w1.heap.size l v := by
  have hbb : Below w1.heap.size w1 ((w1.alloc (.cells v0 144)).setRow w1.heap.size (a8 v)) := below_setRow ((Below.refl _ _).alloc (Nat.le_refl _) _) (Nat.le_refl _) _
  exact ⟨hb.size, setRow_same (heap_alloc_last w1 _) _, ⟨hg, fun j hj => (hbb.cell (p := ⟨g, j, none⟩) hg).trans (hc j hj)⟩, hb.trans (hbb.mono hb.size)⟩
theorem ST.step {w wr w2 : World} {g bv : Nat} {l : List UInt8} {v : List Int} (h : ST w wr g bv l v) (hb : Below wr.heap.size wr w2) (v' : List Int) : w2.heap[bv]? = some (.cells (a8 v) 144 (0, 0)) ∧ ST w (w2.setRow bv (a8 v')) g bv l v' := by
  have hlt := h.lt
  obtain ⟨h1, h2, ⟨h3, h4⟩, h5⟩ := h
  have e : w2.heap[bv]? = some (.cells (a8 v) 144 (0, 0)) := (hb.block bv hlt).trans h2
  refine ⟨e, h1, setRow_same e _, ⟨h3, fun j hj => ?_⟩, below_setRow (h5.trans (hb.mono h5.size)) h1 _⟩
  rw [World.cell?_of_block (w := w2) (a := ⟨g, j, none⟩) (setRow_other w2 bv _ g (by omega)), hb.cell (p := ⟨g, j, none⟩) (by show g < _; omega)]
  exact h4 j hj
theorem four_bytes (x : Int) (h0 : 0 ≤ x) : [Value.int .u8 (IntKind.u8.wrap (x / 16777216)), .int .u8 (IntKind.u8.wrap (x / 65536)), .int .u8 (IntKind.u8.wrap (x / 256)), .int .u8 (IntKind.u8.wrap x)] = bC (putZ x.toNat 4) := by
  have e : ∀ d : Nat, (((UInt8.ofNat (x.toNat / d)).toNat : Nat) : Int) = x / (d : Int) % 256 := by
    intro d
    rw [u8_val, Int.natCast_ediv, Int.toNat_of_nonneg h0]
  have hp : putZ x.toNat 4 = [UInt8.ofNat (x.toNat / 16777216), UInt8.ofNat (x.toNat / 65536), UInt8.ofNat (x.toNat / 256), UInt8.ofNat (x.toNat / 1)] := rfl
  rw [hp]
  simp only [bC, List.map_cons, List.map_nil, e, IntKind.wrap_u8]
  simp
theorem row_four {w : World} {base : Nat} {v : Value} {l : List UInt8} {x : Int} (h0 : 0 ≤ x) (h : Row w base 1 v (l.length + 4) (bC l ++ [Value.int .u8 (IntKind.u8.wrap (x / 16777216)), .int .u8 (IntKind.u8.wrap (x / 65536)), .int .u8 (IntKind.u8.wrap (x / 256)), .int .u8 (IntKind.u8.wrap x)])) :
    RowB w base v (l ++ putZ x.toNat 4) := by
  rw [four_bytes x h0, ← bC_app] at h
  unfold RowB
  rw [List.length_append, putZ_len]; exact h
theorem ST.drew {w wr : World} {g bv : Nat} {l : List UInt8} {v : List Int} (h : ST w wr g bv l v) : ST w wr.drew g bv l v := by
  obtain ⟨h1, h2, h3, h4⟩ := h; exact ⟨h1, h2, h3, h4.drew⟩
theorem ST.grown {w wr w2 : World} {g bv : Nat} {l : List UInt8} {v : List Int} (h : ST w wr g bv l v) {row : Option Nat} (hg : wr.grownBy w2 row) (h1 : row ≠ some bv) (h2 : row ≠ some g) (h3 : ∀ k, row = some k → w.heap.size ≤ k) : ST w w2 g bv l v := by
  have hlt := h.lt
  obtain ⟨a1, a2, ⟨a3, a4⟩, a5⟩ := h
  exact ⟨a1, (hg.block bv hlt (fun e => h1 e.symm)).trans a2, ⟨a3, fun j hj => (World.cell?_of_block (a := ⟨g, j, none⟩) (hg.block g (by omega) (fun e => h2 e.symm))).trans (a4 j hj)⟩,
    a5.grown hg a5.size h3⟩
set_option maxRecDepth 100000 in
set_option maxHeartbeats 2000000 in
theorem refsum_calls (s : ByteArray) (w : World) (hL : Laid w) (hs : s.size + 80 ≤ 140737488355328) : Calls Tryd.prog 90 #[.string s] w fun e w' => e = .returned (.string ⟨(shaZ s.data.toList).toArray⟩) ∧ Below w.heap.size w w' := by
  have cP := Lib.hid (padded_calls s hs w)
  have hl : s.data.toList.length = s.size := by simp
  obtain ⟨L, hLd⟩ : ∃ L, s.data.toList ++ padZ s.size = L := ⟨_, rfl⟩
  have hLm : L.length % 64 = 0 := by
    have := padZ_len s.size
    rw [← hLd, List.length_append, hl]; exact this
  have hLl : L.length ≤ 140737488355328 := by
    have := zeros_le s.size
    rw [← hLd, List.length_append, hl, padZ, List.length_append, putZ_len, List.length_cons, List.length_replicate]; omega
  have hfin : shaZ s.data.toList = textZ (feedZ beginZ L) := by rw [shaZ, hl, hLd]
  have hL0 : 0 < L.length := by rw [← hLd, List.length_append, padZ, List.length_append, List.length_cons]; omega
  rw [hLd] at cP
  have h4 := hL.size
  have HL := Lib.hid hL
  have HFIN := Lib.hid hfin
  have HLM := Lib.hid hLm
  clear hL hl hLd hfin hLm
  go_enter Tryd.func90, Tryd.ntmps90
  go_wp2_with (first
    | (go_at_call 112; (with_reducible refine cP.out.mono ?_); rintro e w1 ⟨pv, rfl, hr1, hb1⟩
       have hs1 := hb1.size
       have hrg := first_range w1 (HL.out.below hb1 h4)
       obtain ⟨g, pc, hpv, hg0, hg1, hgc⟩ := hr1.pos hL0
       subst hpv
       have HR1 := Lib.hid hr1
       have HGC := Lib.hid hgc
       have HB1 := Lib.hid hb1
       have hold := heap_alloc_last w1 (.cells (a8 []) 144)
       clear hr1 hb1 hgc)
    | (refine wpList_load_mid rfl 144 _ rfl 0 0 rfl (a8 beginZ).toList _ hrg Tryd.underlying144 rfl (by rw [Array.length_toList]; exact a8_info _) ?_)
    | (with_reducible refine wpList_store_row (o := ⟨none, .store 144 (.tmp 4) (.tmp 10), _, _, _, _⟩) ?_ 144 (.tmp 4) (.tmp 10) ?_ w1.heap.size (a8 beginZ) ?_ ?_ 144 (a8 []) ?_ (a8_info _) ?_ (a8_one _) ?_
       · exact rfl
       · exact rfl
       · exact rfl
       · exact rfl
       · exact hold
       · rw [a8_size, a8_size]))
  go_loopw [5] (fun iv wr => ∃ (j m : Nat), m ≤ L.length ∧ iv = .int .i64 m ∧ Hid (m = 64 * j) ∧ Hid (ST w wr g w1.heap.size L (feedN beginZ L j))) (fun iv _ => (L.length - (intOf iv)).toNat)
  case atStart => exact ⟨0, 0, by omega, rfl, Lib.hid rfl, Lib.hid (ST.start _ HB1.out hg1 HGC.out _)⟩
  case round =>
    obtain ⟨j, m, hm, rfl, HM, HS⟩ := hrel
    by_cases hlt : m < L.length
    · have hmi : (m : Int) < L.length := by omega
      have hm64 : m + 64 ≤ L.length := by have := HM.out; have := HLM.out; omega
      have hbl : ((L.drop m).take 64).length = 64 := by rw [List.length_take, List.length_drop]; omega
      have hcell : ∀ j' (h : j' < ((L.drop m).take 64).length), wr.cell? ⟨g, m + j', none⟩ = some (.int .u8 ((L.drop m).take 64)[j'].toNat) := by
        intro j' h
        rw [HS.out.2.2.1.2 (m + j') (by omega)]
        simp [List.getElem_take, List.getElem_drop]
      have cB := Lib.hid (block_calls g pc L.length m (feedN beginZ L j) (feedN_ok begin_ok _ _) ((L.drop m).take 64) hbl hm64 (by omega) wr (Nat.lt_trans HS.out.2.2.1.1 HS.out.lt) (HL.out.below HS.out.2.2.2 h4) hcell)
      have hnx : feedN beginZ L (j + 1) = takeZ (feedN beginZ L j) ((L.drop m).take 64) := by rw [feedN, HM.out]
      have HNX := Lib.hid hnx
      clear hnx hbl hcell
      have hld := HS.out.2.1
      generalize hv : feedN beginZ L j = v at *
      generalize hv' : takeZ v ((L.drop m).take 64) = v' at *
      clear hv hv'
      go_wp2_with (first
        | (with_reducible refine wpList_load_row (o := ⟨some 17, .load 144 (.tmp 4), _, _, _, _⟩) ?_ 144 (.tmp 4) ?_ w1.heap.size ?_ 144 (a8 v) (0, 0) _ hld Tryd.underlying144 ?_ (a8_info _) ?_
           · exact rfl
           · exact rfl
           · exact rfl
           · exact rfl)
        | (go_at_call 113; (with_reducible refine cB.out.mono ?_); rintro e w2 ⟨rfl, hb2⟩; obtain ⟨hx2, hs2⟩ := HS.out.step hb2 v'; have HX2 := Lib.hid hx2; have HS2 := Lib.hid hs2; clear hb2 hx2 hs2)
        | (with_reducible refine wpList_store_row (o := ⟨none, .store 144 (.tmp 4) (.tmp 20), _, _, _, _⟩) ?_ 144 (.tmp 4) (.tmp 20) ?_ w1.heap.size (a8 v') ?_ ?_ 144 (a8 v) ?_ (a8_info _) ?_ (a8_one _) ?_
           · exact rfl
           · exact rfl
           · exact rfl
           · exact rfl
           · exact HX2.out
           · rw [a8_size, a8_size]))
      go_roundw
      case rel => exact ⟨j + 1, m + 64, hm64, by go_num, Lib.hid (by have := HM.out; omega), Lib.hid (by rw [HNX.out]; exact HS2.out)⟩
      case measure => simp [intOf]; omega
    · obtain rfl : m = L.length := by omega
      have hj : j = L.length / 64 := by have := HM.out; omega
      have hv := HS.out
      rw [hj, show feedN beginZ L (L.length / 64) = feedZ beginZ L from rfl] at hv
      have hok : stOk (feedZ beginZ L) := feedN_ok begin_ok _ _
      have hfin2 := HFIN.out
      generalize feedZ beginZ L = V at *
      have HV := Lib.hid hv
      have HF2 := Lib.hid hfin2
      clear hv hj hlt hm hfin2
      obtain ⟨wo, rfl⟩ : ∃ wo : World, wo = wr := ⟨_, rfl⟩
      go_wp2
      go_loopw [6, 7] (fun lv iv wr => ∃ k : Nat, k ≤ 8 ∧ iv = .int .i64 k ∧ Hid (RowB wr w.heap.size lv (textN V k)) ∧ Hid (ST w wr g w1.heap.size L V) ∧ Hid (lv.ownBlock ≠ some w1.heap.size ∧ lv.ownBlock ≠ some g)) (fun _ iv _ => (8 - (intOf iv)).toNat)
      case atStart => exact ⟨0, by omega, rfl, Lib.hid (RowB.nil _ _), HV, Lib.hid (by simp [Value.ownBlock])⟩
      case round =>
        obtain ⟨k, hk, rfl, HO, HT, HNE⟩ := hrel
        by_cases hlt : k < 8
        · have hki : (k : Int) < 8 := by omega
          have hc : wr.cell? ⟨w1.heap.size, k, none⟩ = some (.int .u32 (V.getD k 0)) := by
            simp only [World.cell?, HT.out.2.1]
            simpa using a8_at V k hlt
          obtain ⟨x0, x1⟩ := hok.at k
          have hstep : textN V (k + 1) = textN V k ++ putZ (V.getD k 0).toNat 4 := rfl
          have HSTEP := Lib.hid hstep
          clear hstep
          generalize V.getD k 0 = x at *
          have hsz : w.heap.size ≤ wr.heap.size := HT.out.2.2.2.size
          have hend : ∀ (cs : Array Value) (v2 : Value) (w2 : World), Row w2 w.heap.size 1 v2 ((textN V k).length + 4) (bC (textN V k) ++ [Value.int .u8 (IntKind.u8.wrap (x / 16777216)), .int .u8 (IntKind.u8.wrap (x / 65536)), .int .u8 (IntKind.u8.wrap (x / 256)), .int .u8 (IntKind.u8.wrap x)]) →
              ((wr.alloc (.cells cs 5)).drew).grownBy w2 u6.ownBlock → (v2.ownBlock = u6.ownBlock ∨ v2.ownBlock = some ((wr.alloc (.cells cs 5)).drew).heap.size) → RowB w2 w.heap.size v2 (textN V k ++ putZ x.toNat 4) ∧ ST w w2 g w1.heap.size L V ∧ (v2.ownBlock ≠ some w1.heap.size ∧ v2.ownBlock ≠ some g) := by
            intro cs v2 w2 h1 h2 h3
            have hg0 : wr.grownBy w2 u6.ownBlock := ⟨h2.os, h2.tape, h2.output, Nat.le_trans (by show wr.heap.size ≤ (wr.heap.push _).size; simp) h2.size, fun i hi hne => (h2.block i (by show i < (wr.heap.push _).size; simp; omega) hne).trans (Below.heap_alloc wr _ i hi)⟩
            refine ⟨row_four x0 h1, HT.out.grown hg0 HNE.out.1 HNE.out.2 (fun q hq => (HO.out.lt q hq).1), ?_⟩
            rcases h3 with e | e
            · rw [e]; exact HNE.out
            · have e1 : ((wr.alloc (.cells cs 5)).drew).heap.size = wr.heap.size + 1 := by show (wr.heap.push _).size = _; simp
              have h4 := HT.out.lt
              have h5 := HT.out.2.2.1.1
              rw [e, e1]
              exact ⟨by intro e2; injection e2 with e2; omega, by intro e2; injection e2 with e2; omega⟩
          have HEND := Lib.hid hend
          clear hend
          have hll : (textN V k).length + 4 ≤ 140737488355328 := by rw [textN_len]; omega
          have HLL := Lib.hid hll
          have HSZ := Lib.hid hsz
          clear hll hsz
          obtain ⟨i0, hi, hz0, hz1, hz2⟩ := info_parts infoU8
          go_wp2
          go_region_law (refine step_append_row _ rfl _ _ 77 77 rfl w.heap.size 5 i0 (.int .u8 0) 1 1 Tryd.underlying77 hi hz0 hz1 hz2 rfl u6 _ _ rfl (Row.drew (Row.alloc HO.out _)) _ 4 _ rfl (Row.src (Row.drew (row_lit wr _ 5 4 1 (by unfold maxLen; omega) rfl)) Tryd.underlying77 (by intro z hz; simp at hz; rcases hz with rfl | rfl | rfl | rfl <;> rfl)) (by have := HLL.out; unfold maxLen; omega) (by have := HLL.out; omega) (Nat.le_trans HSZ.out (by simp)) ?_; intro v2 w2 hr2 hg2 hat2; have HR2 := Lib.hid (HEND.out _ v2 w2 hr2 hg2 hat2); clear hr2 hg2 hat2)
          all_goals go_wp2
          all_goals go_roundw
          all_goals first
            | exact ⟨k + 1, by omega, by go_num, Lib.hid (by rw [HSTEP.out]; exact HR2.out.1), Lib.hid HR2.out.2.1, Lib.hid HR2.out.2.2⟩
            | (simp [intOf]; omega)
        · obtain rfl : k = 8 := by omega
          rw [show (((8 : Nat)) : Int) = 8 from rfl]
          have hstr := HO.out.str
          rw [show textN V 8 = textZ V from rfl] at hstr
          go_wp2
          go_ret
          exact ⟨congrArg (fun l => Ending.returned (.string ⟨List.toArray l⟩)) HF2.out.symm, HT.out.2.2.2⟩
end Go.Proofs.YtkpfbjlbllpahaaDoor
