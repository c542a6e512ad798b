import Derived.Test.YtkpfbjlbllpahaaDoorSha14
set_option linter.unusedVariables false
namespace Go.Proofs.YtkpfbjlbllpahaaDoor
open Go.RowKit
/-- A hash that has taken a text. -/
def HashOf (w : World) (hb : Nat) (t : List UInt8) : Prop := ∃ R, HashAt w hb (feedZ beginZ t) R t.length ∧ R.take (t.length % 64) = leftZ t
theorem write_calls (hb : Nat) (t : List UInt8) (p : ByteArray) (w : World) (hL : Laid w) (hH : HashOf w hb t) (h4 : 4 ≤ hb) (hn : t.length + p.size ≤ 281474976710656) :
    Calls Tryd.prog 110 #[.pointer (some ⟨hb, 0, none⟩), .string p] w fun e w' => e = .returned (.int .i64 p.size) ∧ HashOf w' hb (t ++ p.data.toList) ∧ w.grownBy w' (some hb) := by
  obtain ⟨R, hA, hR⟩ := hH
  have hl : p.data.toList.length = p.size := by simp
  have hll := leftZ_len t
  have hst := feedN_ok begin_ok t (t.length / 64)
  by_cases h0 : t.length % 64 = 0
  · refine (write_even hb _ R t.length hst p w hL hA h4 h0 hn).mono ?_
    rintro e w' ⟨rfl, h1, h2⟩
    obtain ⟨f1, f2⟩ := feed_even beginZ t p.data.toList h0
    refine ⟨rfl, ⟨over R 0 (leftZ p.data.toList), ?_, ?_⟩, h2⟩
    · rw [f1, List.length_append, hl]; exact h1
    · rw [f2, List.length_append, hl, over, List.take_zero, List.nil_append]
      have := leftZ_len p.data.toList
      rw [show (t.length + p.size) % 64 = (leftZ p.data.toList).length by omega, List.take_left]
  · by_cases hs : t.length % 64 + p.size < 64
    · refine (write_short hb _ R t.length _ hst p w hL hA h4 rfl (by omega) hs hn).mono ?_
      rintro e w' ⟨rfl, h1, h2⟩
      obtain ⟨f1, f2⟩ := feed_short beginZ t p.data.toList (by omega)
      refine ⟨rfl, ⟨over R (t.length % 64) p.data.toList, ?_, ?_⟩, h2⟩
      · rw [f1, List.length_append, hl]; exact h1
      · rw [f2, List.length_append, hl, over, hR]
        rw [show (t.length + p.size) % 64 = (leftZ t ++ p.data.toList).length by rw [List.length_append]; omega, List.take_left]
    · refine (write_full hb _ R t.length _ hst p w hL hA h4 rfl (by omega) (by omega) hn).mono ?_
      rintro e w' ⟨rfl, h1, h2⟩
      obtain ⟨f1, f2⟩ := feed_full beginZ t p.data.toList (by omega) (by omega)
      have hR1 : over R (t.length % 64) (p.data.toList.take (64 - t.length % 64)) = leftZ t ++ p.data.toList.take (64 - t.length % 64) := by
        rw [over, hR, List.drop_of_length_le (by rw [hA.1, List.length_take]; omega), List.append_nil]
      rw [hR1] at h1
      refine ⟨rfl, ⟨over (leftZ t ++ p.data.toList.take (64 - t.length % 64)) 0 (leftZ (p.data.toList.drop (64 - t.length % 64))), ?_, ?_⟩, h2⟩
      · rw [f1, List.length_append, hl]; exact h1
      · rw [f2, over, List.take_zero, List.nil_append]
        have := leftZ_len (p.data.toList.drop (64 - t.length % 64))
        rw [List.length_drop] at this
        rw [show (t ++ p.data.toList).length % 64 = (leftZ (p.data.toList.drop (64 - t.length % 64))).length by rw [List.length_append]; omega, List.take_left]
theorem begin_range (w : World) (hL : Laid w) : w.rangeAt 1 0 (a8 beginZ).toList := fun j u hj => by
  have hj8 : j < 8 := by
    have := (List.getElem?_eq_some_iff.1 hj).1
    rw [Array.length_toList, a8_size] at this; exact this
  rw [Nat.zero_add, hL.begin j hj8, ← hj, Array.getElem?_toList, a8_at _ _ hj8]
theorem wpList_build {P : Program} {ops : Array Oper} {rest : List Oper} {o : Oper} {a : Act} {w : World} {Q : Exit → Act → World → Prop} (hgd : o.guard = none) (t : TypeId) (parts : Array (Nat × Operand)) (ho : o.op = .build t parts)
    (val : Value) (hr : (Instr.build t (parts.map fun (i, x) => (i, a.eval x))).run P w = .ok val w) (h : wpList P ops Q rest (a.put o.dst val) w) : wpList P ops Q (o :: rest) a w := by
  refine wpList_plain hgd fun K hK => ?_
  unfold Oper.wp execOp
  simp only [ho, Sem.run_bind, Sem.run_pure, Result.andThen_ok, hr]
  exact hK _ _ h
theorem wpList_box {P : Program} {ops : Array Oper} {rest : List Oper} {o : Oper} {a : Act} {w : World} {Q : Exit → Act → World → Prop} (hgd : o.guard = none) (t : TypeId) (x : Operand) (ho : o.op = .box t x)
    (val : Value) (w' : World) (hr : (Instr.box t (a.eval x)).run P w = .ok val w') (h : wpList P ops Q rest (a.put o.dst val) w') : wpList P ops Q (o :: rest) a w := by
  refine wpList_plain hgd fun K hK => ?_
  unfold Oper.wp execOp
  simp only [ho, Sem.run_bind, Sem.run_pure, Result.andThen_ok, hr]
  exact hK _ _ h
set_option maxRecDepth 100000 in
set_option maxHeartbeats 1000000 in
theorem new_calls (w : World) (hL : Laid w) : Calls Tryd.prog 109 #[] w fun e w' => e = .returned (.pointer (some ⟨w.heap.size, 0, none⟩)) ∧ HashOf w' w.heap.size [] ∧ Below w.heap.size w w' := by
  have hr := begin_range w hL
  go_enter Tryd.func109, Tryd.ntmps109
  go_wp2_with (first | (refine wpList_load_mid rfl 156 _ rfl 1 0 rfl (a8 beginZ).toList _ hr Tryd.underlying156 rfl (by rw [Array.length_toList]; exact state_info _) ?_) | (with_reducible refine wpList_build (o := ⟨some 2, .build 159 #[(0, .tmp 1)], _, _, _, _⟩) rfl 159 #[(0, .tmp 1)] rfl (.agg (hcells beginZ (hT (List.replicate 64 0) 0))) ?_ ?_; kernel_rfl))
  go_ret
  exact ⟨rfl, ⟨List.replicate 64 0, ⟨rfl, heap_alloc_last w _⟩, rfl⟩, (Below.refl _ _).alloc (Nat.le_refl _) _⟩
theorem hash_size (st : List Int) (R : List UInt8) (n : Nat) (hR : R.length = 64) : (hcells st (hT R n)).size = 73 := by rw [hcells, Array.size_append, a8_size, hT]; simp [bC_len, hR]
def zeroH : Array Value := hcells [] (hT (List.replicate 64 0) 0)
theorem zeroH_run (w : World) : (zeroValue 159).run Tryd.prog w = .ok (.agg zeroH) w := by kernel_rfl
theorem zeroH_size : zeroH.size = 73 := hash_size _ _ _ rfl
theorem hash_info : (Tryd.prog.info? 159).map (·.size) = some 73 := by kernel_rfl
theorem hash_one (st : List Int) (R : List UInt8) (n : Nat) : (hcells st (hT R n)).all (·.oneCell') = true := by
  rw [hcells, Array.all_append, a8_one, Bool.true_and, Array.all_eq_true_iff_forall_mem]
  intro x hx
  simp only [hT, List.mem_toArray, List.mem_append, List.mem_singleton] at hx
  rcases hx with h | rfl
  · exact bC_one R x h
  · rfl
set_option maxRecDepth 100000 in
set_option maxHeartbeats 1000000 in
theorem copy_calls (hb : Nat) (t : List UInt8) (w : World) (hH : HashOf w hb t) : Calls Tryd.prog 125 #[.pointer (some ⟨hb, 0, none⟩)] w fun e w' => e = .returned (.pointer (some ⟨w.heap.size, 0, none⟩)) ∧ HashOf w' w.heap.size t ∧ Below w.heap.size w w' := by
  obtain ⟨R, ⟨hR, hS⟩, hl⟩ := hH
  have hsz := hash_size (feedZ beginZ t) R t.length hR
  have hone := hash_one (feedZ beginZ t) R t.length
  have hfin : ∀ w' : World, w'.heap[w.heap.size]? = some (.cells (hcells (feedZ beginZ t) (hT R t.length)) 159 (0, 0)) → HashOf w' w.heap.size t := fun w' h => ⟨R, ⟨hR, h⟩, hl⟩
  have HF := Lib.hid hfin
  clear hfin hR hl
  generalize hcells (feedZ beginZ t) (hT R t.length) = cs at *
  have hin : (Tryd.prog.info? 159).map (·.size) = some cs.size := by rw [hsz]; exact hash_info
  have HSZ := Lib.hid hsz
  have hz := zeroH_run
  clear hsz
  go_enter Tryd.func125, Tryd.ntmps125
  go_wp2_with (first
    | (refine wpList_load_row rfl 159 _ rfl hb rfl 159 cs (0, 0) _ hS Tryd.underlying159 rfl hin ?_)
    | (with_reducible refine wpList_store_row (o := ⟨none, .store 159 (.tmp 3) (.tmp 6), _, _, _, _⟩) ?_ 159 (.tmp 3) (.tmp 6) ?_ w.heap.size cs ?_ ?_ 159 zeroH ?_ hin ?_ hone ?_
       · exact rfl
       · exact rfl
       · exact rfl
       · exact rfl
       · exact heap_alloc_last w _
       · rw [HSZ.out]; exact zeroH_size))
  go_ret
  exact ⟨rfl, HF.out _ (setRow_same (heap_alloc_last w _) _), below_setRow ((Below.refl _ _).alloc (Nat.le_refl _) _) (Nat.le_refl _) _⟩
theorem HashOf.below {w w' : World} {hb B : Nat} {t : List UInt8} (h : HashOf w hb t) (hb' : Below B w w') (hB : hb < B) : HashOf w' hb t := by
  obtain ⟨R, ⟨hR, hS⟩, hl⟩ := h
  exact ⟨R, ⟨hR, (hb'.block hb hB).trans hS⟩, hl⟩
theorem HashOf.lt {w : World} {hb : Nat} {t : List UInt8} (h : HashOf w hb t) : hb < w.heap.size := by
  obtain ⟨R, ⟨hR, hS⟩, hl⟩ := h
  exact (Array.getElem?_eq_some_iff.1 hS).1
theorem HashOf.n {w : World} {hb : Nat} {t : List UInt8} (h : HashOf w hb t) : w.cell? ⟨hb, 72, none⟩ = some (.int .i64 t.length) := by
  obtain ⟨R, hA, hl⟩ := h
  exact hA.cells.2.2.1
set_option maxRecDepth 100000 in
set_option maxHeartbeats 1000000 in
theorem sum_calls (hb : Nat) (t : List UInt8) (w : World) (hL : Laid w) (hH : HashOf w hb t) (hn : t.length ≤ 140737488355328) : Calls Tryd.prog 111 #[.pointer (some ⟨hb, 0, none⟩)] w fun e w' => e = .returned (.string ⟨(shaZ t).toArray⟩) ∧ Below w.heap.size w w' := by
  have cC := Lib.hid (copy_calls hb t w hH)
  have hn72 := hH.n
  have hlt := hH.lt
  have h4 := hL.size
  have hpl : (⟨(padZ t.length).toArray⟩ : ByteArray).size ≤ 80 := by
    have := zeros_le t.length
    simp [ByteArray.size, padZ, putZ_len]; omega
  have HL := Lib.hid hL
  clear hL hH
  go_enter Tryd.func111, Tryd.ntmps111
  go_wp2_with (first
    | (go_at_call 125; (with_reducible refine cC.out.mono ?_); rintro e w1 ⟨rfl, hh1, hb1⟩
       have k1 := (hb1.cell (p := ⟨hb, 72, none⟩) hlt).trans hn72
       have hs1 := hb1.size
       have HL1 := Lib.hid (HL.out.below hb1 h4)
       have HH1 := Lib.hid hh1
       have HB1 := Lib.hid hb1
       have cP := Lib.hid (fun w => padding_calls t.length hn w)
       clear hh1 hb1)
    | (go_at_call 126; (with_reducible refine (cP.out _).mono ?_); rintro e w2 ⟨rfl, hb2⟩
       have HL2 := Lib.hid (HL1.out.below hb2 (Nat.le_trans h4 hs1))
       have HB2 := Lib.hid (HB1.out.trans (hb2.mono hs1))
       have cW := Lib.hid (write_calls w.heap.size t ⟨(padZ t.length).toArray⟩ w2 HL2.out (HH1.out.below hb2 HH1.out.lt) h4 (by omega))
       clear hb2)
    | (go_at_call 110; (with_reducible refine cW.out.mono ?_); rintro e w3 ⟨rfl, hh3, hg3⟩
       have HB3 := Lib.hid (HB2.out.trans ⟨hg3.os, hg3.tape, hg3.output, hg3.size, fun k hk => hg3.block k (Nat.lt_of_lt_of_le hk HB2.out.size) (by intro e; injection e with e; omega)⟩)
       obtain ⟨R3, hA3, -⟩ := hh3
       have cT := Lib.hid (text_calls w.heap.size (feedZ beginZ (t ++ padZ t.length)) (feedN_ok begin_ok _ _) w3 hA3.lt hA3.cells.1)
       clear hA3 hg3)
    | (go_at_call 127; (with_reducible refine cT.out.mono ?_); rintro e w4 ⟨rfl, hb4⟩; have HB4 := Lib.hid hb4; clear hb4))
  go_ret
  exact ⟨rfl, HB3.out.trans (HB4.out.mono HB3.out.size)⟩
set_option maxRecDepth 100000 in
set_option maxHeartbeats 1000000 in
/-- sha.Sum. -/
theorem shasum_calls (s : ByteArray) (w : World) (hL : Laid w) (hn : s.size ≤ 140737488355328) : Calls Tryd.prog 87 #[.string s] w fun e w' => e = .returned (.string ⟨(shaZ s.data.toList).toArray⟩) ∧ Below w.heap.size w w' := by
  have cN := Lib.hid (new_calls w hL)
  have h4 := hL.size
  have hl : s.data.toList.length = s.size := by simp
  have HL := Lib.hid hL
  have HSL := Lib.hid hl
  clear hL hl
  go_enter Tryd.func87, Tryd.ntmps87
  go_wp2_with (first
    | (go_at_call 109; (with_reducible refine cN.out.mono ?_); rintro e w1 ⟨rfl, hh1, hb1⟩
       have HL1 := Lib.hid (HL.out.below hb1 h4)
       have HB1 := Lib.hid hb1
       have cW := Lib.hid (write_calls w.heap.size [] s w1 HL1.out hh1 h4 (by simp; omega))
       clear hh1 hb1)
    | (go_at_call 110; (with_reducible refine cW.out.mono ?_); rintro e w3 ⟨rfl, hh3, hg3⟩
       have HB3 := Lib.hid (HB1.out.trans ⟨hg3.os, hg3.tape, hg3.output, hg3.size, fun k hk => hg3.block k (Nat.lt_of_lt_of_le hk HB1.out.size) (by intro e; injection e with e; omega)⟩)
       have HL3 := Lib.hid (HL.out.below HB3.out h4)
       have cS := Lib.hid (sum_calls w.heap.size s.data.toList w3 HL3.out (by simpa using hh3) (by rw [HSL.out]; exact hn))
       clear hh3 hg3)
    | (go_at_call 111; (with_reducible refine cS.out.mono ?_); rintro e w4 ⟨rfl, hb4⟩; have HB4 := Lib.hid hb4; clear hb4))
  go_ret
  exact ⟨rfl, HB3.out.trans (HB4.out.mono HB3.out.size)⟩
end Go.Proofs.YtkpfbjlbllpahaaDoor
