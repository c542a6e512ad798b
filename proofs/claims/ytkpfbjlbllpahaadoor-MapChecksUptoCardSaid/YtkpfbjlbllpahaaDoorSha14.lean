import Derived.Test.YtkpfbjlbllpahaaDoorSha13
import Derived.Deep.RegionWith
set_option linter.unusedVariables false
namespace Go.Proofs.YtkpfbjlbllpahaaDoor
open Go.RowKit
theorem u8_one : (Tryd.prog.info? 5).map (·.size) = some 1 := by kernel_rfl
/-- The copy of what is left over to the head of the block. -/
theorem copy_left (w : World) (hb : Nat) (st : List Int) (R : List UInt8) (n : Nat) (l : List UInt8) (hH : HashAt w hb st R n) (hl : l.length ≤ 64) :
    (Builtin.copy_ #[77, 9] 3 #[.slice (some ⟨hb, 8, none⟩) 64 64, .string ⟨l.toArray⟩]).run Tryd.prog w = .ok (.int .i64 l.length) (w.setRow hb (hcells st (hT (over R 0 l) n))) := by
  have hs : (⟨l.toArray⟩ : ByteArray).size = l.length := by simp [ByteArray.size]
  have h := run_copy_part (P := Tryd.prog) w 77 9 3 5 hb 8 64 64 ⟨l.toArray⟩ l.length (hcells st (hT R n)) 159 Tryd.underlying77 u8_one hH.2 (by rw [hs]; exact (Nat.min_eq_left hl).symm)
    (by have : (hcells st (hT R n)).size = 73 := by rw [hcells, Array.size_append, a8_size, hT]; simp [bC_len, hH.1]
        omega)
  rw [h]
  refine congrArg (fun r => Result.ok _ (World.setRow w hb r)) ?_
  have := hcells_over st R n 0 l (by rw [hH.1]; omega)
  rw [Nat.add_zero] at this
  rw [← this]
  simp
theorem HashAt.row {w : World} {hb n : Nat} {st : List Int} {R R' : List UInt8} (h : HashAt w hb st R n) (hR : R'.length = 64) : HashAt (w.setRow hb (hcells st (hT R' n))) hb st R' n :=
  ⟨hR, setRow_same h.2 _⟩
theorem only_row {a w : World} {g : Nat} (h : a.grownBy w (some g)) (r : Array Value) : a.grownBy (w.setRow g r) (some g) :=
  ⟨h.os, h.tape, h.output, by simp only [World.setRow, Array.size_modify]; exact h.size, fun i hi hne => (setRow_other w g r i (fun e => hne (by rw [e]))).trans (h.block i hi hne)⟩
set_option maxRecDepth 100000 in
set_option maxHeartbeats 2000000 in
theorem write_even (hb : Nat) (st : List Int) (R : List UInt8) (n : Nat) (hst : stOk st) (p : ByteArray) (w : World) (hL : Laid w) (hH : HashAt w hb st R n) (h4 : 4 ≤ hb) (h0 : n % 64 = 0) (hn : n + p.size ≤ 281474976710656) :
    Calls Tryd.prog 110 #[.pointer (some ⟨hb, 0, none⟩), .string p] w fun e w' => e = .returned (.int .i64 p.size) ∧ HashAt w' hb (feedZ st p.data.toList) (over R 0 (leftZ p.data.toList)) (n + p.size) ∧ w.grownBy w' (some hb) := by
  have cH := Lib.hid (held_calls hb n w hH.cells.2.2.1)
  have cB := Lib.hid (blocks_calls hb st (hT R n) hst p w.drew ⟨hL.size, hL.first, hL.begin, hL.rtable, hL.table⟩ hH.2 h4)
  have HL := Lib.hid hL
  have HH := Lib.hid hH
  have HN := Lib.hid h0
  have hh0 : ((n % 64 : Nat) : Int) ≤ 0 := by omega
  clear hL hH h0
  go_enter Tryd.func110, Tryd.ntmps110
  go_wp2_with (go_at_call 122; (with_reducible refine cH.out.mono ?_); rintro e w1 ⟨rfl, rfl⟩)
  go_region_with (go_at_call 124; (with_reducible refine cB.out.mono ?_); rintro e w1 ⟨rfl, hh1, hg1⟩; have HH1 := Lib.hid hh1; have HG1 := Lib.hid hg1; have hcp := copy_left w1 hb (feedZ st p.data.toList) R n (leftZ p.data.toList) ⟨HH.out.1, hh1⟩ (by rw [leftZ_len]; omega); clear hh1 hg1)
  have hA : HashAt (w1.setRow hb (hcells (feedZ st p.data.toList) (hT (over R 0 (leftZ p.data.toList)) n))) hb (feedZ st p.data.toList) (over R 0 (leftZ p.data.toList)) n :=
    HashAt.row ⟨HH.out.1, HH1.out⟩ (by rw [over_len _ _ _ (by rw [HH.out.1, leftZ_len]; omega), HH.out.1])
  have c72 := hA.cells.2.2.1
  have f72 := hA.cells.2.2.2 72
  have hN := hA.setN (n + p.size)
  rw [Int.natCast_add] at hN
  have HN' := Lib.hid hN
  clear hA hN hcp
  go_wp2
  go_ret
  exact ⟨rfl, HN'.out, only_setCell (p := ⟨hb, 72, none⟩) (only_row (only_trans (only_drew (World.grownBy.refl w (some hb))) HG1.out) _) (.inl rfl) _⟩
theorem rest_len : Tryd.prog.arrayLen 157 = 64 := by kernel_rfl
theorem rest_und : Tryd.prog.underlying 157 = some (.array (Tryd.prog.arrayLen 157) (Tryd.prog.elem 157)) := by kernel_rfl
theorem rest_elem (w : World) : (sizeOf (Tryd.prog.elem 157)).run Tryd.prog w = .ok 1 w := by kernel_rfl
theorem slice_rest (hb o held : Nat) (h : held < 64) (w : World) : (Instr.sliceAt 157 (.pointer (some ⟨hb, o, none⟩)) (some (.int .i64 held)) none none).run Tryd.prog w = .ok (.slice (some ⟨hb, o + held, none⟩) (64 - held) (64 - held)) w := by
  rw [run_sliceAt_array_l w 157 ⟨hb, o, none⟩ rest_und .i64 held (by omega) (by rw [rest_len]; omega), rest_elem]
  simp only [Result.andThen_ok, slicedAt, rest_len, Int.toNat_natCast]
  rw [if_neg (by omega), Nat.mul_one]
  simp [Addr.add]
/-- The copy of a text's beginning behind what is there. -/
theorem copy_behind (w : World) (hb : Nat) (st : List Int) (R : List UInt8) (n o k : Nat) (p : ByteArray) (hH : HashAt w hb st R n) (hk : k = Nat.min p.size (64 - o)) (ho : o ≤ 64) :
    (Builtin.copy_ #[77, 9] 3 #[.slice (some ⟨hb, 8 + o, none⟩) (64 - o) (64 - o), .string p]).run Tryd.prog w = .ok (.int .i64 k) (w.setRow hb (hcells st (hT (over R o (p.data.toList.take k)) n))) := by
  have hk1 : k ≤ p.size := by rw [hk]; exact Nat.min_le_left _ _
  have hk2 : k ≤ 64 - o := by rw [hk]; exact Nat.min_le_right _ _
  have hl : p.data.toList.length = p.size := by simp
  have h := run_copy_part (P := Tryd.prog) w 77 9 3 5 hb (8 + o) (64 - o) (64 - o) p k (hcells st (hT R n)) 159 Tryd.underlying77 u8_one hH.2 hk
    (by have : (hcells st (hT R n)).size = 73 := by rw [hcells, Array.size_append, a8_size, hT]; simp [bC_len, hH.1]
        omega)
  rw [h]
  refine congrArg (fun r => Result.ok _ (World.setRow w hb r)) ?_
  have hlt : (p.data.toList.take k).length = k := by rw [List.length_take]; omega
  have := hcells_over st R n o (p.data.toList.take k) (by rw [hH.1, hlt]; omega)
  rw [hlt] at this
  exact this
set_option maxRecDepth 100000 in
set_option maxHeartbeats 2000000 in
theorem write_short (hb : Nat) (st : List Int) (R : List UInt8) (n held : Nat) (hst : stOk st) (p : ByteArray) (w : World) (hL : Laid w) (hH : HashAt w hb st R n) (h4 : 4 ≤ hb) (hh : n % 64 = held) (h0 : 0 < held) (hs : held + p.size < 64) (hn : n + p.size ≤ 281474976710656) :
    Calls Tryd.prog 110 #[.pointer (some ⟨hb, 0, none⟩), .string p] w fun e w' => e = .returned (.int .i64 p.size) ∧ HashAt w' hb st (over R held p.data.toList) (n + p.size) ∧ w.grownBy w' (some hb) := by
  have cH := held_calls hb n w hH.cells.2.2.1
  rw [hh] at cH
  have CH := Lib.hid cH
  have hl : p.data.toList.length = p.size := by simp
  have hcp := copy_behind w hb st R n held p.size p hH (by have : p.size ≤ 64 - held := by omega
                                                           exact (Nat.min_eq_left this).symm) (by omega)
  rw [List.take_of_length_le (by omega)] at hcp
  have hA : HashAt (w.setRow hb (hcells st (hT (over R held p.data.toList) n))) hb st (over R held p.data.toList) n := HashAt.row hH (by rw [over_len _ _ _ (by rw [hH.1]; omega), hH.1])
  have hsl := fun w => slice_rest hb 8 held (by omega) w
  have HL := Lib.hid hL
  have HH := Lib.hid hH
  have HA := Lib.hid hA
  have HHe := Lib.hid hh
  have hi0 : (0 : Int) < held := by omega
  have hi1 : (held : Int) < 64 := by omega
  have hsum : ((held : Int) + p.size == 64) = false := by rw [beq_eq_false_iff_ne]; omega
  have hsz : p.size < 64 := by omega
  clear hL hH hh cH hA
  go_enter Tryd.func110, Tryd.ntmps110
  go_wp2_with (go_at_call 122; (with_reducible refine CH.out.mono ?_); rintro e w1 ⟨rfl, rfl⟩)
  have hq : ByteArray.empty.data.toList = [] := rfl
  have cB := blocks_calls hb st (hT (over R held p.data.toList) n) hst ByteArray.empty (w.setRow hb (hcells st (hT (over R held p.data.toList) n))).drew
    (HL.out.grown (w' := (w.setRow hb (hcells st (hT (over R held p.data.toList) n))).drew) (by show w.heap.size ≤ (w.setRow hb _).heap.size; simp only [World.setRow, Array.size_modify]; exact Nat.le_refl _) (fun pp hp => World.cell?_of_block (setRow_other w hb _ pp.block (by omega)))) HA.out.2 h4
  rw [hq, feed_nil, left_nil] at cB
  have CB := Lib.hid cB
  clear cB hcp hq
  go_region_with (go_at_call 124; (with_reducible refine CB.out.mono ?_); rintro e w1 ⟨rfl, hh1, hg1⟩; have HH1 := Lib.hid hh1; have HG1 := Lib.hid hg1; have hcp := copy_left w1 hb st (over R held p.data.toList) n [] ⟨HA.out.1, hh1⟩ (by simp); clear hh1 hg1)
  have e0 : over (over R held p.data.toList) 0 [] = over R held p.data.toList := by simp [over]
  have hB : HashAt (w1.setRow hb (hcells st (hT (over (over R held p.data.toList) 0 []) n))) hb st (over (over R held p.data.toList) 0 []) n := HashAt.row ⟨HA.out.1, HH1.out⟩ (by rw [e0, HA.out.1])
  have c72 := hB.cells.2.2.1
  have f72 := hB.cells.2.2.2 72
  have hN := hB.setN (n + p.size)
  rw [Int.natCast_add] at hN
  have HN' := Lib.hid hN
  have HE0 := Lib.hid e0
  clear hB hN hcp e0
  go_wp2
  go_ret
  refine ⟨rfl, ?_, only_setCell (p := ⟨hb, 72, none⟩) (only_row (only_trans (only_drew (only_row (World.grownBy.refl w (some hb)) _)) HG1.out) _) (.inl rfl) _⟩
  have := HN'.out
  rw [HE0.out] at this ⊢
  exact this
theorem HashAt.str {w : World} {hb n : Nat} {st : List Int} {R : List UInt8} (h : HashAt w hb st R n) : (convert 77 9 (.slice (some ⟨hb, 8, none⟩) 64 64)).run Tryd.prog w = .ok (.string ⟨R.toArray⟩) w := by
  have := run_convert_bytes_back (P := Tryd.prog) w 77 9 5 ⟨hb, 8, none⟩ 64 R Tryd.underlying77 Tryd.underlying5 Tryd.underlying9 (fun j hj => by
    rw [show (⟨hb, 8, none⟩ : Addr).add j = ⟨hb, 8 + j, none⟩ by simp [Addr.add]]
    exact h.cells.2.1 j hj)
  rw [h.1] at this
  exact this
set_option maxRecDepth 100000 in
set_option maxHeartbeats 2000000 in
theorem write_full (hb : Nat) (st : List Int) (R : List UInt8) (n held : Nat) (hst : stOk st) (p : ByteArray) (w : World) (hL : Laid w) (hH : HashAt w hb st R n) (h4 : 4 ≤ hb) (hh : n % 64 = held) (h0 : 0 < held) (hs : 64 ≤ held + p.size) (hn : n + p.size ≤ 281474976710656) :
    Calls Tryd.prog 110 #[.pointer (some ⟨hb, 0, none⟩), .string p] w fun e w' => e = .returned (.int .i64 p.size) ∧
      HashAt w' hb (feedZ (takeZ st (over R held (p.data.toList.take (64 - held)))) (p.data.toList.drop (64 - held))) (over (over R held (p.data.toList.take (64 - held))) 0 (leftZ (p.data.toList.drop (64 - held)))) (n + p.size) ∧ w.grownBy w' (some hb) := by
  have cH := held_calls hb n w hH.cells.2.2.1
  rw [hh] at cH
  have CH := Lib.hid cH
  have hl : p.data.toList.length = p.size := by simp
  have hlt64 : held < 64 := by omega
  have hcp := copy_behind w hb st R n held (64 - held) p hH (by have : 64 - held ≤ p.size := by omega
                                                                exact (Nat.min_eq_right this).symm) (by omega)
  have hlk : (p.data.toList.take (64 - held)).length = 64 - held := by rw [List.length_take]; omega
  have hR1 : (over R held (p.data.toList.take (64 - held))).length = 64 := by rw [over_len _ _ _ (by rw [hH.1, hlk]; omega), hH.1]
  obtain ⟨R1, hR1e⟩ : ∃ R1, over R held (p.data.toList.take (64 - held)) = R1 := ⟨_, rfl⟩
  rw [hR1e] at hcp hR1
  rw [hR1e]
  have hA : HashAt (w.setRow hb (hcells st (hT R1 n))) hb st R1 n := HashAt.row hH hR1
  have hg1 : w.grownBy (w.setRow hb (hcells st (hT R1 n))).drew (some hb) := only_drew (only_row (World.grownBy.refl w (some hb)) _)
  have hL1 : Laid (w.setRow hb (hcells st (hT R1 n))).drew := hL.only hg1 h4
  have hA1 : HashAt (w.setRow hb (hcells st (hT R1 n))).drew hb st R1 n := hA
  have hcv := hA.str
  have hcv1 := hA1.str
  have hbs : (⟨R1.toArray⟩ : ByteArray).size = 64 := by simp [ByteArray.size, hR1]
  have hbt : (⟨R1.toArray⟩ : ByteArray).data.toList = R1 := by simp
  have cT := take_calls hb st (hT R1 n) hst ⟨R1.toArray⟩ hbs (w.setRow hb (hcells st (hT R1 n))).drew hL1 hA1.2 h4
  rw [hbt] at cT
  have CT := Lib.hid cT
  have hsl := fun w => slice_rest hb 8 held (by omega) w
  have HL1 := Lib.hid hL1
  have HA := Lib.hid hA
  have HG1 := Lib.hid hg1
  have HR1 := Lib.hid hR1
  have HST := Lib.hid hst
  have hi0 : (0 : Int) < held := by omega
  have hi1 : (held : Int) < 64 := by omega
  have hsum : ((held : Int) + ((64 - held : Nat) : Int) == 64) = true := by rw [beq_iff_eq]; omega
  have hps : 64 - held ≤ p.size := by omega
  clear hL hH hh cH cT hA hA1 hL1 hg1 hbs hbt hlk hR1 hst hR1e
  go_enter Tryd.func110, Tryd.ntmps110
  go_wp2_with (go_at_call 122; (with_reducible refine CH.out.mono ?_); rintro e w1 ⟨rfl, rfl⟩)
  have hq : (p.extract (64 - held) p.size).data.toList = p.data.toList.drop (64 - held) := ext_drop p (64 - held)
  obtain ⟨q, hqq⟩ : ∃ q, p.extract (64 - held) p.size = q := ⟨_, rfl⟩
  rw [hqq] at hq
  rw [hqq]
  have HQ := Lib.hid hq
  clear hqq hq hcp
  go_region_with (go_at_call 123; (with_reducible refine CT.out.mono ?_); rintro e w2 ⟨rfl, hh2, hg2⟩; have HH2 := Lib.hid hh2; have HG2 := Lib.hid (only_trans HG1.out hg2); clear hh2 hg2)
  go_wp2
  have hst2 := takeZ_ok HST.out R1
  have hL2 : Laid w2.drew := HL1.out.grown (w' := w2.drew) (by have := HG2.out.size; exact Nat.le_trans (by simp [World.setRow]) this) (fun pp hp => by
    have hs := HL1.out.size
    have hs' : (w.setRow hb (hcells st (hT R1 n))).drew.heap.size = w.heap.size := by show (w.setRow hb _).heap.size = _; simp [World.setRow]
    refine World.cell?_of_block ((HG2.out.block pp.block (by omega) (by intro e; injection e with e; omega)).trans ?_)
    exact (setRow_other w hb _ pp.block (by omega)).symm)
  have hl2 : (leftZ q.data.toList).length ≤ 64 := by rw [leftZ_len]; omega
  have cB := blocks_calls hb (takeZ st R1) (hT R1 n) hst2 q w2.drew hL2 HH2.out h4
  rw [HQ.out] at cB hl2
  obtain ⟨l, hle⟩ : ∃ l, leftZ (p.data.toList.drop (64 - held)) = l := ⟨_, rfl⟩
  rw [hle] at cB hl2
  obtain ⟨st2, hs2⟩ : ∃ l, feedZ (takeZ st R1) (p.data.toList.drop (64 - held)) = l := ⟨_, rfl⟩
  rw [hs2] at cB
  have HLS := Lib.hid (And.intro hle hs2)
  have CB := Lib.hid cB
  clear cB hle hs2 hst2 hL2
  go_region_with (go_at_call 124; (with_reducible refine CB.out.mono ?_); rintro e w3 ⟨rfl, hh3, hg3⟩; have HH3 := Lib.hid hh3; have HG3 := Lib.hid hg3; have hcp := copy_left w3 hb st2 R1 n l ⟨HR1.out, hh3⟩ hl2; clear hh3 hg3)
  have hB : HashAt (w3.setRow hb (hcells st2 (hT (over R1 0 l) n))) hb st2 (over R1 0 l) n := HashAt.row ⟨HR1.out, HH3.out⟩ (by rw [over_len _ _ _ (by rw [HR1.out]; omega), HR1.out])
  have c72 := hB.cells.2.2.1
  have f72 := hB.cells.2.2.2 72
  have hN := hB.setN (n + p.size)
  rw [Int.natCast_add] at hN
  have HN' := Lib.hid hN
  clear hB hN hcp
  go_wp2
  go_ret
  refine ⟨rfl, ?_, only_setCell (p := ⟨hb, 72, none⟩) (only_row (only_trans (only_drew HG2.out) HG3.out) _) (.inl rfl) _⟩
  rw [HLS.out.1, HLS.out.2]
  exact HN'.out
end Go.Proofs.YtkpfbjlbllpahaaDoor
