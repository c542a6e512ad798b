import Derived.Test.YtfjpbkdijglfdaaDoorMac5
import Derived.Deep.RegionLaw
set_option linter.unusedVariables false
namespace Go.Proofs.YtfjpbkdijglfdaaDoor
open Go.RowKit
/-- The digits. -/
def smallZ : ByteArray := ⟨#[48, 49, 50, 51, 52, 53, 54, 55, 56, 57, 97, 98, 99, 100, 101, 102]⟩
def hexD (v : Nat) : UInt8 := if v < 10 then UInt8.ofNat (48 + v) else UInt8.ofNat (87 + v)
theorem small_ext : ∀ v : Fin 16, smallZ.extract v (v + 1) = ⟨#[hexD v]⟩ := by decide
theorem small_at : ∀ v : Fin 16, smallZ.data.toList.getD v 0 = hexD v := by decide
set_option maxHeartbeats 400000 in
theorem sign_calls (v : Int) (h0 : 0 ≤ v) (h1 : v < 16) (w : World) : Calls Tryd.prog 22 #[.string smallZ, .int .i64 v] w fun e w' => e = .returned (.string ⟨#[hexD v.toNat]⟩) ∧ w = w' := by
  obtain ⟨n, rfl⟩ : ∃ n : Nat, v = n := ⟨v.toNat, by omega⟩
  have he := small_ext ⟨n, by omega⟩
  have hsz : smallZ.size = 16 := rfl
  have hb : (n : Int) + 1 ≤ (smallZ.size : Int) := by omega
  have HE := Lib.hid he
  clear he
  obtain ⟨S, hS⟩ : ∃ S, smallZ = S := ⟨_, rfl⟩
  rw [hS] at hb HE ⊢
  clear hsz hS
  go_enter Tryd.func22, Tryd.ntmps22
  go_wp2
  go_ret
  exact ⟨congrArg (fun s => Ending.returned (.string s)) HE.out, rfl⟩
theorem small_get (n : Nat) (h : n < 16) (h' : n < smallZ.size) : ((smallZ[n]'h').toNat : Int) = ((hexD n).toNat : Int) := by
  have := small_at ⟨n, h⟩
  rw [← this]
  rw [List.getD_eq_getElem?_getD, List.getElem?_eq_getElem (by simpa using h')]
  rfl
/-- The slice variable of Hex, and what stands in it. -/
def HX (w0 wr : World) (ob : Nat) (l : List UInt8) : Prop := ∃ v, wr.heap[ob]? = some (.cells #[v] 34 (0, 0)) ∧ RowB wr w0.heap.size v l ∧ v.ownBlock ≠ some ob ∧ w0.heap.size ≤ ob ∧ Below w0.heap.size w0 wr
set_option maxRecDepth 100000 in
set_option maxHeartbeats 1000000 in
theorem hexclo_calls (w0 wr : World) (ob : Nat) (l : List UInt8) (c : UInt8) (C : Int) (hC : C = (c.toNat : Int)) (h : HX w0 wr ob l) (hl : l.length + 2 ≤ 140737488355328) :
    Calls Tryd.prog 32 #[.int .u8 C, .pointer (some ⟨ob, 0, none⟩)] wr fun e w' => e = .returned (.bool true) ∧ HX w0 w' ob (l ++ [hexD (c.toNat / 16), hexD (c.toNat % 16)]) := by
  obtain ⟨v, hv, hr, hne, hob, hb⟩ := h
  have C0 : 0 ≤ C := by omega
  have C1 : C ≤ 255 := by have := c.toNat_lt; omega
  have hcell : wr.cell? ⟨ob, 0, none⟩ = some v := by simp [World.cell?, hv]
  have hfz : wr.frozen? ⟨ob, 0, none⟩ = false := by simp [World.frozen?, hv]
  have HC := Lib.hid hC
  have HV := Lib.hid hv
  have HR := Lib.hid hr
  have HNE := Lib.hid hne
  have HB := Lib.hid hb
  obtain ⟨i0, hi, hz0, hz1, hz2⟩ := info_parts infoU8
  have hq0 : 0 ≤ C / 16 := by omega
  have hq1 : C / 16 < 16 := by omega
  have hr0 : 0 ≤ C % 16 := by omega
  have hr1 : C % 16 < 16 := by omega
  have hand : bits BinOp.and IntKind.u8 C 15 = C % 16 := bits_mask .u8 8 (by decide) wraps_u8 4 (by decide) C C0 (by omega)
  clear hC hv hr hne hb
  have hend : ∀ (a b : Int) (v2 : Value) (w2 : World), Row w2 w0.heap.size 1 v2 (l.length + 2) (bC l ++ [Value.int .u8 a, .int .u8 b]) → ((wr.alloc (.cells #[.int .u8 a, .int .u8 b] 5)).drew).grownBy w2 v.ownBlock →
      (v2.ownBlock = v.ownBlock ∨ v2.ownBlock = some ((wr.alloc (.cells #[.int .u8 a, .int .u8 b] 5)).drew).heap.size) → a = ((hexD (c.toNat / 16)).toNat : Int) → b = ((hexD (c.toNat % 16)).toNat : Int) →
      (w2.heap[ob]? = some (.cells #[v] 34 (0, 0)) ∧ HX w0 (w2.setCell ⟨ob, 0, none⟩ v2) ob (l ++ [hexD (c.toNat / 16), hexD (c.toNat % 16)])) := by
    intro a b v2 w2 h1 h2 h3 ha hb'
    have hobl : ob < wr.heap.size := (Array.getElem?_eq_some_iff.1 HV.out).1
    have e1 : ((wr.alloc (.cells #[.int .u8 a, .int .u8 b] 5)).drew).heap.size = wr.heap.size + 1 := by show (wr.heap.push _).size = _; simp
    have hg0 : wr.grownBy w2 v.ownBlock := ⟨h2.os, h2.tape, h2.output, by have := h2.size; omega, fun i hi hne => (h2.block i (by omega) hne).trans (Below.heap_alloc wr _ i hi)⟩
    have hob2 : w2.heap[ob]? = some (.cells #[v] 34 (0, 0)) := (hg0.block ob hobl (fun e => HNE.out e.symm)).trans HV.out
    have hne2 : v2.ownBlock ≠ some ob := by
      rcases h3 with e | e
      · rw [e]; exact HNE.out
      · rw [e, e1]; intro e2; injection e2 with e2; omega
    have hrow : RowB w2 w0.heap.size v2 (l ++ [hexD (c.toNat / 16), hexD (c.toNat % 16)]) := by
      unfold RowB
      rw [List.length_append, bC_app]
      subst ha hb'
      exact h1
    refine ⟨hob2, v2, ?_, Row.setCell hrow hne2 _, hne2, hob, (HB.out.grown hg0 HB.out.size (fun k hk => (HR.out.lt k hk).1)).setCell hob _⟩
    simp only [World.setCell, Array.getElem?_modify, hob2, if_true, Option.map_some]
    rfl
  have HEND := Lib.hid hend
  have hca : ∀ o, (wr.alloc o).cell? ⟨ob, 0, none⟩ = some v := fun o => (World.cell?_alloc_lt wr o ⟨ob, 0, none⟩ (Array.getElem?_eq_some_iff.1 HV.out).1).trans hcell
  have g1 : ∀ h', ((smallZ[(C / 16).toNat]'h').toNat : Int) = ((hexD (c.toNat / 16)).toNat : Int) := fun h' => by
    rw [small_get _ (by omega) h', show (C / 16).toNat = c.toNat / 16 by have := HC.out; omega]
  have g2 : ∀ h', ((smallZ[(C % 16).toNat]'h').toNat : Int) = ((hexD (c.toNat % 16)).toNat : Int) := fun h' => by
    rw [small_get _ (by omega) h', show (C % 16).toNat = c.toNat % 16 by have := HC.out; omega]
  have G1 := Lib.hid g1
  have G2 := Lib.hid g2
  have hsz : w0.heap.size ≤ wr.heap.size := HB.out.size
  clear hend g1 g2
  go_enter Tryd.func32, Tryd.ntmps32
  go_wp2
  go_region_law (refine step_append_row _ rfl _ _ 34 34 rfl w0.heap.size 5 i0 (.int .u8 0) 1 1 Tryd.underlying34 hi hz0 hz1 hz2 rfl v _ _ rfl (Row.drew (Row.alloc HR.out _)) _ 2 _ rfl (Row.src (Row.drew (row_lit wr _ 5 2 1 (by unfold maxLen; omega) rfl)) Tryd.underlying34 (by intro z hz; simp at hz; rcases hz with rfl | rfl <;> rfl)) (by unfold maxLen; omega) (by omega) (Nat.le_trans hsz (by simp)) ?_; intro v2 w2 hr2 hg2 hat2
                 obtain ⟨a2, cp2, hv2⟩ := Row.slice hr2
                 subst hv2
                 obtain ⟨hx1, hx2⟩ := HEND.out _ _ _ w2 hr2 hg2 hat2 (G1.out _) (G2.out _)
                 have c2 : w2.cell? ⟨ob, 0, none⟩ = some v := by simp [World.cell?, hx1]
                 have f2 : w2.frozen? ⟨ob, 0, none⟩ = false := by simp [World.frozen?, hx1]
                 have HX2 := Lib.hid hx2
                 clear hr2 hg2 hat2 hx1 hx2)
  all_goals go_wp2
  all_goals go_ret
  all_goals exact ⟨rfl, HX2.out⟩
end Go.Proofs.YtfjpbkdijglfdaaDoor
