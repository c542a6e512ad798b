import Derived.Test.YtpgflnjpohmldaaIntsIn
import Derived.Test.YtpgflnjpohmldaaRanks
import Derived.Test.YtpgflnjpohmldaaShelf2
import Derived.Lib.OwnBridge
import Derived.Sort.OwnSortedInts
import Derived.Deep.QuietTactic
import Derived.BigQuiet
import Derived.Outline
set_option linter.unusedVariables false
namespace Go.Proofs.Ytpgflnjpohmldaa
open Go.RowKit
theorem clone_calls (v : Value) (l : List Int) (w : World) (hl : IntsIn w v l) (hne : l ≠ []) (hlen : l.length ≤ 1048576) :
    Calls Try.prog 49 #[v] w fun e w' => ∃ g cap, e = .returned (.slice (some ⟨g, 0, none⟩) l.length cap) ∧ w'.ownsRow w.heap.size 3 1 (.slice (some ⟨g, 0, none⟩) l.length cap) l.length (l.map (Value.int .i64)) ∧ Below w.heap.size w w' := by
  obtain ⟨a, cap, rfl, hc, hw⟩ := hl
  obtain ⟨b, off, rfl, hb, hcs⟩ := hc hne
  refine (slices_Clone_int b off l.length cap l w (Nat.le_refl _) (by omega) (fun j hj => by rw [hcs j hj, List.getD_eq_getElem?_getD, List.getElem?_eq_getElem hj]; rfl)).mono ?_
  rintro e w' ⟨v', rfl, hown, hnn, hbel⟩
  rw [List.take_length] at hown
  obtain ⟨g, cap', rfl, hbg, hgl, hncap, hcm, hlen', hH⟩ := Lib.holds_of_ownsRow (enc := Value.int .i64) (zs := l) hown hnn
  exact ⟨g, cap', rfl, hown, hbel⟩
theorem sort_calls (base g cap : Nat) (l : List Int) (hlen : l.length ≤ 1048576) (w : World) (ho : w.ownsRow base 3 1 (.slice (some ⟨g, 0, none⟩) l.length cap) l.length (l.map (Value.int .i64))) :
    Calls Try.prog 50 #[.slice (some ⟨g, 0, none⟩) l.length cap] w fun e w' => e = .returned (.tuple #[]) ∧ w'.ownsRow base 3 1 (.slice (some ⟨g, 0, none⟩) l.length cap) l.length ((sortI l).map (Value.int .i64)) ∧ w.grownBy w' (some g) := by
  rcases ho.2 with ⟨h0, _⟩ | ⟨g', cap', cur, hv, hg, hb, hn, hcap, hsz, htk⟩
  · cases h0
  cases hv
  refine (slices_Sort_int g 0 cap l w (holds_of_blockI hb (by simpa using htk)) (ho.lt g rfl).2 (by omega)).mono ?_
  rintro e w' ⟨rfl, n, os, rfl⟩
  exact ⟨rfl, ownsRow_sortedI (sortI_len l) hg hb hn hcap hsz, grownBy_sortedI _⟩
theorem rank_zero (v : Value) (num den : Int) (w : World) (hl : IntsIn w v []) : Calls Try.prog 26 #[v, .int .i64 num, .int .i64 den] w fun e w' => e = .returned (.tuple #[.int .i64 0, .int .i64 250]) ∧ w = w' := by
  obtain ⟨a, cap, rfl, _, _⟩ := hl
  go_enter Try.func26, Try.ntmps26
  go_wp2
  go_ret2
  exact ⟨rfl, rfl⟩
theorem w64 (x : Nat) (h : x ≤ 9223372036854775807) : wrap64 (x : Int) = x := IntWalk.wrap64_in _ (by omega)
theorem rankK_wrap (n num den : Nat) (hd0 : 0 < den) (hd1 : den ≤ 1000000) (hnd : num ≤ den) (hn : n ≤ 1048576) :
    wrap64 (wrap64 (wrap64 ((n : Int) / den) * num) + wrap64 ((wrap64 (wrap64 (wrap64 ((n : Int) % den * num) + den) - 1)).tdiv den)) = (rankK n num den : Nat) := by
  have h1 : n / den * num ≤ n := Nat.le_trans (Nat.mul_le_mul_left _ hnd) (Nat.div_mul_le_self _ _)
  have h2 : n % den * num ≤ 1000000 * 1000000 := Nat.mul_le_mul (by have := Nat.mod_lt n hd0; omega) (by omega)
  have h3 : (n % den * num + den - 1) / den ≤ n % den * num + den - 1 := Nat.div_le_self _ _
  have h0 : n / den ≤ n := Nat.div_le_self _ _
  rw [show ((n : Int) / den) = ((n / den : Nat) : Int) from (Int.natCast_ediv _ _).symm, w64 _ (by omega)]
  rw [show (((n / den : Nat) : Int) * num) = ((n / den * num : Nat) : Int) from (Int.natCast_mul _ _).symm, w64 _ (by omega)]
  rw [show ((n : Int) % den * num) = ((n % den * num : Nat) : Int) by rw [Int.natCast_mul, Int.natCast_emod], w64 _ (by omega)]
  rw [show (((n % den * num : Nat) : Int) + den) = ((n % den * num + den : Nat) : Int) by omega, w64 _ (by omega)]
  rw [show (((n % den * num + den : Nat) : Int) - 1) = ((n % den * num + den - 1 : Nat) : Int) by omega, w64 _ (by omega)]
  rw [Int.tdiv_eq_ediv_of_nonneg (Int.natCast_nonneg _), show (((n % den * num + den - 1 : Nat) : Int) / den) = (((n % den * num + den - 1) / den : Nat) : Int) from (Int.natCast_ediv _ _).symm, w64 _ (by omega)]
  rw [show (((n / den * num : Nat) : Int) + (((n % den * num + den - 1) / den : Nat) : Int)) = ((n / den * num + (n % den * num + den - 1) / den : Nat) : Int) by omega, w64 _ (by omega)]
  rfl
set_option maxRecDepth 100000 in
set_option maxHeartbeats 1000000 in
theorem rank_calls (v : Value) (l : List Int) (num den : Nat) (w : World) (hl : IntsIn w v l) (hne : l ≠ []) (hlen : l.length ≤ 1048576) (hd0 : 0 < den) (hd1 : den ≤ 1000000) (hnd : num ≤ den) :
    Calls Try.prog 26 #[v, .int .i64 num, .int .i64 den] w fun e w' => e = .returned (.tuple #[.int .i64 (rankV l num den), .int .i64 0]) ∧ Below w.heap.size w w' := by
  have hn : 0 < l.length := List.length_pos_iff.mpr hne
  have hI := rankI_lt l.length num den hn hd0 hnd
  have hrv : rankV l num den = (sortI l).getD (rankI l.length num den) 0 := rfl
  have hsl := sortI_len l
  have hl0 := hl
  obtain ⟨a, capv, rfl, _, _⟩ := hl0
  have cc := fun w h => clone_calls (.slice a l.length capv) l w h hne hlen
  have cs := fun base g cap w h => sort_calls base g cap l hlen w h
  obtain ⟨n, hnn⟩ : ∃ n, n = l.length := ⟨_, rfl⟩
  rw [← hnn] at hlen hn hI hrv hsl hl
  simp only [← hnn] at cc cs
  rw [← hnn]
  have HL := Lib.hid hl
  clear hl
  have hdi : (1 : Int) ≤ den := by omega
  have hdi2 : (den : Int) ≤ 1000000 := by omega
  have hni : (n : Int) ≤ 1048576 := by omega
  have hnz : ((n : Int) == 0) = false := by rw [beq_eq_false_iff_ne]; omega
  have hnn0 : (0 : Int) ≤ num := by omega
  have hndi : (num : Int) ≤ den := by omega
  have hk := rankK_wrap n num den hd0 hd1 hnd hlen
  have hki : rankI n num den = max (rankK n num den) 1 - 1 := rfl
  generalize rankK n num den = K at *
  generalize rankI n num den = I at *
  have hKI : (K = 0 ∧ I = 0) ∨ K = I + 1 := by omega
  have HK := Lib.hid hk
  have HRV := Lib.hid (And.intro hrv (And.intro hI (And.intro hnn hsl)))
  clear hrv hki hnn hk hsl
  go_enter Try.func26, Try.ntmps26
  go_wp2_with (first
    | (go_at_call 49; (with_reducible refine (cc _ HL.out).mono ?_); rintro e w1 ⟨g, cap, rfl, ho, hb1⟩; have H1 := Lib.hid (And.intro ho hb1); clear ho hb1)
    | (go_at_call 50; (with_reducible refine (cs _ _ _ _ H1.out.1).mono ?_); rintro e w2 ⟨rfl, ho2, hg2⟩; have H2 := Lib.hid (And.intro ho2 hg2); clear ho2 hg2))
  have hoff : (max (K : Int) 1).toNat - 1 = I := by omega
  have hcell : w2.cell? ⟨g, (max (K : Int) 1).toNat - 1, none⟩ = some (.int .i64 ((sortI l).getD I 0)) := by
    rw [hoff, H2.out.1.cellAt I (by omega), List.getElem?_map, List.getD_eq_getElem?_getD, List.getElem?_eq_getElem (by rw [HRV.out.2.2.2]; exact hI)]; rfl
  clear hoff
  have hIn : (I : Int) < n := by omega
  have hBB := Below.grown H1.out.2 H2.out.2 H1.out.2.size (fun k hk => by cases hk; exact (H1.out.1.lt g rfl).1)
  have HB := Lib.hid hBB
  clear hBB
  have hk := HK.out
  have hK1 : max (K : Int) 1 ≤ n := by omega
  have hK2 : (1 : Int) ≤ max (K : Int) 1 := by omega
  clear hKI
  go_quiet (fail)
  rw [hk]
  go_wp2
  go_ret2
  exact ⟨by rw [HRV.out.1]; rfl, belowThen HB.out (belowDrewN _ _)⟩
end Go.Proofs.Ytpgflnjpohmldaa
