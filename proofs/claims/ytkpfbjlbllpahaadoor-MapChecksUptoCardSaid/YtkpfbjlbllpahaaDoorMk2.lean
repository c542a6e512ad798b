import Derived.Test.YtkpfbjlbllpahaaDoorMk1
import Derived.Deep.QuietTactic
set_option linter.unusedVariables false
namespace Go.Proofs.YtkpfbjlbllpahaaDoor
open Go.RowKit
open Classical in
/-- Why the hashes beside the way cannot be. -/
noncomputable def sidedZ (W : Int) (fs : List Bool) (hs : List ByteArray) : Int :=
  if ∃ h ∈ hs, (h.size : Int) ≠ W then 72
  else if (fs.length : Int) ≠ 8 * W ∨ (hs.length : Int) ≠ (fs.count true : Nat) then 71
  else if emptyB W ∈ hs then 13 else 0
theorem seq_false {a b : ByteArray} (h : ¬ a = b) : (a.toList == b.toList) = false := by
  rw [beq_eq_false_iff_ne]
  intro e
  rw [ByteArray.toList_eq, ByteArray.toList_eq] at e
  exact h (ByteArray.ext (Array.toList_inj.1 e))
theorem seq_true {a b : ByteArray} (h : a = b) : (a.toList == b.toList) = true := by rw [h]; simp
section
variable {W : Int} {fs : List Bool} {hs : List ByteArray}
theorem sided72 (k : Nat) (h : k < hs.length) (hk : ¬ (hs[k].size : Int) = W) : sidedZ W fs hs = 72 := by
  unfold sidedZ; rw [if_pos ⟨_, List.getElem_mem h, hk⟩]
theorem sided_sized (h : ∀ j (h : j < hs.length), (hs[j].size : Int) = W) : ¬ ∃ h ∈ hs, (h.size : Int) ≠ W := by
  rintro ⟨x, hx, hn⟩
  obtain ⟨j, hj, rfl⟩ := List.getElem_of_mem hx
  exact hn (h j hj)
theorem sided71 (h : ∀ j (h : j < hs.length), (hs[j].size : Int) = W) (h2 : ¬ (fs.length : Int) = 8 * W ∨ ¬ (hs.length : Int) = (fs.count true : Nat)) : sidedZ W fs hs = 71 := by
  unfold sidedZ; rw [if_neg (sided_sized h), if_pos h2]
theorem sided13 (h : ∀ j (h : j < hs.length), (hs[j].size : Int) = W) (h2 : (fs.length : Int) = 8 * W) (h3 : (hs.length : Int) = (fs.count true : Nat)) (k : Nat) (hk : k < hs.length) (he : hs[k] = emptyB W) : sidedZ W fs hs = 13 := by
  unfold sidedZ; rw [if_neg (sided_sized h), if_neg (by omega), if_pos (by rw [← he]; exact List.getElem_mem hk)]
theorem sided0 (h : ∀ j (h : j < hs.length), (hs[j].size : Int) = W) (h2 : (fs.length : Int) = 8 * W) (h3 : (hs.length : Int) = (fs.count true : Nat)) (h4 : ∀ j (h : j < hs.length), ¬ hs[j] = emptyB W) : sidedZ W fs hs = 0 := by
  unfold sidedZ
  rw [if_neg (sided_sized h), if_neg (by omega), if_neg]
  intro hx
  obtain ⟨j, hj, e⟩ := List.getElem_of_mem hx
  exact h4 j hj e
theorem count_step (k : Nat) (h : k < fs.length) : (fs.take (k + 1)).count true = (fs.take k).count true + if fs[k] = true then 1 else 0 := by
  rw [List.take_succ_eq_append_getElem h, List.count_append]
  cases fs[k] <;> rfl
theorem count_le (k : Nat) : (fs.take k).count true ≤ fs.length := by
  have h1 := List.count_le_length (a := true) (l := fs.take k)
  rw [List.length_take] at h1
  omega
end
set_option maxRecDepth 100000 in
set_option maxHeartbeats 4000000 in
theorem msided_calls (W : Int) (f b : Bool) (o v : ByteArray) (fs : List Bool) (hs : List ByteArray) (F H : Value) (w : World) (hL : Laid w) (hF : Held w F (bV fs)) (hH : Held w H (tV hs)) (hfl : fs.length ≤ 1048576) (hhl : hs.length ≤ 1048576) (w0 : 1 ≤ W) (w1 : W ≤ 32) :
    Calls Tryd.prog 43 #[.agg #[.int .i64 W, .bool f, .bool b, .string o, .string v, F, H]] w fun e w' => e = .returned (.int .i64 (sidedZ W fs hs)) ∧ Below w.heap.size w w' := by
  have h4 := hL.size
  obtain ⟨aF, cF, rfl, hcF, hxF⟩ := hF.bool
  obtain ⟨aH, cH, rfl, hcH, hxH⟩ := hH.text
  have HL := Lib.hid hL
  have XF := Lib.hid hxF
  have XH := Lib.hid hxH
  clear hL hF hH hxF hxH
  go_enter Tryd.func43, Tryd.ntmps43
  go_wp2_with fail
  go_loopw [4, 13] (fun _ iv wr => ∃ k : Nat, k ≤ hs.length ∧ iv = .int .i64 k ∧ Hid (∀ j (h : j < hs.length), j < k → (hs[j].size : Int) = W) ∧ Hid (Below (w.heap.size + 1) (w.alloc (.cells #[.int .i64 W, .bool f, .bool b, .string o, .string v, .slice aF fs.length cF, .slice aH hs.length cH] 25)) wr)) (fun _ iv _ => hs.length - (intOf iv).toNat)
  case atStart => exact ⟨0, by omega, rfl, Lib.hid (fun j h hj => by omega), Lib.hid (Below.refl _ _)⟩
  case round =>
    obtain ⟨k, hk, rfl, HS, HB⟩ := hrel
    obtain ⟨hbw, hsz, hbox⟩ := boxed HB.out
    have x0 := hbox 0 _ rfl
    have x5 := hbox 5 _ rfl
    have x6 := hbox 6 _ rfl
    have HW := Lib.hid hbw
    clear hbox hbw
    by_cases hlt : k < hs.length
    · obtain ⟨g, off, rfl, hg, hcell⟩ := XH.out k hlt
      have hc1 : wr.cell? ⟨g, off + k, none⟩ = some (.string hs[k]) := (HW.out.cell (p := ⟨g, off + k, none⟩) hg).trans hcell
      clear hcell
      have hbk : (k : Int) < hs.length := by omega
      by_cases hsz2 : (hs[k].size : Int) = W
      · have HZ : Hid (∀ j (h : j < hs.length), j < k + 1 → (hs[j].size : Int) = W) := Lib.hid (fun j h hj => by
          by_cases e : j = k
          · subst e; exact hsz2
          · exact HS.out j h (by omega))
        generalize hs[k] = x at *
        go_wp2
        exact ⟨⟨k + 1, by omega, by go_num, HZ, HB⟩, by simp [intOf]; omega⟩
      · have HZ := Lib.hid (sided72 (fs := fs) k hlt hsz2)
        generalize hs[k] = x at *
        go_wp2
        go_ret
        exact ⟨congrArg (fun z => Ending.returned (.int .i64 z)) HZ.out.symm, HW.out⟩
    · obtain rfl : k = hs.length := by omega
      have HS' : Hid (∀ j (h : j < hs.length), (hs[j].size : Int) = W) := Lib.hid (fun j h => HS.out j h h)
      clear HS hlt hk
      go_wp2
      go_loopw [5, 7, 26] (fun cv _ iv wq => ∃ (k c : Nat), k ≤ fs.length ∧ iv = .int .i64 k ∧ cv = .int .i64 c ∧ c ≤ fs.length ∧ Hid (c = (fs.take k).count true) ∧ wq = wr) (fun _ _ iv _ => fs.length - (intOf iv).toNat)
      case atStart => exact ⟨0, 0, by omega, rfl, rfl, by omega, Lib.hid (by simp), rfl⟩
      case round =>
        obtain ⟨k, c, hk, rfl, rfl, hcl, HC, rfl⟩ := hrel
        by_cases hlt : k < fs.length
        · obtain ⟨g, off, rfl, hg, hcell⟩ := XF.out k hlt
          have hc1 : wr.cell? ⟨g, off + k, none⟩ = some (.bool fs[k]) := (HW.out.cell (p := ⟨g, off + k, none⟩) hg).trans hcell
          clear hcell
          have hbk : (k : Int) < fs.length := by omega
          have hst := count_step k hlt
          have hle := count_le (fs := fs) (k + 1)
          rw [← HC.out] at hst
          cases hx : fs[k]
          · rw [hx] at hc1 hst
            have HT : Hid (c = (fs.take (k + 1)).count true) := Lib.hid (by rw [hst]; simp)
            clear hst hle hx
            go_wp2
            exact ⟨⟨k + 1, c, by omega, by go_num, rfl, hcl, HT, trivial⟩, by simp [intOf]; omega⟩
          · rw [hx] at hc1 hst
            have hT : c + 1 = (fs.take (k + 1)).count true := by rw [hst]; simp
            have hc2 : c + 1 ≤ fs.length := by omega
            have HT := Lib.hid hT
            clear hst hle hx hT
            go_wp2
            exact ⟨⟨k + 1, c + 1, by omega, by go_num, by go_num, hc2, HT, trivial⟩, by simp [intOf]; omega⟩
        · obtain rfl : k = fs.length := by omega
          have hcc : c = fs.count true := by have := HC.out; rwa [List.take_of_length_le (Nat.le_refl _)] at this
          have HCC := Lib.hid hcc
          clear hcc HC hk hlt
          by_cases hb1 : (fs.length : Int) = 8 * W
          · by_cases hb2 : (hs.length : Int) = (c : Int)
            · have HB1 := Lib.hid hb1
              have HB2 : Hid ((hs.length : Int) = (fs.count true : Nat)) := Lib.hid (by rw [hb2, HCC.out])
              have hq1 : ((fs.length : Int) != 8 * W) = false := by rw [bne_eq_false_iff_eq]; exact hb1
              have hq2 : ((hs.length : Int) != (c : Int)) = false := by rw [bne_eq_false_iff_eq]; exact hb2
              clear hb1 hb2
              go_wp2
              go_loopw [9, 51] (fun _ iv wq => ∃ k : Nat, k ≤ hs.length ∧ iv = .int .i64 k ∧ Hid (∀ j (h : j < hs.length), j < k → ¬ hs[j] = emptyB W) ∧ Hid (Below (w.heap.size + 1) (w.alloc (.cells #[.int .i64 W, .bool f, .bool b, .string o, .string v, .slice aF fs.length cF, .slice aH hs.length cH] 25)) wq)) (fun _ iv _ => hs.length - (intOf iv).toNat)
              case atStart => exact ⟨0, by omega, rfl, Lib.hid (fun j h hj => by omega), HB⟩
              case round =>
                obtain ⟨k, hk, rfl, HS, HB⟩ := hrel
                rename_i wq _
                obtain ⟨hbw, hsz, hbox⟩ := boxed HB.out
                have y0 := hbox 0 _ rfl
                have y6 := hbox 6 _ rfl
                have HW := Lib.hid hbw
                have CE := Lib.hid (empty_calls W _ (HL.out.below hbw h4))
                clear hbox hbw
                by_cases hlt : k < hs.length
                · obtain ⟨g, off, rfl, hg, hcell⟩ := XH.out k hlt
                  have hc1 := (HW.out.cell (p := ⟨g, off + k, none⟩) hg).trans hcell
                  clear hcell
                  have hbk : (k : Int) < hs.length := by omega
                  by_cases he : hs[k] = emptyB W
                  · have HZ := Lib.hid (sided13 HS'.out HB1.out HB2.out k hlt he)
                    rw [he] at hc1
                    clear he
                    generalize emptyB W = x at *
                    go_wp2_with (go_at_call 80; (with_reducible refine CE.out.mono ?_); rintro e w2 ⟨rfl, hb2⟩; have HB2' := Lib.hid (HW.out.trans (hb2.mono HW.out.size)); clear hb2)
                    go_ret
                    exact ⟨congrArg (fun z => Ending.returned (.int .i64 z)) HZ.out.symm, HB2'.out⟩
                  · have HZ : Hid (∀ j (h : j < hs.length), j < k + 1 → ¬ hs[j] = emptyB W) := Lib.hid (fun j h hj => by
                      by_cases e : j = k
                      · subst e; exact he
                      · exact HS.out j h (by omega))
                    have hne := seq_false he
                    generalize emptyB W = x at *
                    generalize hs[k] = y at *
                    go_wp2_with (go_at_call 80; (with_reducible refine CE.out.mono ?_); rintro e w2 ⟨rfl, hb2⟩; have HB2' := Lib.hid (HB.out.trans (hb2.mono hsz)); clear hb2)
                    exact ⟨⟨k + 1, by omega, by go_num, HZ, HB2'⟩, by simp [intOf]; omega⟩
                · obtain rfl : k = hs.length := by omega
                  have HZ := Lib.hid (sided0 HS'.out HB1.out HB2.out (fun j h => HS.out j h h))
                  go_wp2
                  go_ret
                  exact ⟨congrArg (fun z => Ending.returned (.int .i64 z)) HZ.out.symm, HW.out⟩
            · have HZ := Lib.hid (sided71 (fs := fs) HS'.out (.inr (by rw [← HCC.out]; exact hb2)))
              have hq1 : ((fs.length : Int) != 8 * W) = false := by rw [bne_eq_false_iff_eq]; exact hb1
              have hq2 : ((hs.length : Int) != (c : Int)) = true := by rw [bne_iff_ne]; exact hb2
              go_wp2
              go_ret
              exact ⟨congrArg (fun z => Ending.returned (.int .i64 z)) HZ.out.symm, HW.out⟩
          · have HZ := Lib.hid (sided71 (fs := fs) HS'.out (.inl hb1))
            have hq1 : ((fs.length : Int) != 8 * W) = true := by rw [bne_iff_ne]; exact hb1
            go_wp2
            go_ret
            exact ⟨congrArg (fun z => Ending.returned (.int .i64 z)) HZ.out.symm, HW.out⟩
end Go.Proofs.YtkpfbjlbllpahaaDoor
