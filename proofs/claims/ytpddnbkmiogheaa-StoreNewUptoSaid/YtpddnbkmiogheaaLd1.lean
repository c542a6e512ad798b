import Derived.Test.YtpddnbkmiogheaaSt16
set_option linter.unusedVariables false
namespace Go.Proofs.Ytpddnbkmiogheaa
open Go.RowKit Go.WideMaps Go.Maps Go.MapKept
theorem lwrites_calls (k : Int) (w : World) : Calls Try.prog 17 #[.int .i64 k] w fun e w' => e = .returned (.bool (decide (k = 1 ∨ k = 2))) ∧ w = w' := by
  by_cases h1 : k = 1
  · subst h1
    go_enter Try.func17, Try.ntmps17
    go_wp2
    go_ret
    exact ⟨rfl, rfl⟩
  · by_cases h2 : k = 2
    · subst h2
      go_enter Try.func17, Try.ntmps17
      go_wp2
      go_ret
      exact ⟨rfl, rfl⟩
    · go_enter Try.func17, Try.ntmps17
      go_wp2
      go_ret
      exact ⟨by simp [h1, h2], rfl⟩
/-- What a key has, as 'see' tells it. -/
def seeZ (x : Fld) (k : ByteArray) : Bool × ByteArray := (decide ((getZ x k).2 = 0), (getZ x k).1)
def seenV (s : Bool × ByteArray) : Value := .agg #[.bool s.1, .string s.2]
theorem seen_info : (Try.prog.info? 27).map (·.size) = some 2 := by kernel_rfl
set_option maxRecDepth 100000 in
theorem lsee_calls (K : Nat) (k : ByteArray) (hk : k.size ≤ 4194304) (w : World) (g bn bd : Nat) (v : Value) (x : Fld) (h : PSF w g bn bd v x) :
    Calls Try.prog 14 #[.pointer (some ⟨g, 0, none⟩), .string k] w fun e w' => e = .returned (seenV (seeZ x k)) ∧ Below w.heap.size w w' := by
  have CG := Lib.hid (fun w (h : PSF w g bn bd v x) => sget_calls K k hk w g bn bd v x h)
  have H := Lib.hid h
  clear h
  unfold seenV seeZ
  obtain ⟨y, hy⟩ : ∃ y, getZ x k = y := ⟨_, rfl⟩
  obtain ⟨t, z⟩ := y
  simp only [hy] at CG ⊢
  clear hy
  go_enter Try.func14, Try.ntmps14
  go_wp2_with (go_at_call 29; (with_reducible refine (CG.out _ (H.out.alloc _)).mono ?_); rintro e w1 ⟨rfl, rfl⟩)
  refine bodyPost_ret (v := .agg #[.bool (z == 0), .string t]) (results_cell_row rfl _ _ w.heap.size 27 #[.bool (z == 0), .string t] (0, 0) _ rfl (heap_alloc_new w _) Try.underlying27 rfl seen_info) rfl ⟨?_, (Below.refl _ _).alloc (Nat.le_refl _) _⟩
  rw [show (z == 0) = decide (z = 0) from by by_cases e : z = 0 <;> simp [e]]
/-- The texts of a list at a place. -/
theorem str_row {w : World} {v : Value} {l : List ByteArray} {B : Nat} (h : Row w B 1 v l.length (strV l)) (i : Nat) (hi : i < l.length) : ∃ g c, v = .slice (some ⟨g, 0, none⟩) l.length c ∧ g < w.heap.size ∧ w.cell? ⟨g, i, none⟩ = some (.string l[i]) := by
  rcases Row.form h with ⟨_, h0, _⟩ | ⟨g, cap, rfl, _, hg, _, _, hx, _⟩
  · omega
  · exact ⟨g, cap, rfl, hg, hx _ _ (by simp [strV, hi])⟩
theorem textNe {a b : ByteArray} (h : a ≠ b) : (a.toList == b.toList) = false := by
  rw [beq_eq_false_iff_ne]
  intro e
  rw [ByteArray.toList_eq, ByteArray.toList_eq] at e
  exact h (ByteArray.ext (Array.toList_inj.1 e))
theorem seqB_yes {a b : ByteArray} (h : a = b) : (a.toList == b.toList) = true := by subst h; simp
set_option maxRecDepth 100000 in
set_option maxHeartbeats 1000000 in
theorem lnames_calls (a b : List ByteArray) (va vb : Value) (B1 B2 : Nat) (w : World) (ha : Row w B1 1 va a.length (strV a)) (hb : Row w B2 1 vb b.length (strV b)) (hl : a.length ≤ 4194304) (hl2 : b.length ≤ 4194304) :
    Calls Try.prog 26 #[va, vb] w fun e w' => e = .returned (.bool (decide (a = b))) ∧ ∃ n, w.drewN n = w' := by
  have HA := Lib.hid ha
  have HB := Lib.hid hb
  obtain ⟨pa, ca, rfl⟩ := ha.slice
  obtain ⟨pb, cb, rfl⟩ := hb.slice
  clear ha hb
  by_cases hne : a.length = b.length
  · obtain ⟨n, hn⟩ : ∃ n, a.length = n := ⟨_, rfl⟩
    rw [← hne, hn]
    rw [hn] at hl
    have HN := Lib.hid hn
    have HN2 := Lib.hid (hne.symm.trans hn)
    clear hne hn hl2
    go_enter Try.func26, Try.ntmps26
    go_wp2
    go_loopw [5] (fun iv wr => ∃ (k : Nat), k ≤ n ∧ iv = .int .i64 k ∧ Hid (a.take k = b.take k) ∧ Hid (∃ q, wr = w.drewN q)) (fun iv _ => n - (intOf iv).toNat)
    case atStart => exact ⟨0, by omega, rfl, Lib.hid rfl, Lib.hid ⟨0, rfl⟩⟩
    case round =>
      obtain ⟨k, hk, rfl, HE, HW⟩ := hrel
      obtain ⟨q, hq⟩ := HW.out
      subst hq
      by_cases hlt : k < n
      · have hka : k < a.length := by rw [HN.out]; exact hlt
        have hkb : k < b.length := by rw [HN2.out]; exact hlt
        obtain ⟨g1, c1, hv1, hg1, r1⟩ := str_row HA.out k hka
        obtain ⟨g2, c2, hv2, hg2, r2⟩ := str_row HB.out k hkb
        injection hv1 with e1 e2 e3
        injection hv2 with e4 e5 e6
        subst e1 e4
        have hbk : (k : Int) < n := by omega
        by_cases he : a[k] = b[k]
        · have hq := seqB_yes he
          have HE2 : Hid (a.take (k + 1) = b.take (k + 1)) := Lib.hid (by rw [List.take_succ_eq_append_getElem hka, List.take_succ_eq_append_getElem hkb, HE.out, he])
          obtain ⟨x, hx⟩ : ∃ x, a[k] = x := ⟨_, rfl⟩
          obtain ⟨y, hy⟩ : ∃ y, b[k] = y := ⟨_, rfl⟩
          rw [hx, hy] at hq
          rw [hx] at r1
          rw [hy] at r2
          clear he hx hy e2 e3 e5 e6
          go_wp2
          go_quiet (fail)
          go_wp2
          exact ⟨⟨k + 1, by omega, by go_num, HE2, Lib.hid ⟨_, rfl⟩⟩, by simp [intOf]; omega⟩
        · have hq := textNe he
          have hd : Hid (decide (a = b) = false) := Lib.hid (decide_eq_false (fun e => he (by subst e; rfl)))
          obtain ⟨x, hx⟩ : ∃ x, a[k] = x := ⟨_, rfl⟩
          obtain ⟨y, hy⟩ : ∃ y, b[k] = y := ⟨_, rfl⟩
          rw [hx, hy] at hq
          rw [hx] at r1
          rw [hy] at r2
          clear he hx hy e2 e3 e5 e6
          go_wp2
          go_quiet (fail)
          go_wp2
          go_ret
          exact ⟨by rw [hd.out]; rfl, _, (World.drewN_drewN ..).symm⟩
      · obtain rfl : k = n := by omega
        have hd : Hid (decide (a = b) = true) := Lib.hid (decide_eq_true (by have h := HE.out; rwa [← HN.out, List.take_length, HN.out, ← HN2.out, List.take_length] at h))
        clear hlt hk
        go_wp2
        go_ret
        exact ⟨by rw [hd.out]; rfl, _, rfl⟩
  · have hd : Hid (decide (a = b) = false) := Lib.hid (decide_eq_false (fun e => hne (by subst e; rfl)))
    have hnb : ((a.length : Nat) : Int) ≠ b.length := by omega
    obtain ⟨n, hn⟩ : ∃ n, a.length = n := ⟨_, rfl⟩
    obtain ⟨m, hm⟩ : ∃ m, b.length = m := ⟨_, rfl⟩
    rw [hn] at hnb hl ⊢
    rw [hm] at hnb hl2 ⊢
    have hbb : ((n : Int) != m) = true := by simpa using hnb
    clear hn hm hne
    go_enter Try.func26, Try.ntmps26
    go_wp2
    go_ret
    exact ⟨by rw [hd.out]; rfl, 0, rfl⟩
end Go.Proofs.Ytpddnbkmiogheaa
