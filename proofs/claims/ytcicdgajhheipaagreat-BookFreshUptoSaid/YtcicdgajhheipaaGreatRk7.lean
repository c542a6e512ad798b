import Derived.Test.YtcicdgajhheipaaGreatRs6
set_option linter.unusedVariables false
namespace Go.Proofs.YtcicdgajhheipaaGreat
open Go.RowKit Go.WideMaps Go.Maps Go.MapKept
theorem crash_empty : ∀ (ps : List Wr) (i : Nat) (l : List Rec), crashL ⟨#[]⟩ ps i l = l
  | [], _, _ => rfl
  | p :: ps, i, l => by
    unfold crashL
    have : survB ⟨#[]⟩ i = false := by unfold survB; simp
    rw [this]
    simp only [Bool.false_eq_true, if_false]
    exact crash_empty ps (i + 1) l
theorem rcrash_step (keep : ByteArray) (l : List Wr) (d : List Rec) (k : Nat) (h : k < l.length) : crashL keep (l.take (k + 1)) 0 d = if survB keep k then doW (crashL keep (l.take k) 0 d) l[k] else crashL keep (l.take k) 0 d := by
  rw [List.take_succ_eq_append_getElem h, crash_snoc, List.length_take_of_le (Nat.le_of_lt h), Nat.zero_add]
theorem wr_at {w : World} {v : Value} {l : List Wr} (h : Row w 0 3 v l.length (wrsV l)) (k : Nat) (hk : k < l.length) : ∃ g c, v = .slice (some ⟨g, 0, none⟩) l.length c ∧ g < w.heap.size ∧ w.cell? ⟨g, k * 3, none⟩ = some (.string l[k].key) ∧ w.cell? ⟨g, k * 3 + 1, none⟩ = some (.string l[k].data) ∧ w.cell? ⟨g, k * 3 + 2, none⟩ = some (.bool l[k].cut) := by
  obtain ⟨q1, q2, q3⟩ := wrsV_at l k hk
  rcases Row.form h with ⟨_, h0, _⟩ | ⟨g, cap, rfl, _, hg, _, _, hx, _⟩
  · omega
  · exact ⟨g, cap, rfl, hg, hx _ _ q1, hx _ _ q2, hx _ _ q3⟩
/-- What the store is behind the loop: the list takes all places. -/
theorem crash_end {K : Nat} {w wr : World} {g : Nat} {vd vw vv lv : Value} {x : Fld} {L : List Rec} (h : RSF w g vd vw vv x) (hb : Below w.heap.size w wr) (hl : RecL wr lv L) (ho : ∀ k, lv.ownBlock = some k → vd.ownBlock = some k ∨ w.heap.size ≤ k) (u : Int) :
    RKept w g vd vw vv { x with dur := L, now := L, pend := [], used := u, off := false, left := 0, age := x.age + 1 }
      ((((((wr.setCell ⟨g, 1, none⟩ lv).setCell ⟨g, 6, none⟩ lv).setCell ⟨g, 2, none⟩ (.slice none 0 0)).setCell ⟨g, 3, none⟩ (.bool false)).setCell ⟨g, 4, none⟩ (.int .i64 0)).setCell ⟨g, 5, none⟩ (.int .i64 (x.age + 1))) := by
  have h1 := h.keep hb
  have n1 : lv.ownBlock ≠ some g := fun e => by
    rcases ho g e with e2 | e2
    · exact h.nd e2
    · have := h.lt; omega
  have n2 : ∀ k, vw.ownBlock = some k → lv.ownBlock ≠ some k := fun k hk e => by
    rcases ho k e with e2 | e2
    · exact (h.nw k hk).2.1 e2
    · have := rsf_row h.row hk; omega
  have a1 := h1.setDur hl n1 n2
  have a2 := a1.setView (u := lv) (l := L) (Row.setCell hl n1 _) n1 n2
  refine ⟨lv, .slice none 0 0, lv, (((a2.clear.setOff false).setLeft 0).setAge (x.age + 1)).other u, ?_, fun m hm => ?_⟩
  · have hg : g ∈ rfoot g vd vw vv := mem_rfoot.2 (.inl rfl)
    exact ((((((Touch.below hb (rfoot g vd vw vv)).setCell (p := ⟨g, 1, none⟩) (.inl hg) _).setCell (p := ⟨g, 6, none⟩) (.inl hg) _).setCell (p := ⟨g, 2, none⟩) (.inl hg) _).setCell (p := ⟨g, 3, none⟩) (.inl hg) _).setCell (p := ⟨g, 4, none⟩) (.inl hg) _).setCell (p := ⟨g, 5, none⟩) (.inl hg) _
  · rcases mem_rfoot.1 hm with e | e | e | e
    · exact .inl (mem_rfoot.2 (.inl e))
    · exact (ho m e).imp (fun e => mem_rfoot.2 (.inr (.inl e))) id
    · cases e
    · exact (ho m e).imp (fun e => mem_rfoot.2 (.inr (.inl e))) id
set_option maxRecDepth 100000 in
set_option maxHeartbeats 8000000 in
theorem rcrash_calls (K : Nat) (hK : K ≤ 2097151) (keep : ByteArray) (hkeep : keep.size ≤ 4194304) (w : World) (g : Nat) (vd vw vv : Value) (x : Fld) (h : RSF w g vd vw vv x) (hf : Fine K x) :
    Calls Tryz.prog 10 #[.pointer (some ⟨g, 0, none⟩), .string keep] w fun e w' => e = .returned (.tuple #[]) ∧ RKept w g vd vw vv (crashZ x keep) w' := by
  have hlen := hf.len
  have hage := hf.age
  have HFD := Lib.hid hf.fd
  have HSD := Lib.hid hf.sd
  have H := Lib.hid h
  have hlt := h.lt
  have c1 := h.c1
  have c2 := h.c2
  have hve : ∃ a n c, vd = .slice a n c := by obtain ⟨a, c, e⟩ := h.dur.slice; exact ⟨a, _, c, e⟩
  obtain ⟨da, dn, dc, hve⟩ := hve
  subst hve
  obtain ⟨va, vc, hvw⟩ := h.row.slice
  subst hvw
  obtain ⟨n, hn⟩ : ∃ n, x.pend.length = n := ⟨_, rfl⟩
  rw [hn] at c2 hlen
  have HN := Lib.hid hn
  have HEND := Lib.hid (fun wr lv (hb : Below w.heap.size w wr) (hl : RecL wr lv (crashL keep x.pend 0 x.dur)) ho => crash_end (K := K) H.out hb hl ho ((costL (crashL keep x.pend 0 x.dur) : Nat) : Int))
  have hab : 0 ≤ x.age ∧ x.age ≤ 2097151 := by omega
  have HC := Lib.hid (show ∀ wr, Below w.heap.size w wr → RSF wr g (.slice da dn dc) (.slice va x.pend.length vc) vv x from fun wr hb => H.out.keep hb)
  by_cases hz : keep.size = 0
  · obtain rfl : keep = ⟨#[]⟩ := by
      have : keep.data = #[] := Array.eq_empty_of_size_eq_zero hz
      cases keep; simp at this; rw [this]
    have HL0 := Lib.hid (show RecL w (.slice da dn dc) (crashL ⟨#[]⟩ x.pend 0 x.dur) by rw [crash_empty]; exact h.dur)
    have HR := Lib.hid (HEND.out w _ (Below.refl _ _) HL0.out (fun k hk => .inl hk))
    have f1 := h.fr 1
    have f2 := h.fr 2
    have f3 := h.fr 3
    have f4 := h.fr 4
    have f5 := h.fr 5
    have f6 := h.fr 6
    have c3 := h.c3
    have c4 := h.c4
    have c5 := h.c5
    have c6 := h.c6
    have hvv : ∃ a n c, vv = .slice a n c := by obtain ⟨a, c, e⟩ := h.now.slice; exact ⟨a, _, c, e⟩
    obtain ⟨ra, rn, rc, hvv⟩ := hvv
    subst hvv
    obtain ⟨A, hA⟩ : ∃ A, x.age = A := ⟨_, rfl⟩
    have HZ := Lib.hid (show crashZ x ⟨#[]⟩ = { x with dur := crashL ⟨#[]⟩ x.pend 0 x.dur, now := crashL ⟨#[]⟩ x.pend 0 x.dur, pend := [], used := (costL (crashL ⟨#[]⟩ x.pend 0 x.dur) : Nat), off := false, left := 0, age := A + 1 } from by rw [← hA]; rfl)
    rw [hA] at HR hab c5
    clear h hf hz hn hage hA HEND
    by_cases hn0 : 0 < n
    all_goals
      go_enter Tryz.func10, Tryz.ntmps10
      go_wp2
      go_loopw [4, 5] (fun lv iv wr => iv = .int .i64 0 ∧ lv = .slice da dn dc ∧ wr = w) (fun _ _ _ => 0)
      case atStart => exact ⟨rfl, rfl, rfl⟩
      case round =>
        obtain ⟨rfl, rfl, rfl⟩ := hrel
        go_wp2
        go_end0
        exact ⟨rfl, by rw [HZ.out]; exact HR.out⟩
  · have hpos : (1 : Int) ≤ keep.size := by omega
    have hpos2 : (0 : Int) < keep.size := by omega
    have hvv : ∃ a n c, vv = .slice a n c := by obtain ⟨a, c, e⟩ := h.now.slice; exact ⟨a, _, c, e⟩
    obtain ⟨ra, rn, rc, hvv⟩ := hvv
    subst hvv
    obtain ⟨A, hA⟩ : ∃ A, x.age = A := ⟨_, rfl⟩
    have HAge := Lib.hid hA
    have HZ := Lib.hid (show crashZ x keep = { x with dur := crashL keep x.pend 0 x.dur, now := crashL keep x.pend 0 x.dur, pend := [], used := (costL (crashL keep x.pend 0 x.dur) : Nat), off := false, left := 0, age := A + 1 } from by rw [← hA]; rfl)
    rw [hA] at HEND hab
    clear h hf hn hage hA
    go_enter Tryz.func10, Tryz.ntmps10
    go_wp2
    go_loopw [4, 5] (fun lv iv wr => ∃ (k : Nat), k ≤ n ∧ iv = .int .i64 k ∧ Hid (RecL wr lv (crashL keep (x.pend.take k) 0 x.dur)) ∧ Hid (Below w.heap.size w wr) ∧ Hid (∀ m, lv.ownBlock = some m → (Value.slice da dn dc).ownBlock = some m ∨ w.heap.size ≤ m)) (fun _ iv _ => n - (intOf iv).toNat)
    case atStart => exact ⟨0, by omega, rfl, Lib.hid H.out.dur, Lib.hid (Below.refl _ _), Lib.hid (fun m hm => .inl hm)⟩
    case round =>
      obtain ⟨k, hk, rfl, HL, HB, HO⟩ := hrel
      have hr := HC.out _ HB.out
      have s2 := hr.c2
      rw [HN.out] at s2
      by_cases hlt2 : k < n
      · have hkl : k < x.pend.length := by rw [HN.out]; exact hlt2
        obtain ⟨pg, pc, hv, hpg, r0, r1, r2⟩ := wr_at hr.row k hkl
        injection hv with e1 e2 e3
        subst e1
        have hbk : (k : Int) < n := by omega
        have hkb : k ≤ 2097152 := by omega
        have hrl : k % keep.size < keep.size := Nat.mod_lt _ (by omega)
        have hst := rcrash_step keep x.pend x.dur k hkl
        rw [survB_at keep k hrl] at hst
        have hcl : (crashL keep (x.pend.take k) 0 x.dur).length ≤ 4194303 := by
          have h1 := crash_len keep (x.pend.take k) 0 x.dur
          have h2 := List.length_take_le k x.pend
          omega
        have hsr : Sorted (crashL keep (x.pend.take k) 0 x.dur) := crash_sorted keep _ _ HSD.out
        have CD := Lib.hid (fun p => (show Calls Tryz.prog 47 #[_, .agg #[.string p.key, .string p.data, .bool p.cut]] _ fun e w' => ∃ v', e = .returned v' ∧ RecL w' v' (doW (crashL keep (x.pend.take k) 0 x.dur) p) ∧ Row w' _ 2 v' _ _ ∧ Below _ _ w' from
          (rdone_calls (crashL keep (x.pend.take k) 0 x.dur) p _ _ HL.out hcl).mono fun e w' ⟨v', he, hr, hb⟩ => ⟨v', he, by rw [refDo_is hsr] at hr; exact hr.mono (Nat.zero_le _), hr, hb⟩))
        obtain ⟨p, hp⟩ : ∃ p, x.pend[k] = p := ⟨_, rfl⟩
        rw [hp] at r0 r1 r2 hst
        obtain ⟨r, hri⟩ : ∃ r, k % keep.size = r := ⟨_, rfl⟩
        have hr2 : ((k : Int) % (keep.size : Int)) = r := by omega
        have hrs : r < keep.size := by omega
        have hr3 : (r : Int) < keep.size := by omega
        have hst2 : crashL keep (x.pend.take (k + 1)) 0 x.dur = if keep[r].toNat % 2 = 1 then doW (crashL keep (x.pend.take k) 0 x.dur) p else crashL keep (x.pend.take k) 0 x.dur := by
          subst hri; simpa using hst
        obtain ⟨la, lc, hlv⟩ := HL.out.slice
        obtain ⟨ln, hln⟩ : ∃ ln, (crashL keep (x.pend.take k) 0 x.dur).length = ln := ⟨_, rfl⟩
        rw [hln] at hlv
        subst hlv
        obtain ⟨pk, pd, pcut⟩ := p
        simp only at r0 r1 r2
        have CD2 := Lib.hid (CD.out ⟨pk, pd, pcut⟩)
        simp only at CD2
        by_cases hx : keep[r].toNat % 2 = 1
        · rw [if_pos hx] at hst2
          have HST := Lib.hid hst2
          have hxb : ((keep[r].toNat : Int) % 2 == 1) = true := by rw [beq_iff_eq]; omega
          clear hst hst2 hri hrl hcl hsr CD e2 e3 hr hp hln hx hz
          go_wp2_with (go_at_call 47; (with_reducible refine CD2.out.mono ?_); rintro e w5 ⟨v5, rfl, hl5, hr5, hb5⟩
                       have hve5 : ∃ a n c, v5 = .slice a n c := by { obtain ⟨a, c, e⟩ := hl5.slice; exact ⟨a, _, c, e⟩ }
                       obtain ⟨v5a, v5n, v5c, hve5⟩ := hve5
                       subst hve5
                       have HL5 := Lib.hid hl5
                       have HR5 := Lib.hid hr5
                       have HB5 := Lib.hid (HB.out.trans (hb5.mono HB.out.size))
                       clear hl5 hr5 hb5)
          exact ⟨⟨k + 1, by omega, by go_num, Lib.hid (by rw [HST.out]; exact HL5.out), HB5, Lib.hid (fun m hm => .inr (Nat.le_trans HB.out.size (HR5.out.lt m hm).1))⟩, by simp [intOf]; omega⟩
        · rw [if_neg hx] at hst2
          have HST := Lib.hid hst2
          have hxb : ((keep[r].toNat : Int) % 2 == 1) = false := by rw [beq_eq_false_iff_ne]; omega
          clear hst hst2 hri hrl hcl hsr CD CD2 e2 e3 hr hp hln hx hz
          go_wp2
          exact ⟨⟨k + 1, by omega, by go_num, Lib.hid (by rw [HST.out]; exact HL.out), HB, HO⟩, by simp [intOf]; omega⟩
      · obtain rfl : k = n := by omega
        have hfull : x.pend.take k = x.pend := by rw [← HN.out]; exact List.take_length
        rw [hfull] at HL
        obtain ⟨la, lc, hlv⟩ := HL.out.slice
        have HR := Lib.hid (HEND.out _ _ HB.out HL.out HO.out)
        rw [hlv] at HR
        subst hlv
        have f1 := hr.fr 1
        have f2 := hr.fr 2
        have f3 := hr.fr 3
        have f4 := hr.fr 4
        have f5 := hr.fr 5
        have f6 := hr.fr 6
        have s1 := hr.c1
        have s3 := hr.c3
        have s4 := hr.c4
        have s5 := hr.c5
        have s6 := hr.c6
        rw [HAge.out] at s5
        clear hr hfull hk hlt2 hz
        go_wp2
        go_end0
        exact ⟨rfl, by rw [HZ.out]; exact HR.out⟩
end Go.Proofs.YtcicdgajhheipaaGreat
