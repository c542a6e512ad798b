import Derived.Test.YtegplajddhiejaaGreatMgLoneMake8
import Derived.Test.YtegplajddhiejaaGreatShelf
import Derived.Sort.OwnSorted
import Derived.Sort.KeysCollected
import Derived.Shelf.Strings.Prefix
set_option linter.unusedVariables false
namespace Go.Proofs.YtegplajddhiejaaGreat
open Go.RowKit Go.WideMaps Go.Maps Go.MapKept Go.Sort Go.Shelf
def keyL (l : List ByteArray) : List (List UInt8) := l.map fun k => k.data.toList
def strV (l : List ByteArray) : List Value := l.map Value.string
theorem strV_len (l : List ByteArray) : (strV l).length = l.length := by simp [strV]
theorem enc_key (l : List ByteArray) : (keyL l).map encStr = strV l := by
  unfold keyL strV
  rw [List.map_map]
  refine List.map_congr_left (fun k _ => ?_)
  show Value.string ⟨k.data.toList.toArray⟩ = _
  simp
theorem Row.ofOwns {w : World} {base size n : Nat} {e : TypeId} {v : Value} {xs : List Value} (h : w.ownsRow base e size v n xs) : Row w base size v n xs := by
  refine ⟨h.1, ?_⟩
  rcases h.2 with h2 | ⟨g, cap, cur, rfl, hb, hk, hn, hc, hs, ht⟩
  · exact .inl h2
  · refine .inr ⟨g, cap, rfl, hb, (Array.getElem?_eq_some_iff.1 hk).1, hn, hc, fun j u hu => ?_, fun j hj => ?_⟩
    · have hj : j < n * size := by
        rw [← ht] at hu
        have h1 := (List.getElem?_eq_some_iff.1 hu).1
        rw [List.length_take] at h1; omega
      rw [← ht, List.getElem?_take_of_lt hj] at hu
      simp [World.cell?, hk, ← Array.getElem?_toList, hu]
    · refine ⟨?_, by simp [World.frozen?, hk]⟩
      simp [World.cell?, hk, hs, hj]
/-- Keys in whatever order, sorted by the library. -/
theorem sorted_keys {l : List ByteArray} (hs : l.Pairwise fun a b => kLt a b = true) {ss : List (List UInt8)} (hp : ss.Perm (keyL l)) : ss.mergeSort (fun x y => decide (x ≤ y)) = keyL l := by
  have tr : ∀ a b c : List UInt8, leB a b = true → leB b c = true → leB a c = true := fun a b c h1 h2 => by simp only [leB, decide_eq_true_eq] at *; exact List.le_trans h1 h2
  have to : ∀ a b : List UInt8, (leB a b || leB b a) = true := fun a b => by simp only [leB, Bool.or_eq_true, decide_eq_true_eq]; exact List.le_total a b
  have hpw : (keyL l).Pairwise fun a b => leB a b = true := by
    unfold keyL
    rw [List.pairwise_map]
    refine hs.imp (fun {a b} h => ?_)
    rw [kLt_dec, decide_eq_true_eq] at h
    exact decide_eq_true (List.le_of_lt h)
  refine List.Perm.eq_of_pairwise (le := fun a b => leB a b = true) (fun a b _ _ h1 h2 => ?_) (List.pairwise_mergeSort tr to ss) hpw ((List.mergeSort_perm ss leB).trans hp)
  simp only [leB, decide_eq_true_eq] at h1 h2
  exact List.le_antisymm h1 h2
theorem sorted_fst {l : List Rec} (h : Sorted l) : (l.map (·.1)).Pairwise fun a b => kLt a b = true := by
  rw [List.pairwise_map]; exact h
theorem keys_toD (l : List Rec) : strKeys (toD l) = keyL (l.map (·.1)) := by
  unfold toD keyL
  simp only [strKeys, List.map_map]
  rfl
end Go.Proofs.YtegplajddhiejaaGreat

set_option linter.unusedVariables false
namespace Go.Proofs.YtegplajddhiejaaGreat
open Go.RowKit Go.WideMaps Go.Maps Go.MapKept Go.Sort Go.Shelf
theorem hasprefix_calls (k p : ByteArray) (w : World) : Calls Tryz.prog 50 #[.string k, .string p] w fun e w' => e = .returned (.bool (isPre p k)) ∧ w = w' := by
  refine (Tryz.strings_HasPrefix k p w).mono ?_
  rintro e w' ⟨rfl, rfl⟩
  refine ⟨congrArg (fun z => Ending.returned (.bool z)) ?_, rfl⟩
  unfold Lib.hasPrefix isPre
  by_cases h : p.data.toList <+: k.data.toList
  · rw [decide_eq_true h]; first | exact List.isPrefixOf_iff_prefix.2 h | simpa using h
  · rw [decide_eq_false h]; first | exact Bool.eq_false_iff.2 (fun e => h (List.isPrefixOf_iff_prefix.1 e)) | simpa using h
theorem perm_cut {k d : ByteArray} : ∀ {l : List Rec}, Sorted l → (k, d) ∈ l → l.Perm ((k, d) :: cutL k l)
  | y :: r, hs, hm => by
    obtain ⟨h1, h2⟩ := List.pairwise_cons.1 hs
    rcases List.mem_cons.1 hm with e | hm'
    · subst e
      have hn : findL k r = none := List.find?_eq_none.2 (fun z hz => by
        have := kLt_ne (h1 z hz)
        simp only [decide_eq_true_eq]
        exact fun e => this e.symm)
      have hc : cutL k ((k, d) :: r) = r := by
        have := cut_of_none hn
        unfold cutL at *
        rw [List.filter_cons, if_neg (by simp)]; exact this
      rw [hc]
    · have hne : y.1 ≠ k := kLt_ne (h1 _ hm')
      have hc : cutL k (y :: r) = y :: cutL k r := by unfold cutL; rw [List.filter_cons, if_pos (by simp [hne])]
      rw [hc]
      exact ((perm_cut h2 hm').cons y).trans (List.Perm.swap _ _ _)
theorem pre_step {p k d : ByteArray} {rest : List Rec} (hs : Sorted rest) (hm : (k, d) ∈ rest) : ((rest.map (·.1)).filter (isPre p)).Perm ((if isPre p k then [k] else []) ++ ((cutL k rest).map (·.1)).filter (isPre p)) := by
  have h := ((perm_cut hs hm).map (·.1)).filter (isPre p)
  refine h.trans ?_
  rw [List.map_cons, List.filter_cons]
  split
  · exact List.Perm.refl _
  · exact List.Perm.refl _
theorem sort_calls (base g cap : Nat) (l : List ByteArray) (hl : l.Pairwise fun a b => kLt a b = true) (ss : List (List UInt8)) (hp : ss.Perm (keyL l)) (hlen : ss.length ≤ 4194304) (w : World) (ho : w.ownsRow base 9 1 (.slice (some ⟨g, 0, none⟩) ss.length cap) ss.length (ss.map encStr)) :
    Calls Tryz.prog 51 #[.slice (some ⟨g, 0, none⟩) ss.length cap] w fun e w' => e = .returned (.tuple #[]) ∧ w'.ownsRow base 9 1 (.slice (some ⟨g, 0, none⟩) ss.length cap) ss.length (strV l) ∧ w.grownBy w' (some g) := by
  rcases ho.2 with ⟨hv, _⟩ | ⟨g', cap', cur, hv, hb, hk, hn, hc, hs, ht⟩
  · cases hv
  · injection hv with e1 e2 e3
    injection e1 with e1
    injection e1 with e1
    subst e1 e3
    have hH := holds_of_block hk (by simpa using ht)
    refine (Tryz.slices_Sort_string g 0 cap ss w hH ((Array.getElem?_eq_some_iff.1 hk).1) (by omega)).mono ?_
    rintro e w' ⟨rfl, n, os, rfl⟩
    have hsort := sorted_keys hl hp
    have h1 := ownsRow_sorted (os := os) (n := n) (ts := ss.mergeSort fun x y => decide (x ≤ y)) (ss := ss) (by simp) hb hk hn hc hs
    have e1 : (ss.mergeSort fun x y => decide (x ≤ y)).map encStr = strV l := by rw [hsort, enc_key]
    rw [e1] at h1
    exact ⟨rfl, h1, grownBy_sorted _⟩
theorem infoStrK : (Tryz.prog.info? 9).map (fun i => (i.zero, i.size, i.bytes)) = some (some (.string ⟨#[]⟩), 1, 16) := by kernel_rfl
theorem RangeAt.ne_row {w : World} {b r : Nat} {l rest : List Rec} {base size n : Nat} {e : TypeId} {v : Value} {xs : List Value} (h : RangeAt w b r l rest) (ho : w.ownsRow base e size v n xs) : some r ≠ v.ownBlock := by
  obtain ⟨left, cnt, h1, h2⟩ := h
  exact row_ne_iter ho h1
theorem keys_1 {x : Fld} {p : ByteArray} (h : x.off = true) : keysZ x p = [] := by unfold keysZ; rw [if_pos h]
theorem keys_2 {x : Fld} {p : ByteArray} (h : x.off = false) : keysZ x p = (x.now.map (·.1)).filter (isPre p) := by unfold keysZ; rw [if_neg (by rw [h]; simp)]
set_option maxRecDepth 100000 in
set_option maxHeartbeats 4000000 in
theorem skeys_calls (K : Nat) (hK : K ≤ 2097152) (p : ByteArray) (w : World) (g bn bd : Nat) (v : Value) (x : Fld) (h : PSF w g bn bd v x) (hf : Fine K x) :
    Calls Tryz.prog 37 #[.pointer (some ⟨g, 0, none⟩), .string p] w fun e w' => ∃ ks, e = .returned ks ∧ Row w' w.heap.size 1 ks (keysZ x p).length (strV (keysZ x p)) ∧ Below w.heap.size w w' := by
  have c1 := h.c1
  have c5 := h.c5
  have H := Lib.hid h
  have HF := Lib.hid hf
  by_cases ho : x.off = true
  · rw [keys_1 ho]
    rw [ho] at c5
    clear h hf
    go_enter Tryz.func37, Tryz.ntmps37
    go_wp2
    go_ret
    exact ⟨_, rfl, Row.nil _ _ _, Below.refl _ _⟩
  · have ho' : x.off = false := by simpa using ho
    rw [keys_2 ho']
    rw [ho'] at c5
    obtain ⟨i0, hi, hz0, hz1, hz2⟩ := info_parts infoStrK
    have hlen : x.now.length ≤ 2097152 := by have := hf.ln; omega
    have CH := Lib.hid (fun k w => hasprefix_calls k p w)
    have HS := Lib.hid hf.sn
    have HM := Lib.hid h.now
    clear h hf ho ho'
    obtain ⟨l, hl⟩ : ∃ l, x.now = l := ⟨_, rfl⟩
    rw [hl] at hlen HS HM
    rw [hl]
    clear hl
    go_enter Tryz.func37, Tryz.ntmps37
    go_wp2_with (at_range; refine wpList_range_rec _ rfl _ rfl bn l rfl HM.out ?_; intro w0 hrg0 hg0 hs0; have HR0 := Lib.hid hrg0; have HB0 := Lib.hid ((Below.refl w.heap.size w).grown hg0 (Nat.le_refl _) (fun k hk => by cases hk)); have hsz0 : w0.heap.size = w.heap.size + 1 := hs0; clear hrg0 hg0 hs0; go_frame)
    have hbn := HM.out.lt
    go_loopw [5, 6] (fun kv _ wr => ∃ (rest : List Rec) (ks : List (List UInt8)), ks.length ≤ l.length ∧ Hid (RangeAt wr bn w.heap.size l rest) ∧ Hid (Sorted rest ∧ ∀ y ∈ rest, y ∈ l) ∧ Hid (wr.ownsRow (w.heap.size + 1) 9 1 kv ks.length (ks.map encStr)) ∧ Hid ((ks ++ keyL ((rest.map (·.1)).filter (isPre p))).Perm (keyL ((l.map (·.1)).filter (isPre p)))) ∧ Hid (Below w.heap.size w wr) ∧ w.heap.size + 1 ≤ wr.heap.size) (fun _ _ wr => wr.rangeLeft bn w.heap.size)
    case atStart => exact ⟨l, [], by simp, HR0, Lib.hid ⟨HS.out, fun y hy => hy⟩, Lib.hid ⟨rfl, .inl ⟨rfl, rfl⟩⟩, Lib.hid (List.Perm.refl _), HB0, by omega⟩
    case round =>
      obtain ⟨rest, ks, hkl, HR, HSR, HO, HP, HB, hsz⟩ := hrel
      go_wp2_with (at_next; refine wpList_next_rec _ rfl _ rfl bn w.heap.size l rest rfl HR.out HS.out ?_ ?_)
      · intro hd
        subst hd
        have hperm : ks.Perm (keyL ((l.map (·.1)).filter (isPre p))) := by have := HP.out; simpa [keyL] using this
        have hpw : ((l.map (·.1)).filter (isPre p)).Pairwise fun a b => kLt a b = true := (sorted_fst HS.out).filter _
        have hlen2 : ks.length = ((l.map (·.1)).filter (isPre p)).length := by rw [hperm.length_eq]; simp [keyL]
        have HPM := Lib.hid hperm
        have HPW := Lib.hid hpw
        have HL2 := Lib.hid hlen2
        clear hperm hpw hlen2
        rcases HO.out.2 with ⟨hv, h0⟩ | ⟨g', cap', cur, hv, hb', hk', hn', hc', hs', ht'⟩
        · subst hv
          have hz : (l.map (·.1)).filter (isPre p) = [] := List.eq_nil_of_length_eq_zero (by rw [← HL2.out]; exact h0)
          have HZ := Lib.hid hz
          have CN := Lib.hid (Tryz.slices_Sort_string_none none 0 wr)
          clear h0 hz
          go_wp2_with (go_at_call 51; (with_reducible refine CN.out.mono ?_); rintro e w3 ⟨rfl, rfl⟩)
          go_ret
          exact ⟨_, rfl, by rw [HZ.out]; exact Row.nil _ _ _, HB.out⟩
        · subst hv
          have CS := Lib.hid (sort_calls (w.heap.size + 1) g' cap' _ HPW.out ks HPM.out (by omega) wr HO.out)
          have hgb := hb'
          clear hk' hs' ht' hn' hc'
          go_wp2_with (go_at_call 51; (with_reducible refine CS.out.mono ?_); rintro e w3 ⟨rfl, ho3, hg3⟩; have HO3 := Lib.hid ho3; have HB3 := Lib.hid (HB.out.grown hg3 (by omega) (fun k hk => by injection hk with hk; omega)); clear ho3 hg3)
          go_ret
          refine ⟨_, rfl, ?_, HB3.out⟩
          have hr := Row.ofOwns HO3.out
          rw [HL2.out] at hr
          rw [HL2.out]
          exact hr.mono (by omega)
      · intro k d w1 hm hr1 hlt hg1 hs1 hen
        have hstep := pre_step (p := p) HSR.out.1 hm
        have hle : ks.length + 1 ≤ l.length ∨ isPre p k = false := by
          cases hpk : isPre p k
          · exact .inr rfl
          · left
            have h1 := HP.out.length_eq
            have h2 := hstep.length_eq
            have h3 : ((l.map (·.1)).filter (isPre p)).length ≤ l.length := by have := List.length_filter_le (isPre p) (l.map (·.1)); simpa using this
            rw [hpk] at h2
            simp only [keyL, List.length_append, List.length_map, if_true, List.length_cons, List.length_nil] at h1 h2
            omega
        have HSR1 := Lib.hid (show Sorted (cutL k rest) ∧ ∀ y ∈ cutL k rest, y ∈ l from ⟨sorted_cut HSR.out.1, fun y hy => HSR.out.2 y (mem_cut.1 hy).1⟩)
        have HB1 := Lib.hid (HB.out.grown hg1 (by omega) (fun j hj => by injection hj with hj; omega))
        have HR1 := Lib.hid hr1
        have HLT := Lib.hid hlt
        have hne : (some w.heap.size : Option Nat) ≠ _ := HR.out.ne_row HO.out
        have HO1 := Lib.hid (HO.out.kept hg1 (.inr hne.symm))
        have C1 := Lib.hid (fun w => CH.out k w)
        have hsz1 : w.heap.size + 1 ≤ w1.heap.size := by omega
        cases hpk : isPre p k
        · simp only [hpk] at C1
          have HP1 : Hid ((ks ++ keyL (((cutL k rest).map (·.1)).filter (isPre p))).Perm (keyL ((l.map (·.1)).filter (isPre p)))) := Lib.hid (by
            refine List.Perm.trans (List.Perm.append_left ks ?_) HP.out
            rw [hpk] at hstep
            exact (hstep.map (fun k => k.data.toList)).symm)
          clear hr1 hlt hg1 hs1 hm hstep hle hpk hne
          go_wp2_with (go_at_call 50; (with_reducible refine (C1.out _).mono ?_); rintro e w2 ⟨rfl, rfl⟩)
          exact ⟨⟨cutL k rest, ks, hkl, HR1, HSR1, HO1, HP1, HB1, hsz1⟩, HLT.out⟩
        · simp only [hpk] at C1
          have hkl2 : ks.length + 1 ≤ l.length := by
            rcases hle with h | h
            · exact h
            · rw [hpk] at h; cases h
          have HP1 : Hid (((ks ++ [k.data.toList]) ++ keyL (((cutL k rest).map (·.1)).filter (isPre p))).Perm (keyL ((l.map (·.1)).filter (isPre p)))) := Lib.hid (by
            rw [List.append_assoc]
            refine List.Perm.trans (List.Perm.append_left ks ?_) HP.out
            rw [hpk] at hstep
            exact (hstep.map (fun k => k.data.toList)).symm)
          have hmap : (ks ++ [k.data.toList]).map encStr = ks.map encStr ++ [.string k] := by
            rw [List.map_append]
            show _ ++ [Value.string ⟨k.data.toList.toArray⟩] = _
            simp
          have HMAP := Lib.hid hmap
          have HNB := Lib.hid (row_ne_low HO1.out (show bn < w.heap.size + 1 by omega))
          have HNR := Lib.hid (HR1.out.ne_row HO1.out)
          have HLOW := Lib.hid (fun j hj => (HO1.out.lt j hj).1)
          clear hr1 hlt hg1 hs1 hm hstep hle hpk hne hmap
          go_wp2_with (first
            | (go_at_call 50; (with_reducible refine (C1.out _).mono ?_); rintro e w2 ⟨rfl, rfl⟩)
            | (at_builtin; refine wpList_append_own _ rfl _ _ 65 rfl (w.heap.size + 1) 9 i0 (.string ⟨#[]⟩) 1 16 Tryz.underlying65 hi hz0 hz1 hz2 rfl (by decide) _ _ _ rfl (HO1.out.alloc _) ⟨w1.heap.size, 0, none⟩ 1 1 [.string k] rfl rfl (cell_one_new _ _ _) (by intro u hu; simp at hu; subst hu; rfl) (by unfold maxLen; omega) (by omega) (by simp; omega) ?_
               intro v2 w2 hown2 hgrow2 _
               have hga : w1.grownBy (w1.alloc (.cells #[Value.string k] 9)) none := World.grownBy_alloc w1 _ none
               have HR2 := Lib.hid ((HR1.out.alloc (.cells #[Value.string k] 9)).kept hgrow2 HNB.out HNR.out)
               have HLT2 := Lib.hid (show w2.rangeLeft bn w.heap.size < wr.rangeLeft bn w.heap.size by {
                 rw [rangeLeft_kept (HR1.out.alloc (.cells #[Value.string k] 9)) hgrow2 HNB.out HNR.out, rangeLeft_kept HR1.out hga (by simp) (by simp)]; exact HLT.out })
               have HB2 := Lib.hid ((HB1.out.alloc (by omega) (.cells #[Value.string k] 9)).grown hgrow2 (by simp; omega) (fun j hj => by { have := HLOW.out j hj; omega }))
               have hsz2 : w.heap.size + 1 ≤ w2.heap.size := by { have := hgrow2.size; simp at this; omega }
               rw [← HMAP.out] at hown2
               have HO2 := Lib.hid hown2
               clear hown2 hgrow2 hga))
          exact ⟨⟨cutL k rest, ks ++ [k.data.toList], by simpa using hkl2, HR2, HSR1, Lib.hid (by have h := HO2.out; simpa using h), HP1, HB2, hsz2⟩, HLT2.out⟩
end Go.Proofs.YtegplajddhiejaaGreat
