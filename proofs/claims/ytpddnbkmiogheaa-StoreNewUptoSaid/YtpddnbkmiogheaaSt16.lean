import Derived.Test.YtpddnbkmiogheaaSt15
import Derived.Test.YtpddnbkmiogheaaSt12
set_option linter.unusedVariables false
namespace Go.Proofs.Ytpddnbkmiogheaa
open Go.RowKit Go.WideMaps Go.Maps Go.MapKept
theorem recV_none : recV none = .tuple #[.string ⟨#[]⟩, .string ⟨#[]⟩, .string ⟨#[]⟩, .bool false] := rfl
theorem recV_some (k d r : List UInt8) : recV (some (k, d, r)) = .tuple #[.string (bytesB k), .string (bytesB d), .string (bytesB r), .bool true] := rfl
def lastK (acc : List Rec) : ByteArray := match acc.getLast? with | none => ⟨#[]⟩ | some r => r.1
def strLen : Value → Nat
  | .string s => s.size
  | _ => 0
theorem lastK_snoc (acc : List Rec) (k d : ByteArray) : lastK (acc ++ [(k, d)]) = k := by unfold lastK; rw [List.getLast?_concat]
theorem bytesB_ne {l : List UInt8} (h : l ≠ []) : (bytesB l).toList.isEmpty = false := by
  rw [ByteArray.toList_eq, list_bytesB]
  cases l with
  | nil => exact absurd rfl h
  | cons a b => rfl
theorem goes_yes {acc : List Rec} {k : ByteArray} (hk : 1 ≤ k.size) (h : goesOn acc k = true) : Op.bytesLess k.toList (lastK acc).toList = false ∧ (k.toList == (lastK acc).toList) = false := by
  have hlt : kLt (lastK acc) k = true := by
    unfold goesOn at h
    unfold lastK
    split at h
    · rename_i e
      rw [e]
      show bytesBefore [] k.data.toList = true
      have hl : k.data.toList.length = k.size := by simp
      cases hh : k.data.toList with
      | nil => rw [hh] at hl; simp at hl; omega
      | cons a b => rfl
    · rename_i r e
      rw [e]; exact h
  rw [less_kLt]
  refine ⟨kLt_asymm hlt, ?_⟩
  rw [beq_eq_false_iff_ne]
  intro e
  rw [ByteArray.toList_eq, ByteArray.toList_eq] at e
  exact kLt_ne hlt (ByteArray.ext (Array.toList_inj.1 e)).symm
theorem goes_no {acc : List Rec} {k : ByteArray} (h : goesOn acc k = false) : Op.bytesLess k.toList (lastK acc).toList = true ∨ (Op.bytesLess k.toList (lastK acc).toList = false ∧ (k.toList == (lastK acc).toList) = true) := by
  have hlt : kLt (lastK acc) k = false := by
    unfold goesOn at h
    unfold lastK
    split at h
    · cases h
    · rename_i r e
      rw [e]; exact h
  rw [less_kLt]
  by_cases e : k = lastK acc
  · right
    rw [← e]
    exact ⟨kLt_irrefl _, by simp⟩
  · rcases kLt_or e with h1 | h1
    · exact .inl h1
    · rw [hlt] at h1; cases h1
theorem cutpre_calls (s p : ByteArray) (w : World) : Calls Try.prog 71 #[.string s, .string p] w fun e w' => e = .returned (.tuple #[.string ⟨(Lib.trimPrefix s.data.toList p.data.toList).toArray⟩, .bool (Lib.hasPrefix s.data.toList p.data.toList)]) ∧ w = w' :=
  (Try.strings_CutPrefix s p w).mono fun _ _ h => ⟨h.1, h.2.symm⟩
theorem sopen_no (image : ByteArray) (c : Int) (hc : goesB c = false) (w : World) : Calls Try.prog 35 #[.string image, .int .i64 c] w fun e w' => e = .returned (.tuple #[.pointer none, .int .i64 10]) ∧ w = w' := by
  have CG := Lib.hid (fun w => sgoes_calls c w)
  rw [hc] at CG
  clear hc
  go_enter Try.func35, Try.ntmps35
  go_wp2_with (go_at_call 39; (with_reducible refine (CG.out _).mono ?_); rintro e w1 ⟨rfl, rfl⟩)
  go_ret2
  exact ⟨rfl, rfl⟩
/-- What an Open leaves. -/
def Opened (w : World) (c : Int) (o : Option (List Rec)) (e : Ending) (w' : World) : Prop :=
  Below w.heap.size w w' ∧ ((o = none ∧ e = .returned (.tuple #[.pointer none, .int .i64 125])) ∨
    ∃ l g bn bd, o = some l ∧ e = .returned (.tuple #[.pointer (some ⟨g, 0, none⟩), .int .i64 0]) ∧ PSF w' g bn bd (.slice none 0 0) (fieldsOf c l) ∧ (∀ m ∈ foot g bn bd (.slice none 0 0), w.heap.size ≤ m))
set_option maxRecDepth 100000 in
set_option maxHeartbeats 4000000 in
theorem sopen_yes (image : ByteArray) (hi : image.size ≤ 4398046511104) (c : Int) (hc : goesB c = true) (w : World) : Calls Try.prog 35 #[.string image, .int .i64 c] w (Opened w c (openL image)) := by
  have CG := Lib.hid (fun w => sgoes_calls c w)
  rw [hc] at CG
  have hmm := @run_makeMap Try.prog
  have CP := Lib.hid (fun w => cutpre_calls image ⟨#[83]⟩ w)
  have hil : image.data.toList.length = image.size := by simp
  clear hc
  cases hl : image.data.toList with
  | nil =>
    have hz : openL image = none := by unfold openL; rw [hl]
    rw [hz]
    have e1 : Lib.hasPrefix image.data.toList (⟨#[83]⟩ : ByteArray).data.toList = false := by rw [hl]; rfl
    have e2 : Lib.trimPrefix image.data.toList (⟨#[83]⟩ : ByteArray).data.toList = [] := by rw [hl]; rfl
    rw [e1, e2] at CP
    clear hz e1 e2 hl hil
    go_enter Try.func35, Try.ntmps35
    go_wp2_with (first
      | (go_at_call 39; (with_reducible refine (CG.out _).mono ?_); rintro e w1 ⟨rfl, rfl⟩)
      | (go_at_call 71; (with_reducible refine (CP.out _).mono ?_); rintro e w1 ⟨rfl, rfl⟩))
    go_ret2
    exact ⟨Below.refl _ _, .inl ⟨rfl, rfl⟩⟩
  | cons a R =>
    by_cases ha : a.toNat = 83
    · have hz : openL image = parseN R.length R [] := by unfold openL; rw [hl]; simp only; rw [if_pos ha]
      rw [hz]
      have ha2 : a = 83 := UInt8.toNat_inj.1 ha
      have e1 : Lib.hasPrefix image.data.toList (⟨#[83]⟩ : ByteArray).data.toList = true := by rw [hl, ha2]; rfl
      have e2 : Lib.trimPrefix image.data.toList (⟨#[83]⟩ : ByteArray).data.toList = R := by rw [hl, ha2]; rfl
      rw [e1, e2] at CP
      have hRl : R.length ≤ 4398046511104 := by rw [hl] at hil; simp at hil; omega
      have hM := SMap.made w
      have HM := Lib.hid hM
      obtain ⟨P, hP⟩ : ∃ P, parseN R.length R [] = P := ⟨_, rfl⟩
      rw [hP]
      have HPP := Lib.hid hP
      clear hz e1 e2 hl hil ha ha2 hM hP
      go_enter Try.func35, Try.ntmps35
      go_wp2_with (first
        | (go_at_call 39; (with_reducible refine (CG.out _).mono ?_); rintro e w1 ⟨rfl, rfl⟩)
        | (go_at_call 71; (with_reducible refine (CP.out _).mono ?_); rintro e w1 ⟨rfl, rfl⟩))
      have HB0 := Lib.hid ((Below.refl w.heap.size w).alloc (Nat.le_refl _) (.map #[] 0))
      have CPUT := Lib.hid (fun (k d : ByteArray) hk hd w l h hl => rsput_calls k d hk hd w w.heap.size l h hl)
      go_loopw [6, 9, 10, 11, 12, 13, 14] (fun rv lv uv _ _ _ _ wr => ∃ (r : List UInt8) (acc : List Rec) (lk : ByteArray) (u : Nat), rv = .string (bytesB r) ∧ lv = .string lk ∧ uv = .int .i64 u ∧ acc.length * 6 + r.length ≤ R.length ∧ Hid (lk = lastK acc ∧ u = costL acc) ∧ Hid (Sorted acc ∧ ∀ z ∈ acc, Fit z) ∧ Hid (parseN r.length r acc = P) ∧ Hid (SMap wr w.heap.size acc) ∧ Hid (Below w.heap.size w wr) ∧ w.heap.size < wr.heap.size) (fun rv _ _ _ _ _ _ _ => strLen rv)
      case atStart => exact ⟨R, [], ⟨#[]⟩, 0, rfl, rfl, rfl, by simp, Lib.hid ⟨rfl, rfl⟩, Lib.hid ⟨List.Pairwise.nil, fun z hz => (by cases hz)⟩, HPP, HM, HB0, by simp⟩
      case round =>
        obtain ⟨r, acc, lk, u, rfl, rfl, rfl, hlen, HLU, HSF, HPR, HMR, HBR, hszr⟩ := hrel
        have hul : u ≤ 4611686018427387904 := by
          have h1 := cost_le HSF.out.2
          have h2 := HLU.out.2
          omega
        by_cases hr : r = []
        · subst hr
          have hP2 : P = some acc := by rw [← HPR.out]; rfl
          have hemp : (bytesB []).toList.isEmpty = true := by rw [ByteArray.toList_eq, list_bytesB]; rfl
          have CM := Lib.hid (smade_calls w.heap.size u c acc wr HMR.out)
          have HP2 := Lib.hid hP2
          clear hP2
          go_wp2_with (go_at_call 40; (with_reducible refine CM.out.mono ?_); rintro e w2 ⟨g, bn, rfl, hp, hg, hbn, hb⟩; have HP := Lib.hid hp; have HG := Lib.hid hg; have HBN := Lib.hid hbn; have HB := Lib.hid hb; clear hp hg hbn hb)
          go_ret2
          have h1 := HG.out
          have h2 := HBN.out
          have h3 := HBR.out.size
          refine ⟨HBR.out.trans (HB.out.mono h3), .inr ⟨acc, g, bn, w.heap.size, HP2.out, rfl, ?_, fun m hm => ?_⟩⟩
          · have h := HP.out
            rw [HLU.out.2] at h
            exact h
          · rcases mem_foot.1 hm with e | e | e | e
            · omega
            · omega
            · omega
            · cases e
        · have hne := bytesB_ne hr
          have hpos : 0 < (bytesB r).size := by rw [bytesB_size]; exact List.length_pos_iff.2 hr
          have hbs := bytesB_size r
          have CR0 := srecord_calls (bytesB r) hpos (by omega)
          rw [list_bytesB] at CR0
          have hpar := HPR.out
          obtain ⟨fu, hfu⟩ : ∃ fu, r.length = fu + 1 := ⟨r.length - 1, by rw [hbs] at hpos; omega⟩
          rw [hfu, parseN, if_neg hr] at hpar
          cases hone : oneL r with
          | none =>
            rw [hone] at hpar CR0
            rw [recV_none] at CR0
            have CR := Lib.hid (fun w => CR0 w)
            have HPN := Lib.hid hpar
            clear hpar CR0 hone hfu hbs
            generalize bytesB r = s at *
            go_wp2_with (go_at_call 72; (with_reducible refine (CR.out _).mono ?_); rintro e w2 ⟨rfl, nq, rfl⟩)
            go_ret2
            exact ⟨⟨HBR.out.os, HBR.out.tape, HBR.out.output, HBR.out.size, HBR.out.block⟩, .inl ⟨HPN.out.symm, rfl⟩⟩
          | some z =>
            obtain ⟨k, d, r2⟩ := z
            rw [hone] at hpar CR0
            rw [recV_some] at CR0
            obtain ⟨k1, k2, k3, k4⟩ := oneL_shape hone
            have hks := bytesB_size k
            have hds := bytesB_size d
            have hr2s := bytesB_size r2
            have CR := Lib.hid (fun w => CR0 w)
            simp only at hpar
            have hlk := HLU.out.1
            cases hg : goesOn acc (bytesB k)
            · rw [hg, if_neg (by simp)] at hpar
              have HPN := Lib.hid hpar
              have hno := goes_no hg
              rw [← hlk] at hno
              clear hpar CR0 hone hfu hbs hlk hg
              generalize bytesB r = s at *
              generalize bytesB k = kk at *
              generalize bytesB d = dd at *
              generalize bytesB r2 = rr at *
              rcases hno with h1 | ⟨h1, h2⟩
              · go_wp2_with (go_at_call 72; (with_reducible refine (CR.out _).mono ?_); rintro e w2 ⟨rfl, nq, rfl⟩)
                go_ret2
                exact ⟨⟨HBR.out.os, HBR.out.tape, HBR.out.output, HBR.out.size, HBR.out.block⟩, .inl ⟨HPN.out.symm, rfl⟩⟩
              · go_wp2_with (go_at_call 72; (with_reducible refine (CR.out _).mono ?_); rintro e w2 ⟨rfl, nq, rfl⟩)
                go_ret2
                exact ⟨⟨HBR.out.os, HBR.out.tape, HBR.out.output, HBR.out.size, HBR.out.block⟩, .inl ⟨HPN.out.symm, rfl⟩⟩
            · rw [hg, if_pos rfl] at hpar
              have hyes := goes_yes (k := bytesB k) (by rw [hks]; exact k1) hg
              rw [← hlk] at hyes
              obtain ⟨y1, y2⟩ := hyes
              obtain ⟨s1, s2, s3⟩ := sorted_snoc (d := bytesB d) HSF.out.1 hg
              have hfu2 : parseN r2.length r2 (acc ++ [(bytesB k, bytesB d)]) = P := by
                rw [← hpar]; exact parse_fuel _ _ _ _ (Nat.le_refl _) (by omega)
              have HPR2 := Lib.hid hfu2
              have hfz : Fit (bytesB k, bytesB d) := ⟨by rw [hks]; exact k1, by rw [hks]; exact k2, by rw [hds]; exact k3⟩
              have HSF2 := Lib.hid (show Sorted (acc ++ [(bytesB k, bytesB d)]) ∧ ∀ z ∈ acc ++ [(bytesB k, bytesB d)], Fit z from ⟨s1, fun z hz => by
                rcases List.mem_append.1 hz with hz | hz
                · exact HSF.out.2 z hz
                · simp at hz; subst hz; exact hfz⟩)
              have hlk2 := lastK_snoc acc (bytesB k) (bytesB d)
              have hcs := cost_snoc acc (bytesB k, bytesB d)
              have HLK2 := Lib.hid hlk2
              have CP1 := Lib.hid (fun n => rsput_calls (bytesB k) (bytesB d) (by unfold maxLen; omega) (by unfold maxLen; omega) (wr.drewN n) w.heap.size acc (HMR.out.drewN n) (by unfold maxLen; omega))
              rw [s2] at CP1
              have CC := Lib.hid (fun w => scounts_calls (bytesB k) (bytesB d) (by omega) (by omega) w)
              have hco : costR (bytesB k, bytesB d) ≤ 1048656 := by have h1 := hfz.2.1; have h2 := hfz.2.2; show (bytesB k).size + (bytesB d).size + 16 ≤ _; simp only at h1 h2; omega
              have HU := Lib.hid HLU.out.2
              obtain ⟨C, hC⟩ : ∃ C, costR (bytesB k, bytesB d) = C := ⟨_, rfl⟩
              rw [hC] at CC hcs hco
              have HCS := Lib.hid hcs
              have hl2 : (acc ++ [(bytesB k, bytesB d)]).length * 6 + r2.length ≤ R.length := by simp only [List.length_append, List.length_cons, List.length_nil]; omega
              have HM2 : Hid (strLen (.string (bytesB r2)) < strLen (.string (bytesB r))) := Lib.hid (by show (bytesB r2).size < (bytesB r).size; omega)
              have HSZ := Lib.hid (And.intro hks (And.intro hds hr2s))
              clear hpar CR0 hone hfu hfu2 hbs hlk hg s1 s2 s3 hfz hlk2 hcs hks hds hr2s hC k4 hlen
              obtain ⟨acc2, hacc2⟩ : ∃ a, acc ++ [(bytesB k, bytesB d)] = a := ⟨_, rfl⟩
              rw [hacc2] at HPR2 HSF2 HLK2 CP1 HCS hl2
              clear hacc2
              obtain ⟨s, hs⟩ : ∃ s, bytesB r = s := ⟨_, rfl⟩
              obtain ⟨kk, hkk⟩ : ∃ s, bytesB k = s := ⟨_, rfl⟩
              obtain ⟨dd, hdd⟩ : ∃ s, bytesB d = s := ⟨_, rfl⟩
              obtain ⟨rr, hrr⟩ : ∃ s, bytesB r2 = s := ⟨_, rfl⟩
              rw [hs] at hne hpos CR HM2
              rw [hs]
              rw [hkk] at CR y1 y2 HLK2 CP1 CC
              rw [hdd] at CR CP1 CC
              rw [hrr] at CR HM2
              have HRR := Lib.hid hrr
              clear hs hkk hdd hrr
              go_wp2_with (first
                | (go_at_call 72; (with_reducible refine (CR.out _).mono ?_); rintro e w2 ⟨rfl, nq, rfl⟩)
                | (go_at_call 57; (with_reducible refine (CP1.out _).mono ?_); rintro e w2 ⟨rfl, hs2, hg2, hz2⟩
                   have HS2 := Lib.hid hs2
                   have HB2 := Lib.hid (show Below w.heap.size w w2 from (show Below w.heap.size w (wr.drewN nq) from ⟨HBR.out.os, HBR.out.tape, HBR.out.output, HBR.out.size, HBR.out.block⟩).grown hg2 (by simp; omega) (fun j hj => by { injection hj with hj; omega }))
                   have hsz2 : w.heap.size < w2.heap.size := by { have := hg2.size; simp at this; omega }
                   clear hs2 hg2 hz2)
                | (go_at_call 55; (with_reducible refine (CC.out _).mono ?_); rintro e w3 ⟨rfl, rfl⟩))
              exact ⟨⟨r2, acc2, kk, u + C, by rw [HRR.out], rfl, by go_num, hl2, Lib.hid ⟨HLK2.out.symm, by have := HU.out; have := HCS.out; omega⟩, HSF2, HPR2, HS2, HB2, hsz2⟩, HM2.out⟩
    · have hz : openL image = none := by unfold openL; rw [hl]; simp only; rw [if_neg ha]
      rw [hz]
      have ha2 : ((83 : UInt8) == a) = false := by
        rw [beq_eq_false_iff_ne]
        intro e; subst e; exact ha rfl
      have e1 : Lib.hasPrefix image.data.toList (⟨#[83]⟩ : ByteArray).data.toList = false := by
        rw [hl]
        show ([83] : List UInt8).isPrefixOf (a :: R) = false
        simp [List.isPrefixOf, ha2]
      have CP2 : Hid (∀ w, ∃ x, Calls Try.prog 71 #[.string image, .string ⟨#[83]⟩] w fun e w' => e = .returned (.tuple #[.string x, .bool false]) ∧ w = w') := Lib.hid (fun w => ⟨_, by have h := CP.out w; rw [e1] at h; exact h⟩)
      clear hz e1 hl hil ha ha2 CP
      obtain ⟨xx, hxx⟩ := CP2.out w
      have CP3 := Lib.hid hxx
      clear hxx
      go_enter Try.func35, Try.ntmps35
      go_wp2_with (first
        | (go_at_call 39; (with_reducible refine (CG.out _).mono ?_); rintro e w1 ⟨rfl, rfl⟩)
        | (go_at_call 71; (with_reducible refine CP3.out.mono ?_); rintro e w1 ⟨rfl, rfl⟩))
      go_ret2
      exact ⟨Below.refl _ _, .inl ⟨rfl, rfl⟩⟩
end Go.Proofs.Ytpddnbkmiogheaa
