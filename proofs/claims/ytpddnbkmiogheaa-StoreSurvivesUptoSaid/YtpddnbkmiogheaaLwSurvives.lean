import Derived.Test.YtpddnbkmiogheaaLd8
import Derived.Test.YtpddnbkmiogheaaSp7
import Derived.Deep.RegionHeld3
set_option linter.unusedVariables false
namespace Go.Proofs.Ytpddnbkmiogheaa
open Go.RowKit Go.WideMaps Go.Maps Go.MapKept
theorem goes_not {c : Int} (h : goesB c = false) : c < 0 ∨ 1073741824 < c := by
  unfold goesB at h
  simp only [decide_eq_false_iff_not] at h
  omega
theorem first_can {B g : Nat} {w : World} {x : Fld} (h : Lives B w g x) (s : Bool × ByteArray) : Apart B (w.alloc (.cells #[.bool s.1, .string s.2] 27)) g x (.slice (some ⟨w.heap.size, 0, none⟩) 1 1) [s] := by
  obtain ⟨bn, bd, u, p, q⟩ := h
  have hB : B ≤ w.heap.size := Nat.le_of_lt (Nat.lt_of_le_of_lt (q g (mem_foot.2 (.inl rfl))) p.lt)
  refine ⟨bn, bd, u, p.alloc _, q, (row_lit w #[.bool s.1, .string s.2] 27 1 2 (by unfold maxLen; omega) rfl).mono hB, fun k hk hm => ?_⟩
  have h1 := p.foot_lt k hm
  injection hk with hk
  have : w.heap.size = k := hk
  omega
theorem can_len {K : Nat} {x : Fld} (h : Fine K x) (key : ByteArray) : (canZ key x).length ≤ K + 1 := by
  have h1 := h.len
  have h2 := List.length_filter_le (fun p : Wr => decide (p.key = key)) x.pend
  unfold canZ
  simp only [List.length_cons, List.length_map]
  omega
theorem lives_drewS {B g : Nat} {w : World} {x : Fld} (h : Lives B w g x) (q : Nat) : Lives B (w.drewN q) g x := by
  obtain ⟨bn, bd, u, p, r⟩ := h
  exact ⟨bn, bd, u, p.drewN q, r⟩
set_option maxRecDepth 100000 in
set_option maxHeartbeats 8000000 in
theorem storeSurvives_walk (c : Int) (l : List OpZ) (key keep : ByteArray) (sv : Value) (W : World) (ho : OpsIn W.heap.size W sv l) (hl : l.length ≤ 1048576) (h1 : key.size ≤ 1048576) (h2 : keep.size ≤ 1048576) :
    Calls Try.prog 4 #[.int .i64 c, sv, .string key, .string keep] W fun e W' => e = .returned (.bool true) ∧ Below W.heap.size W W' := by
  cases hc : goesB c
  · have hcc := goes_not hc
    go_enter Try.func4, Try.ntmps4
    go_wp2_with fail
    (with_reducible refine (lbegun_calls _).mono ?_); rintro e w1 ⟨rfl, hb1⟩
    have HB1 := Lib.hid hb1
    clear hb1
    go_wp2_with fail
    (with_reducible refine (snew_no c hc _).mono ?_); rintro e w2 ⟨rfl, rfl⟩
    by_cases hneg : c < 0
    · clear hcc
      go_wp2
      go_ret
      exact ⟨rfl, HB1.out⟩
    · have hbig : 1073741824 < c := by omega
      clear hcc
      go_wp2
      go_ret
      exact ⟨rfl, HB1.out⟩
  · have HO := Lib.hid ho
    obtain ⟨pa, pc, hsv⟩ := ho.form
    subst hsv
    have HF0 := Lib.hid (newF_fine hc)
    have HC := Lib.hid hc
    have hk4 : key.size ≤ 4194304 := by omega
    have CSE := Lib.hid (fun w g x (h : Lives W.heap.size w g x) => see_lives key hk4 w g x h)
    simp only [seenV] at CSE
    obtain ⟨n, hn⟩ : ∃ n, l.length = n := ⟨_, rfl⟩
    rw [hn] at hl HO
    have HN := Lib.hid hn
    rw [hn]
    clear ho hc hn
    go_enter Try.func4, Try.ntmps4
    go_wp2_with fail
    (with_reducible refine (lbegun_calls _).mono ?_); rintro e w1 ⟨rfl, hb1⟩
    have HB1 := Lib.hid hb1
    clear hb1
    go_wp2_with fail
    (with_reducible refine (new_lives c HC.out _).mono ?_); rintro e w2 ⟨g, rfl, hl2', hb2⟩
    have HL2 := Lib.hid (hl2'.down HB1.out.size)
    have HB2 := Lib.hid (HB1.out.trans (hb2.mono HB1.out.size))
    clear hl2' hb2
    go_wp2_with fail
    (with_reducible refine (CSE.out _ _ _ HL2.out).mono ?_); rintro e w3 ⟨rfl, hb3⟩
    have HL3 := Lib.hid (HL2.out.keep hb3)
    have HB3 := Lib.hid (HB2.out.trans (hb3.mono HB2.out.size))
    clear hb3
    go_wp2_with fail
    have HA3 := Lib.hid (first_can HL3.out (seeZ (newF c) key))
    have HCN := Lib.hid (show canZ key (newF c) = [seeZ (newF c) key] by
      rw [show seeZ (newF c) key = seenL key (newF c).now from see_now HF0.out rfl key]; rfl)
    go_loopw [11, 12] (fun cv iv wr => ∃ (k : Nat), k ≤ n ∧ iv = .int .i64 k ∧ Hid (∃ x, Apart W.heap.size wr g x cv (canZ key x) ∧ Fine (0 + k) x) ∧ Hid (Below W.heap.size W wr)) (fun _ iv _ => n - (intOf iv).toNat)
    case atStart => exact ⟨0, by omega, rfl, Lib.hid ⟨newF c, by rw [HCN.out]; exact HA3.out, HF0.out⟩, Lib.hid (HB3.out.alloc HB3.out.size _)⟩
    case round =>
      obtain ⟨k, hk, rfl, HX, HB⟩ := hrel
      obtain ⟨x, hx1, hx2⟩ := HX.out
      have hzB := HB.out.size
      by_cases hlt : k < n
      · have hkl : k < l.length := by rw [HN.out]; exact hlt
        obtain ⟨gg, off, cc, hv, hg, r0, r1, r2, r3⟩ := (HO.out.below HB.out).cells k hkl
        injection hv with q1 q2 q3
        subst q1
        have hbk : (k : Int) < n := by omega
        have hok := HO.out.ok _ (List.getElem_mem hkl)
        obtain ⟨o, hoo⟩ : ∃ o, l[k] = o := ⟨_, rfl⟩
        rw [hoo] at r0 r1 r2 r3 hok
        have hcl : (canZ key x).length ≤ 4194304 := Nat.le_trans (can_len hx2 key) (by omega)
        have HCL := Lib.hid hcl
        have HA := Lib.hid hx1
        have HOWN := Lib.hid (hx1.own)
        have HFD := Lib.hid (do_fine hx2 hok)
        obtain ⟨hs1, hs2⟩ := can_step hx2 key o
        have CN := Lib.hid (fun w (h : Lives W.heap.size w g x) => down_lives w g x h)
        have CD := Lib.hid (fun w (hb : Below wr.heap.size wr w) => apart_do2 (B := W.heap.size) (K := 0 + k) (w0 := wr) (w := w) (g := g) (by omega) o hok hzB hx1 hb hx2)
        have CK := Lib.hid (fun w => lkept_calls o w)
        have CW := Lib.hid (fun w => lwrites_calls o.kind w)
        have HSE := Lib.hid (fun (h : (doZ x o).2.off = false) => see_now HFD.out h key)
        obtain ⟨offB, hoff⟩ : ∃ b, x.off = b := ⟨_, rfl⟩
        rw [hoff] at hs1
        simp only [hoff] at CN
        obtain ⟨x', hx'⟩ : ∃ y, (doZ x o).2 = y := ⟨_, rfl⟩
        obtain ⟨gA, hgA⟩ : ∃ y, (doZ x o).1 = y := ⟨_, rfl⟩
        rw [hx'] at hs1 hs2 HFD
        rw [hgA] at hs1 hs2
        simp only [hx'] at HSE
        simp only [hx', hgA] at CD
        obtain ⟨tA, nA, eA, aA, bA, cA, dA, gA2⟩ := gA
        obtain ⟨ok, okey, odata, on⟩ := o
        simp only at r0 r1 r2 r3 hs1 hs2 CW
        simp only [opV, gotV, gotA] at CD CK
        have CS := Lib.hid (fun w (h : Lives W.heap.size w g x') => see_lives key hk4 w g x' h)
        simp only [seenV] at CS
        have HFIN := Lib.hid (fun (w3 : World) (cv' : Value) (h1 : Apart W.heap.size w3 g x' cv' (canZ key x')) (h2 : Below W.heap.size W w3) =>
          (show ∃ (k_1 : Nat), k_1 ≤ n ∧ (Value.int .i64 ((k : Int) + 1)) = .int .i64 k_1 ∧ Hid (∃ x, Apart W.heap.size w3 g x cv' (canZ key x) ∧ Fine (0 + k_1) x) ∧ Hid (Below W.heap.size W w3) from
            ⟨k + 1, by omega, by go_num, Lib.hid ⟨x', h1, HFD.out⟩, Lib.hid h2⟩))
        clear q2 q3 hoo hg hx1 hx2 hok hx' hgA hoff hcl HX
        go_wp2_with (first
          | (go_at_call 15; (with_reducible refine (CN.out _ (HA.out.lives.keep ((Below.refl _ _).alloc (Nat.le_refl _) _))).mono ?_); rintro e w2 ⟨rfl, rfl⟩)
          | fail)
        ((with_reducible refine (CD.out _ ((Below.refl _ _).alloc (Nat.le_refl _) _)).mono ?_))
        rintro e w2 ⟨nv, rfl, hr2, ha2, hb2, hp2⟩
        obtain ⟨na, nca, rfl⟩ := hr2.slice
        obtain ⟨b0, b1, b2, b3, hz2⟩ := opBox2 hp2
        have HB2 := Lib.hid ((HB.out.alloc hzB (.cells #[.int .i64 ok, .string okey, .string odata, .int .i64 on] 31)).trans hb2)
        have hz3 := HB2.out.size
        have HA3 := Lib.hid (ha2.keep ((Below.refl _ _).alloc (Nat.le_refl _) (.cells #[.string tA, .slice na nA.length nca, .int .i64 eA, .int .i64 aA, .int .i64 bA, .int .i64 cA, .bool dA, .int .i64 gA2] 34)))
        have HB3 := Lib.hid (HB2.out.alloc hz3 (.cells #[.string tA, .slice na nA.length nca, .int .i64 eA, .int .i64 aA, .int .i64 bA, .int .i64 cA, .bool dA, .int .i64 gA2] 34))
        clear hr2 ha2 hb2 hp2
        by_cases h3 : ok = 3
        · subst h3
          simp only [show decide ((3 : Int) = 1 ∨ (3 : Int) = 2) = false from rfl] at CW
          by_cases he : eA = 0
          · subst he
            have HS1 := Lib.hid (show canZ key x' = [] ++ [seeZ x' key] by
              rw [hs1]
              rw [if_pos (by rfl)]
              rw [← HSE.out (hs2 rfl)]; rfl)
            clear hs1 hs2
            go_wp2_with (first
              | (go_at_call 17; (with_reducible refine (CW.out _).mono ?_); rintro e w5 ⟨rfl, rfl⟩)
              | (go_at_call 14; (with_reducible refine (CS.out _ HA3.out.lives).mono ?_); rintro e w5 ⟨rfl, hb5⟩; have HA5 := Lib.hid (HA3.out.keep hb5).none_of; have HB5 := Lib.hid (HB3.out.trans (hb5.mono HB3.out.size)); clear hb5)
              | (at_builtin; refine wpList_seen _ W.heap.size g x' _ _ rfl _ _ rfl _ [] rfl rfl HA5.out (by simp) HB5.out.size ?_; intro v6 w6 ha6 hb6; have HA6 := Lib.hid ha6; have HB6 := Lib.hid (HB5.out.trans hb6); clear ha6 hb6))
            exact ⟨HFIN.out _ _ (by rw [HS1.out]; exact HA6.out) HB6.out, by simp [intOf]; omega⟩
          · have hq := intNe he
            have HS1 := Lib.hid (show canZ key x' = canZ key x by
              rw [hs1, if_neg (by simp [settledB, he]), if_neg (by simp [wroteB])])
            have HA3 := Lib.hid (show Apart _ _ _ _ _ (canZ key x') by rw [HS1.out]; exact HA3.out)
            clear hs1 hs2 he
            go_wp2_with (go_at_call 17; (with_reducible refine (CW.out _).mono ?_); rintro e w5 ⟨rfl, rfl⟩)
            exact ⟨HFIN.out _ _ HA3.out HB3.out, by simp [intOf]; omega⟩
        · by_cases h5 : ok = 5
          · subst h5
            simp only [show decide ((5 : Int) = 1 ∨ (5 : Int) = 2) = false from rfl] at CW
            have HS1 := Lib.hid (show canZ key x' = [] ++ [seeZ x' key] by
              rw [hs1]
              rw [if_pos (by simp [settledB])]
              rw [← HSE.out (hs2 (by simp [settledB]))]; rfl)
            clear hs1 hs2 h3
            go_wp2_with (first
              | (go_at_call 17; (with_reducible refine (CW.out _).mono ?_); rintro e w5 ⟨rfl, rfl⟩)
              | (go_at_call 14; (with_reducible refine (CS.out _ HA3.out.lives).mono ?_); rintro e w5 ⟨rfl, hb5⟩; have HA5 := Lib.hid (HA3.out.keep hb5).none_of; have HB5 := Lib.hid (HB3.out.trans (hb5.mono HB3.out.size)); clear hb5)
              | (at_builtin; refine wpList_seen _ W.heap.size g x' _ _ rfl _ _ rfl _ [] rfl rfl HA5.out (by simp) HB5.out.size ?_; intro v6 w6 ha6 hb6; have HA6 := Lib.hid ha6; have HB6 := Lib.hid (HB5.out.trans hb6); clear ha6 hb6))
            exact ⟨HFIN.out _ _ (by rw [HS1.out]; exact HA6.out) HB6.out, by simp [intOf]; omega⟩
          · have hq3 := intNe h3
            have hq5 := intNe h5
            have hns : ∀ e, settledB ⟨ok, okey, odata, on⟩ e = false := fun e => by simp [settledB, h3, h5]
            rw [if_neg (by rw [hns]; simp)] at hs1
            by_cases hw : ok = 1 ∨ ok = 2
            · rw [decide_eq_true hw] at CW
              by_cases hk : okey = key
              · have hke := seqB_yes hk
                cases offB
                · by_cases he : eA = 0
                  · subst he
                    have HS1 := Lib.hid (show canZ key x' = canZ key x ++ [leftZ ⟨ok, okey, odata, on⟩] by
                      rw [hs1, if_pos (by simp [wroteB, hw, hk])])
                    clear hs1 hs2 hns hw hk h3 h5
                    go_wp2_with (go_at_call 17; (with_reducible refine (CW.out _).mono ?_); rintro e w5 ⟨rfl, rfl⟩)
                    have HA4 := Lib.hid HA3.out.drew
                    have HB4 := Lib.hid HB3.out.drew
                    go_region_held3 (fun w' => w'.cell? ⟨wr.heap.size, 0, none⟩ = some (.int .i64 ok) ∧ w'.cell? ⟨wr.heap.size, 1, none⟩ = some (.string okey) ∧ w'.cell? ⟨wr.heap.size, 2, none⟩ = some (.string odata) ∧ w'.cell? ⟨wr.heap.size, 3, none⟩ = some (.int .i64 on))
                      (first
                        | (refine ⟨(HC6.out 0).trans ((B5.out 0).trans ?_), (HC6.out 1).trans ((B5.out 1).trans ?_), (HC6.out 2).trans ((B5.out 2).trans ?_), (HC6.out 3).trans ((B5.out 3).trans ?_)⟩ <;> go_keep)
                        | (refine ⟨(B5.out 0).trans ?_, (B5.out 1).trans ?_, (B5.out 2).trans ?_, (B5.out 3).trans ?_⟩ <;> go_keep)
                        | go_keep)
                      (first
                        | (go_at_call 18; go_split_ands; (with_reducible refine (CK.out _).mono ?_); rintro e w5 ⟨rfl, hb5⟩; have HA5 := Lib.hid (HA4.out.keep hb5); have HB5 := Lib.hid (HB4.out.trans (hb5.mono HB4.out.size)); have HZ4 := Nat.lt_succ_of_lt hz2; have HZ5 := Lib.hid (Nat.lt_of_lt_of_le hz2 (Nat.le_trans (Nat.le_succ _) (by simpa using hb5.size))); have B5 := Lib.hid (fun j => Below.cell (p := ⟨wr.heap.size, j, none⟩) hb5 (by simpa using HZ4)); clear HZ4)
                        | (refine step_seen _ W.heap.size g x' _ _ rfl _ _ rfl _ (canZ key x) rfl rfl HA5.out HCL.out HB5.out.size ?_; intro v6 w6 ha6 hb6 hc6; have HA6 := Lib.hid ha6; have HB6 := Lib.hid (HB5.out.trans hb6); have HZ6 := Lib.hid (Nat.lt_of_lt_of_le HZ5.out hb6.size); have HC6 := Lib.hid (fun j => World.cell?_of_block (a := ⟨wr.heap.size, j, none⟩) (hc6 wr.heap.size HZ5.out (HOWN.out))); clear ha6 hb6 hc6))
                    go_wp2
                    exact ⟨HFIN.out _ _ (by rw [HS1.out]; exact HA6.out) HB6.out, by simp [intOf]; omega⟩
                  · by_cases he2 : eA = 124
                    · subst he2
                      have HS1 := Lib.hid (show canZ key x' = canZ key x ++ [leftZ ⟨ok, okey, odata, on⟩] by
                        rw [hs1, if_pos (by simp [wroteB, hw, hk])])
                      clear hs1 hs2 hns hw hk h3 h5
                      go_wp2_with (go_at_call 17; (with_reducible refine (CW.out _).mono ?_); rintro e w5 ⟨rfl, rfl⟩)
                      have HA4 := Lib.hid HA3.out.drew
                      have HB4 := Lib.hid HB3.out.drew
                      go_region_held3 (fun w' => w'.cell? ⟨wr.heap.size, 0, none⟩ = some (.int .i64 ok) ∧ w'.cell? ⟨wr.heap.size, 1, none⟩ = some (.string okey) ∧ w'.cell? ⟨wr.heap.size, 2, none⟩ = some (.string odata) ∧ w'.cell? ⟨wr.heap.size, 3, none⟩ = some (.int .i64 on))
                        (first
                          | (refine ⟨(HC6.out 0).trans ((B5.out 0).trans ?_), (HC6.out 1).trans ((B5.out 1).trans ?_), (HC6.out 2).trans ((B5.out 2).trans ?_), (HC6.out 3).trans ((B5.out 3).trans ?_)⟩ <;> go_keep)
                          | (refine ⟨(B5.out 0).trans ?_, (B5.out 1).trans ?_, (B5.out 2).trans ?_, (B5.out 3).trans ?_⟩ <;> go_keep)
                          | go_keep)
                        (first
                          | (go_at_call 18; go_split_ands; (with_reducible refine (CK.out _).mono ?_); rintro e w5 ⟨rfl, hb5⟩; have HA5 := Lib.hid (HA4.out.keep hb5); have HB5 := Lib.hid (HB4.out.trans (hb5.mono HB4.out.size)); have HZ4 := Nat.lt_succ_of_lt hz2; have HZ5 := Lib.hid (Nat.lt_of_lt_of_le hz2 (Nat.le_trans (Nat.le_succ _) (by simpa using hb5.size))); have B5 := Lib.hid (fun j => Below.cell (p := ⟨wr.heap.size, j, none⟩) hb5 (by simpa using HZ4)); clear HZ4)
                          | (refine step_seen _ W.heap.size g x' _ _ rfl _ _ rfl _ (canZ key x) rfl rfl HA5.out HCL.out HB5.out.size ?_; intro v6 w6 ha6 hb6 hc6; have HA6 := Lib.hid ha6; have HB6 := Lib.hid (HB5.out.trans hb6); have HZ6 := Lib.hid (Nat.lt_of_lt_of_le HZ5.out hb6.size); have HC6 := Lib.hid (fun j => World.cell?_of_block (a := ⟨wr.heap.size, j, none⟩) (hc6 wr.heap.size HZ5.out (HOWN.out))); clear ha6 hb6 hc6))
                      go_wp2
                      exact ⟨HFIN.out _ _ (by rw [HS1.out]; exact HA6.out) HB6.out, by simp [intOf]; omega⟩
                    · have hqe := intNe he
                      have hqe2 := intNe he2
                      have HS1 := Lib.hid (show canZ key x' = canZ key x by
                        rw [hs1, if_neg (by simp [wroteB, he, he2])])
                      have HA3 := Lib.hid (show Apart _ _ _ _ _ (canZ key x') by rw [HS1.out]; exact HA3.out)
                      clear hs1 hs2 hns hw hk h3 h5 he he2
                      go_wp2_with (go_at_call 17; (with_reducible refine (CW.out _).mono ?_); rintro e w5 ⟨rfl, rfl⟩)
                      exact ⟨HFIN.out _ _ HA3.out HB3.out, by simp [intOf]; omega⟩
                · have HS1 := Lib.hid (show canZ key x' = canZ key x by
                    rw [hs1, if_neg (by simp [wroteB])])
                  have HA3 := Lib.hid (show Apart _ _ _ _ _ (canZ key x') by rw [HS1.out]; exact HA3.out)
                  clear hs1 hs2 hns hw hk h3 h5
                  go_wp2_with (go_at_call 17; (with_reducible refine (CW.out _).mono ?_); rintro e w5 ⟨rfl, rfl⟩)
                  exact ⟨HFIN.out _ _ HA3.out HB3.out, by simp [intOf]; omega⟩
              · have hke := textNe hk
                have HS1 := Lib.hid (show canZ key x' = canZ key x by
                  rw [hs1, if_neg (by simp [wroteB, hk])])
                have HA3 := Lib.hid (show Apart _ _ _ _ _ (canZ key x') by rw [HS1.out]; exact HA3.out)
                clear hs1 hs2 hns hw hk h3 h5
                go_wp2_with (go_at_call 17; (with_reducible refine (CW.out _).mono ?_); rintro e w5 ⟨rfl, rfl⟩)
                exact ⟨HFIN.out _ _ HA3.out HB3.out, by simp [intOf]; omega⟩
            · rw [decide_eq_false hw] at CW
              have HS1 := Lib.hid (show canZ key x' = canZ key x by
                rw [hs1, if_neg (by simp [wroteB, hw])])
              have HA3 := Lib.hid (show Apart _ _ _ _ _ (canZ key x') by rw [HS1.out]; exact HA3.out)
              clear hs1 hs2 hns hw h3 h5
              go_wp2_with (go_at_call 17; (with_reducible refine (CW.out _).mono ?_); rintro e w5 ⟨rfl, rfl⟩)
              exact ⟨HFIN.out _ _ HA3.out HB3.out, by simp [intOf]; omega⟩
      · obtain rfl : k = n := by omega
        have HF := Lib.hid hx2
        have hcl := can_len hx2 key
        have hl0 : 0 < (canZ key x).length := by unfold canZ; simp
        obtain ⟨cg, cc3, rfl, hq1, hq2⟩ := hx1.at 0 hl0
        have HL0 := Lib.hid (show (canZ key x)[0]? = some (seenL key x.dur) from rfl)
        have HLA := Lib.hid (show (canZ key x).getLast? = some (seenL key x.now) by rw [List.getLast?_eq_some_getLast (can_ne key x), can_last hx2 key])
        have HMEM := Lib.hid (seen_crash (key := key) keep x.pend 0 hx2.sd)
        have HFC := crash_fine hx2 keep
        have HSEE := Lib.hid (see_now HFC rfl key)
        have HA := Lib.hid hx1
        have HAT := Lib.hid (fun j hj => hx1.at j hj)
        obtain ⟨m, hm⟩ : ∃ m, (canZ key x).length = m + 1 := ⟨(canZ key x).length - 1, by omega⟩
        have HM := Lib.hid hm
        obtain ⟨_, _, hv3, hq3, hq4⟩ := hx1.at m (by omega)
        injection hv3 with e1 e2 e3
        injection e1 with e1
        injection e1 with e1
        subst e1
        have hmb : m ≤ 4194304 := by omega
        have hmm : (0 : Int) < (m : Int) + 1 := by omega
        have CC := Lib.hid (fun w (hb : Below wr.heap.size wr w) => apart_crash2 (B := W.heap.size) (K := 0 + k) (w0 := wr) (w := w) (g := g) (by omega) keep (by omega) hzB hx1 hb hx2)
        have CS := Lib.hid (fun w (h : Lives W.heap.size w g (crashZ x keep)) => see_lives key hk4 w g (crashZ x keep) h)
        have CN := Lib.hid (fun w (h : Lives W.heap.size w g (crashZ x keep)) => down_lives w g (crashZ x keep) h)
        have CP := Lib.hid (fun w (h : Lives W.heap.size w g (crashZ x keep)) => pending_lives w g (crashZ x keep) h)
        simp only [seenV] at CS
        simp only [show (crashZ x keep).off = false from rfl, show (((crashZ x keep).pend.length : Nat) : Int) = 0 from rfl] at CN CP
        rw [hm]
        obtain ⟨y0, hy0⟩ : ∃ y, (canZ key x)[0] = y := ⟨_, rfl⟩
        obtain ⟨ym, hym⟩ : ∃ y, (canZ key x)[m] = y := ⟨_, rfl⟩
        rw [hy0] at hq1 hq2
        rw [hym] at hq3 hq4
        have HY0 := Lib.hid (show (canZ key x)[0]? = some y0 by rw [List.getElem?_eq_getElem hl0, hy0])
        have HYM := Lib.hid (show (canZ key x)[m]? = some ym by rw [List.getElem?_eq_getElem (by omega), hym])
        obtain ⟨y0b, y0d⟩ := y0
        obtain ⟨ymb, ymd⟩ := ym
        simp only [Nat.zero_mul, Nat.zero_add] at hq1 hq2 hq3 hq4
        clear hx1 hx2 hlt hk hcl hl0 hm e2 e3 HFC hy0 hym HX
        go_wp2_with fail
        ((with_reducible refine (CC.out _ ((Below.refl _ _).alloc (Nat.le_refl _) _)).mono ?_)); rintro e w7 ⟨rfl, ha7, hb7, hp7⟩
        have hbx : w7.heap[wr.heap.size]? = some (.cells #[.bool ymb, .string ymd] 27) := by rw [hp7 _ (Nat.le_refl _) (by simp)]; exact heap_alloc_new _ _
        have l0 : w7.cell? ⟨wr.heap.size, 0, none⟩ = some (.bool ymb) := by rw [cell_of_row _ _ _ _ _ _ hbx]; rfl
        have l1 : w7.cell? ⟨wr.heap.size, 1, none⟩ = some (.string ymd) := by rw [cell_of_row _ _ _ _ _ _ hbx]; rfl
        have hz7 := World.block_lt_of_cell? w7 _ l0
        have HA7 := Lib.hid ha7
        have HB7 := Lib.hid ((HB.out.alloc hzB (.cells #[.bool ymb, .string ymd] 27)).trans hb7)
        obtain ⟨sx, hsx⟩ : ∃ s, seeZ (crashZ x keep) key = s := ⟨_, rfl⟩
        have HSX := Lib.hid (show sx = seenL key (crashZ x keep).now by rw [← hsx]; exact HSEE.out)
        simp only [hsx] at CS
        obtain ⟨sb, sd⟩ := sx
        clear ha7 hb7 hp7 hbx hsx
        go_wp2_with fail
        ((with_reducible refine (CS.out _ HA7.out.lives).mono ?_)); rintro e w8 ⟨rfl, hb8⟩
        have l08 := (hb8.cell (p := ⟨wr.heap.size, 0, none⟩) hz7).trans l0
        have l18 := (hb8.cell (p := ⟨wr.heap.size, 1, none⟩) hz7).trans l1
        have hz8 := Nat.lt_of_lt_of_le hz7 hb8.size
        have HA8 := Lib.hid (HA7.out.keep hb8)
        have HB8 := Lib.hid (HB7.out.trans (hb8.mono HB7.out.size))
        obtain ⟨k0, k1⟩ := HA8.out.cells 0 (by rw [HM.out]; omega)
        rw [show (canZ key x)[0]'(by rw [HM.out]; omega) = (y0b, y0d) from (List.getElem?_eq_some_iff.1 HY0.out).2] at k0 k1
        simp only [Nat.zero_mul, Nat.zero_add] at k0 k1
        clear hb8
        have HL9 := Lib.hid (HA8.out.lives.keep ((Below.refl _ _).alloc (Nat.le_refl _) (.cells #[.bool sb, .string sd] 27)))
        have hcg := World.block_lt_of_cell? w8 _ k0
        have hmemx : (sb, sd) ∈ canZ key x := by rw [HSX.out]; exact HMEM.out
        have HMEM2 := Lib.hid hmemx
        clear hmemx
        by_cases hk0 : keep = ⟨#[]⟩
        · have hq0 : keep.toList.isEmpty = true := by rw [hk0, ByteArray.toList_eq]; rfl
          have hq1 : ¬ keep.toList = [1] := fun e => by rw [e] at hq0; cases hq0
          have hs : (sb, sd) = (y0b, y0d) := by
            rw [HSX.out, show (crashZ x keep).now = x.dur from by rw [hk0]; exact crash_empty _ _ _]
            have h := HL0.out
            rw [HY0.out] at h
            injection h with h
            exact h.symm
          injection hs with e1 e2
          subst e1 e2
          clear hk0
          go_wp2_with fail
          go_quiet ((first | (go_at_call 15; exact quiet_same (CN.out _ (lives_drewS HL9.out _))) | (go_at_call 20; exact quiet_same (CP.out _ (lives_drewS HL9.out _)))))
          go_wp2_with fail
          go_loopw [20] (fun iv wr => ∃ (j : Nat), j ≤ m + 1 ∧ iv = .int .i64 j ∧ Hid (∀ i, i < j → (canZ key x)[i]? ≠ some (sb, sd)) ∧ Hid (∃ q, wr = (w8.alloc (.cells #[.bool sb, .string sd] 27)).drewN q)) (fun iv _ => m + 1 - (intOf iv).toNat)
          case atStart => exact ⟨0, by omega, rfl, Lib.hid (fun i hi => by omega), Lib.hid ⟨_, rfl⟩⟩
          case round =>
            obtain ⟨j, hj, rfl, HNE, HW⟩ := hrel
            obtain ⟨q, hq⟩ := HW.out
            subst hq
            by_cases hlt : j < m + 1
            · have hbk : (j : Int) < (m : Int) + 1 := by omega
              have hjl : j < (canZ key x).length := by rw [HM.out]; exact hlt
              obtain ⟨t0, t1⟩ := HA8.out.cells j hjl
              by_cases he : (canZ key x)[j] = (sb, sd)
              · rw [he] at t0 t1
                simp only at t0 t1
                clear he
                go_wp2
                go_quiet (fail)
                go_wp2
                go_ret
                exact ⟨rfl, below_drewQ (below_drewQ (HB8.out.alloc HB8.out.size _) _) _⟩
              · have HNE2 := Lib.hid (show ∀ i, i < j + 1 → (canZ key x)[i]? ≠ some (sb, sd) from fun i hi => by
                  by_cases e : i = j
                  · subst e; rw [List.getElem?_eq_getElem hjl]; exact fun h => he (by injection h)
                  · exact HNE.out i (by omega))
                obtain ⟨y, hy⟩ : ∃ y, (canZ key x)[j] = y := ⟨_, rfl⟩
                rw [hy] at t0 t1 he
                obtain ⟨yb, yd⟩ := y
                simp only at t0 t1
                have hes : (¬ yb = sb) ∨ (yb = sb ∧ ¬ yd.toList = sd.toList) := by
                  by_cases h1 : yb = sb
                  · exact .inr ⟨h1, fun e => he (by
                      subst h1
                      rw [ByteArray.toList_eq, ByteArray.toList_eq] at e
                      rw [ByteArray.ext (Array.toList_inj.1 e)])⟩
                  · exact .inl h1
                clear he hy
                rcases hes with hes | ⟨rfl, hes⟩
                · go_wp2
                  go_quiet (fail)
                  go_wp2
                  exact ⟨⟨j + 1, by omega, by go_num, HNE2, Lib.hid ⟨_, rfl⟩⟩, by simp [intOf]; omega⟩
                · go_wp2
                  go_quiet (fail)
                  go_wp2
                  exact ⟨⟨j + 1, by omega, by go_num, HNE2, Lib.hid ⟨_, rfl⟩⟩, by simp [intOf]; omega⟩
            · exfalso
              obtain ⟨i, hi, he⟩ := List.getElem_of_mem HMEM2.out
              exact HNE.out i (by rw [HM.out] at hi; omega) (by rw [List.getElem?_eq_getElem hi, he])
        · by_cases hk1 : keep = ⟨#[1]⟩
          · have hq1 : keep.toList = [1] := by rw [hk1, ByteArray.toList_eq]
            have hq0 : keep.toList.isEmpty = false := by rw [hq1]; rfl
            have hs : (sb, sd) = (ymb, ymd) := by
              rw [HSX.out, show (crashZ x keep).now = x.now from by rw [hk1, HF.out.now]; exact crash_all _ _ _]
              have h := HLA.out
              rw [List.getLast?_eq_getElem?, HM.out, Nat.add_sub_cancel, HYM.out] at h
              injection h with h
              exact h.symm
            injection hs with e1 e2
            subst e1 e2
            clear hk0 hk1
            go_wp2_with fail
            go_quiet ((first | (go_at_call 15; exact quiet_same (CN.out _ (lives_drewS HL9.out _))) | (go_at_call 20; exact quiet_same (CP.out _ (lives_drewS HL9.out _)))))
            go_wp2_with fail
            go_loopw [20] (fun iv wr => ∃ (j : Nat), j ≤ m + 1 ∧ iv = .int .i64 j ∧ Hid (∀ i, i < j → (canZ key x)[i]? ≠ some (sb, sd)) ∧ Hid (∃ q, wr = (w8.alloc (.cells #[.bool sb, .string sd] 27)).drewN q)) (fun iv _ => m + 1 - (intOf iv).toNat)
            case atStart => exact ⟨0, by omega, rfl, Lib.hid (fun i hi => by omega), Lib.hid ⟨_, rfl⟩⟩
            case round =>
              obtain ⟨j, hj, rfl, HNE, HW⟩ := hrel
              obtain ⟨q, hq⟩ := HW.out
              subst hq
              by_cases hlt : j < m + 1
              · have hbk : (j : Int) < (m : Int) + 1 := by omega
                have hjl : j < (canZ key x).length := by rw [HM.out]; exact hlt
                obtain ⟨t0, t1⟩ := HA8.out.cells j hjl
                by_cases he : (canZ key x)[j] = (sb, sd)
                · rw [he] at t0 t1
                  simp only at t0 t1
                  clear he
                  go_wp2
                  go_quiet (fail)
                  go_wp2
                  go_ret
                  exact ⟨rfl, below_drewQ (below_drewQ (HB8.out.alloc HB8.out.size _) _) _⟩
                · have HNE2 := Lib.hid (show ∀ i, i < j + 1 → (canZ key x)[i]? ≠ some (sb, sd) from fun i hi => by
                    by_cases e : i = j
                    · subst e; rw [List.getElem?_eq_getElem hjl]; exact fun h => he (by injection h)
                    · exact HNE.out i (by omega))
                  obtain ⟨y, hy⟩ : ∃ y, (canZ key x)[j] = y := ⟨_, rfl⟩
                  rw [hy] at t0 t1 he
                  obtain ⟨yb, yd⟩ := y
                  simp only at t0 t1
                  have hes : (¬ yb = sb) ∨ (yb = sb ∧ ¬ yd.toList = sd.toList) := by
                    by_cases h1 : yb = sb
                    · exact .inr ⟨h1, fun e => he (by
                        subst h1
                        rw [ByteArray.toList_eq, ByteArray.toList_eq] at e
                        rw [ByteArray.ext (Array.toList_inj.1 e)])⟩
                    · exact .inl h1
                  clear he hy
                  rcases hes with hes | ⟨rfl, hes⟩
                  · go_wp2
                    go_quiet (fail)
                    go_wp2
                    exact ⟨⟨j + 1, by omega, by go_num, HNE2, Lib.hid ⟨_, rfl⟩⟩, by simp [intOf]; omega⟩
                  · go_wp2
                    go_quiet (fail)
                    go_wp2
                    exact ⟨⟨j + 1, by omega, by go_num, HNE2, Lib.hid ⟨_, rfl⟩⟩, by simp [intOf]; omega⟩
              · exfalso
                obtain ⟨i, hi, he⟩ := List.getElem_of_mem HMEM2.out
                exact HNE.out i (by rw [HM.out] at hi; omega) (by rw [List.getElem?_eq_getElem hi, he])
          · have hq0 : keep.toList.isEmpty = false := by
              cases h : keep.toList with
              | nil => exact absurd (by rw [ByteArray.toList_eq] at h; exact ByteArray.ext (Array.toList_inj.1 h)) hk0
              | cons a r => rfl
            have hq1 : ¬ keep.toList = [1] := fun e => hk1 (by rw [ByteArray.toList_eq] at e; exact ByteArray.ext (Array.toList_inj.1 e))
            clear hk0 hk1
            go_wp2_with fail
            go_quiet ((first | (go_at_call 15; exact quiet_same (CN.out _ (lives_drewS HL9.out _))) | (go_at_call 20; exact quiet_same (CP.out _ (lives_drewS HL9.out _)))))
            go_wp2_with fail
            go_loopw [20] (fun iv wr => ∃ (j : Nat), j ≤ m + 1 ∧ iv = .int .i64 j ∧ Hid (∀ i, i < j → (canZ key x)[i]? ≠ some (sb, sd)) ∧ Hid (∃ q, wr = (w8.alloc (.cells #[.bool sb, .string sd] 27)).drewN q)) (fun iv _ => m + 1 - (intOf iv).toNat)
            case atStart => exact ⟨0, by omega, rfl, Lib.hid (fun i hi => by omega), Lib.hid ⟨_, rfl⟩⟩
            case round =>
              obtain ⟨j, hj, rfl, HNE, HW⟩ := hrel
              obtain ⟨q, hq⟩ := HW.out
              subst hq
              by_cases hlt : j < m + 1
              · have hbk : (j : Int) < (m : Int) + 1 := by omega
                have hjl : j < (canZ key x).length := by rw [HM.out]; exact hlt
                obtain ⟨t0, t1⟩ := HA8.out.cells j hjl
                by_cases he : (canZ key x)[j] = (sb, sd)
                · rw [he] at t0 t1
                  simp only at t0 t1
                  clear he
                  go_wp2
                  go_quiet (fail)
                  go_wp2
                  go_ret
                  exact ⟨rfl, below_drewQ (below_drewQ (HB8.out.alloc HB8.out.size _) _) _⟩
                · have HNE2 := Lib.hid (show ∀ i, i < j + 1 → (canZ key x)[i]? ≠ some (sb, sd) from fun i hi => by
                    by_cases e : i = j
                    · subst e; rw [List.getElem?_eq_getElem hjl]; exact fun h => he (by injection h)
                    · exact HNE.out i (by omega))
                  obtain ⟨y, hy⟩ : ∃ y, (canZ key x)[j] = y := ⟨_, rfl⟩
                  rw [hy] at t0 t1 he
                  obtain ⟨yb, yd⟩ := y
                  simp only at t0 t1
                  have hes : (¬ yb = sb) ∨ (yb = sb ∧ ¬ yd.toList = sd.toList) := by
                    by_cases h1 : yb = sb
                    · exact .inr ⟨h1, fun e => he (by
                        subst h1
                        rw [ByteArray.toList_eq, ByteArray.toList_eq] at e
                        rw [ByteArray.ext (Array.toList_inj.1 e)])⟩
                    · exact .inl h1
                  clear he hy
                  rcases hes with hes | ⟨rfl, hes⟩
                  · go_wp2
                    go_quiet (fail)
                    go_wp2
                    exact ⟨⟨j + 1, by omega, by go_num, HNE2, Lib.hid ⟨_, rfl⟩⟩, by simp [intOf]; omega⟩
                  · go_wp2
                    go_quiet (fail)
                    go_wp2
                    exact ⟨⟨j + 1, by omega, by go_num, HNE2, Lib.hid ⟨_, rfl⟩⟩, by simp [intOf]; omega⟩
              · exfalso
                obtain ⟨i, hi, he⟩ := List.getElem_of_mem HMEM2.out
                exact HNE.out i (by rw [HM.out] at hi; omega) (by rw [List.getElem?_eq_getElem hi, he])
end Go.Proofs.Ytpddnbkmiogheaa
