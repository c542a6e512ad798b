import Derived.Test.YtegplajddhiejaaGreatMgLoneMake20
set_option linter.unusedVariables false
set_option linter.unusedSimpArgs false
namespace Go.Proofs.YtegplajddhiejaaGreat
open Go.RowKit Go.WideMaps Go.Maps Go.MapKept
/-! What does not belong to the list is taken out: the program's. -/
theorem Here.drew {w w' : World} {F : List Nat} {P : Asr} (h : Here w F P w') : Here w F P w'.drew := h.keep ⟨rfl, rfl, rfl, Nat.le_refl _, fun _ _ => rfl⟩
/-- An engine's cells. -/
def engC (g : Nat) (age : Int) (gone : Bool) (width s : Int) (lv : Value) (nodes : Int) : List Value := [.pointer (some ⟨g, 0, none⟩), .int .i64 age, .bool gone, .int .i64 width, .int .i64 s, lv, .int .i64 nodes]
set_option maxRecDepth 100000 in
set_option maxHeartbeats 4000000 in
theorem lclear_tri {J : Nat} (hJ : 2 * J ≤ 2097151) (s : Int) (s1 : s ≤ 9223372036854775807) (g eb : Nat) (age : Int) (gone : Bool) (width : Int) (la : Option Addr) (keep lc : Nat) (nodes : Int) (hkp : keep ≤ 4194304) (w : World) (x : Fld) (ht : Tidy J x) :
    Tri ((PSA g x).b (CellsA eb (engC g age gone width s (.slice la keep lc) nodes))) 32 #[.pointer (some ⟨eb, 0, none⟩)] w
      fun e => Asr.when (e = .returned (.int .i64 (clearZ x s keep).1)) ((PSA g (clearZ x s keep).2).b (CellsA eb (engC g age gone width s (.slice la keep lc) nodes))) := by
  refine Tri.of fun F hP => ?_
  have H0 := Lib.hid (Here.start hP)
  have CN := Lib.hid (fun (k : Int) (y : Fld) (hy : Tidy J y) (w : World) (h : Lives 0 w g y) => pnums_any (by omega) s k s1 w y h hy.fine)
  have CD := Lib.hid (fun (k n : Int) (hn : n ≤ 9223372036854775807) (y : Fld) (hy : Tidy J y) (w : World) (bn bd : Nat) (v : Value) (h : PSF w g bn bd v y) => pdrop_any _ hJ s k n s1 hn w g bn bd v y h hy.fine)
  have HJ := Lib.hid hJ
  have HT := Lib.hid ht
  obtain ⟨z, hz⟩ : ∃ z, clearZ x s keep = z := ⟨_, rfl⟩
  have HZ := Lib.hid hz
  rw [hz]
  obtain ⟨z1, z2⟩ := z
  clear hP ht hz hJ
  go_enter Tryz.func32, Tryz.ntmps32
  go_wp2_with fail
  go_loopw [3] (fun kv wr => ∃ (f : Nat) (y : Fld), f ≤ 255 ∧ kv = .int .i64 (256 - (f : Int)) ∧ Hid (Here w F ((PSA g y).b (CellsA eb (engC g age gone width s (.slice la keep lc) nodes))) wr) ∧ Hid (Tidy J y) ∧ Hid (clearA s keep f (256 - (f : Int)) y = (z1, z2))) (fun kv _ => (256 - intOf kv).toNat)
  case atStart => exact ⟨255, x, by omega, rfl, H0, HT, Lib.hid HZ.out⟩
  case round =>
    obtain ⟨f, y, hf, rfl, HH, HY, HE⟩ := hrel
    by_cases hf0 : f = 0
    · subst hf0
      have he : (0, y) = (z1, z2) := HE.out
      injection he with e1 e2
      subst e1 e2
      go_wp2
      go_ret
      exact HH.out.mono fun F h => ⟨rfl, h⟩
    · obtain ⟨f', rfl⟩ : ∃ f', f = f' + 1 := ⟨f - 1, by omega⟩
      obtain ⟨k, hk⟩ : ∃ k : Int, 256 - ((f' + 1 : Nat) : Int) = k := ⟨_, rfl⟩
      have hk1 : 1 ≤ k ∧ k ≤ 255 := by omega
      have hkf : (f' : Int) = 255 - k := by omega
      have HE2 := Lib.hid (show (if (clearL s k keep (numsP y s k) y).1 ≠ 0 then clearL s k keep (numsP y s k) y else clearA s keep f' (k + 1) (clearL s k keep (numsP y s k) y).2) = (z1, z2) from by have := HE.out; rw [hk] at this; exact this)
      have HKF := Lib.hid hkf
      have HNB := Lib.hid (fun n hn => nums_bound (x := y) (s := s) (k := k) n hn)
      have HNL := Lib.hid (numsP_le HY.out.fine s k)
      simp only [hk]
      clear hf hf0 hk HE hkf
      have cs := HH.out.comm.cells
      have hlt := cs.1
      have Q0 := Lib.hid (show (wr.drew).cell? ⟨eb, 0, none⟩ = some (.pointer (some ⟨g, 0, none⟩)) ∧ (wr.drew).cell? ⟨eb, 4, none⟩ = some (.int .i64 s) from ⟨cs.2.1 0 _ rfl, cs.2.1 4 _ rfl⟩)
      clear cs
      go_wp2_with fail
      go_region_held3 (fun w' => w'.cell? ⟨eb, 0, none⟩ = some (.pointer (some ⟨g, 0, none⟩)) ∧ w'.cell? ⟨eb, 4, none⟩ = some (.int .i64 s))
        (first | exact Q0.out | exact Q2.out | go_keep)
        (first
          | (go_at_call 45; go_split_ands; (with_reducible refine (CN.out k y HY.out _ HH.out.drew.lives).mono ?_); rintro e w2 ⟨nv, rfl, hr, hb⟩
             have HH2 := Lib.hid (HH.out.drew.fresh hb hr)
             have Q2 := Lib.hid (show w2.cell? ⟨eb, 0, none⟩ = some (.pointer (some ⟨g, 0, none⟩)) ∧ w2.cell? ⟨eb, 4, none⟩ = some (.int .i64 s) from ⟨(hb.cell (p := ⟨eb, 0, none⟩) hlt).trans Q0.out.1, (hb.cell (p := ⟨eb, 4, none⟩) hlt).trans Q0.out.2⟩)
             obtain ⟨na, nc, hnv⟩ := hr.slice
             subst hnv
             clear hr hb))
      have HR2 := Lib.hid HH2.out.row
      have HH3 := Lib.hid HH2.out.left
      clear HH2 HH Q2 hlt
      generalize numsP y s k = L at *
      obtain ⟨n, hn⟩ : ∃ n, L.length = n := ⟨_, rfl⟩
      have HLN := Lib.hid hn
      have hnl : n ≤ 4194304 := by have := HNL.out; have := HJ.out; omega
      rw [hn] at HR2 HH3 ⊢
      clear hn HNL
      go_wp2_with fail
      go_loopw [22] (fun iv wq => ∃ (j : Nat) (v : Fld), j ≤ n ∧ iv = .int .i64 j ∧ Hid (Here w F ((PSA g v).b ((RowA 1 (.slice na n nc) n (iV L)).b (CellsA eb (engC g age gone width s (.slice la keep lc) nodes)))) wq) ∧ Hid (Tidy J v) ∧ Hid (clearL s k keep (L.drop j) v = clearL s k keep L y)) (fun iv _ => n - (intOf iv).toNat)
      case atStart => exact ⟨0, y, by omega, rfl, HH3, HY, Lib.hid (by rw [List.drop_zero])⟩
      case round =>
        clear HH3 HR2 Q0
        obtain ⟨j, v, hj, rfl, HV, HYV, HEV⟩ := hrel
        have cs := HV.out.snd.snd.cells1
        have c5 : wr.cell? ⟨eb, 5, none⟩ = some (.slice la keep lc) := cs.2.1 5 _ rfl
        have hlt := cs.1
        have Q0 := Lib.hid (show (wr.drew).cell? ⟨eb, 0, none⟩ = some (.pointer (some ⟨g, 0, none⟩)) ∧ (wr.drew).cell? ⟨eb, 4, none⟩ = some (.int .i64 s) from ⟨cs.2.1 0 _ rfl, cs.2.1 4 _ rfl⟩)
        clear cs
        by_cases hjl : j < n
        · have hjL : j < L.length := by rw [HLN.out]; exact hjl
          have hji : (j : Int) < n := by omega
          obtain ⟨ng, nc2, e0, hng, hnc⟩ := row_int (show Row wr 0 1 (.slice na n nc) L.length (iV L) by rw [HLN.out]; exact HV.out.snd.fst.row1) j hjL
          injection e0 with e1 e2 e3
          subst e1
          clear e2 e3
          obtain ⟨m, hm⟩ : ∃ m, L[j] = m := ⟨_, rfl⟩
          rw [hm] at hnc
          have hmb := HNB.out m (hm ▸ List.getElem_mem hjL)
          have HST := Lib.hid (show clearL s k keep (L.drop j) v = if k = 1 ∧ m < keep then clearL s k keep (L.drop (j + 1)) v else if (bdropG v s k m).1 ≠ 0 then bdropG v s k m else clearL s k keep (L.drop (j + 1)) (bdropG v s k m).2 by rw [clearL_at _ _ _ _ _ hjL, hm])
          obtain ⟨hmb0, hmb1⟩ := hmb
          clear hm hjL
          by_cases hsk : k = 1 ∧ m < keep
          · obtain ⟨rfl, hmk⟩ := hsk
            have hmk2 : decide (m < (keep : Int)) = true := decide_eq_true hmk
            go_wp2
            go_roundw
            case rel => exact ⟨j + 1, v, by omega, by go_num, HV, HYV, Lib.hid (by rw [← HEV.out, HST.out, if_pos ⟨rfl, hmk⟩])⟩
            case measure => simp [intOf]; omega
          · have HEL := Lib.hid (show clearL s k keep (L.drop j) v = if (bdropG v s k m).1 ≠ 0 then bdropG v s k m else clearL s k keep (L.drop (j + 1)) (bdropG v s k m).2 by rw [HST.out, if_neg hsk])
            have CDm := Lib.hid (CD.out k m hmb1 v HYV.out)
            have HTY := Lib.hid (bdrop_tidy HYV.out s k m)
            have hkk : (k = 1 ∧ ¬ m < keep) ∨ ¬ k = 1 := by
              by_cases e : k = 1
              · exact .inl ⟨e, fun h => hsk ⟨e, h⟩⟩
              · exact .inr e
            clear hsk HST
            generalize bdropG v s k m = r at *
            obtain ⟨r1, r2⟩ := r
            simp only at HEL CDm HTY
            have hr0 : r1 = 0 ∨ ¬ r1 = 0 := by omega
            rcases hkk with ⟨rfl, hmk⟩ | hkn
            · have hmk2 : decide (m < (keep : Int)) = false := decide_eq_false hmk
              rcases hr0 with rfl | hr0
              · go_wp2_with fail
                go_region_held3 (fun w' => w'.cell? ⟨eb, 0, none⟩ = some (.pointer (some ⟨g, 0, none⟩)) ∧ w'.cell? ⟨eb, 4, none⟩ = some (.int .i64 s))
                  (first | exact Q0.out | exact Q2.out | go_keep)
                  (first
                    | (go_at_call 46; go_split_ands; (with_reducible refine (HV.out.drew.callP (CDm.out _)).mono ?_); rintro e w2 ⟨rfl, hh⟩
                       have HH5 := Lib.hid hh
                       have Q2 := Lib.hid (show w2.cell? ⟨eb, 0, none⟩ = some (.pointer (some ⟨g, 0, none⟩)) ∧ w2.cell? ⟨eb, 4, none⟩ = some (.int .i64 s) from ⟨hh.snd.snd.cells1.2.1 0 _ rfl, hh.snd.snd.cells1.2.1 4 _ rfl⟩)
                       clear hh))
                go_wp2
                go_roundw
                case rel => exact ⟨j + 1, r2, by omega, by go_num, HH5, HTY, Lib.hid (by rw [← HEV.out, HEL.out, if_neg (by simp)])⟩
                case measure => simp [intOf]; omega
              · have hrb : (r1 == 0) = false := by rw [beq_eq_false_iff_ne]; exact hr0
                have hrd : decide (r1 = 0) = false := decide_eq_false hr0
                have HZ3 := Lib.hid (show (r1, r2) = (z1, z2) by have h1 := HEL.out; rw [if_pos hr0] at h1; have h2 := HE2.out; rw [← HEV.out, h1, if_pos hr0] at h2; exact h2)
                go_wp2_with fail
                go_region_held3 (fun w' => w'.cell? ⟨eb, 0, none⟩ = some (.pointer (some ⟨g, 0, none⟩)) ∧ w'.cell? ⟨eb, 4, none⟩ = some (.int .i64 s))
                  (first | exact Q0.out | exact Q2.out | go_keep)
                  (first
                    | (go_at_call 46; go_split_ands; (with_reducible refine (HV.out.drew.callP (CDm.out _)).mono ?_); rintro e w2 ⟨rfl, hh⟩
                       have HH5 := Lib.hid hh
                       have Q2 := Lib.hid (show w2.cell? ⟨eb, 0, none⟩ = some (.pointer (some ⟨g, 0, none⟩)) ∧ w2.cell? ⟨eb, 4, none⟩ = some (.int .i64 s) from ⟨hh.snd.snd.cells1.2.1 0 _ rfl, hh.snd.snd.cells1.2.1 4 _ rfl⟩)
                       clear hh))
                go_wp2
                go_ret
                have he := HZ3.out
                injection he with e1 e2
                subst e1 e2
                exact (HH5.out.left.snd).mono fun F h => ⟨rfl, h⟩
            · have hkb : (k == 1) = false := by rw [beq_eq_false_iff_ne]; exact hkn
              have hkd : decide (k = 1) = false := decide_eq_false hkn
              rcases hr0 with rfl | hr0
              · go_wp2_with fail
                go_region_held3 (fun w' => w'.cell? ⟨eb, 0, none⟩ = some (.pointer (some ⟨g, 0, none⟩)) ∧ w'.cell? ⟨eb, 4, none⟩ = some (.int .i64 s))
                  (first | exact Q0.out | exact Q2.out | go_keep)
                  (first
                    | (go_at_call 46; go_split_ands; (with_reducible refine (HV.out.drew.callP (CDm.out _)).mono ?_); rintro e w2 ⟨rfl, hh⟩
                       have HH5 := Lib.hid hh
                       have Q2 := Lib.hid (show w2.cell? ⟨eb, 0, none⟩ = some (.pointer (some ⟨g, 0, none⟩)) ∧ w2.cell? ⟨eb, 4, none⟩ = some (.int .i64 s) from ⟨hh.snd.snd.cells1.2.1 0 _ rfl, hh.snd.snd.cells1.2.1 4 _ rfl⟩)
                       clear hh))
                go_wp2
                go_roundw
                case rel => exact ⟨j + 1, r2, by omega, by go_num, HH5, HTY, Lib.hid (by rw [← HEV.out, HEL.out, if_neg (by simp)])⟩
                case measure => simp [intOf]; omega
              · have hrb : (r1 == 0) = false := by rw [beq_eq_false_iff_ne]; exact hr0
                have hrd : decide (r1 = 0) = false := decide_eq_false hr0
                have HZ3 := Lib.hid (show (r1, r2) = (z1, z2) by have h1 := HEL.out; rw [if_pos hr0] at h1; have h2 := HE2.out; rw [← HEV.out, h1, if_pos hr0] at h2; exact h2)
                go_wp2_with fail
                go_region_held3 (fun w' => w'.cell? ⟨eb, 0, none⟩ = some (.pointer (some ⟨g, 0, none⟩)) ∧ w'.cell? ⟨eb, 4, none⟩ = some (.int .i64 s))
                  (first | exact Q0.out | exact Q2.out | go_keep)
                  (first
                    | (go_at_call 46; go_split_ands; (with_reducible refine (HV.out.drew.callP (CDm.out _)).mono ?_); rintro e w2 ⟨rfl, hh⟩
                       have HH5 := Lib.hid hh
                       have Q2 := Lib.hid (show w2.cell? ⟨eb, 0, none⟩ = some (.pointer (some ⟨g, 0, none⟩)) ∧ w2.cell? ⟨eb, 4, none⟩ = some (.int .i64 s) from ⟨hh.snd.snd.cells1.2.1 0 _ rfl, hh.snd.snd.cells1.2.1 4 _ rfl⟩)
                       clear hh))
                go_wp2
                go_ret
                have he := HZ3.out
                injection he with e1 e2
                subst e1 e2
                exact (HH5.out.left.snd).mono fun F h => ⟨rfl, h⟩
        · obtain rfl : j = n := by omega
          have he : clearL s k keep L y = (0, v) := by rw [← HEV.out, ← HLN.out]; exact clearL_end _ _ _ _ _
          have HE3 := Lib.hid (show clearA s keep f' (k + 1) v = (z1, z2) by have := HE2.out; rw [he] at this; simpa using this)
          have HH6 := Lib.hid (HV.out.left.snd)
          have hkf := HKF.out
          clear he Q0 c5 hlt HE2 HEV
          go_wp2
          go_roundw
          case rel => exact ⟨f', v, by omega, by rw [hkf]; go_num, HH6, HYV, Lib.hid (by rw [show 256 - (f' : Int) = k + 1 by omega]; exact HE3.out)⟩
          case measure => simp [intOf]; omega
end Go.Proofs.YtegplajddhiejaaGreat
