import Derived.Test.YtpddnbkmiogheaaRs11
import Derived.Test.YtpddnbkmiogheaaSt16
set_option linter.unusedVariables false
namespace Go.Proofs.Ytpddnbkmiogheaa
open Go.RowKit Go.WideMaps Go.Maps Go.MapKept
theorem oneL_rest {l k d r : List UInt8} (h : oneL l = some (k, d, r)) : r = l.drop (5 + k.length + d.length) := by
  cases l with
  | nil => cases h
  | cons c s =>
    have hs := oneL_shape h
    rw [oneL] at h
    split at h
    · cases h
    · rename_i h1
      split at h
      · cases h
      · rename_i h2
        injection h with h
        injection h with e1 h
        injection h with e2 e3
        have k1 : k.length = c.toNat := by rw [← e1, List.length_take]; omega
        have d1 : d.length = num4 (s.drop c.toNat) := by
          rw [← e2, List.length_take, List.length_drop]
          have : (s.drop c.toNat).length = s.length - c.toNat := List.length_drop
          omega
        rw [← e3, k1, d1, List.drop_drop, List.drop_drop]
        rw [show 5 + c.toNat + num4 (s.drop c.toNat) = (c.toNat + 4 + num4 (s.drop c.toNat)) + 1 by omega, List.drop_succ_cons]
        congr 1
        omega
/-- One record more in the durable list, while nothing else stands in the store. -/
theorem RSF.appDur {w w' : World} {g : Nat} {vd v' : Value} {x : Fld} {l : List Rec} (h : RSF w g vd (.slice none 0 0) (.slice none 0 0) x) (hr : Row w' 0 2 v' l.length (recsV l)) (hg : w.grownBy w' vd.ownBlock) (hv : v'.ownBlock = vd.ownBlock ∨ ∃ m, v'.ownBlock = some m ∧ w.heap.size ≤ m) (hx : x.now = [] ∧ x.pend = []) :
    RSF (w'.setCell ⟨g, 1, none⟩ v') g v' (.slice none 0 0) (.slice none 0 0) { x with dur := l } := by
  have ht : Touch vd.ownBlock.toList w w' := (Touch.refl _ _).grown hg (fun k hk => by simp [hk])
  have n1 : g ∉ vd.ownBlock.toList := fun e => h.nd (by simpa using e)
  have hc : ∀ j, w'.cell? ⟨g, j, none⟩ = w.cell? ⟨g, j, none⟩ := fun j => ht.cell (p := ⟨g, j, none⟩) h.lt n1
  have hnd : v'.ownBlock ≠ some g := by
    intro e
    rcases hv with e2 | ⟨m, e2, hm⟩
    · exact h.nd (e2 ▸ e)
    · rw [e2] at e; injection e with e; have := h.lt; omega
  exact { c0 := (cell_other (by omega) _).trans ((hc 0).trans h.c0), c1 := cell_set ((hc 1).trans h.c1) _, c2 := (cell_other (by omega) _).trans ((hc 2).trans h.c2), c3 := (cell_other (by omega) _).trans ((hc 3).trans h.c3), c4 := (cell_other (by omega) _).trans ((hc 4).trans h.c4), c5 := (cell_other (by omega) _).trans ((hc 5).trans h.c5), c6 := (cell_other (by omega) _).trans ((hc 6).trans h.c6),
          fr := fun j => by rw [World.frozen?_setCell]; exact (ht.frozen (p := ⟨g, j, none⟩) h.lt n1).trans (h.fr j), dur := hr.setCell hnd _, now := by show RecL _ _ x.now; rw [hx.1]; exact RecL.nil _,
          row := by show Row _ 0 3 _ x.pend.length (wrsV x.pend); rw [hx.2]; exact Row.nil _ 0 3, nd := hnd, nn := fun e => (by cases e), nw := fun k hk => (by cases hk), lt := by have := ht.size; have := h.lt; simp [World.setCell]; omega }
/-- What the reference's Open leaves. -/
def ROpened (w : World) (c : Int) (o : Option (List Rec)) (e : Ending) (w' : World) : Prop :=
  Below w.heap.size w w' ∧ ((o = none ∧ e = .returned (.tuple #[.pointer none, .int .i64 125])) ∨
    ∃ l g vd vw vv, o = some l ∧ e = .returned (.tuple #[.pointer (some ⟨g, 0, none⟩), .int .i64 0]) ∧ RSF w' g vd vw vv (fieldsOf c l) ∧ (∀ m ∈ rfoot g vd vw vv, w.heap.size ≤ m))
theorem ropen_no (image : ByteArray) (c : Int) (hc : goesB c = false) (w : World) : Calls Try.prog 36 #[.string image, .int .i64 c] w fun e w' => e = .returned (.tuple #[.pointer none, .int .i64 10]) ∧ w = w' := by
  have hcc : c < 0 ∨ (0 ≤ c ∧ 1073741824 < c) := by
    unfold goesB at hc
    simp only [decide_eq_false_iff_not] at hc
    omega
  clear hc
  rcases hcc with h | ⟨h0, h⟩
  · go_enter Try.func36, Try.ntmps36
    go_wp2
    go_ret2
    exact ⟨rfl, rfl⟩
  · go_enter Try.func36, Try.ntmps36
    go_wp2
    go_ret2
    exact ⟨rfl, rfl⟩
theorem infoRec2 : True := trivial
set_option maxRecDepth 100000 in
set_option maxHeartbeats 8000000 in
theorem ropen_yes (image : ByteArray) (hi : image.size ≤ 4398046511104) (c : Int) (hc : goesB c = true) (w : World) : Calls Try.prog 36 #[.string image, .int .i64 c] w (ROpened w c (openL image)) := by
  obtain ⟨hc0, hc1⟩ : 0 ≤ c ∧ c ≤ 1073741824 := of_decide_eq_true hc
  have hil : image.data.toList.length = image.size := by simp
  clear hc
  cases hl : image.data.toList with
  | nil =>
    have hz : openL image = none := by unfold openL; rw [hl]
    rw [hz]
    have he : image.toList.isEmpty = true := by rw [ByteArray.toList_eq, hl]; rfl
    clear hz hl hil hi
    go_enter Try.func36, Try.ntmps36
    go_wp2
    go_ret2
    exact ⟨Below.refl _ _, .inl ⟨rfl, rfl⟩⟩
  | cons a R =>
    have he : image.toList.isEmpty = false := by rw [ByteArray.toList_eq, hl]; rfl
    have hpos : 0 < image.size := by rw [hl] at hil; simp at hil; omega
    have hpi : (0 : Int) < image.size := by omega
    have ha0 : image[0] = a := by
      have : image.data.toList[0]'(by rw [hil]; exact hpos) = a := by simp [hl]
      rw [← this]; rfl
    by_cases ha : a.toNat = 83
    · have hz : openL image = parseN R.length R [] := by unfold openL; rw [hl]; simp only; rw [if_pos ha]
      rw [hz]
      have hRd : image.data.toList.drop 1 = R := by rw [hl]; rfl
      have hb83 : ((image[0].toNat : Nat) : Int) = 83 := by rw [ha0, ha]; rfl
      obtain ⟨P, hP⟩ : ∃ P, parseN R.length R [] = P := ⟨_, rfl⟩
      rw [hP]
      have HPP := Lib.hid (show parseN (image.data.toList.drop 1).length (image.data.toList.drop 1) [] = P by rw [hRd]; exact hP)
      have HIL := Lib.hid hil
      have HN := Lib.hid (rsf_new w c)
      have HB0 := Lib.hid ((Below.refl w.heap.size w).alloc (Nat.le_refl _) (.cells #[.int .i64 c, .slice none 0 0, .slice none 0 0, .bool false, .int .i64 0, .int .i64 0, .slice none 0 0] 101))
      obtain ⟨n, hn⟩ : ∃ n, image.size = n := ⟨_, rfl⟩
      clear hz hl hil ha hRd hP ha0
      go_enter Try.func36, Try.ntmps36
      go_wp2_with fail
      go_loopw [7, 8, 9] (fun pv _ _ wr => ∃ (p : Nat) (acc : List Rec) (vd : Value), 1 ≤ p ∧ p ≤ image.size ∧ acc.length ≤ p ∧ pv = .int .i64 p ∧ Hid (RSF wr w.heap.size vd (.slice none 0 0) (.slice none 0 0) ⟨c, [], acc, [], 0, false, 0, 0⟩) ∧ Hid (Row wr w.heap.size 2 vd acc.length (recsV acc)) ∧ Hid (parseN (image.data.toList.drop p).length (image.data.toList.drop p) acc = P) ∧ Hid (Below w.heap.size w wr)) (fun pv _ _ _ => image.size - (intOf pv).toNat)
      case atStart => exact ⟨1, [], .slice none 0 0, by omega, by omega, by simp, rfl, HN, Lib.hid (Row.nil _ _ 2), HPP, HB0⟩
      case round =>
        obtain ⟨p, acc, vd, hp1, hp2, hal, rfl, HS, HR, HP, HB⟩ := hrel
        have hszs := HS.out.lt
        have s1 := HS.out.c1
        have hdl : (image.data.toList.drop p).length = image.size - p := by rw [List.length_drop, HIL.out]
        by_cases hlt : p < image.size
        · have hpi2 : (p : Int) < image.size := by omega
          have CO := Lib.hid (fun w => rone_calls image p hlt hi w)
          obtain ⟨f, hf⟩ : ∃ f, (image.data.toList.drop p).length = f + 1 := ⟨image.size - p - 1, by omega⟩
          have hne : image.data.toList.drop p ≠ [] := fun e => by rw [e] at hf; simp at hf
          have hpar := HP.out
          rw [hf, parseN, if_neg hne] at hpar
          cases ho : oneL (image.data.toList.drop p) with
          | none =>
            rw [ho] at hpar
            simp only [ho, oneV] at CO
            simp only at hpar
            have HPN := Lib.hid hpar.symm
            clear hpar ho hne hf hdl HP hn
            go_wp2_with (go_at_call 73; (with_reducible refine (CO.out _).mono ?_); rintro e w1 ⟨rfl, hb1⟩; have HB1 := Lib.hid hb1; clear hb1)
            go_ret2
            exact ⟨(HB.out.trans (HB1.out.mono HB.out.size)).alloc (HB.out.trans (HB1.out.mono HB.out.size)).size _, .inl ⟨HPN.out, rfl⟩⟩
          | some kdr =>
            obtain ⟨k, d, r⟩ := kdr
            obtain ⟨z1, z2, z3, z4⟩ := oneL_shape ho
            have hrest := oneL_rest ho
            rw [List.drop_drop] at hrest
            rw [ho] at hpar
            simp only [ho, oneV] at CO
            simp only at hpar
            obtain ⟨q, hq⟩ : ∃ q, p + 5 + k.length + d.length = q := ⟨_, rfl⟩
            have hrq : r = image.data.toList.drop q := by rw [hrest]; congr 1; omega
            rw [hq] at CO
            have hks := bytesB_size k
            obtain ⟨kB, hkB⟩ : ∃ x, bytesB k = x := ⟨_, rfl⟩
            obtain ⟨dB, hdB⟩ : ∃ x, bytesB d = x := ⟨_, rfl⟩
            rw [hkB] at hpar hks
            rw [hdB] at hpar
            simp only [hkB, hdB] at CO
            have hqb : q ≤ image.size := by omega
            have hpq : p < q := by omega
            have hq0 : ¬ (q : Int) < 0 := by omega
            have HAL := Lib.hid (show acc.length ≤ 4398046511104 by omega)
            obtain ⟨i0, hi0, hz0, hz1, hz2⟩ := info_parts infoRec
            rcases nil_or_snoc acc with rfl | ⟨a, z, rfl⟩
            · have hgo : goesOn [] kB = true := rfl
              have HPAR := Lib.hid (show parseN (image.data.toList.drop q).length (image.data.toList.drop q) (([] : List Rec) ++ [(kB, dB)]) = P by
                rw [if_pos hgo, hrq] at hpar
                rw [← hpar]
                exact parse_fuel _ _ _ _ (Nat.le_refl _) (by rw [List.length_drop, HIL.out]; omega))
              obtain ⟨da, dc, hvd⟩ := HR.out.slice
              subst hvd
              simp only [List.length_nil] at s1
              clear hpar hgo ho hne hf hdl HP hq hrq hrest z1 z2 z3 z4 hks hkB hdB hn
              go_wp2_with (go_at_call 73; (with_reducible refine (CO.out _).mono ?_); rintro e w1 ⟨rfl, hb1⟩; have HB1 := Lib.hid hb1; clear hb1)
              generalize hwB : w1.alloc (.cells #[.string kB, .string dB] 106) = wB
              have bx0 : wB.cell? ⟨w1.heap.size, 0, none⟩ = some (.string kB) := by rw [← hwB]; exact World.cell?_alloc_new w1 _ _ 0
              have bx1 : wB.cell? ⟨w1.heap.size, 1, none⟩ = some (.string dB) := by rw [← hwB]; exact World.cell?_alloc_new w1 _ _ 1
              have hzB : w1.heap.size < wB.heap.size := World.block_lt_of_cell? wB _ bx0
              have HBB := Lib.hid (show Below wr.heap.size wr wB by rw [← hwB]; exact HB1.out.alloc HB1.out.size _)
              have HSB := Lib.hid (HS.out.keep HBB.out)
              have HRB := Lib.hid (HR.out.keep HBB.out)
              have HBW := Lib.hid (HB.out.trans (HBB.out.mono HB.out.size))
              have HGB := Lib.hid (HSB.out.lt)
              have hgB := HSB.out.lt
              have t1 := HSB.out.c1
              have tf1 := HSB.out.fr 1
              simp only [List.length_nil] at t1
              go_quiet (fail)
              go_wp2_with fail
              generalize hwC : wB.drewN _ = wC
              have y0 : wC.cell? ⟨w1.heap.size, 0, none⟩ = some (.string kB) := by rw [← hwC]; exact bx0
              have y1 : wC.cell? ⟨w1.heap.size, 1, none⟩ = some (.string dB) := by rw [← hwC]; exact bx1
              have HSC : Hid (RSF wC w.heap.size (Value.slice da 0 dc) (.slice none 0 0) (.slice none 0 0) ⟨c, [], ([] : List Rec), [], 0, false, 0, 0⟩) := Lib.hid (by rw [← hwC]; exact HSB.out.drewN _)
              have HRC : Hid (Row wC w.heap.size 2 (Value.slice da 0 dc) (([] : List Rec)).length (recsV (([] : List Rec)))) := Lib.hid (by rw [← hwC]; exact HRB.out.drewN _)
              have HBC : Hid (Below w.heap.size w wC) := Lib.hid (by rw [← hwC]; exact below_drewN HBW.out _)
              have u1 : wC.cell? ⟨w.heap.size, 1, none⟩ = some (Value.slice da 0 dc) := HSC.out.c1
              have uf1 := HSC.out.fr 1
              have hgC := HSC.out.lt
              have hzC : w1.heap.size < wC.heap.size := World.block_lt_of_cell? wC _ y0
              clear hwC bx0 bx1 t1 tf1 hzB hgB
              go_region_law (refine step_append_row _ rfl _ _ 98 98 rfl w.heap.size 106 i0 (.agg #[.string ⟨#[]⟩, .string ⟨#[]⟩]) 2 32 Try.underlying98 hi0 hz0 hz1 hz2 rfl (Value.slice da 0 dc) _ _ rfl (Row.drew (Row.alloc HRC.out _)) _ 1 _ rfl (Row.src (Row.drew (row_lit wC _ 106 1 2 (by unfold maxLen; omega) rfl)) Try.underlying98 (by intro z hz; simp at hz; rcases hz with rfl | rfl <;> rfl)) (by unfold maxLen; have := HAL.out; omega) (by have := HAL.out; omega) (by have := HSC.out.lt; simp; omega) ?_; intro v2 w2 hr2 hg2 hat2
                             have hve2 : ∃ a n c, v2 = .slice a n c := by { obtain ⟨a, c, e⟩ := hr2.slice; exact ⟨a, _, c, e⟩ }
                             obtain ⟨va2, vn2, vc2, hve2⟩ := hve2
                             subst hve2
                             have HR3 := Lib.hid (show Row w2 w.heap.size 2 (.slice va2 vn2 vc2) (([] : List Rec) ++ [(kB, dB)]).length (recsV (([] : List Rec) ++ [(kB, dB)])) by { rw [recsV_snoc, List.length_append]; exact hr2 })
                             have HQ := Lib.hid (RSF.appDur (RSF.drew (HSC.out.alloc (.cells #[.string kB, .string dB] 106))) (HR3.out.mono (Nat.zero_le _)) hg2 (by rcases hat2 with e | e; exact .inl e; exact .inr ⟨_, e, Nat.le_refl _⟩) ⟨rfl, rfl⟩)
                             have HR4 := Lib.hid (HR3.out.setCell (p := ⟨w.heap.size, 1, none⟩) HQ.out.nd (.slice va2 vn2 vc2))
                             have hn3 : w.heap.size ∉ (Value.slice da 0 dc).ownBlock.toList := fun e => HSC.out.nd (by rwa [Option.mem_toList] at e)
                             have hT3 := (Touch.refl (Value.slice da 0 dc).ownBlock.toList _).grown hg2 (fun k hk => .inl (by rw [Option.mem_toList]; exact hk))
                             have hgl : w.heap.size < wC.heap.size := HSC.out.lt
                             have q3 : w2.cell? ⟨w.heap.size, 1, none⟩ = some (Value.slice da 0 dc) := (hT3.cell (p := ⟨w.heap.size, 1, none⟩) (Nat.lt_succ_of_lt hgl |> fun h => by simpa using h) hn3).trans (RSF.drew (HSC.out.alloc _)).c1
                             have q4 : w2.frozen? ⟨w.heap.size, 1, none⟩ = false := (hT3.frozen (p := ⟨w.heap.size, 1, none⟩) (Nat.lt_succ_of_lt hgl |> fun h => by simpa using h) hn3).trans ((RSF.drew (HSC.out.alloc _)).fr 1)
                             have HB3 := Lib.hid (((((HBC.out.alloc HBC.out.size (.cells #[.string kB, .string dB] 106)).drew).grown hg2 (Nat.le_trans HBC.out.size (by simp)) (fun j hj => (HRC.out.lt j hj).1)).setCell (p := ⟨w.heap.size, 1, none⟩) (Nat.le_refl _) (.slice va2 vn2 vc2)))
                             clear hr2 hg2 hat2 hT3 hn3 hgl)
              all_goals go_wp2
              all_goals exact ⟨⟨q, ([] : List Rec) ++ [(kB, dB)], .slice va2 vn2 vc2, by omega, by omega, by simp at hal ⊢; omega, rfl, Lib.hid HQ.out, HR4, HPAR, HB3⟩, by simp [intOf]; omega⟩
            · obtain ⟨zk, zd⟩ := z
              obtain ⟨j, hj⟩ : ∃ j, a.length = j := ⟨_, rfl⟩
              have hlen : (a ++ [(zk, zd)]).length = j + 1 := by rw [List.length_append, hj]; rfl
              obtain ⟨pg, dc, hvd, hpg, k0, k1⟩ := HS.out.dur.at j (by show j < (a ++ [(zk, zd)]).length; omega)
              have hzat : (a ++ [(zk, zd)])[j]'(by omega) = (zk, zd) := by subst hj; simp
              rw [hzat] at k0 k1
              simp only at k0 k1
              have hvd2 : vd = .slice (some ⟨pg, 0, none⟩) (j + 1) dc := by rw [hvd]; exact congrArg (fun n => Value.slice (some ⟨pg, 0, none⟩) n dc) hlen
              clear hvd hzat
              subst hvd2
              have hjb : j ≤ 4398046511104 := by omega
              have hjp : (0 : Int) < (j : Int) + 1 := by omega
              have hlk := lastK_snoc a zk zd
              by_cases hgo : goesOn (a ++ [(zk, zd)]) kB = true
              · obtain ⟨g1, g2⟩ := goes_yes (by omega) hgo
                rw [hlk] at g1 g2
                have HPAR := Lib.hid (show parseN (image.data.toList.drop q).length (image.data.toList.drop q) ((a ++ [(zk, zd)]) ++ [(kB, dB)]) = P by
                  rw [if_pos hgo, hrq] at hpar
                  rw [← hpar]
                  exact parse_fuel _ _ _ _ (Nat.le_refl _) (by rw [List.length_drop, HIL.out]; omega))
                clear hpar hgo ho hne hf hdl HP hq hrq hrest z1 z2 z3 z4 hks hkB hdB hn hlk hlen hj
                go_wp2_with (go_at_call 73; (with_reducible refine (CO.out _).mono ?_); rintro e w1 ⟨rfl, hb1⟩; have HB1 := Lib.hid hb1; clear hb1)
                generalize hwB : w1.alloc (.cells #[.string kB, .string dB] 106) = wB
                have bx0 : wB.cell? ⟨w1.heap.size, 0, none⟩ = some (.string kB) := by rw [← hwB]; exact World.cell?_alloc_new w1 _ _ 0
                have bx1 : wB.cell? ⟨w1.heap.size, 1, none⟩ = some (.string dB) := by rw [← hwB]; exact World.cell?_alloc_new w1 _ _ 1
                have hzB : w1.heap.size < wB.heap.size := World.block_lt_of_cell? wB _ bx0
                have HBB := Lib.hid (show Below wr.heap.size wr wB by rw [← hwB]; exact HB1.out.alloc HB1.out.size _)
                have HSB := Lib.hid (HS.out.keep HBB.out)
                have HRB := Lib.hid (HR.out.keep HBB.out)
                have HBW := Lib.hid (HB.out.trans (HBB.out.mono HB.out.size))
                have HGB := Lib.hid (HSB.out.lt)
                have hgB := HSB.out.lt
                have t1 := HSB.out.c1
                have tf1 := HSB.out.fr 1
                have k0B := (HBB.out.cell (p := ⟨pg, j * 2, none⟩) hpg).trans k0
                have hpgB : pg < wB.heap.size := Nat.lt_of_lt_of_le hpg HBB.out.size
                go_quiet (fail)
                go_wp2_with fail
                generalize hwC : wB.drewN _ = wC
                have y0 : wC.cell? ⟨w1.heap.size, 0, none⟩ = some (.string kB) := by rw [← hwC]; exact bx0
                have y1 : wC.cell? ⟨w1.heap.size, 1, none⟩ = some (.string dB) := by rw [← hwC]; exact bx1
                have HSC : Hid (RSF wC w.heap.size (Value.slice (some ⟨pg, 0, none⟩) (j + 1) dc) (.slice none 0 0) (.slice none 0 0) ⟨c, [], (a ++ [(zk, zd)]), [], 0, false, 0, 0⟩) := Lib.hid (by rw [← hwC]; exact HSB.out.drewN _)
                have HRC : Hid (Row wC w.heap.size 2 (Value.slice (some ⟨pg, 0, none⟩) (j + 1) dc) ((a ++ [(zk, zd)])).length (recsV ((a ++ [(zk, zd)])))) := Lib.hid (by rw [← hwC]; exact HRB.out.drewN _)
                have HBC : Hid (Below w.heap.size w wC) := Lib.hid (by rw [← hwC]; exact below_drewN HBW.out _)
                have u1 : wC.cell? ⟨w.heap.size, 1, none⟩ = some (Value.slice (some ⟨pg, 0, none⟩) (j + 1) dc) := HSC.out.c1
                have uf1 := HSC.out.fr 1
                have hgC := HSC.out.lt
                have hzC : w1.heap.size < wC.heap.size := World.block_lt_of_cell? wC _ y0
                clear hwC bx0 bx1 t1 tf1 hzB hgB
                go_region_law (refine step_append_row _ rfl _ _ 98 98 rfl w.heap.size 106 i0 (.agg #[.string ⟨#[]⟩, .string ⟨#[]⟩]) 2 32 Try.underlying98 hi0 hz0 hz1 hz2 rfl (Value.slice (some ⟨pg, 0, none⟩) (j + 1) dc) _ _ rfl (Row.drew (Row.alloc HRC.out _)) _ 1 _ rfl (Row.src (Row.drew (row_lit wC _ 106 1 2 (by unfold maxLen; omega) rfl)) Try.underlying98 (by intro z hz; simp at hz; rcases hz with rfl | rfl <;> rfl)) (by unfold maxLen; have := HAL.out; omega) (by have := HAL.out; omega) (by have := HSC.out.lt; simp; omega) ?_; intro v2 w2 hr2 hg2 hat2
                               have hve2 : ∃ a n c, v2 = .slice a n c := by { obtain ⟨a, c, e⟩ := hr2.slice; exact ⟨a, _, c, e⟩ }
                               obtain ⟨va2, vn2, vc2, hve2⟩ := hve2
                               subst hve2
                               have HR3 := Lib.hid (show Row w2 w.heap.size 2 (.slice va2 vn2 vc2) ((a ++ [(zk, zd)]) ++ [(kB, dB)]).length (recsV ((a ++ [(zk, zd)]) ++ [(kB, dB)])) by { rw [recsV_snoc, List.length_append]; exact hr2 })
                               have HQ := Lib.hid (RSF.appDur (RSF.drew (HSC.out.alloc (.cells #[.string kB, .string dB] 106))) (HR3.out.mono (Nat.zero_le _)) hg2 (by rcases hat2 with e | e; exact .inl e; exact .inr ⟨_, e, Nat.le_refl _⟩) ⟨rfl, rfl⟩)
                               have HR4 := Lib.hid (HR3.out.setCell (p := ⟨w.heap.size, 1, none⟩) HQ.out.nd (.slice va2 vn2 vc2))
                               have hn3 : w.heap.size ∉ (Value.slice (some ⟨pg, 0, none⟩) (j + 1) dc).ownBlock.toList := fun e => HSC.out.nd (by rwa [Option.mem_toList] at e)
                               have hT3 := (Touch.refl (Value.slice (some ⟨pg, 0, none⟩) (j + 1) dc).ownBlock.toList _).grown hg2 (fun k hk => .inl (by rw [Option.mem_toList]; exact hk))
                               have hgl : w.heap.size < wC.heap.size := HSC.out.lt
                               have q3 : w2.cell? ⟨w.heap.size, 1, none⟩ = some (Value.slice (some ⟨pg, 0, none⟩) (j + 1) dc) := (hT3.cell (p := ⟨w.heap.size, 1, none⟩) (Nat.lt_succ_of_lt hgl |> fun h => by simpa using h) hn3).trans (RSF.drew (HSC.out.alloc _)).c1
                               have q4 : w2.frozen? ⟨w.heap.size, 1, none⟩ = false := (hT3.frozen (p := ⟨w.heap.size, 1, none⟩) (Nat.lt_succ_of_lt hgl |> fun h => by simpa using h) hn3).trans ((RSF.drew (HSC.out.alloc _)).fr 1)
                               have HB3 := Lib.hid (((((HBC.out.alloc HBC.out.size (.cells #[.string kB, .string dB] 106)).drew).grown hg2 (Nat.le_trans HBC.out.size (by simp)) (fun j hj => (HRC.out.lt j hj).1)).setCell (p := ⟨w.heap.size, 1, none⟩) (Nat.le_refl _) (.slice va2 vn2 vc2)))
                               clear hr2 hg2 hat2 hT3 hn3 hgl)
                all_goals go_wp2
                all_goals exact ⟨⟨q, (a ++ [(zk, zd)]) ++ [(kB, dB)], .slice va2 vn2 vc2, by omega, by omega, by simp at hal ⊢; omega, rfl, Lib.hid HQ.out, HR4, HPAR, HB3⟩, by simp [intOf]; omega⟩
              · have hgo' : goesOn (a ++ [(zk, zd)]) kB = false := by simpa using hgo
                have hcs := goes_no hgo'
                rw [hlk] at hcs
                rw [if_neg hgo] at hpar
                have HPN := Lib.hid hpar.symm
                clear hpar hgo hgo' ho hne hf hdl HP hq hrq hrest z1 z2 z3 z4 hks hkB hdB hn hlk hlen hj
                rcases hcs with g1 | ⟨g1, g2⟩
                all_goals
                  go_wp2_with (go_at_call 73; (with_reducible refine (CO.out _).mono ?_); rintro e w1 ⟨rfl, hb1⟩; have HB1 := Lib.hid hb1; clear hb1)
                  generalize hwB : w1.alloc (.cells #[.string kB, .string dB] 106) = wB
                  have bx0 : wB.cell? ⟨w1.heap.size, 0, none⟩ = some (.string kB) := by rw [← hwB]; exact World.cell?_alloc_new w1 _ _ 0
                  have bx1 : wB.cell? ⟨w1.heap.size, 1, none⟩ = some (.string dB) := by rw [← hwB]; exact World.cell?_alloc_new w1 _ _ 1
                  have hzB : w1.heap.size < wB.heap.size := World.block_lt_of_cell? wB _ bx0
                  have HBB := Lib.hid (show Below wr.heap.size wr wB by rw [← hwB]; exact HB1.out.alloc HB1.out.size _)
                  have HSB := Lib.hid (HS.out.keep HBB.out)
                  have HRB := Lib.hid (HR.out.keep HBB.out)
                  have HBW := Lib.hid (HB.out.trans (HBB.out.mono HB.out.size))
                  have HGB := Lib.hid (HSB.out.lt)
                  have hgB := HSB.out.lt
                  have t1 := HSB.out.c1
                  have tf1 := HSB.out.fr 1
                  have k0B := (HBB.out.cell (p := ⟨pg, j * 2, none⟩) hpg).trans k0
                  have hpgB : pg < wB.heap.size := Nat.lt_of_lt_of_le hpg HBB.out.size
                  go_quiet (fail)
                  go_wp2
                  go_ret2
                  exact ⟨below_drewN HBW.out _, .inl ⟨HPN.out, rfl⟩⟩
        · obtain rfl : p = image.size := by omega
          have hpar := HP.out
          have hd0 : image.data.toList.drop image.size = [] := List.eq_nil_of_length_eq_zero (by rw [hdl]; omega)
          rw [hd0] at hpar
          have hpar2 : P = some acc := by rw [← hpar]; rfl
          have HPS := Lib.hid hpar2
          obtain ⟨da, dc, hvd⟩ := HR.out.slice
          have HV := Lib.hid ((HS.out.setView HS.out.dur HS.out.nd (fun k hk => by cases hk)).other ((costL acc : Nat) : Int))
          have HLT := Lib.hid (fun k hk => (HR.out.lt k hk).1)
          have t6 := HS.out.c6
          have tf6 := HS.out.fr 6
          obtain ⟨dn, hdn⟩ : ∃ dn, acc.length = dn := ⟨_, rfl⟩
          rw [hdn] at hvd
          subst hvd
          clear hpar hpar2 hd0 hdl HP hn hlt hdn
          go_wp2
          go_ret2
          refine ⟨HB.out.setCell (p := ⟨w.heap.size, 6, none⟩) (Nat.le_refl _) _, .inr ⟨acc, w.heap.size, _, _, _, HPS.out, rfl, HV.out, fun m hm => ?_⟩⟩
          rcases mem_rfoot.1 hm with e | e | e | e
          · omega
          · exact HLT.out m e
          · cases e
          · exact HLT.out m e
    · have hz : openL image = none := by unfold openL; rw [hl]; simp only; rw [if_neg ha]
      rw [hz]
      have hb83 : ¬ ((image[0].toNat : Nat) : Int) = 83 := by rw [ha0]; omega
      have hb83b : (((image[0].toNat : Nat) : Int) != 83) = true := by simpa using hb83
      clear hz hl hil ha ha0
      go_enter Try.func36, Try.ntmps36
      go_wp2
      go_ret2
      exact ⟨Below.refl _ _, .inl ⟨rfl, rfl⟩⟩
end Go.Proofs.Ytpddnbkmiogheaa
