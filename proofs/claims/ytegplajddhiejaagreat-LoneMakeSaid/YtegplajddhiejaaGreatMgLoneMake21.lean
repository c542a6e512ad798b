import Derived.Test.YtegplajddhiejaaGreatLn10
set_option linter.unusedVariables false
set_option linter.unusedSimpArgs false
namespace Go.Proofs.YtegplajddhiejaaGreat
open Go.RowKit Go.WideMaps Go.Maps Go.MapKept
/-! An empty store. -/
structure Bare (x : Fld) : Prop where
  now : x.now = []
  dur : x.dur = []
  pend : x.pend = []
  used : x.used = 0
section
variable {x : Fld}
theorem Bare.keys (h : Bare x) (p : ByteArray) : keysZ x p = [] := by
  unfold keysZ
  rw [h.now]
  split <;> rfl
theorem Bare.nums (h : Bare x) (s k : Int) : numsP x s k = [] := by
  unfold numsP
  rw [h.keys]
  split <;> rfl
theorem Bare.stand (h : Bare x) (s : Int) : standN x s = 0 := by
  have := stand_le x s
  rw [h.nums] at this
  simpa using this
theorem Bare.clearA (h : Bare x) (s : Int) (keep : Nat) : ∀ (f : Nat) (k : Int), Go.Proofs.YtegplajddhiejaaGreat.clearA s keep f k x = (0, x)
  | 0, _ => rfl
  | f + 1, k => by
    unfold Go.Proofs.YtegplajddhiejaaGreat.clearA
    rw [h.nums]
    show (if (0 : Int) ≠ 0 then _ else _) = _
    rw [if_neg (by simp)]
    exact Bare.clearA h s keep f (k + 1)
theorem Bare.clear (h : Bare x) (s : Int) (keep : Nat) : clearZ x s keep = (0, x) := h.clearA s keep 255 1
theorem Bare.wipe (h : Bare x) (s : Int) (s0 : 0 ≤ s) (ho : x.off = false) : (wipeG x s).2.1 = 0 ∧ (wipeG x s).2.2 = x := by
  unfold wipeG wipeZ
  rw [if_neg (by omega), ho, if_neg (by simp), h.keys]
  exact ⟨rfl, rfl⟩
end
theorem strt_zero {o : OptZ} {s : Int} {off : Bool} (h : strtZ o s off = 0) : 0 ≤ s ∧ off = false := by
  rcases strt_cases o s off with ⟨_, h2⟩ | ⟨_, _, h2⟩ | ⟨_, _, _, h2⟩ | ⟨_, _, _, _, h2⟩ | ⟨_, _, _, _, _, h2⟩ | ⟨_, _, _, h1, h2, _⟩
  all_goals first
    | exact ⟨h1, h2⟩
    | (rw [h2] at h; cases h)
/-- Pair, stores; the rest of the pair as it may be. -/
def PairA (o : OptZ) (s : Int) (pb g h : Nat) (x y : Fld) : Asr := Asr.ex fun (q : Value × Value × Bool) => (CellsA pb (pairC o s g q.1 h q.2.1 q.2.2)).b ((PSA g x).b (RSA h y))
section
variable {J : Nat} {o : OptZ} {s : Int} {pb g h : Nat} {x : Fld}
theorem begin_bare_made (hb : Bare x) (ht : Tidy J x) (hJ : 2 * J ≤ 1048575) (s1 : s ≤ 9223372036854775807) (least : Int) (w : World) :
    Tri (PairA o s pb g h x x) 10 #[.pointer (some ⟨pb, 0, none⟩), .bool true, .int .i64 least] w fun e => Asr.when (e = .returned (.bool true)) (PairA o s pb g h x x) := by
  refine Tri.of fun F hP => ?_
  obtain ⟨⟨ve, vre, oth⟩, hP⟩ := hP
  have CP := fun w => lmake_tri (K := 2 * J) hJ o s s1 g w x ht.fine
  have CR := fun w => lrmake_tri (K := 2 * J) hJ o s s1 h w x ht.fine
  by_cases h0 : strtZ o s x.off = 0
  · obtain ⟨s0, ho⟩ := strt_zero h0
    obtain ⟨w1, w2⟩ := hb.wipe s s0 ho
    rw [makeQ_3 h0 w1, w2] at CP
    rw [rmakeQ_3 h0 w1, w2] at CR
    refine (lbegin_ok_made (fun q => q) _ (fun q => q) _ o s least pb g h ve vre oth x x w CP CR F hP).mono fun e w' hh => ?_
    have hh : Here w F _ w' := hh
    obtain ⟨F', ⟨he, q, hq⟩, t⟩ := hh
    have h1 : Here w F ((CellsA pb (pairC o s g (.pointer (some ⟨q.1, 0, none⟩)) h (.pointer (some ⟨q.2, 0, none⟩)) false)).b (((PSA g x).b (CellsA q.1 (engC g x.age false o.width s (.slice none 0 0) 0))).b ((RSA h x).b (CellsA q.2 (engC h x.age false o.width s (.slice none 0 0) 0))))) w' := ⟨F', hq, t⟩
    refine (h1.weak (Asr.le_b (Asr.le_refl _) (Asr.le_b (Asr.le_fst _ _) (Asr.le_fst _ _)))).mono fun F h => ⟨he, (_, _, _), h⟩
  · rw [makeQ_1 h0] at CP
    rw [rmakeQ_1 h0] at CR
    refine (lbegin_no_made _ h0 o s least pb g h ve vre oth x x x x w CP CR F hP).mono fun e w' hh => ?_
    have hh : Here w F _ w' := hh
    exact hh.mono fun F hq => ⟨hq.1, ⟨ve, vre, oth⟩, hq.2⟩
theorem begin_bare_open (hb : Bare x) (ht : Tidy J x) (hJ : 2 * J ≤ 1048575) (s1 : s ≤ 9223372036854775807) (least : Int) (l0 : -9223372036854775808 ≤ least) (l1 : least ≤ 9223372036854775807) (w : World) :
    Tri (PairA o s pb g h x x) 10 #[.pointer (some ⟨pb, 0, none⟩), .bool false, .int .i64 least] w fun e => Asr.when (e = .returned (.bool true)) (PairA o s pb g h x x) := by
  refine Tri.of fun F hP => ?_
  obtain ⟨⟨ve, vre, oth⟩, hP⟩ := hP
  have CP := fun w => lopen_tri (J := J) (by omega) o s least s1 l0 l1 g w x ht
  have CR := fun w => lropen_tri (J := J) (by omega) o s least s1 l0 l1 h w x ht
  by_cases h0 : strtZ o s x.off = 0
  · by_cases hl : (standN x s : Int) < least
    · rw [openQ_2 h0 hl] at CP
      rw [ropenQ_2 h0 hl] at CR
      refine (lbegin_no_open 151 (by decide) o s least pb g h ve vre oth x x x x w CP CR F hP).mono fun e w' hh => ?_
      have hh : Here w F _ w' := hh
      exact hh.mono fun F hq => ⟨hq.1, ⟨ve, vre, oth⟩, hq.2⟩
    · have hc := hb.clear s (standN x s)
      have hc1 : (clearZ x s (standN x s)).1 = 0 := by rw [hc]
      rw [openQ_4 h0 hl hc1, hc] at CP
      rw [ropenQ_4 h0 hl hc1, hc] at CR
      refine (lbegin_ok_open (fun (q : Nat × Value) => q.1) _ (fun (q : Nat × Value) => q.1) _ o s least pb g h ve vre oth x x w CP CR F hP).mono fun e w' hh => ?_
      have hh : Here w F _ w' := hh
      obtain ⟨F', ⟨he, q, hq⟩, t⟩ := hh
      have h1 : Here w F _ w' := ⟨F', hq, t⟩
      exact (h1.weak (Asr.le_b (Asr.le_refl _) (Asr.le_b (Asr.le_fst _ _) (Asr.le_fst _ _)))).mono fun F h => ⟨he, (_, _, _), h⟩
  · rw [openQ_1 h0] at CP
    rw [ropenQ_1 h0] at CR
    refine (lbegin_no_open _ h0 o s least pb g h ve vre oth x x x x w CP CR F hP).mono fun e w' hh => ?_
    have hh : Here w F _ w' := hh
    exact hh.mono fun F hq => ⟨hq.1, ⟨ve, vre, oth⟩, hq.2⟩
end
end Go.Proofs.YtegplajddhiejaaGreat

set_option linter.unusedVariables false
set_option linter.unusedSimpArgs false
namespace Go.Proofs.YtegplajddhiejaaGreat
open Go.RowKit Go.WideMaps Go.Maps Go.MapKept
theorem Here.below {w w' : World} {P : Asr} (h : Here w [] P w') : Below w.heap.size w w' := by
  obtain ⟨F', p, t, n⟩ := h
  exact t.toBelow (Nat.le_refl _) (fun x hx => by cases hx)
theorem bare_new (c : Int) : Bare (newF c) := ⟨rfl, rfl, rfl, rfl⟩
theorem bare_off (c : Int) : Bare (syncZ (armZ (newF c) 1)).2 := ⟨rfl, rfl, rfl, rfl⟩
theorem Here.when1 {w0 w : World} {F : List Nat} {p : Prop} {P : Asr} (h : Here w0 F (Asr.when p P) w) : p ∧ Here w0 F P w := by
  obtain ⟨F', ⟨hp, q⟩, t⟩ := h
  exact ⟨hp, F', q, t⟩
theorem Here.exs1 {α : Type} {w0 w : World} {F : List Nat} {P : α → Asr} (h : Here w0 F (Asr.ex P) w) : ∃ a, Here w0 F (P a) w := by
  obtain ⟨F', ⟨a, q⟩, t⟩ := h
  exact ⟨a, F', q, t⟩
theorem pair_cells {w0 w : World} {F : List Nat} {pb g h : Nat} {o : OptZ} {s : Int} {ve vre : Value} {oth : Bool} {R : Asr} (hh : Here w0 F ((CellsA pb (pairC o s g ve h vre oth)).b R) w) : pb < w.heap.size ∧ w.cell? ⟨pb, 7, none⟩ = some (.pointer (some ⟨g, 0, none⟩)) ∧ w.cell? ⟨pb, 9, none⟩ = some (.pointer (some ⟨h, 0, none⟩)) := ⟨hh.cells.1, hh.cells.2.1 7 _ rfl, hh.cells.2.1 9 _ rfl⟩
theorem Here.sused {w0 w : World} {F : List Nat} {g : Nat} {x : Fld} {R : Asr} (h : Here w0 F ((PSA g x).b R) w) : Calls Tryz.prog 11 #[.pointer (some ⟨g, 0, none⟩)] w fun e w' => e = .returned (.int .i64 x.used) ∧ w = w' := by
  obtain ⟨bn, bd, v, p⟩ := h.psf
  exact sused_calls w g bn bd v x p
set_option maxRecDepth 100000 in
set_option maxHeartbeats 8000000 in
theorem loneMake_walk (o : OptZ) (s least : Int) (off : Bool) (W : World) (hs : -9223372036854775808 ≤ s ∧ s ≤ 9223372036854775807) (hl : -9223372036854775808 ≤ least ∧ least ≤ 9223372036854775807) :
    Calls Tryz.prog 3 #[o.agg, .int .i64 s, .int .i64 least, .bool off] W fun e W' => e = .returned (.bool true) ∧ Below W.heap.size W W' := by
  obtain ⟨s0, s1⟩ := hs
  obtain ⟨l0, l1⟩ := hl
  have hc : goesB 1000 = true := by decide
  have H0 := Lib.hid ((Here.start (F := []) (P := Asr.emp) (show Asr.emp.holds W [] from fun m => by simp)).alloc o.cells 23).drew
  have CM := Lib.hid (fun (pb g h : Nat) (x : Fld) (hb : Bare x) (ht : Tidy 0 x) (w : World) => begin_bare_made (o := o) (s := s) (pb := pb) (g := g) (h := h) hb ht (by omega) s1 0 w)
  have CO := Lib.hid (fun (pb g h : Nat) (x : Fld) (hb : Bare x) (ht : Tidy 0 x) (w : World) => begin_bare_open (o := o) (s := s) (pb := pb) (g := g) (h := h) hb ht (by omega) s1 least l0 l1 w)
  have HC := Lib.hid hc
  have HT0 := Lib.hid (tidy_new hc)
  have HT1 := Lib.hid (sync_tidy (arm_tidy (tidy_new hc) 1 (by omega)))
  have CA := Lib.hid (fun (g : Nat) (w : World) (bn bd : Nat) (v : Value) (h : PSF w g bn bd v (newF 1000)) => sarm_calls 1 w g bn bd v _ h)
  have CB := Lib.hid (fun (h : Nat) (w : World) (vd vw vv : Value) (r : RSF w h vd vw vv (newF 1000)) => rarm_calls 1 w h vd vw vv _ r)
  have CS := Lib.hid (fun (g : Nat) (w : World) (bn bd : Nat) (v : Value) (h : PSF w g bn bd v (armZ (newF 1000) 1)) => ssync_calls 0 (by omega) w g bn bd v _ h (arm_tidy (tidy_new hc) 1 (by omega)).fine)
  have CR := Lib.hid (fun (h : Nat) (w : World) (vd vw vv : Value) (r : RSF w h vd vw vv (armZ (newF 1000) 1)) => rsync_calls 0 (by omega) w h vd vw vv _ r (arm_tidy (tidy_new hc) 1 (by omega)).fine)
  have HB0 := Lib.hid (bare_new 1000)
  have HB1 := Lib.hid (bare_off 1000)
  clear hc
  obtain ⟨x0, hx0⟩ : ∃ x, newF 1000 = x := ⟨_, rfl⟩
  have HX0 := Lib.hid hx0
  rw [hx0] at HT0 HT1 HB0 HB1 CA CB CS CR
  obtain ⟨xa, hxa⟩ : ∃ x, armZ x0 1 = x := ⟨_, rfl⟩
  rw [hxa] at HT1 HB1 CA CB CS CR
  obtain ⟨⟨z1, x1⟩, hx1⟩ : ∃ x, syncZ xa = x := ⟨_, rfl⟩
  simp only [hx1] at HT1 HB1 CS CR
  clear hx0 hxa hx1
  obtain ⟨oe, ow, ob, oh, oc, obt⟩ := o
  simp only [OptZ.agg, OptZ.cells] at H0 ⊢
  have c := H0.out.cells.2.1
  have Q0 := Lib.hid (show _ ∧ _ ∧ _ ∧ _ ∧ _ ∧ _ from ⟨c 0 _ rfl, c 1 _ rfl, c 2 _ rfl, c 3 _ rfl, c 4 _ rfl, c 5 _ rfl⟩)
  have HLT := Lib.hid H0.out.cells.1
  have mv : ∀ (w1 w2 : World), Below w1.heap.size w1 w2 → W.heap.size < w1.heap.size →
      (w1.cell? ⟨W.heap.size, 0, none⟩ = some (.int .i64 oe) ∧ w1.cell? ⟨W.heap.size, 1, none⟩ = some (.int .i64 ow) ∧ w1.cell? ⟨W.heap.size, 2, none⟩ = some (.int .i64 ob) ∧ w1.cell? ⟨W.heap.size, 3, none⟩ = some (.int .i64 oh) ∧ w1.cell? ⟨W.heap.size, 4, none⟩ = some (.int .i64 oc) ∧ w1.cell? ⟨W.heap.size, 5, none⟩ = some (.int .i64 obt)) →
      (w2.cell? ⟨W.heap.size, 0, none⟩ = some (.int .i64 oe) ∧ w2.cell? ⟨W.heap.size, 1, none⟩ = some (.int .i64 ow) ∧ w2.cell? ⟨W.heap.size, 2, none⟩ = some (.int .i64 ob) ∧ w2.cell? ⟨W.heap.size, 3, none⟩ = some (.int .i64 oh) ∧ w2.cell? ⟨W.heap.size, 4, none⟩ = some (.int .i64 oc) ∧ w2.cell? ⟨W.heap.size, 5, none⟩ = some (.int .i64 obt)) := fun w1 w2 hb hl q =>
    ⟨(hb.cell (p := ⟨W.heap.size, 0, none⟩) hl).trans q.1, (hb.cell (p := ⟨W.heap.size, 1, none⟩) hl).trans q.2.1, (hb.cell (p := ⟨W.heap.size, 2, none⟩) hl).trans q.2.2.1, (hb.cell (p := ⟨W.heap.size, 3, none⟩) hl).trans q.2.2.2.1, (hb.cell (p := ⟨W.heap.size, 4, none⟩) hl).trans q.2.2.2.2.1, (hb.cell (p := ⟨W.heap.size, 5, none⟩) hl).trans q.2.2.2.2.2⟩
  have MV := Lib.hid mv
  clear c mv
  go_enter Tryz.func3, Tryz.ntmps3
  go_wp2_with fail
  go_region_held3 (fun w' => w'.cell? ⟨W.heap.size, 0, none⟩ = some (.int .i64 oe) ∧ w'.cell? ⟨W.heap.size, 1, none⟩ = some (.int .i64 ow) ∧ w'.cell? ⟨W.heap.size, 2, none⟩ = some (.int .i64 ob) ∧ w'.cell? ⟨W.heap.size, 3, none⟩ = some (.int .i64 oh) ∧ w'.cell? ⟨W.heap.size, 4, none⟩ = some (.int .i64 oc) ∧ w'.cell? ⟨W.heap.size, 5, none⟩ = some (.int .i64 obt))
    (first | exact Q0.out | exact Q1.out | exact Q2.out | exact MV.out _ _ ((Below.refl w2.heap.size w2).alloc (Nat.le_refl _) _) HLT2.out Q2.out | go_keep)
    (first
      | (go_at_call 4; (with_reducible refine (snew_yes 1000 HC.out _).mono ?_); rintro e w1 ⟨g, bn, bd, rfl, hp, hg, hb⟩
         have H1 := Lib.hid (H0.out.made hb (A := PSA g (newF 1000)) ⟨bn, bd, _, hp, fun m => Iff.rfl⟩ hg)
         have Q1 := Lib.hid (MV.out _ w1 hb HLT.out Q0.out)
         have HLT1 := Lib.hid (Nat.lt_of_lt_of_le HLT.out hb.size)
         clear hp hg hb)
      | (go_at_call 5; (with_reducible refine (rnew_yes 1000 HC.out _).mono ?_); rintro e w2 ⟨rfl, hr, hb⟩
         have H2 := Lib.hid (H1.out.made hb (A := RSA w1.heap.size (newF 1000)) (G := [w1.heap.size]) ⟨_, _, _, hr, fun m => by rw [mem_rfoot]; simp [Value.ownBlock]⟩ (fun m hm => by simp at hm; omega))
         have Q2 := Lib.hid (MV.out _ w2 hb HLT1.out Q1.out)
         have HLT2 := Lib.hid (Nat.lt_of_lt_of_le HLT1.out hb.size)
         clear hr hb))
  have H3 := Lib.hid ((H2.out.alloc #[.int .i64 oe, .int .i64 ow, .int .i64 ob, .int .i64 oh, .int .i64 oc, .int .i64 obt, .int .i64 s, .pointer (some ⟨g, 0, none⟩), .pointer none, .pointer (some ⟨w1.heap.size, 0, none⟩), .pointer none, .bool false] 32))
  obtain ⟨h, hh⟩ : ∃ h, w1.heap.size = h := ⟨_, rfl⟩
  obtain ⟨pb, hpb⟩ : ∃ h, w2.heap.size = h := ⟨_, rfl⟩
  simp only [HX0.out, hh, hpb] at H3 ⊢
  have H4 : Hid (Here W [] ((CellsA pb (pairC ⟨oe, ow, ob, oh, oc, obt⟩ s g (.pointer none) h (.pointer none) false)).b ((PSA g x0).b (RSA h x0))) _) := Lib.hid ((H3.out.mono fun F => star_mono (fun _ h => h) (fun _ => star_left)).weak (Asr.le_b (Asr.le_refl _) (Asr.le_b (Asr.le_refl _) (Asr.le_fst _ _))))
  clear H3 hh hpb Q0 Q1 Q2 H0 H1 H2 HLT HLT1 HLT2 MV HX0
  generalize World.alloc _ _ = w3 at *
  obtain ⟨k1, k7, k9⟩ := pair_cells H4.out
  cases off
  · have H5 : Hid (Here W [] (PairA ⟨oe, ow, ob, oh, oc, obt⟩ s pb g h x0 x0) _) := Lib.hid (H4.out.mono fun F h => ⟨(_, _, _), h⟩)
    go_wp2_with fail
    (with_reducible refine (H5.out.call (CM.out pb g h x0 HB0.out HT0.out _)).mono ?_); intro e w5 h5
    obtain ⟨rfl, h6⟩ := h5.when1
    have H6 := Lib.hid h6
    clear h5 h6
    go_wp2_with fail
    (with_reducible refine (H6.out.call (CO.out pb g h x0 HB0.out HT0.out _)).mono ?_); intro e w6 h7
    obtain ⟨rfl, h8⟩ := h7.when1
    obtain ⟨⟨ve, vre, oth⟩, h9⟩ := h8.exs1
    have H9 := Lib.hid h9
    have HU := HB0.out.used
    obtain ⟨k1, k7, k9⟩ := pair_cells h9
    have CU := Lib.hid (show Calls Tryz.prog 11 #[.pointer (some ⟨g, 0, none⟩)] w6 fun e w' => e = .returned (.int .i64 0) ∧ w6 = w' from by have := h9.left.sused; rw [HU] at this; exact this)
    clear h7 h8 h9 HU
    go_wp2_with (go_at_call 11; (with_reducible refine CU.out.mono ?_); rintro e w7 ⟨rfl, rfl⟩)
    go_ret
    exact ⟨rfl, H9.out.below⟩
  · go_wp2_with fail
    (with_reducible refine (H4.out.left.callP (CA.out g _)).mono ?_); rintro e w4 ⟨rfl, h4⟩
    have HA := Lib.hid h4.left
    clear h4 k1 k7 k9
    obtain ⟨k1, k7, k9⟩ := pair_cells HA.out
    go_wp2_with fail
    (with_reducible refine (HA.out.unassoc.comm.callR (CB.out h _)).mono ?_); rintro e w5 ⟨rfl, h4⟩
    have HB := Lib.hid h4.comm.assoc
    clear h4 k1 k7 k9
    obtain ⟨k1, k7, k9⟩ := pair_cells HB.out
    go_wp2_with fail
    (with_reducible refine (HB.out.left.callP (CS.out g _)).mono ?_); rintro e w6 ⟨rfl, h4⟩
    have HC1 := Lib.hid h4.left
    clear h4 k1 k7 k9
    obtain ⟨k1, k7, k9⟩ := pair_cells HC1.out
    go_wp2_with fail
    (with_reducible refine (HC1.out.unassoc.comm.callR (CR.out h _)).mono ?_); rintro e w7 ⟨rfl, h4⟩
    have HD := Lib.hid h4.comm.assoc
    clear h4 k1 k7 k9
    have H5 : Hid (Here W [] (PairA ⟨oe, ow, ob, oh, oc, obt⟩ s pb g h x1 x1) w7) := Lib.hid (HD.out.mono fun F h => ⟨(_, _, _), h⟩)
    go_wp2_with fail
    (with_reducible refine (H5.out.call (CM.out pb g h x1 HB1.out HT1.out _)).mono ?_); intro e w8 h5
    obtain ⟨rfl, h6⟩ := h5.when1
    have H6 := Lib.hid h6
    clear h5 h6
    go_wp2_with fail
    (with_reducible refine (H6.out.call (CO.out pb g h x1 HB1.out HT1.out _)).mono ?_); intro e w9 h7
    obtain ⟨rfl, h8⟩ := h7.when1
    obtain ⟨⟨ve, vre, oth⟩, h9⟩ := h8.exs1
    have H9 := Lib.hid h9
    have HU := HB1.out.used
    obtain ⟨k1, k7, k9⟩ := pair_cells h9
    have CU := Lib.hid (show Calls Tryz.prog 11 #[.pointer (some ⟨g, 0, none⟩)] w9 fun e w' => e = .returned (.int .i64 0) ∧ w9 = w' from by have := h9.left.sused; rw [HU] at this; exact this)
    clear h7 h8 h9 HU
    go_wp2_with (go_at_call 11; (with_reducible refine CU.out.mono ?_); rintro e w10 ⟨rfl, rfl⟩)
    go_ret
    exact ⟨rfl, H9.out.below⟩
end Go.Proofs.YtegplajddhiejaaGreat
