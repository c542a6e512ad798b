import Derived.Test.YtegplajddhiejaaGreatLn4
set_option linter.unusedVariables false
set_option linter.unusedSimpArgs false
namespace Go.Proofs.YtegplajddhiejaaGreat
open Go.RowKit Go.WideMaps Go.Maps Go.MapKept
/-! An engine is made, an engine is opened: the program's. -/
theorem lsage_calls (w : World) (g : Nat) (x : Fld) (h : Lives 0 w g x) : Calls Tryz.prog 27 #[.pointer (some ⟨g, 0, none⟩)] w fun e w' => e = .returned (.int .i64 x.age) ∧ w = w' := by
  obtain ⟨bn, bd, v, p, _⟩ := h
  have c7 := p.c7
  clear p
  go_enter Tryz.func27, Tryz.ntmps27
  go_wp2
  go_ret
  exact ⟨rfl, rfl⟩
def OptZ.cells (o : OptZ) : Array Value := #[.int .i64 o.engine, .int .i64 o.width, .int .i64 o.bundle, .int .i64 o.height, .int .i64 o.cache, .int .i64 o.bits]
/-- What Make leaves. -/
def makeQ (g : Nat) (x : Fld) (o : OptZ) (s : Int) (e : Ending) : Asr :=
  if strtZ o s x.off ≠ 0 then Asr.when (e = .returned (.tuple #[.pointer none, .int .i64 (strtZ o s x.off)])) (PSA g x)
  else if (wipeG x s).2.1 ≠ 0 then Asr.when (e = .returned (.tuple #[.pointer none, .int .i64 (wipeG x s).2.1])) (PSA g (wipeG x s).2.2)
  else Asr.ex fun eb => Asr.when (e = .returned (.tuple #[.pointer (some ⟨eb, 0, none⟩), .int .i64 0])) ((PSA g (wipeG x s).2.2).b (CellsA eb (engC g (wipeG x s).2.2.age false o.width s (.slice none 0 0) 0)))
theorem makeQ_1 {g : Nat} {x : Fld} {o : OptZ} {s : Int} (h : ¬ strtZ o s x.off = 0) : makeQ g x o s = fun e => Asr.when (e = .returned (.tuple #[.pointer none, .int .i64 (strtZ o s x.off)])) (PSA g x) := funext fun e => if_pos h
theorem makeQ_2 {g : Nat} {x : Fld} {o : OptZ} {s : Int} (h : strtZ o s x.off = 0) (h2 : ¬ (wipeG x s).2.1 = 0) : makeQ g x o s = fun e => Asr.when (e = .returned (.tuple #[.pointer none, .int .i64 (wipeG x s).2.1])) (PSA g (wipeG x s).2.2) :=
  funext fun e => (if_neg (by simpa using h)).trans (if_pos h2)
theorem makeQ_3 {g : Nat} {x : Fld} {o : OptZ} {s : Int} (h : strtZ o s x.off = 0) (h2 : (wipeG x s).2.1 = 0) : makeQ g x o s = fun e => Asr.ex fun eb => Asr.when (e = .returned (.tuple #[.pointer (some ⟨eb, 0, none⟩), .int .i64 0])) ((PSA g (wipeG x s).2.2).b (CellsA eb (engC g (wipeG x s).2.2.age false o.width s (.slice none 0 0) 0))) :=
  funext fun e => (if_neg (by simpa using h)).trans (if_neg (by simpa using h2))
set_option maxRecDepth 100000 in
set_option maxHeartbeats 4000000 in
theorem lmake_tri {K : Nat} (hK : K ≤ 1048575) (o : OptZ) (s : Int) (s1 : s ≤ 9223372036854775807) (g : Nat) (w : World) (x : Fld) (hf : Fine K x) :
    Tri (PSA g x) 18 #[.pointer (some ⟨g, 0, none⟩), o.agg, .int .i64 s] w (makeQ g x o s) := by
  refine Tri.of fun F hP => ?_
  have H0 := Lib.hid ((Here.start hP).alloc o.cells 23)
  have CS := Lib.hid (fun (w : World) (h : Lives 0 w g x) => lstart_calls o s w g x h)
  have CW := Lib.hid (fun (w : World) (bn bd : Nat) (v : Value) (h : PSF w g bn bd v x) => pwipe_any hK s s1 w x h hf)
  have CA := Lib.hid (fun (y : Fld) (w : World) (h : Lives 0 w g y) => lsage_calls w g y h)
  clear hP hf hK
  by_cases hs0 : strtZ o s x.off = 0
  · by_cases hw0 : (wipeG x s).2.1 = 0
    · rw [makeQ_3 hs0 hw0]
      simp only [hs0] at CS
      obtain ⟨wz, hwz⟩ : ∃ z, wipeG x s = z := ⟨_, rfl⟩
      simp only [hwz] at CW hw0 ⊢
      obtain ⟨wn, we, wx⟩ := wz
      obtain ⟨oe, ow, ob, oh, oc, obt⟩ := o
      simp only [OptZ.agg, OptZ.cells] at H0 CS CW hw0 ⊢
      subst hw0
      clear hs0 hwz
      go_enter Tryz.func18, Tryz.ntmps18
      go_wp2_with fail
      (with_reducible refine (CS.out _ H0.out.comm.lives).mono ?_); rintro e w1 ⟨rfl, hb1⟩
      have H1 := Lib.hid (H0.out.comm.keep hb1)
      clear hb1
      go_wp2_with fail
      (with_reducible refine (H1.out.callP (CW.out _)).mono ?_); rintro e w2 ⟨rfl, h2⟩
      have H2 := Lib.hid h2
      have c1 := h2.snd.cells1
      have Q0 := Lib.hid (show (w2.drew).cell? ⟨w.heap.size, 1, none⟩ = some (.int .i64 ow) from c1.2.1 1 _ rfl)
      have HLT := Lib.hid c1.1
      clear h2 c1
      go_wp2_with fail
      go_region_held3 (fun w' => w'.cell? ⟨w.heap.size, 1, none⟩ = some (.int .i64 ow))
        (first | exact Q0.out | exact ((((Below.refl w2.heap.size w2).alloc (Nat.le_refl _) _).cell (p := ⟨w.heap.size, 1, none⟩) HLT.out).trans Q0.out) | go_keep)
        (first
          | (go_at_call 27; (with_reducible refine (CA.out wx _ H2.out.drew.lives).mono ?_); rintro e w3 ⟨rfl, hw3⟩
             subst hw3))
      have H3 := Lib.hid ((H2.out.fst.alloc #[.pointer (some ⟨g, 0, none⟩), .int .i64 wx.age, .bool false, .int .i64 ow, .int .i64 s, .slice none 0 0, .int .i64 0] 67).comm.drew)
      go_wp2
      go_ret2
      exact H3.out.mono fun F h => ⟨w2.heap.size, rfl, h⟩
    · rw [makeQ_2 hs0 hw0]
      simp only [hs0] at CS
      obtain ⟨wz, hwz⟩ : ∃ z, wipeG x s = z := ⟨_, rfl⟩
      simp only [hwz] at CW hw0 ⊢
      obtain ⟨wn, we, wx⟩ := wz
      obtain ⟨oe, ow, ob, oh, oc, obt⟩ := o
      simp only [OptZ.agg, OptZ.cells] at H0 CS CW hw0 ⊢
      have hwb : (we == 0) = false := by rw [beq_eq_false_iff_ne]; exact hw0
      have hwd : decide (we = 0) = false := decide_eq_false hw0
      clear hs0 hwz
      go_enter Tryz.func18, Tryz.ntmps18
      go_wp2_with fail
      (with_reducible refine (CS.out _ H0.out.comm.lives).mono ?_); rintro e w1 ⟨rfl, hb1⟩
      have H1 := Lib.hid (H0.out.comm.keep hb1)
      clear hb1
      go_wp2_with fail
      (with_reducible refine (H1.out.callP (CW.out _)).mono ?_); rintro e w2 ⟨rfl, h2⟩
      have H2 := Lib.hid h2
      clear h2
      go_wp2
      go_ret2
      exact H2.out.fst.mono fun F h => ⟨rfl, h⟩
  · rw [makeQ_1 hs0]
    obtain ⟨st, hst⟩ : ∃ z, strtZ o s x.off = z := ⟨_, rfl⟩
    simp only [hst] at CS hs0 ⊢
    obtain ⟨oe, ow, ob, oh, oc, obt⟩ := o
    simp only [OptZ.agg, OptZ.cells] at H0 CS CW ⊢
    have hwb : (st == 0) = false := by rw [beq_eq_false_iff_ne]; exact hs0
    have hwd : decide (st = 0) = false := decide_eq_false hs0
    clear hst
    go_enter Tryz.func18, Tryz.ntmps18
    go_wp2_with fail
    (with_reducible refine (CS.out _ H0.out.comm.lives).mono ?_); rintro e w1 ⟨rfl, hb1⟩
    have H1 := Lib.hid (H0.out.comm.keep hb1)
    clear hb1
    go_wp2
    go_ret2
    exact H1.out.fst.mono fun F h => ⟨rfl, h⟩
/-- What Open leaves. -/
def openQ (g : Nat) (x : Fld) (o : OptZ) (s least : Int) (e : Ending) : Asr :=
  if strtZ o s x.off ≠ 0 then Asr.when (e = .returned (.tuple #[.pointer none, .int .i64 (strtZ o s x.off)])) (PSA g x)
  else if (standN x s : Int) < least then Asr.when (e = .returned (.tuple #[.pointer none, .int .i64 151])) (PSA g x)
  else if (clearZ x s (standN x s)).1 ≠ 0 then Asr.when (e = .returned (.tuple #[.pointer none, .int .i64 (clearZ x s (standN x s)).1])) (PSA g (clearZ x s (standN x s)).2)
  else Asr.ex fun (p : Nat × Value) => Asr.when (e = .returned (.tuple #[.pointer (some ⟨p.1, 0, none⟩), .int .i64 0])) ((PSA g (clearZ x s (standN x s)).2).b ((CellsA p.1 (engC g x.age false o.width s p.2 0)).b (RowA 1 p.2 (standN x s) (strV (standZ x s)))))
theorem openQ_1 {g : Nat} {x : Fld} {o : OptZ} {s l : Int} (h : ¬ strtZ o s x.off = 0) : openQ g x o s l = fun e => Asr.when (e = .returned (.tuple #[.pointer none, .int .i64 (strtZ o s x.off)])) (PSA g x) := funext fun e => if_pos h
theorem openQ_2 {g : Nat} {x : Fld} {o : OptZ} {s l : Int} (h : strtZ o s x.off = 0) (h2 : (standN x s : Int) < l) : openQ g x o s l = fun e => Asr.when (e = .returned (.tuple #[.pointer none, .int .i64 151])) (PSA g x) :=
  funext fun e => (if_neg (by simpa using h)).trans (if_pos h2)
theorem openQ_3 {g : Nat} {x : Fld} {o : OptZ} {s l : Int} (h : strtZ o s x.off = 0) (h2 : ¬ (standN x s : Int) < l) (h3 : ¬ (clearZ x s (standN x s)).1 = 0) : openQ g x o s l = fun e => Asr.when (e = .returned (.tuple #[.pointer none, .int .i64 (clearZ x s (standN x s)).1])) (PSA g (clearZ x s (standN x s)).2) :=
  funext fun e => (if_neg (by simpa using h)).trans ((if_neg h2).trans (if_pos h3))
theorem openQ_4 {g : Nat} {x : Fld} {o : OptZ} {s l : Int} (h : strtZ o s x.off = 0) (h2 : ¬ (standN x s : Int) < l) (h3 : (clearZ x s (standN x s)).1 = 0) : openQ g x o s l = fun e => Asr.ex fun (p : Nat × Value) => Asr.when (e = .returned (.tuple #[.pointer (some ⟨p.1, 0, none⟩), .int .i64 0])) ((PSA g (clearZ x s (standN x s)).2).b ((CellsA p.1 (engC g x.age false o.width s p.2 0)).b (RowA 1 p.2 (standN x s) (strV (standZ x s))))) :=
  funext fun e => (if_neg (by simpa using h)).trans ((if_neg h2).trans (if_neg (by simpa using h3)))
theorem Here.third {w w' : World} {F : List Nat} {P Q R S : Asr} (h : Here w F (P.b (Q.b (R.b S))) w') : Here w F (R.b (P.b (Q.b S))) w' := (h.mono fun _ => star_mono (fun _ h => h) (fun _ => star_left)).left
theorem Here.last {w w' : World} {F : List Nat} {P Q R S : Asr} (h : Here w F (P.b (Q.b (R.b S))) w') : Here w F (P.b (Q.b R)) w' := h.unassoc.unassoc.fst.assoc
theorem Here.fst2 {w w' : World} {F : List Nat} {P Q R : Asr} (h : Here w F (P.b (Q.b R)) w') : Here w F (P.b Q) w' := h.unassoc.fst
set_option maxRecDepth 100000 in
set_option maxHeartbeats 4000000 in
theorem lopen_tri {J : Nat} (hJ : 2 * J ≤ 2097151) (o : OptZ) (s least : Int) (s1 : s ≤ 9223372036854775807) (l0 : -9223372036854775808 ≤ least) (l1 : least ≤ 9223372036854775807) (g : Nat) (w : World) (x : Fld) (ht : Tidy J x) :
    Tri (PSA g x) 20 #[.pointer (some ⟨g, 0, none⟩), o.agg, .int .i64 s, .int .i64 least] w (openQ g x o s least) := by
  refine Tri.of fun F hP => ?_
  have H0 := Lib.hid ((Here.start hP).alloc o.cells 23)
  have CS := Lib.hid (fun (w : World) (h : Lives 0 w g x) => lstart_calls o s w g x h)
  have CT := Lib.hid (fun (w : World) (h : Lives 0 w g x) => lstand_calls hJ s s1 w g x h ht.fine)
  have hnb : standN x s ≤ 4194304 := Nat.le_trans (stand_le x s) (Nat.le_trans (numsP_le ht.fine s 1) (by omega))
  have CC := Lib.hid (fun (eb : Nat) (la : Option Addr) (lc : Nat) (w : World) => lclear_tri hJ s s1 g eb x.age false o.width la (standN x s) lc 0 hnb w x ht)
  have CA := Lib.hid (fun (w : World) (h : Lives 0 w g x) => lsage_calls w g x h)
  clear hP ht hJ
  by_cases hs0 : strtZ o s x.off = 0
  · by_cases hl0 : (standN x s : Int) < least
    · rw [openQ_2 hs0 hl0]
      simp only [hs0] at CS
      generalize standN x s = n at *
      generalize standZ x s = Z at *
      obtain ⟨oe, ow, ob, oh, oc, obt⟩ := o
      simp only [OptZ.agg, OptZ.cells] at H0 CS ⊢
      have hld : decide ((n : Int) < least) = true := decide_eq_true hl0
      clear hs0 CC
      go_enter Tryz.func20, Tryz.ntmps20
      go_wp2_with fail
      (with_reducible refine (CS.out _ H0.out.comm.lives).mono ?_); rintro e w1 ⟨rfl, hb1⟩
      have H1 := Lib.hid (H0.out.comm.keep hb1)
      clear hb1
      go_wp2_with fail
      (with_reducible refine (CT.out _ H1.out.lives).mono ?_); rintro e w2 ⟨lv, rfl, hr2, hb2⟩
      have H2 := Lib.hid (H1.out.keep hb2)
      obtain ⟨la, lc, hlv⟩ := hr2.slice
      subst hlv
      clear hr2 hb2
      go_wp2
      go_ret2
      exact H2.out.fst.mono fun F h => ⟨rfl, h⟩
    · have main : ∀ (R : Ending → Asr) (hR : ∀ e w', ((clearZ x s (standN x s)).1 = 0 → ∀ (eb : Nat) (lv : Value), e = .returned (.tuple #[.pointer (some ⟨eb, 0, none⟩), .int .i64 0]) → Here w F ((PSA g (clearZ x s (standN x s)).2).b ((CellsA eb (engC g x.age false o.width s lv 0)).b (RowA 1 lv (standN x s) (strV (standZ x s))))) w' → Here w F (R e) w') ∧
          (¬ (clearZ x s (standN x s)).1 = 0 → e = .returned (.tuple #[.pointer none, .int .i64 (clearZ x s (standN x s)).1]) → Here w F (PSA g (clearZ x s (standN x s)).2) w' → Here w F (R e) w')),
          Calls Tryz.prog 20 #[.pointer (some ⟨g, 0, none⟩), o.agg, .int .i64 s, .int .i64 least] w fun e w' => Here w F (R e) w' := by
        intro R hR
        have HR := Lib.hid hR
        simp only [hs0] at CS
        generalize standN x s = n at *
        generalize standZ x s = Z at *
        generalize clearZ x s n = z at *
        obtain ⟨z1, z2⟩ := z
        obtain ⟨oe, ow, ob, oh, oc, obt⟩ := o
        simp only [OptZ.agg, OptZ.cells] at H0 CS HR CC ⊢
        have hld : decide ((n : Int) < least) = false := decide_eq_false hl0
        have hz0 : z1 = 0 ∨ ¬ z1 = 0 := by omega
        clear hs0 hR
        go_enter Tryz.func20, Tryz.ntmps20
        go_wp2_with fail
        (with_reducible refine (CS.out _ H0.out.comm.lives).mono ?_); rintro e w1 ⟨rfl, hb1⟩
        have H1 := Lib.hid (H0.out.comm.keep hb1)
        clear hb1
        go_wp2_with fail
        (with_reducible refine (CT.out _ H1.out.lives).mono ?_); rintro e w2 ⟨lv, rfl, hr2, hb2⟩
        have H2 := Lib.hid (H1.out.fresh hb2 hr2)
        obtain ⟨la, lc, hlv⟩ := hr2.slice
        subst hlv
        have c1 := H2.out.snd.snd.cells1
        have Q0 := Lib.hid (show (w2.drew).cell? ⟨w.heap.size, 1, none⟩ = some (.int .i64 ow) from c1.2.1 1 _ rfl)
        have HLT := Lib.hid c1.1
        clear c1 hr2 hb2
        go_wp2_with fail
        go_region_held3 (fun w' => w'.cell? ⟨w.heap.size, 1, none⟩ = some (.int .i64 ow))
          (first | exact Q0.out | exact ((((Below.refl w2.heap.size w2).alloc (Nat.le_refl _) _).cell (p := ⟨w.heap.size, 1, none⟩) HLT.out).trans Q0.out) | go_keep)
          (first
            | (go_at_call 27; (with_reducible refine (CA.out _ H2.out.drew.snd.lives).mono ?_); rintro e w3 ⟨rfl, hw3⟩
               subst hw3))
        have H3 := Lib.hid ((H2.out.alloc #[.pointer (some ⟨g, 0, none⟩), .int .i64 x.age, .bool false, .int .i64 ow, .int .i64 s, .slice la n lc, .int .i64 0] 67).drew)
        have H4 : Hid (Here w F (((PSA g x).b (CellsA w2.heap.size (engC g x.age false ow s (.slice la n lc) 0))).b ((RowA 1 (.slice la n lc) n (strV Z)).b (CellsA w.heap.size [.int .i64 oe, .int .i64 ow, .int .i64 ob, .int .i64 oh, .int .i64 oc, .int .i64 obt]))) _) := Lib.hid H3.out.third.unassoc
        go_wp2_with fail
        (with_reducible refine (H4.out.call ((CC.out w2.heap.size la lc _).frame _)).mono ?_); intro e w4 h4
        obtain ⟨rfl, h5⟩ := h4.when
        have H5 := Lib.hid h5.assoc
        clear h4 h5 H3 H4
        rcases hz0 with rfl | hz0
        · go_wp2
          go_ret2
          exact (HR.out _ _).1 (by trivial) _ _ rfl H5.out.last
        · have hzb : (z1 == 0) = false := by rw [beq_eq_false_iff_ne]; exact hz0
          have hzd : decide (z1 = 0) = false := decide_eq_false hz0
          go_wp2
          go_ret2
          exact (HR.out _ _).2 hz0 rfl H5.out.fst
      by_cases hz : (clearZ x s (standN x s)).1 = 0
      · rw [openQ_4 hs0 hl0 hz]
        exact main _ fun e w' => ⟨fun _ eb lv he h => h.mono fun F h => ⟨(eb, lv), he, h⟩, fun hn => absurd hz hn⟩
      · rw [openQ_3 hs0 hl0 hz]
        exact main _ fun e w' => ⟨fun hn => absurd hn hz, fun _ he h => h.mono fun F h => ⟨he, h⟩⟩
  · rw [openQ_1 hs0]
    obtain ⟨st, hst⟩ : ∃ z, strtZ o s x.off = z := ⟨_, rfl⟩
    simp only [hst] at CS hs0 ⊢
    obtain ⟨oe, ow, ob, oh, oc, obt⟩ := o
    simp only [OptZ.agg, OptZ.cells] at H0 CS ⊢
    have hwb : (st == 0) = false := by rw [beq_eq_false_iff_ne]; exact hs0
    have hwd : decide (st = 0) = false := decide_eq_false hs0
    clear hst CC
    go_enter Tryz.func20, Tryz.ntmps20
    go_wp2_with fail
    (with_reducible refine (CS.out _ H0.out.comm.lives).mono ?_); rintro e w1 ⟨rfl, hb1⟩
    have H1 := Lib.hid (H0.out.comm.keep hb1)
    clear hb1
    go_wp2
    go_ret2
    exact H1.out.fst.mono fun F h => ⟨rfl, h⟩
end Go.Proofs.YtegplajddhiejaaGreat
