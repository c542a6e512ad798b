import Derived.Test.YtegplajddhiejaaGreatLn7
set_option linter.unusedVariables false
set_option linter.unusedSimpArgs false
namespace Go.Proofs.YtegplajddhiejaaGreat
open Go.RowKit Go.WideMaps Go.Maps Go.MapKept
/-! An engine is made, an engine is opened: the reference's. -/
def goB (o : OptZ) : Bool := !decide (strtZ o 0 false = 150)
theorem strt_r (o : OptZ) (s : Int) (off : Bool) : (goB o = false ∧ strtZ o s off = 150) ∨ (goB o = true ∧ s < 0 ∧ strtZ o s off = 10) ∨ (goB o = true ∧ 0 ≤ s ∧ off = true ∧ strtZ o s off = 124) ∨ (goB o = true ∧ 0 ≤ s ∧ off = false ∧ strtZ o s off = 0) := by
  by_cases h : o.engine ≠ 1 ∨ o.width < 1 ∨ 32 < o.width
  · have e1 : strtZ o s off = 150 := if_pos h
    have e2 : strtZ o 0 false = 150 := if_pos h
    exact .inl ⟨by unfold goB; rw [e2]; rfl, e1⟩
  · have e1 : strtZ o s off = if s < 0 then 10 else if off then 124 else 0 := if_neg h
    have e2 : strtZ o 0 false = 0 := if_neg h
    have hg : goB o = true := by unfold goB; rw [e2]; rfl
    rw [e1, hg]
    by_cases hs : s < 0
    · exact .inr (.inl ⟨rfl, hs, if_pos hs⟩)
    · rw [if_neg hs]
      cases off
      · exact .inr (.inr (.inr ⟨rfl, by omega, rfl, rfl⟩))
      · exact .inr (.inr (.inl ⟨rfl, by omega, rfl, rfl⟩))
def rmakeQ (g : Nat) (x : Fld) (o : OptZ) (s : Int) (e : Ending) : Asr :=
  if strtZ o s x.off ≠ 0 then Asr.when (e = .returned (.tuple #[.pointer none, .int .i64 (strtZ o s x.off)])) (RSA g x)
  else if (wipeG x s).2.1 ≠ 0 then Asr.when (e = .returned (.tuple #[.pointer none, .int .i64 (wipeG x s).2.1])) (RSA g (wipeG x s).2.2)
  else Asr.ex fun eb => Asr.when (e = .returned (.tuple #[.pointer (some ⟨eb, 0, none⟩), .int .i64 0])) ((RSA g (wipeG x s).2.2).b (CellsA eb (engC g (wipeG x s).2.2.age false o.width s (.slice none 0 0) 0)))
theorem rmakeQ_1 {g : Nat} {x : Fld} {o : OptZ} {s : Int} (h : ¬ strtZ o s x.off = 0) : rmakeQ g x o s = fun e => Asr.when (e = .returned (.tuple #[.pointer none, .int .i64 (strtZ o s x.off)])) (RSA g x) := funext fun e => if_pos h
theorem rmakeQ_2 {g : Nat} {x : Fld} {o : OptZ} {s : Int} (h : strtZ o s x.off = 0) (h2 : ¬ (wipeG x s).2.1 = 0) : rmakeQ g x o s = fun e => Asr.when (e = .returned (.tuple #[.pointer none, .int .i64 (wipeG x s).2.1])) (RSA g (wipeG x s).2.2) :=
  funext fun e => (if_neg (by simpa using h)).trans (if_pos h2)
theorem rmakeQ_3 {g : Nat} {x : Fld} {o : OptZ} {s : Int} (h : strtZ o s x.off = 0) (h2 : (wipeG x s).2.1 = 0) : rmakeQ g x o s = fun e => Asr.ex fun eb => Asr.when (e = .returned (.tuple #[.pointer (some ⟨eb, 0, none⟩), .int .i64 0])) ((RSA g (wipeG x s).2.2).b (CellsA eb (engC g (wipeG x s).2.2.age false o.width s (.slice none 0 0) 0))) :=
  funext fun e => (if_neg (by simpa using h)).trans (if_neg (by simpa using h2))
set_option maxRecDepth 100000 in
set_option maxHeartbeats 4000000 in
theorem lrmake_tri {K : Nat} (hK : K ≤ 1048575) (o : OptZ) (s : Int) (s1 : s ≤ 9223372036854775807) (g : Nat) (w : World) (x : Fld) (hf : Fine K x) :
    Tri (RSA g x) 19 #[.pointer (some ⟨g, 0, none⟩), o.agg, .int .i64 s] w (rmakeQ g x o s) := by
  refine Tri.of fun F hP => ?_
  have H0 := Lib.hid ((Here.start hP).alloc o.cells 23)
  have CS := Lib.hid (fun (w : World) => (show Calls Tryz.prog 28 #[o.agg] w fun e w' => e = .returned (.bool (goB o)) ∧ Below w.heap.size w w' from lrgoes_calls o w))
  have CW := Lib.hid (fun (w : World) (vd vw vv : Value) (h : RSF w g vd vw vv x) => rwipe_any hK s s1 w x h hf)
  have CA := Lib.hid (fun (y : Fld) (w : World) (h : ∃ vd vw vv, RSF w g vd vw vv y) => (show Calls Tryz.prog 30 #[.pointer (some ⟨g, 0, none⟩)] w fun e w' => e = .returned (.agg #[.pointer (some ⟨g, 0, none⟩), .int .i64 y.age, .bool false]) ∧ Below w.heap.size w w' from by
    obtain ⟨vd, vw, vv, r⟩ := h
    exact lrbegin_calls w g vd vw vv y r))
  have HOF := Lib.hid (fun (w : World) (h : ∃ vd vw vv, RSF w g vd vw vv x) => (show w.cell? ⟨g, 3, none⟩ = some (.bool x.off) from by
    obtain ⟨vd, vw, vv, r⟩ := h
    exact r.c3))
  clear hP hf hK
  rcases strt_r o s x.off with ⟨hg, h2⟩ | ⟨hg, hs, h2⟩ | ⟨hg, hs, ho, h2⟩ | ⟨hg, hs, ho, h2⟩
  · rw [rmakeQ_1 (by rw [h2]; decide), h2]
    rw [hg] at CS
    obtain ⟨oe, ow, ob, oh, oc, obt⟩ := o
    simp only [OptZ.agg, OptZ.cells] at H0 CS ⊢
    clear h2 hg
    go_enter Tryz.func19, Tryz.ntmps19
    go_wp2_with fail
    (with_reducible refine (CS.out _).mono ?_); rintro e w1 ⟨rfl, hb1⟩
    have H1 := Lib.hid (H0.out.comm.keep hb1)
    clear hb1
    go_wp2
    go_ret2
    exact H1.out.fst.mono fun F h => ⟨rfl, h⟩
  · rw [rmakeQ_1 (by rw [h2]; decide), h2]
    rw [hg] at CS
    obtain ⟨oe, ow, ob, oh, oc, obt⟩ := o
    simp only [OptZ.agg, OptZ.cells] at H0 CS ⊢
    have hsd : decide (s < 0) = true := decide_eq_true hs
    clear h2 hg
    go_enter Tryz.func19, Tryz.ntmps19
    go_wp2_with fail
    (with_reducible refine (CS.out _).mono ?_); rintro e w1 ⟨rfl, hb1⟩
    have H1 := Lib.hid (H0.out.comm.keep hb1)
    clear hb1
    go_wp2
    go_ret2
    exact H1.out.fst.mono fun F h => ⟨rfl, h⟩
  · rw [rmakeQ_1 (by rw [h2]; decide), h2]
    rw [hg] at CS
    rw [ho] at HOF
    obtain ⟨oe, ow, ob, oh, oc, obt⟩ := o
    simp only [OptZ.agg, OptZ.cells] at H0 CS ⊢
    have hsd : decide (s < 0) = false := decide_eq_false (by omega)
    clear h2 hg
    go_enter Tryz.func19, Tryz.ntmps19
    go_wp2_with fail
    (with_reducible refine (CS.out _).mono ?_); rintro e w1 ⟨rfl, hb1⟩
    have H1 := Lib.hid (H0.out.comm.keep hb1)
    have hof := HOF.out w1 H1.out.rsf
    clear hb1
    go_wp2
    go_ret2
    exact H1.out.fst.mono fun F h => ⟨rfl, h⟩
  · have hs0 := h2
    rw [hg] at CS
    rw [ho] at HOF
    have hsd : decide (s < 0) = false := decide_eq_false (by omega)
    by_cases hw0 : (wipeG x s).2.1 = 0
    · rw [rmakeQ_3 hs0 hw0]
      obtain ⟨wz, hwz⟩ : ∃ z, wipeG x s = z := ⟨_, rfl⟩
      simp only [hwz] at CW hw0 ⊢
      obtain ⟨wn, we, wx⟩ := wz
      obtain ⟨oe, ow, ob, oh, oc, obt⟩ := o
      simp only [OptZ.agg, OptZ.cells] at H0 CS CW hw0 ⊢
      subst hw0
      clear hs0 hwz h2 hg
      go_enter Tryz.func19, Tryz.ntmps19
      go_wp2_with fail
      (with_reducible refine (CS.out _).mono ?_); rintro e w1 ⟨rfl, hb1⟩
      have H1 := Lib.hid (H0.out.comm.keep hb1)
      have hof := HOF.out w1 H1.out.rsf
      clear hb1
      go_wp2_with fail
      (with_reducible refine (H1.out.callR (CW.out _)).mono ?_); rintro e w2 ⟨rfl, h2⟩
      have H2 := Lib.hid h2
      have c1 := h2.snd.cells1
      have Q0 := Lib.hid (show (w2.drew).cell? ⟨w.heap.size, 1, none⟩ = some (.int .i64 ow) from c1.2.1 1 _ rfl)
      have HLT := Lib.hid c1.1
      clear h2 c1 hof
      go_wp2_with fail
      go_region_held3 (fun w' => w'.cell? ⟨w.heap.size, 1, none⟩ = some (.int .i64 ow))
        (first | exact Q0.out | exact Q3.out | exact ((((Below.refl w3.heap.size w3).alloc (Nat.le_refl _) _).cell (p := ⟨w.heap.size, 1, none⟩) HLT3.out).trans Q3.out) | go_keep)
        (first
          | (go_at_call 30; (with_reducible refine (CA.out wx _ H2.out.drew.rsf).mono ?_); rintro e w3 ⟨rfl, hb3⟩
             have H3 := Lib.hid (H2.out.drew.keep hb3)
             have Q3 := Lib.hid ((hb3.cell (p := ⟨w.heap.size, 1, none⟩) HLT.out).trans Q0.out)
             have HLT3 := Lib.hid (Nat.lt_of_lt_of_le HLT.out hb3.size)
             clear hb3))
      have H4 := Lib.hid (H3.out.fst.alloc #[.pointer (some ⟨g, 0, none⟩), .int .i64 wx.age, .bool false, .int .i64 ow, .int .i64 s, .slice none 0 0, .int .i64 0] 75).comm
      go_wp2
      go_ret2
      exact H4.out.mono fun F h => ⟨_, rfl, h⟩
    · rw [rmakeQ_2 hs0 hw0]
      obtain ⟨wz, hwz⟩ : ∃ z, wipeG x s = z := ⟨_, rfl⟩
      simp only [hwz] at CW hw0 ⊢
      obtain ⟨wn, we, wx⟩ := wz
      obtain ⟨oe, ow, ob, oh, oc, obt⟩ := o
      simp only [OptZ.agg, OptZ.cells] at H0 CS CW hw0 ⊢
      have hwb : (we == 0) = false := by rw [beq_eq_false_iff_ne]; exact hw0
      have hwd : decide (we = 0) = false := decide_eq_false hw0
      clear hs0 hwz h2 hg
      go_enter Tryz.func19, Tryz.ntmps19
      go_wp2_with fail
      (with_reducible refine (CS.out _).mono ?_); rintro e w1 ⟨rfl, hb1⟩
      have H1 := Lib.hid (H0.out.comm.keep hb1)
      have hof := HOF.out w1 H1.out.rsf
      clear hb1
      go_wp2_with fail
      (with_reducible refine (H1.out.callR (CW.out _)).mono ?_); rintro e w2 ⟨rfl, h2⟩
      have H2 := Lib.hid h2
      clear h2 hof
      go_wp2
      go_ret2
      exact H2.out.fst.mono fun F h => ⟨rfl, h⟩
end Go.Proofs.YtegplajddhiejaaGreat
