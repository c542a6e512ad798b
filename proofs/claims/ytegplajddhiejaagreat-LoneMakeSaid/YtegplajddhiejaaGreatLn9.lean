import Derived.Test.YtegplajddhiejaaGreatLn8
set_option linter.unusedVariables false
set_option linter.unusedSimpArgs false
namespace Go.Proofs.YtegplajddhiejaaGreat
open Go.RowKit Go.WideMaps Go.Maps Go.MapKept
def ropenQ (g : Nat) (x : Fld) (o : OptZ) (s least : Int) (e : Ending) : Asr :=
  if strtZ o s x.off ≠ 0 then Asr.when (e = .returned (.tuple #[.pointer none, .int .i64 (strtZ o s x.off)])) (RSA g x)
  else if (standN x s : Int) < least then Asr.when (e = .returned (.tuple #[.pointer none, .int .i64 151])) (RSA g x)
  else if (clearZ x s (standN x s)).1 ≠ 0 then Asr.when (e = .returned (.tuple #[.pointer none, .int .i64 (clearZ x s (standN x s)).1])) (RSA g (clearZ x s (standN x s)).2)
  else Asr.ex fun (p : Nat × Value) => Asr.when (e = .returned (.tuple #[.pointer (some ⟨p.1, 0, none⟩), .int .i64 0])) ((RSA g (clearZ x s (standN x s)).2).b ((CellsA p.1 (engC g (clearZ x s (standN x s)).2.age false o.width s p.2 0)).b (RowA 1 p.2 (standN x s) (strV (standZ x s)))))
theorem ropenQ_1 {g : Nat} {x : Fld} {o : OptZ} {s l : Int} (h : ¬ strtZ o s x.off = 0) : ropenQ g x o s l = fun e => Asr.when (e = .returned (.tuple #[.pointer none, .int .i64 (strtZ o s x.off)])) (RSA g x) := funext fun e => if_pos h
theorem ropenQ_2 {g : Nat} {x : Fld} {o : OptZ} {s l : Int} (h : strtZ o s x.off = 0) (h2 : (standN x s : Int) < l) : ropenQ g x o s l = fun e => Asr.when (e = .returned (.tuple #[.pointer none, .int .i64 151])) (RSA g x) :=
  funext fun e => (if_neg (by simpa using h)).trans (if_pos h2)
theorem ropenQ_3 {g : Nat} {x : Fld} {o : OptZ} {s l : Int} (h : strtZ o s x.off = 0) (h2 : ¬ (standN x s : Int) < l) (h3 : ¬ (clearZ x s (standN x s)).1 = 0) : ropenQ g x o s l = fun e => Asr.when (e = .returned (.tuple #[.pointer none, .int .i64 (clearZ x s (standN x s)).1])) (RSA g (clearZ x s (standN x s)).2) :=
  funext fun e => (if_neg (by simpa using h)).trans ((if_neg h2).trans (if_pos h3))
theorem ropenQ_4 {g : Nat} {x : Fld} {o : OptZ} {s l : Int} (h : strtZ o s x.off = 0) (h2 : ¬ (standN x s : Int) < l) (h3 : (clearZ x s (standN x s)).1 = 0) : ropenQ g x o s l = fun e => Asr.ex fun (p : Nat × Value) => Asr.when (e = .returned (.tuple #[.pointer (some ⟨p.1, 0, none⟩), .int .i64 0])) ((RSA g (clearZ x s (standN x s)).2).b ((CellsA p.1 (engC g (clearZ x s (standN x s)).2.age false o.width s p.2 0)).b (RowA 1 p.2 (standN x s) (strV (standZ x s))))) :=
  funext fun e => (if_neg (by simpa using h)).trans ((if_neg h2).trans (if_neg (by simpa using h3)))
set_option maxRecDepth 100000 in
set_option maxHeartbeats 4000000 in
theorem lropen_tri {J : Nat} (hJ : 2 * J ≤ 2097151) (o : OptZ) (s least : Int) (s1 : s ≤ 9223372036854775807) (l0 : -9223372036854775808 ≤ least) (l1 : least ≤ 9223372036854775807) (g : Nat) (w : World) (x : Fld) (ht : Tidy J x) :
    Tri (RSA g x) 21 #[.pointer (some ⟨g, 0, none⟩), o.agg, .int .i64 s, .int .i64 least] w (ropenQ g x o s least) := by
  refine Tri.of fun F hP => ?_
  have H0 := Lib.hid ((Here.start hP).alloc o.cells 23)
  have CS := Lib.hid (fun (w : World) => (show Calls Tryz.prog 28 #[o.agg] w fun e w' => e = .returned (.bool (goB o)) ∧ Below w.heap.size w w' from lrgoes_calls o w))
  have CT := Lib.hid (fun (w : World) (h : ∃ vd vw vv, RSF w g vd vw vv x) => (show Calls Tryz.prog 33 #[.pointer (some ⟨g, 0, none⟩), .int .i64 s] w fun e w' => ∃ v, e = .returned v ∧ Row w' w.heap.size 1 v (standN x s) (strV (standZ x s)) ∧ Below w.heap.size w w' from by
    obtain ⟨vd, vw, vv, r⟩ := h
    exact lrstand_calls hJ s s1 w g vd vw vv x r ht.fine))
  have hnb : standN x s ≤ 4194304 := Nat.le_trans (stand_le x s) (Nat.le_trans (numsP_le ht.fine s 1) (by omega))
  have CC := Lib.hid (fun (w : World) => lrclear_tri hJ s s1 g (standN x s) hnb w x ht)
  have CA := Lib.hid (fun (y : Fld) (w : World) (h : ∃ vd vw vv, RSF w g vd vw vv y) => (show Calls Tryz.prog 30 #[.pointer (some ⟨g, 0, none⟩)] w fun e w' => e = .returned (.agg #[.pointer (some ⟨g, 0, none⟩), .int .i64 y.age, .bool false]) ∧ Below w.heap.size w w' from by
    obtain ⟨vd, vw, vv, r⟩ := h
    exact lrbegin_calls w g vd vw vv y r))
  have HOF := Lib.hid (fun (w : World) (h : ∃ vd vw vv, RSF w g vd vw vv x) => (show w.cell? ⟨g, 3, none⟩ = some (.bool x.off) from by
    obtain ⟨vd, vw, vv, r⟩ := h
    exact r.c3))
  clear hP ht hJ
  rcases strt_r o s x.off with ⟨hg, h2⟩ | ⟨hg, hs, h2⟩ | ⟨hg, hs, ho, h2⟩ | ⟨hg, hs, ho, h2⟩
  · rw [ropenQ_1 (by rw [h2]; decide), h2]
    rw [hg] at CS
    obtain ⟨oe, ow, ob, oh, oc, obt⟩ := o
    simp only [OptZ.agg, OptZ.cells] at H0 CS ⊢
    clear h2 hg CC
    go_enter Tryz.func21, Tryz.ntmps21
    go_wp2_with fail
    (with_reducible refine (CS.out _).mono ?_); rintro e w1 ⟨rfl, hb1⟩
    have H1 := Lib.hid (H0.out.comm.keep hb1)
    clear hb1
    go_wp2
    go_ret2
    exact H1.out.fst.mono fun F h => ⟨rfl, h⟩
  · rw [ropenQ_1 (by rw [h2]; decide), h2]
    rw [hg] at CS
    obtain ⟨oe, ow, ob, oh, oc, obt⟩ := o
    simp only [OptZ.agg, OptZ.cells] at H0 CS ⊢
    have hsd : decide (s < 0) = true := decide_eq_true hs
    clear h2 hg CC
    go_enter Tryz.func21, Tryz.ntmps21
    go_wp2_with fail
    (with_reducible refine (CS.out _).mono ?_); rintro e w1 ⟨rfl, hb1⟩
    have H1 := Lib.hid (H0.out.comm.keep hb1)
    clear hb1
    go_wp2
    go_ret2
    exact H1.out.fst.mono fun F h => ⟨rfl, h⟩
  · rw [ropenQ_1 (by rw [h2]; decide), h2]
    rw [hg] at CS
    rw [ho] at HOF
    obtain ⟨oe, ow, ob, oh, oc, obt⟩ := o
    simp only [OptZ.agg, OptZ.cells] at H0 CS ⊢
    have hsd : decide (s < 0) = false := decide_eq_false (by omega)
    clear h2 hg CC
    go_enter Tryz.func21, Tryz.ntmps21
    go_wp2_with fail
    (with_reducible refine (CS.out _).mono ?_); rintro e w1 ⟨rfl, hb1⟩
    have H1 := Lib.hid (H0.out.comm.keep hb1)
    have hof := HOF.out w1 H1.out.rsf
    clear hb1
    go_wp2
    go_ret2
    exact H1.out.fst.mono fun F h => ⟨rfl, h⟩
  · have hs0 := h2
    rw [hg] at CS
    rw [ho] at HOF
    have hsd : decide (s < 0) = false := decide_eq_false (by omega)
    by_cases hl0 : (standN x s : Int) < least
    · rw [ropenQ_2 hs0 hl0]
      generalize standN x s = n at *
      generalize standZ x s = Z at *
      obtain ⟨oe, ow, ob, oh, oc, obt⟩ := o
      simp only [OptZ.agg, OptZ.cells] at H0 CS ⊢
      have hld : decide ((n : Int) < least) = true := decide_eq_true hl0
      clear hs0 h2 hg CC
      go_enter Tryz.func21, Tryz.ntmps21
      go_wp2_with fail
      (with_reducible refine (CS.out _).mono ?_); rintro e w1 ⟨rfl, hb1⟩
      have H1 := Lib.hid (H0.out.comm.keep hb1)
      have hof := HOF.out w1 H1.out.rsf
      clear hb1
      go_wp2_with fail
      (with_reducible refine (CT.out _ H1.out.rsf).mono ?_); rintro e w2 ⟨lv, rfl, hr2, hb2⟩
      have H2 := Lib.hid (H1.out.keep hb2)
      obtain ⟨la, lc, hlv⟩ := hr2.slice
      subst hlv
      clear hr2 hb2 hof
      go_wp2
      go_ret2
      exact H2.out.fst.mono fun F h => ⟨rfl, h⟩
    · have main : ∀ (R : Ending → Asr) (hR : ∀ e w', ((clearZ x s (standN x s)).1 = 0 → ∀ (eb : Nat) (lv : Value), e = .returned (.tuple #[.pointer (some ⟨eb, 0, none⟩), .int .i64 0]) → Here w F ((RSA g (clearZ x s (standN x s)).2).b ((CellsA eb (engC g (clearZ x s (standN x s)).2.age false o.width s lv 0)).b (RowA 1 lv (standN x s) (strV (standZ x s))))) w' → Here w F (R e) w') ∧
          (¬ (clearZ x s (standN x s)).1 = 0 → e = .returned (.tuple #[.pointer none, .int .i64 (clearZ x s (standN x s)).1]) → Here w F (RSA g (clearZ x s (standN x s)).2) w' → Here w F (R e) w')),
          Calls Tryz.prog 21 #[.pointer (some ⟨g, 0, none⟩), o.agg, .int .i64 s, .int .i64 least] w fun e w' => Here w F (R e) w' := by
        intro R hR
        have HR := Lib.hid hR
        generalize standN x s = n at *
        generalize standZ x s = Z at *
        generalize clearZ x s n = z at *
        obtain ⟨z1, z2⟩ := z
        obtain ⟨oe, ow, ob, oh, oc, obt⟩ := o
        simp only [OptZ.agg, OptZ.cells] at H0 CS HR CC ⊢
        have hld : decide ((n : Int) < least) = false := decide_eq_false hl0
        have hz0 : z1 = 0 ∨ ¬ z1 = 0 := by omega
        clear hs0 hR h2 hg
        go_enter Tryz.func21, Tryz.ntmps21
        go_wp2_with fail
        (with_reducible refine (CS.out _).mono ?_); rintro e w1 ⟨rfl, hb1⟩
        have H1 := Lib.hid (H0.out.comm.keep hb1)
        have hof := HOF.out w1 H1.out.rsf
        clear hb1
        go_wp2_with fail
        (with_reducible refine (CT.out _ H1.out.rsf).mono ?_); rintro e w2 ⟨lv, rfl, hr2, hb2⟩
        have H2 := Lib.hid (H1.out.fresh hb2 hr2).left
        obtain ⟨la, lc, hlv⟩ := hr2.slice
        subst hlv
        clear hr2 hb2 hof
        go_wp2_with fail
        (with_reducible refine (H2.out.call ((CC.out _).frame _)).mono ?_); intro e w3 h3
        obtain ⟨rfl, h4⟩ := h3.when
        have H3 := Lib.hid h4
        have c1 := h4.snd.snd.cells1
        have Q0 := Lib.hid (show (w3.drew).cell? ⟨w.heap.size, 1, none⟩ = some (.int .i64 ow) from c1.2.1 1 _ rfl)
        have HLT := Lib.hid c1.1
        clear h3 h4 c1 H2
        rcases hz0 with rfl | hz0
        · go_wp2_with fail
          go_region_held3 (fun w' => w'.cell? ⟨w.heap.size, 1, none⟩ = some (.int .i64 ow))
            (first | exact Q0.out | exact Q4.out | exact ((((Below.refl w4.heap.size w4).alloc (Nat.le_refl _) _).cell (p := ⟨w.heap.size, 1, none⟩) HLT4.out).trans Q4.out) | go_keep)
            (first
              | (go_at_call 30; (with_reducible refine (CA.out z2 _ H3.out.drew.rsf).mono ?_); rintro e w4 ⟨rfl, hb4⟩
                 have H4 := Lib.hid (H3.out.drew.keep hb4)
                 have Q4 := Lib.hid ((hb4.cell (p := ⟨w.heap.size, 1, none⟩) HLT.out).trans Q0.out)
                 have HLT4 := Lib.hid (Nat.lt_of_lt_of_le HLT.out hb4.size)
                 clear hb4))
          have H5 := Lib.hid (H4.out.unassoc.fst.alloc #[.pointer (some ⟨g, 0, none⟩), .int .i64 z2.age, .bool false, .int .i64 ow, .int .i64 s, .slice la n lc, .int .i64 0] 75).left
          go_wp2
          go_ret2
          exact (HR.out _ _).1 (by trivial) _ _ rfl H5.out
        · have hzb : (z1 == 0) = false := by rw [beq_eq_false_iff_ne]; exact hz0
          have hzd : decide (z1 = 0) = false := decide_eq_false hz0
          go_wp2
          go_ret2
          exact (HR.out _ _).2 hz0 rfl H3.out.fst
      by_cases hz : (clearZ x s (standN x s)).1 = 0
      · rw [ropenQ_4 hs0 hl0 hz]
        exact main _ fun e w' => ⟨fun _ eb lv he h => h.mono fun F h => ⟨(eb, lv), he, h⟩, fun hn => absurd hz hn⟩
      · rw [ropenQ_3 hs0 hl0 hz]
        exact main _ fun e w' => ⟨fun hn => absurd hn hz, fun _ he h => h.mono fun F h => ⟨he, h⟩⟩
end Go.Proofs.YtegplajddhiejaaGreat
