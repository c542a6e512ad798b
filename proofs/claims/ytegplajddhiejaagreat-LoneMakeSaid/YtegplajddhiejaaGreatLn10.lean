import Derived.Test.YtegplajddhiejaaGreatLn9
set_option linter.unusedVariables false
set_option linter.unusedSimpArgs false
namespace Go.Proofs.YtegplajddhiejaaGreat
open Go.RowKit Go.WideMaps Go.Maps Go.MapKept
/-! The law's pair: an engine is begun in both. -/
theorem Here.exs {α : Type} {P : α → Asr} {R : Asr} {w w' : World} {F : List Nat} (h : Here w F ((Asr.ex P).b R) w') : ∃ a, Here w F ((P a).b R) w' := by
  obtain ⟨F', ⟨F1, F2, ⟨a, p⟩, q, d, e⟩, t⟩ := h
  exact ⟨a, F', ⟨F1, F2, p, q, d, e⟩, t⟩
def pairC (o : OptZ) (s : Int) (g : Nat) (ve : Value) (h : Nat) (vre : Value) (oth : Bool) : List Value :=
  [.int .i64 o.engine, .int .i64 o.width, .int .i64 o.bundle, .int .i64 o.height, .int .i64 o.cache, .int .i64 o.bits, .int .i64 s, .pointer (some ⟨g, 0, none⟩), ve, .pointer (some ⟨h, 0, none⟩), vre, .bool oth]
def PairF (pb : Nat) (oe ow ob oh oc obt s : Int) (g h : Nat) (w : World) : Prop :=
  w.cell? ⟨pb, 0, none⟩ = some (.int .i64 oe) ∧ w.cell? ⟨pb, 1, none⟩ = some (.int .i64 ow) ∧ w.cell? ⟨pb, 2, none⟩ = some (.int .i64 ob) ∧ w.cell? ⟨pb, 3, none⟩ = some (.int .i64 oh) ∧ w.cell? ⟨pb, 4, none⟩ = some (.int .i64 oc) ∧ w.cell? ⟨pb, 5, none⟩ = some (.int .i64 obt) ∧
    w.cell? ⟨pb, 6, none⟩ = some (.int .i64 s) ∧ w.cell? ⟨pb, 7, none⟩ = some (.pointer (some ⟨g, 0, none⟩)) ∧ w.cell? ⟨pb, 9, none⟩ = some (.pointer (some ⟨h, 0, none⟩))
theorem pairF_of {w0 w : World} {F : List Nat} {pb g h : Nat} {oe ow ob oh oc obt s : Int} {ve vre : Value} {oth : Bool} (hh : Here w0 F (CellsA pb (pairC ⟨oe, ow, ob, oh, oc, obt⟩ s g ve h vre oth)) w) : PairF pb oe ow ob oh oc obt s g h w := by
  have c := hh.cells1.2.1
  exact ⟨c 0 _ rfl, c 1 _ rfl, c 2 _ rfl, c 3 _ rfl, c 4 _ rfl, c 5 _ rfl, c 6 _ rfl, c 7 _ rfl, c 9 _ rfl⟩
set_option maxRecDepth 100000 in
set_option maxHeartbeats 4000000 in
theorem lbegin_ok_made {α β : Type} (blk : α → Nat) (P' : α → Asr) (blk2 : β → Nat) (D' : β → Asr) (o : OptZ) (s least : Int) (pb g h : Nat) (ve vre : Value) (oth : Bool) (x y : Fld) (w : World)
    (CP : ∀ w, Tri (PSA g x) 18 #[.pointer (some ⟨g, 0, none⟩), o.agg, .int .i64 s] w fun e => Asr.ex fun q => Asr.when (e = .returned (.tuple #[.pointer (some ⟨blk q, 0, none⟩), .int .i64 0])) (P' q))
    (CR : ∀ w, Tri (RSA h y) 19 #[.pointer (some ⟨h, 0, none⟩), o.agg, .int .i64 s] w fun e => Asr.ex fun q => Asr.when (e = .returned (.tuple #[.pointer (some ⟨blk2 q, 0, none⟩), .int .i64 0])) (D' q)) :
    Tri ((CellsA pb (pairC o s g ve h vre oth)).b ((PSA g x).b (RSA h y))) 10 #[.pointer (some ⟨pb, 0, none⟩), .bool true, .int .i64 least] w
      fun e => Asr.when (e = .returned (.bool true)) (Asr.ex fun (q : α × β) => (CellsA pb (pairC o s g (.pointer (some ⟨blk q.1, 0, none⟩)) h (.pointer (some ⟨blk2 q.2, 0, none⟩)) false)).b ((P' q.1).b (D' q.2))) := by
  refine Tri.of fun F hP => ?_
  have CP := Lib.hid CP
  have CR := Lib.hid CR
  obtain ⟨oe, ow, ob, oh, oc, obt⟩ := o
  have H0 := Lib.hid (Here.start hP).drew.left
  simp only [OptZ.agg] at CP CR
  have Q0 := Lib.hid (pairF_of H0.out.snd.fst)
  clear hP
  go_enter Tryz.func10, Tryz.ntmps10
  go_wp2_with fail
  go_region_held3 (fun w' => w'.cell? ⟨pb, 0, none⟩ = some (.int .i64 oe) ∧ w'.cell? ⟨pb, 1, none⟩ = some (.int .i64 ow) ∧ w'.cell? ⟨pb, 2, none⟩ = some (.int .i64 ob) ∧ w'.cell? ⟨pb, 3, none⟩ = some (.int .i64 oh) ∧ w'.cell? ⟨pb, 4, none⟩ = some (.int .i64 oc) ∧ w'.cell? ⟨pb, 5, none⟩ = some (.int .i64 obt) ∧
      w'.cell? ⟨pb, 6, none⟩ = some (.int .i64 s) ∧ w'.cell? ⟨pb, 7, none⟩ = some (.pointer (some ⟨g, 0, none⟩)) ∧ w'.cell? ⟨pb, 9, none⟩ = some (.pointer (some ⟨h, 0, none⟩)))
    (first | exact Q0.out | exact Q1.out | go_keep)
    (first
      | (go_at_call 18; (with_reducible refine (H0.out.call ((CP.out _).frame _)).mono ?_); intro e w1 h1
         obtain ⟨q1, h2⟩ := h1.exs
         obtain ⟨rfl, h3⟩ := h2.when
         have H1 := Lib.hid h3
         have Q1 := Lib.hid (pairF_of H1.out.snd.fst)
         clear h1 h2 h3))
  have H2 := Lib.hid H1.out.drew.unassoc.comm
  have Q2 := Lib.hid (pairF_of H2.out.snd.snd)
  clear H0 Q0
  go_wp2_with fail
  go_region_held3 (fun w' => w'.cell? ⟨pb, 0, none⟩ = some (.int .i64 oe) ∧ w'.cell? ⟨pb, 1, none⟩ = some (.int .i64 ow) ∧ w'.cell? ⟨pb, 2, none⟩ = some (.int .i64 ob) ∧ w'.cell? ⟨pb, 3, none⟩ = some (.int .i64 oh) ∧ w'.cell? ⟨pb, 4, none⟩ = some (.int .i64 oc) ∧ w'.cell? ⟨pb, 5, none⟩ = some (.int .i64 obt) ∧
      w'.cell? ⟨pb, 6, none⟩ = some (.int .i64 s) ∧ w'.cell? ⟨pb, 7, none⟩ = some (.pointer (some ⟨g, 0, none⟩)) ∧ w'.cell? ⟨pb, 9, none⟩ = some (.pointer (some ⟨h, 0, none⟩)))
    (first | exact Q2.out | exact Q3.out | go_keep)
    (first
      | (go_at_call 19; (with_reducible refine (H2.out.call ((CR.out _).frame _)).mono ?_); intro e w2 h1
         obtain ⟨q2, h2⟩ := h1.exs
         obtain ⟨rfl, h3⟩ := h2.when
         have H3 := Lib.hid h3
         have Q3 := Lib.hid (pairF_of H3.out.snd.snd)
         clear h1 h2 h3))
  have H4 := Lib.hid (H3.out.comm.assoc.left)
  have c := H4.out.cells
  have hlt := c.1
  have c8 : w2.cell? ⟨pb, 8, none⟩ = some ve := c.2.1 8 _ rfl
  have c10 : w2.cell? ⟨pb, 10, none⟩ = some vre := c.2.1 10 _ rfl
  have c11 : w2.cell? ⟨pb, 11, none⟩ = some (.bool oth) := c.2.1 11 _ rfl
  have hfz := c.2.2
  have HX := Lib.hid (((H4.out.set 8 (by simp [pairC]) (.pointer (some ⟨blk q1, 0, none⟩))).set 10 (by simp [pairC]) (.pointer (some ⟨blk2 q2, 0, none⟩))).set 11 (by simp [pairC]) (.bool false))
  clear c H1 H2 H3 H4 Q1 Q2 Q3
  go_wp2
  go_ret
  exact HX.out.mono fun F h => ⟨rfl, (q1, q2), h⟩
set_option maxRecDepth 100000 in
set_option maxHeartbeats 4000000 in
theorem lbegin_no_made (c : Int) (hc : ¬ c = 0) (o : OptZ) (s least : Int) (pb g h : Nat) (ve vre : Value) (oth : Bool) (x y x' y' : Fld) (w : World)
    (CP : ∀ w, Tri (PSA g x) 18 #[.pointer (some ⟨g, 0, none⟩), o.agg, .int .i64 s] w fun e => Asr.when (e = .returned (.tuple #[.pointer none, .int .i64 c])) (PSA g x'))
    (CR : ∀ w, Tri (RSA h y) 19 #[.pointer (some ⟨h, 0, none⟩), o.agg, .int .i64 s] w fun e => Asr.when (e = .returned (.tuple #[.pointer none, .int .i64 c])) (RSA h y')) :
    Tri ((CellsA pb (pairC o s g ve h vre oth)).b ((PSA g x).b (RSA h y))) 10 #[.pointer (some ⟨pb, 0, none⟩), .bool true, .int .i64 least] w
      fun e => Asr.when (e = .returned (.bool true)) ((CellsA pb (pairC o s g ve h vre oth)).b ((PSA g x').b (RSA h y'))) := by
  refine Tri.of fun F hP => ?_
  have CP := Lib.hid CP
  have CR := Lib.hid CR
  obtain ⟨oe, ow, ob, oh, oc, obt⟩ := o
  have H0 := Lib.hid (Here.start hP).drew.left
  simp only [OptZ.agg] at CP CR
  have Q0 := Lib.hid (pairF_of H0.out.snd.fst)
  clear hP
  go_enter Tryz.func10, Tryz.ntmps10
  go_wp2_with fail
  go_region_held3 (fun w' => w'.cell? ⟨pb, 0, none⟩ = some (.int .i64 oe) ∧ w'.cell? ⟨pb, 1, none⟩ = some (.int .i64 ow) ∧ w'.cell? ⟨pb, 2, none⟩ = some (.int .i64 ob) ∧ w'.cell? ⟨pb, 3, none⟩ = some (.int .i64 oh) ∧ w'.cell? ⟨pb, 4, none⟩ = some (.int .i64 oc) ∧ w'.cell? ⟨pb, 5, none⟩ = some (.int .i64 obt) ∧
      w'.cell? ⟨pb, 6, none⟩ = some (.int .i64 s) ∧ w'.cell? ⟨pb, 7, none⟩ = some (.pointer (some ⟨g, 0, none⟩)) ∧ w'.cell? ⟨pb, 9, none⟩ = some (.pointer (some ⟨h, 0, none⟩)))
    (first | exact Q0.out | exact Q1.out | go_keep)
    (first
      | (go_at_call 18; (with_reducible refine (H0.out.call ((CP.out _).frame _)).mono ?_); intro e w1 h1
         obtain ⟨rfl, h3⟩ := h1.when
         have H1 := Lib.hid h3
         have Q1 := Lib.hid (pairF_of H1.out.snd.fst)
         clear h1 h3))
  have H2 := Lib.hid H1.out.drew.unassoc.comm
  have Q2 := Lib.hid (pairF_of H2.out.snd.snd)
  clear H0 Q0
  go_wp2_with fail
  go_region_held3 (fun w' => w'.cell? ⟨pb, 0, none⟩ = some (.int .i64 oe) ∧ w'.cell? ⟨pb, 1, none⟩ = some (.int .i64 ow) ∧ w'.cell? ⟨pb, 2, none⟩ = some (.int .i64 ob) ∧ w'.cell? ⟨pb, 3, none⟩ = some (.int .i64 oh) ∧ w'.cell? ⟨pb, 4, none⟩ = some (.int .i64 oc) ∧ w'.cell? ⟨pb, 5, none⟩ = some (.int .i64 obt) ∧
      w'.cell? ⟨pb, 6, none⟩ = some (.int .i64 s) ∧ w'.cell? ⟨pb, 7, none⟩ = some (.pointer (some ⟨g, 0, none⟩)) ∧ w'.cell? ⟨pb, 9, none⟩ = some (.pointer (some ⟨h, 0, none⟩)))
    (first | exact Q2.out | exact Q3.out | go_keep)
    (first
      | (go_at_call 19; (with_reducible refine (H2.out.call ((CR.out _).frame _)).mono ?_); intro e w2 h1
         obtain ⟨rfl, h3⟩ := h1.when
         have H3 := Lib.hid h3
         have Q3 := Lib.hid (pairF_of H3.out.snd.snd)
         clear h1 h3))
  have H4 := Lib.hid (H3.out.comm.assoc.left)
  clear H1 H2 H3 Q1 Q2 Q3
  go_wp2
  go_ret
  exact H4.out.mono fun F h => ⟨rfl, h⟩
set_option maxRecDepth 100000 in
set_option maxHeartbeats 4000000 in
theorem lbegin_ok_open {α β : Type} (blk : α → Nat) (P' : α → Asr) (blk2 : β → Nat) (D' : β → Asr) (o : OptZ) (s least : Int) (pb g h : Nat) (ve vre : Value) (oth : Bool) (x y : Fld) (w : World)
    (CP : ∀ w, Tri (PSA g x) 20 #[.pointer (some ⟨g, 0, none⟩), o.agg, .int .i64 s, .int .i64 least] w fun e => Asr.ex fun q => Asr.when (e = .returned (.tuple #[.pointer (some ⟨blk q, 0, none⟩), .int .i64 0])) (P' q))
    (CR : ∀ w, Tri (RSA h y) 21 #[.pointer (some ⟨h, 0, none⟩), o.agg, .int .i64 s, .int .i64 least] w fun e => Asr.ex fun q => Asr.when (e = .returned (.tuple #[.pointer (some ⟨blk2 q, 0, none⟩), .int .i64 0])) (D' q)) :
    Tri ((CellsA pb (pairC o s g ve h vre oth)).b ((PSA g x).b (RSA h y))) 10 #[.pointer (some ⟨pb, 0, none⟩), .bool false, .int .i64 least] w
      fun e => Asr.when (e = .returned (.bool true)) (Asr.ex fun (q : α × β) => (CellsA pb (pairC o s g (.pointer (some ⟨blk q.1, 0, none⟩)) h (.pointer (some ⟨blk2 q.2, 0, none⟩)) false)).b ((P' q.1).b (D' q.2))) := by
  refine Tri.of fun F hP => ?_
  have CP := Lib.hid CP
  have CR := Lib.hid CR
  obtain ⟨oe, ow, ob, oh, oc, obt⟩ := o
  have H0 := Lib.hid (Here.start hP).drew.left
  simp only [OptZ.agg] at CP CR
  have Q0 := Lib.hid (pairF_of H0.out.snd.fst)
  clear hP
  go_enter Tryz.func10, Tryz.ntmps10
  go_wp2_with fail
  go_region_held3 (fun w' => w'.cell? ⟨pb, 0, none⟩ = some (.int .i64 oe) ∧ w'.cell? ⟨pb, 1, none⟩ = some (.int .i64 ow) ∧ w'.cell? ⟨pb, 2, none⟩ = some (.int .i64 ob) ∧ w'.cell? ⟨pb, 3, none⟩ = some (.int .i64 oh) ∧ w'.cell? ⟨pb, 4, none⟩ = some (.int .i64 oc) ∧ w'.cell? ⟨pb, 5, none⟩ = some (.int .i64 obt) ∧
      w'.cell? ⟨pb, 6, none⟩ = some (.int .i64 s) ∧ w'.cell? ⟨pb, 7, none⟩ = some (.pointer (some ⟨g, 0, none⟩)) ∧ w'.cell? ⟨pb, 9, none⟩ = some (.pointer (some ⟨h, 0, none⟩)))
    (first | exact Q0.out | exact Q1.out | go_keep)
    (first
      | (go_at_call 20; (with_reducible refine (H0.out.call ((CP.out _).frame _)).mono ?_); intro e w1 h1
         obtain ⟨q1, h2⟩ := h1.exs
         obtain ⟨rfl, h3⟩ := h2.when
         have H1 := Lib.hid h3
         have Q1 := Lib.hid (pairF_of H1.out.snd.fst)
         clear h1 h2 h3))
  have H2 := Lib.hid H1.out.drew.unassoc.comm
  have Q2 := Lib.hid (pairF_of H2.out.snd.snd)
  clear H0 Q0
  go_wp2_with fail
  go_region_held3 (fun w' => w'.cell? ⟨pb, 0, none⟩ = some (.int .i64 oe) ∧ w'.cell? ⟨pb, 1, none⟩ = some (.int .i64 ow) ∧ w'.cell? ⟨pb, 2, none⟩ = some (.int .i64 ob) ∧ w'.cell? ⟨pb, 3, none⟩ = some (.int .i64 oh) ∧ w'.cell? ⟨pb, 4, none⟩ = some (.int .i64 oc) ∧ w'.cell? ⟨pb, 5, none⟩ = some (.int .i64 obt) ∧
      w'.cell? ⟨pb, 6, none⟩ = some (.int .i64 s) ∧ w'.cell? ⟨pb, 7, none⟩ = some (.pointer (some ⟨g, 0, none⟩)) ∧ w'.cell? ⟨pb, 9, none⟩ = some (.pointer (some ⟨h, 0, none⟩)))
    (first | exact Q2.out | exact Q3.out | go_keep)
    (first
      | (go_at_call 21; (with_reducible refine (H2.out.call ((CR.out _).frame _)).mono ?_); intro e w2 h1
         obtain ⟨q2, h2⟩ := h1.exs
         obtain ⟨rfl, h3⟩ := h2.when
         have H3 := Lib.hid h3
         have Q3 := Lib.hid (pairF_of H3.out.snd.snd)
         clear h1 h2 h3))
  have H4 := Lib.hid (H3.out.comm.assoc.left)
  have c := H4.out.cells
  have hlt := c.1
  have c8 : w2.cell? ⟨pb, 8, none⟩ = some ve := c.2.1 8 _ rfl
  have c10 : w2.cell? ⟨pb, 10, none⟩ = some vre := c.2.1 10 _ rfl
  have c11 : w2.cell? ⟨pb, 11, none⟩ = some (.bool oth) := c.2.1 11 _ rfl
  have hfz := c.2.2
  have HX := Lib.hid (((H4.out.set 8 (by simp [pairC]) (.pointer (some ⟨blk q1, 0, none⟩))).set 10 (by simp [pairC]) (.pointer (some ⟨blk2 q2, 0, none⟩))).set 11 (by simp [pairC]) (.bool false))
  clear c H1 H2 H3 H4 Q1 Q2 Q3
  go_wp2
  go_ret
  exact HX.out.mono fun F h => ⟨rfl, (q1, q2), h⟩
set_option maxRecDepth 100000 in
set_option maxHeartbeats 4000000 in
theorem lbegin_no_open (c : Int) (hc : ¬ c = 0) (o : OptZ) (s least : Int) (pb g h : Nat) (ve vre : Value) (oth : Bool) (x y x' y' : Fld) (w : World)
    (CP : ∀ w, Tri (PSA g x) 20 #[.pointer (some ⟨g, 0, none⟩), o.agg, .int .i64 s, .int .i64 least] w fun e => Asr.when (e = .returned (.tuple #[.pointer none, .int .i64 c])) (PSA g x'))
    (CR : ∀ w, Tri (RSA h y) 21 #[.pointer (some ⟨h, 0, none⟩), o.agg, .int .i64 s, .int .i64 least] w fun e => Asr.when (e = .returned (.tuple #[.pointer none, .int .i64 c])) (RSA h y')) :
    Tri ((CellsA pb (pairC o s g ve h vre oth)).b ((PSA g x).b (RSA h y))) 10 #[.pointer (some ⟨pb, 0, none⟩), .bool false, .int .i64 least] w
      fun e => Asr.when (e = .returned (.bool true)) ((CellsA pb (pairC o s g ve h vre oth)).b ((PSA g x').b (RSA h y'))) := by
  refine Tri.of fun F hP => ?_
  have CP := Lib.hid CP
  have CR := Lib.hid CR
  obtain ⟨oe, ow, ob, oh, oc, obt⟩ := o
  have H0 := Lib.hid (Here.start hP).drew.left
  simp only [OptZ.agg] at CP CR
  have Q0 := Lib.hid (pairF_of H0.out.snd.fst)
  clear hP
  go_enter Tryz.func10, Tryz.ntmps10
  go_wp2_with fail
  go_region_held3 (fun w' => w'.cell? ⟨pb, 0, none⟩ = some (.int .i64 oe) ∧ w'.cell? ⟨pb, 1, none⟩ = some (.int .i64 ow) ∧ w'.cell? ⟨pb, 2, none⟩ = some (.int .i64 ob) ∧ w'.cell? ⟨pb, 3, none⟩ = some (.int .i64 oh) ∧ w'.cell? ⟨pb, 4, none⟩ = some (.int .i64 oc) ∧ w'.cell? ⟨pb, 5, none⟩ = some (.int .i64 obt) ∧
      w'.cell? ⟨pb, 6, none⟩ = some (.int .i64 s) ∧ w'.cell? ⟨pb, 7, none⟩ = some (.pointer (some ⟨g, 0, none⟩)) ∧ w'.cell? ⟨pb, 9, none⟩ = some (.pointer (some ⟨h, 0, none⟩)))
    (first | exact Q0.out | exact Q1.out | go_keep)
    (first
      | (go_at_call 20; (with_reducible refine (H0.out.call ((CP.out _).frame _)).mono ?_); intro e w1 h1
         obtain ⟨rfl, h3⟩ := h1.when
         have H1 := Lib.hid h3
         have Q1 := Lib.hid (pairF_of H1.out.snd.fst)
         clear h1 h3))
  have H2 := Lib.hid H1.out.drew.unassoc.comm
  have Q2 := Lib.hid (pairF_of H2.out.snd.snd)
  clear H0 Q0
  go_wp2_with fail
  go_region_held3 (fun w' => w'.cell? ⟨pb, 0, none⟩ = some (.int .i64 oe) ∧ w'.cell? ⟨pb, 1, none⟩ = some (.int .i64 ow) ∧ w'.cell? ⟨pb, 2, none⟩ = some (.int .i64 ob) ∧ w'.cell? ⟨pb, 3, none⟩ = some (.int .i64 oh) ∧ w'.cell? ⟨pb, 4, none⟩ = some (.int .i64 oc) ∧ w'.cell? ⟨pb, 5, none⟩ = some (.int .i64 obt) ∧
      w'.cell? ⟨pb, 6, none⟩ = some (.int .i64 s) ∧ w'.cell? ⟨pb, 7, none⟩ = some (.pointer (some ⟨g, 0, none⟩)) ∧ w'.cell? ⟨pb, 9, none⟩ = some (.pointer (some ⟨h, 0, none⟩)))
    (first | exact Q2.out | exact Q3.out | go_keep)
    (first
      | (go_at_call 21; (with_reducible refine (H2.out.call ((CR.out _).frame _)).mono ?_); intro e w2 h1
         obtain ⟨rfl, h3⟩ := h1.when
         have H3 := Lib.hid h3
         have Q3 := Lib.hid (pairF_of H3.out.snd.snd)
         clear h1 h3))
  have H4 := Lib.hid (H3.out.comm.assoc.left)
  clear H1 H2 H3 Q1 Q2 Q3
  go_wp2
  go_ret
  exact H4.out.mono fun F h => ⟨rfl, h⟩
end Go.Proofs.YtegplajddhiejaaGreat
