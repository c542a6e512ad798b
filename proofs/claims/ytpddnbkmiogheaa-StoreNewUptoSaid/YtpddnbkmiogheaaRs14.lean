import Derived.Test.YtpddnbkmiogheaaRs13
import Derived.Test.YtpddnbkmiogheaaLd8
import Derived.Deep.RegionHeld3
set_option linter.unusedVariables false
namespace Go.Proofs.Ytpddnbkmiogheaa
open Go.RowKit Go.WideMaps Go.Maps Go.MapKept
/-! A pair: the program's store and the reference's, which say the same. -/
structure PairS (w : World) (b g bn bd : Nat) (v : Value) (h : Nat) (vd vw vv : Value) (x : Fld) : Prop where
  p0 : w.cell? ⟨b, 0, none⟩ = some (.pointer (some ⟨g, 0, none⟩))
  p1 : w.cell? ⟨b, 1, none⟩ = some (.pointer (some ⟨h, 0, none⟩))
  pf : ∀ j, w.frozen? ⟨b, j, none⟩ = false
  ps : PSF w g bn bd v x
  rs : RSF w h vd vw vv x
  d1 : ∀ m ∈ foot g bn bd v, m ∉ rfoot h vd vw vv
  d2 : b ∉ foot g bn bd v
  d3 : b ∉ rfoot h vd vw vv
  lt : b < w.heap.size
def pfoot (b g bn bd : Nat) (v : Value) (h : Nat) (vd vw vv : Value) : List Nat := b :: (foot g bn bd v ++ rfoot h vd vw vv)
theorem mem_pfoot {b g bn bd h k : Nat} {v vd vw vv : Value} : k ∈ pfoot b g bn bd v h vd vw vv ↔ k = b ∨ k ∈ foot g bn bd v ∨ k ∈ rfoot h vd vw vv := by simp [pfoot]
/-- A pair at block b, whose blocks are of H. -/
def PairAt (w : World) (b : Nat) (H : List Nat) (x : Fld) : Prop := ∃ g bn bd v h vd vw vv, PairS w b g bn bd v h vd vw vv x ∧ ∀ m ∈ pfoot b g bn bd v h vd vw vv, m ∈ H
/-- What a step leaves. -/
def PairNext (w : World) (b : Nat) (H : List Nat) (x : Fld) (w' : World) : Prop := ∃ H', PairAt w' b H' x ∧ Touch H w w' ∧ ∀ m ∈ H', m ∈ H ∨ w.heap.size ≤ m
theorem keysLenB {K : Nat} {x : Fld} (h : Fine K x) (o : OpZ) : (doZ x o).1.names.length ≤ K := by
  unfold doZ
  by_cases h1 : o.kind = 1
  · rw [if_pos h1]; exact Nat.zero_le _
  rw [if_neg h1]
  by_cases h2 : o.kind = 2
  · rw [if_pos h2]; exact Nat.zero_le _
  rw [if_neg h2]
  by_cases h3 : o.kind = 3
  · rw [if_pos h3]; exact Nat.zero_le _
  rw [if_neg h3]
  by_cases h4 : o.kind = 4
  · rw [if_pos h4]; exact Nat.zero_le _
  rw [if_neg h4]
  by_cases h5 : o.kind = 5
  · rw [if_pos h5]; exact Nat.zero_le _
  rw [if_neg h5]
  by_cases h6 : o.kind = 6
  · rw [if_pos h6]; exact Nat.zero_le _
  rw [if_neg h6]
  by_cases h7 : o.kind = 7
  · rw [if_pos h7]
    show (keysZ x o.key).length ≤ K
    unfold keysZ
    split
    · exact Nat.zero_le _
    · exact Nat.le_trans (List.length_filter_le _ _) (by rw [List.length_map]; exact h.ln)
  rw [if_neg h7]
  by_cases h8 : o.kind = 8
  · rw [if_pos h8]; exact Nat.zero_le _
  rw [if_neg h8]
  by_cases h9 : o.kind = 9
  · rw [if_pos h9]; exact Nat.zero_le _
  rw [if_neg h9]
  exact Nat.zero_le _
theorem kept_same {w w' : World} {g bn bd k : Nat} {v : Value} {x : Fld} (h : Kept w g bn bd v x w') (h1 : k < w.heap.size) (h2 : k ∉ foot g bn bd v) : w'.heap[k]? = w.heap[k]? := by
  obtain ⟨_, _, _, t, _⟩ := h
  exact t.block k h1 h2
theorem kept_size {w w' : World} {g bn bd : Nat} {v : Value} {x : Fld} (h : Kept w g bn bd v x w') : w.heap.size ≤ w'.heap.size := by
  obtain ⟨_, _, _, t, _⟩ := h
  exact t.size
theorem rkept_same {w w' : World} {g k : Nat} {vd vw vv : Value} {x : Fld} (h : RKept w g vd vw vv x w') (h1 : k < w.heap.size) (h2 : k ∉ rfoot g vd vw vv) : w'.heap[k]? = w.heap[k]? := by
  obtain ⟨_, _, _, _, t, _⟩ := h
  exact t.block k h1 h2
theorem rkept_size {w w' : World} {g : Nat} {vd vw vv : Value} {x : Fld} (h : RKept w g vd vw vv x w') : w.heap.size ≤ w'.heap.size := by
  obtain ⟨_, _, _, _, t, _⟩ := h
  exact t.size
section
variable {w w' : World} {b g bn bd h : Nat} {v vd vw vv : Value} {x : Fld} {H : List Nat}
theorem PairS.foot_lt (p : PairS w b g bn bd v h vd vw vv x) : ∀ m ∈ pfoot b g bn bd v h vd vw vv, m < w.heap.size := by
  intro m hm
  rcases mem_pfoot.1 hm with rfl | e | e
  · exact p.lt
  · exact p.ps.foot_lt m e
  · exact p.rs.foot_lt m e
theorem PairS.touch {F : List Nat} (p : PairS w b g bn bd v h vd vw vv x) (ht : Touch F w w') (hn : ∀ m ∈ pfoot b g bn bd v h vd vw vv, m ∉ F) : PairS w' b g bn bd v h vd vw vv x :=
  have hb := hn b (mem_pfoot.2 (.inl rfl))
  ⟨(ht.cell (p := ⟨b, 0, none⟩) p.lt hb).trans p.p0, (ht.cell (p := ⟨b, 1, none⟩) p.lt hb).trans p.p1, fun j => (ht.frozen (p := ⟨b, j, none⟩) p.lt hb).trans (p.pf j), p.ps.touch ht (fun k hk => hn k (mem_pfoot.2 (.inr (.inl hk)))), p.rs.touch ht (fun k hk => hn k (mem_pfoot.2 (.inr (.inr hk)))), p.d1, p.d2, p.d3, Nat.lt_of_lt_of_le p.lt ht.size⟩
theorem PairS.keep (p : PairS w b g bn bd v h vd vw vv x) (hb : Below w.heap.size w w') : PairS w' b g bn bd v h vd vw vv x := p.touch (Touch.below hb []) (fun k _ => by simp)
theorem PairAt.lt (p : PairAt w b H x) : ∃ g bn bd v h vd vw vv, PairS w b g bn bd v h vd vw vv x ∧ ∀ m ∈ pfoot b g bn bd v h vd vw vv, m ∈ H := p
theorem PairAt.touch {F : List Nat} (p : PairAt w b H x) (ht : Touch F w w') (hn : ∀ m ∈ H, m ∉ F) : PairAt w' b H x := by
  obtain ⟨g, bn, bd, v, h, vd, vw, vv, q, r⟩ := p
  exact ⟨g, bn, bd, v, h, vd, vw, vv, q.touch ht (fun m hm => hn m (r m hm)), r⟩
theorem PairAt.keep (p : PairAt w b H x) (hb : Below w.heap.size w w') : PairAt w' b H x := p.touch (Touch.below hb []) (fun k _ => by simp)
/-- A call of both. -/
theorem pair_do {W0 w2 w3 w4 : World} {x1 : Fld} (p : PairS w b g bn bd v h vd vw vv x) (h0 : Below w.heap.size w W0) (k2 : Kept W0 g bn bd v x1 w2) (k3 : RKept w2 h vd vw vv x1 w3) (h4 : Below w3.heap.size w3 w4) : PairNext w b (pfoot b g bn bd v h vd vw vv) x1 w4 := by
  obtain ⟨bn', v', q2, t2, f2⟩ := k2
  obtain ⟨vd', vw', vv', q3, t3, f3⟩ := k3
  have hz0 := h0.size
  have hz2 := t2.size
  have hz3 := t3.size
  have lf := p.ps.foot_lt
  have lr := p.rs.foot_lt
  have lb := p.lt
  have ps3 : PSF w3 g bn' bd v' x1 := q2.touch t3 (fun m hm e => by
    rcases f2 m hm with e2 | e2
    · exact p.d1 m e2 e
    · have := lr m e; omega)
  have hb2 : w2.heap[b]? = W0.heap[b]? := t2.block b (by omega) p.d2
  have hb3 : w3.heap[b]? = w2.heap[b]? := t3.block b (by omega) p.d3
  have hb0 : W0.heap[b]? = w.heap[b]? := h0.block b lb
  have hbb : w3.heap[b]? = w.heap[b]? := hb3.trans (hb2.trans hb0)
  have P3 : PairS w3 b g bn' bd v' h vd' vw' vv' x1 := by
    refine ⟨(World.cell?_of_block (a := ⟨b, 0, none⟩) hbb).trans p.p0, (World.cell?_of_block (a := ⟨b, 1, none⟩) hbb).trans p.p1, fun j => (World.frozen?_of_block (a := ⟨b, j, none⟩) hbb).trans (p.pf j), ps3, q3, fun m hm e => ?_, fun e => ?_, fun e => ?_, by omega⟩
    · have l2 := q2.foot_lt m hm
      rcases f2 m hm with e2 | e2
      · rcases f3 m e with e3 | e3
        · exact p.d1 m e2 e3
        · omega
      · rcases f3 m e with e3 | e3
        · have := lr m e3; omega
        · omega
    · rcases f2 b e with e2 | e2
      · exact p.d2 e2
      · omega
    · rcases f3 b e with e2 | e2
      · exact p.d3 e2
      · omega
  refine ⟨pfoot b g bn' bd v' h vd' vw' vv', ⟨g, bn', bd, v', h, vd', vw', vv', P3.keep h4, fun m hm => hm⟩, ?_, fun m hm => ?_⟩
  · exact (((Touch.below h0 _).trans t2 (fun m hm => .inl (mem_pfoot.2 (.inr (.inl hm))))).trans t3 (fun m hm => .inl (mem_pfoot.2 (.inr (.inr hm))))).then h4
  · rcases mem_pfoot.1 hm with e | e | e
    · exact .inl (mem_pfoot.2 (.inl e))
    · rcases f2 m e with e2 | e2
      · exact .inl (mem_pfoot.2 (.inr (.inl e2)))
      · exact .inr (by omega)
    · rcases f3 m e with e2 | e2
      · exact .inl (mem_pfoot.2 (.inr (.inr e2)))
      · exact .inr (by omega)
theorem PairNext.wide {H1 : List Nat} (n : PairNext w b H1 x w') (hh : ∀ m ∈ H1, m ∈ H) : PairNext w b H x w' := by
  obtain ⟨H', p, t, f⟩ := n
  exact ⟨H', p, t.mono (fun m hm => .inl (hh m hm)), fun m hm => (f m hm).imp (hh m) id⟩
end
set_option maxRecDepth 100000 in
set_option maxHeartbeats 8000000 in
theorem lstep_do (K : Nat) (hK : K ≤ 2097151) (o : OpZ) (ho : o.Ok) (hk10 : o.kind ≠ 10) (w : World) (b g bn bd : Nat) (v : Value) (h : Nat) (vd vw vv : Value) (x : Fld) (hp : PairS w b g bn bd v h vd vw vv x) (hf : Fine K x) :
    Calls Try.prog 38 #[.pointer (some ⟨b, 0, none⟩), opV o] w fun e w' => e = .returned (.bool true) ∧ PairNext w b (pfoot b g bn bd v h vd vw vv) (doZ x o).2 w' := by
  have HP := Lib.hid hp
  have p0 := hp.p0
  have p1 := hp.p1
  have hlt := hp.lt
  have CD := Lib.hid (fun w (h : PSF w g bn bd v x) => ldo_calls K hK o ho w g bn bd v x h hf)
  have CT := Lib.hid (fun w (hh : RSF w h vd vw vv x) => ltold_calls K hK o ho w h vd vw vv x hh hf)
  have HLN := Lib.hid (keysLenB hf o)
  have HKB := Lib.hid hK
  obtain ⟨gA, hgA⟩ : ∃ y, (doZ x o).1 = y := ⟨_, rfl⟩
  obtain ⟨x1, hx1⟩ : ∃ y, (doZ x o).2 = y := ⟨_, rfl⟩
  simp only [hgA, hx1] at CD CT
  rw [hgA] at HLN
  rw [hx1]
  obtain ⟨ok, okey, odata, on⟩ := o
  simp only at hk10
  have hk10b : (ok != 10) = true := by simpa using hk10
  have HPL := Lib.hid hp.ps.foot_lt
  have HRL := Lib.hid hp.rs.foot_lt
  simp only [opV] at CD CT ⊢
  clear hp hf hgA hx1 hk10 ho
  go_enter Try.func38, Try.ntmps38
  have HBX := Lib.hid ((Below.refl w.heap.size w).alloc (Nat.le_refl _) (.cells #[.int .i64 ok, .string okey, .string odata, .int .i64 on] 31)).drew
  have HP0 := Lib.hid (HP.out.keep HBX.out)
  have Q0 := Lib.hid (show ((w.alloc (.cells #[.int .i64 ok, .string okey, .string odata, .int .i64 on] 31)).drew).cell? ⟨b, 0, none⟩ = some (.pointer (some ⟨g, 0, none⟩)) ∧ ((w.alloc (.cells #[.int .i64 ok, .string okey, .string odata, .int .i64 on] 31)).drew).cell? ⟨b, 1, none⟩ = some (.pointer (some ⟨h, 0, none⟩)) ∧ ((w.alloc (.cells #[.int .i64 ok, .string okey, .string odata, .int .i64 on] 31)).drew).cell? ⟨w.heap.size, 0, none⟩ = some (.int .i64 ok) ∧ ((w.alloc (.cells #[.int .i64 ok, .string okey, .string odata, .int .i64 on] 31)).drew).cell? ⟨w.heap.size, 1, none⟩ = some (.string okey) ∧ ((w.alloc (.cells #[.int .i64 ok, .string okey, .string odata, .int .i64 on] 31)).drew).cell? ⟨w.heap.size, 2, none⟩ = some (.string odata) ∧ ((w.alloc (.cells #[.int .i64 ok, .string okey, .string odata, .int .i64 on] 31)).drew).cell? ⟨w.heap.size, 3, none⟩ = some (.int .i64 on) from
    ⟨HP0.out.p0, HP0.out.p1, World.cell?_alloc_new w _ _ 0, World.cell?_alloc_new w _ _ 1, World.cell?_alloc_new w _ _ 2, World.cell?_alloc_new w _ _ 3⟩)
  have mvS : ∀ (w1 w2 : World), (w2.heap[b]? = w1.heap[b]?) → (w2.heap[w.heap.size]? = w1.heap[w.heap.size]?) → (w1.cell? ⟨b, 0, none⟩ = some (.pointer (some ⟨g, 0, none⟩)) ∧ w1.cell? ⟨b, 1, none⟩ = some (.pointer (some ⟨h, 0, none⟩)) ∧ w1.cell? ⟨w.heap.size, 0, none⟩ = some (.int .i64 ok) ∧ w1.cell? ⟨w.heap.size, 1, none⟩ = some (.string okey) ∧ w1.cell? ⟨w.heap.size, 2, none⟩ = some (.string odata) ∧ w1.cell? ⟨w.heap.size, 3, none⟩ = some (.int .i64 on)) → (w2.cell? ⟨b, 0, none⟩ = some (.pointer (some ⟨g, 0, none⟩)) ∧ w2.cell? ⟨b, 1, none⟩ = some (.pointer (some ⟨h, 0, none⟩)) ∧ w2.cell? ⟨w.heap.size, 0, none⟩ = some (.int .i64 ok) ∧ w2.cell? ⟨w.heap.size, 1, none⟩ = some (.string okey) ∧ w2.cell? ⟨w.heap.size, 2, none⟩ = some (.string odata) ∧ w2.cell? ⟨w.heap.size, 3, none⟩ = some (.int .i64 on)) := fun w1 w2 e1 e2 q =>
    ⟨(World.cell?_of_block (a := ⟨b, 0, none⟩) e1).trans q.1, (World.cell?_of_block (a := ⟨b, 1, none⟩) e1).trans q.2.1, (World.cell?_of_block (a := ⟨w.heap.size, 0, none⟩) e2).trans q.2.2.1, (World.cell?_of_block (a := ⟨w.heap.size, 1, none⟩) e2).trans q.2.2.2.1, (World.cell?_of_block (a := ⟨w.heap.size, 2, none⟩) e2).trans q.2.2.2.2.1, (World.cell?_of_block (a := ⟨w.heap.size, 3, none⟩) e2).trans q.2.2.2.2.2⟩
  have MV := Lib.hid mvS
  have hz0 : w.heap.size < ((w.alloc (.cells #[.int .i64 ok, .string okey, .string odata, .int .i64 on] 31)).drew).heap.size := by simp
  have HZ0 := Lib.hid hz0
  clear mvS hz0
  go_wp2_with fail
  go_region_held3 (fun w' => w'.cell? ⟨b, 0, none⟩ = some (.pointer (some ⟨g, 0, none⟩)) ∧ w'.cell? ⟨b, 1, none⟩ = some (.pointer (some ⟨h, 0, none⟩)) ∧ w'.cell? ⟨w.heap.size, 0, none⟩ = some (.int .i64 ok) ∧ w'.cell? ⟨w.heap.size, 1, none⟩ = some (.string okey) ∧ w'.cell? ⟨w.heap.size, 2, none⟩ = some (.string odata) ∧ w'.cell? ⟨w.heap.size, 3, none⟩ = some (.int .i64 on))
    (first | exact Q0.out | exact Q2.out | exact Q3.out | exact Q4.out | go_keep)
    (first
      | (go_at_call 16; go_split_ands; (with_reducible refine (CD.out _ HP0.out.ps).mono ?_); rintro e w2 ⟨nvA, rfl, hrA, hk2⟩
         have HK2 := Lib.hid hk2
         have HRA := Lib.hid hrA
         have HZ2 := Lib.hid (Nat.lt_of_lt_of_le HZ0.out (kept_size hk2))
         have Q2 := Lib.hid (MV.out _ w2 (kept_same hk2 HP0.out.lt HP.out.d2) (kept_same hk2 HZ0.out (fun e => by have := HPL.out _ e; omega)) Q0.out)
         have HR2 := Lib.hid (show RSF w2 h vd vw vv x by { obtain ⟨_, _, _, t, _⟩ := hk2; exact HP0.out.rs.touch t (fun m hm e => HP.out.d1 m e hm) })
         clear hrA hk2)
      | (go_at_call 33; go_split_ands; (with_reducible refine (CT.out _ HR2.out).mono ?_); rintro e w3 ⟨nvB, rfl, hrB, hk3⟩
         have HK3 := Lib.hid hk3
         have HRB := Lib.hid hrB
         have Q3 := Lib.hid (MV.out _ w3 (rkept_same hk3 (Nat.lt_trans HP.out.lt HZ2.out) HP.out.d3) (rkept_same hk3 HZ2.out (fun e => by have := HRL.out _ e; omega)) Q2.out)
         have HZ3 := Lib.hid (Nat.lt_of_lt_of_le HZ2.out (rkept_size hk3))
         have HRA3 := Lib.hid (show Row w3 0 1 nvA gA.names.length (strV gA.names) by {
           obtain ⟨_, _, _, _, t, _⟩ := hk3
           exact (HRA.out.touch t (fun m hm e => by { have h1 := (HRA.out.lt m hm).1; have h2 := HRL.out _ e; have h3 := HZ0.out; omega })).mono (Nat.zero_le _) })
         clear hrB hk3)
      | (go_at_call 32; go_split_ands; (with_reducible refine (lsame_calls gA gA _ nvA nvB _ _ HRA3.out HRB.out (Nat.le_trans HLN.out (Nat.le_trans HKB.out (by omega))) (Nat.le_trans HLN.out (Nat.le_trans HKB.out (by omega)))).mono ?_); rintro e w4 ⟨rfl, hb4⟩
         have HB4 := Lib.hid hb4
         have Q4 := Lib.hid (MV.out _ w4 (hb4.block b (Nat.lt_trans HP.out.lt HZ3.out)) (hb4.block w.heap.size HZ3.out) Q3.out)
         clear hb4))
  go_wp2
  go_ret
  exact ⟨rfl, pair_do HP.out HBX.out HK2.out HK3.out HB4.out⟩
theorem RSF.setOut {w : World} {g : Nat} {vd vw vv : Value} {x : Fld} (h : RSF w g vd vw vv x) {p : Addr} (hp : p.block ∉ rfoot g vd vw vv) (u : Value) : RSF (w.setCell p u) g vd vw vv x :=
  h.touch (F := [p.block]) ((Touch.refl _ _).setCell (.inl (by simp)) u) (fun k hk e => hp (by simp at e; rw [← e]; exact hk))
theorem pair_same {w w' : World} {b g bn bd h : Nat} {v vd vw vv : Value} {x : Fld} (p : PairS w b g bn bd v h vd vw vv x) (hb : Below w.heap.size w w') : PairNext w b (pfoot b g bn bd v h vd vw vv) x w' :=
  ⟨_, ⟨g, bn, bd, v, h, vd, vw, vv, p.keep hb, fun m hm => hm⟩, Touch.below hb _, fun m hm => .inl hm⟩
theorem pair_open {w w6 : World} {b g bn bd h g2 bn2 bd2 h2 : Nat} {v vd vw vv v2 vd2 vw2 vv2 : Value} {x y : Fld} (p : PairS w b g bn bd v h vd vw vv x) (h6 : Below w.heap.size w w6) (q1 : PSF w6 g2 bn2 bd2 v2 y) (f1 : ∀ m ∈ foot g2 bn2 bd2 v2, w.heap.size ≤ m)
    (q2 : RSF w6 h2 vd2 vw2 vv2 y) (f2 : ∀ m ∈ rfoot h2 vd2 vw2 vv2, w.heap.size ≤ m) (d : ∀ m ∈ foot g2 bn2 bd2 v2, m ∉ rfoot h2 vd2 vw2 vv2) :
    PairNext w b (pfoot b g bn bd v h vd vw vv) y ((w6.setCell ⟨b, 0, none⟩ (.pointer (some ⟨g2, 0, none⟩))).setCell ⟨b, 1, none⟩ (.pointer (some ⟨h2, 0, none⟩))) := by
  have hlt := p.lt
  have n1 : b ∉ foot g2 bn2 bd2 v2 := fun e => by have := f1 b e; omega
  have n2 : b ∉ rfoot h2 vd2 vw2 vv2 := fun e => by have := f2 b e; omega
  have p6 := p.keep h6
  have hz := h6.size
  refine ⟨pfoot b g2 bn2 bd2 v2 h2 vd2 vw2 vv2, ⟨g2, bn2, bd2, v2, h2, vd2, vw2, vv2, ⟨?_, ?_, fun j => ?_, ?_, ?_, d, n1, n2, ?_⟩, fun m hm => hm⟩, ?_, fun m hm => ?_⟩
  · exact (cell_other (by omega) _).trans (cell_set p6.p0 _)
  · exact cell_set ((cell_other (by omega) _).trans p6.p1) _
  · rw [World.frozen?_setCell, World.frozen?_setCell]; exact p6.pf j
  · exact (q1.setOut (p := ⟨b, 0, none⟩) n1 _).setOut (p := ⟨b, 1, none⟩) n1 _
  · exact (q2.setOut (p := ⟨b, 0, none⟩) n2 _).setOut (p := ⟨b, 1, none⟩) n2 _
  · simp [World.setCell]; omega
  · exact ((Touch.below h6 _).setCell (p := ⟨b, 0, none⟩) (.inl (mem_pfoot.2 (.inl rfl))) _).setCell (p := ⟨b, 1, none⟩) (.inl (mem_pfoot.2 (.inl rfl))) _
  · rcases mem_pfoot.1 hm with e | e | e
    · exact .inl (mem_pfoot.2 (.inl e))
    · exact .inr (f1 m e)
    · exact .inr (f2 m e)
/-- One step of both. -/
def stepZ (x : Fld) (o : OpZ) : Fld := if o.kind = 10 then (if goesB o.n then fieldsOf o.n x.dur else x) else (doZ x o).2
theorem step_fine {K : Nat} {x : Fld} (h : Fine K x) {o : OpZ} (ho : o.Ok) : Fine (K + 1) (stepZ x o) := by
  unfold stepZ
  split
  · split
    · rename_i hg
      exact fieldsOf_fine hg h.sd h.fd (by have := h.len; omega)
    · exact h.mono (by omega)
  · exact do_fine h ho
set_option maxRecDepth 100000 in
set_option maxHeartbeats 8000000 in
theorem lstep_open (K : Nat) (hK : K ≤ 2097151) (okey odata : ByteArray) (on : Int) (w : World) (b g bn bd : Nat) (v : Value) (h : Nat) (vd vw vv : Value) (x : Fld) (hp : PairS w b g bn bd v h vd vw vv x) (hf : Fine K x) :
    Calls Try.prog 38 #[.pointer (some ⟨b, 0, none⟩), opV ⟨10, okey, odata, on⟩] w fun e w' => e = .returned (.bool true) ∧ PairNext w b (pfoot b g bn bd v h vd vw vv) (if goesB on then fieldsOf on x.dur else x) w' := by
  have HP := Lib.hid hp
  have p0 := hp.p0
  have p1 := hp.p1
  have hlt := hp.lt
  have hop := open_image hf.sd hf.fd
  have hil := imageL_len hf.fd
  have hdl : x.dur.length ≤ 2097151 := by have := hf.len; omega
  have himl : (⟨(imageL x.dur).toArray⟩ : ByteArray).size ≤ 4398046511104 := by
    show (imageL x.dur).toArray.size ≤ _
    simp only [List.size_toArray]
    omega
  have CI := Lib.hid (fun w (h : PSF w g bn bd v x) => simage_calls K (by omega) w g bn bd v x h hf)
  have CR := Lib.hid (fun w (hh : RSF w h vd vw vv x) => rimage_calls K (by omega) w h vd vw vv x hh hf)
  have hop2 : openL ⟨(imageL x.dur).toArray⟩ = some x.dur := hop
  obtain ⟨im, him⟩ : ∃ im : ByteArray, ⟨(imageL x.dur).toArray⟩ = im := ⟨_, rfl⟩
  simp only [him] at CI CR
  rw [him] at hop2 himl
  have HBX := Lib.hid ((Below.refl w.heap.size w).alloc (Nat.le_refl _) (.cells #[.int .i64 10, .string okey, .string odata, .int .i64 on] 31)).drew
  have HP0 := Lib.hid (HP.out.keep HBX.out)
  have Q0 := Lib.hid (show ((w.alloc (.cells #[.int .i64 10, .string okey, .string odata, .int .i64 on] 31)).drew).cell? ⟨b, 0, none⟩ = some (.pointer (some ⟨g, 0, none⟩)) ∧ ((w.alloc (.cells #[.int .i64 10, .string okey, .string odata, .int .i64 on] 31)).drew).cell? ⟨b, 1, none⟩ = some (.pointer (some ⟨h, 0, none⟩)) ∧ ((w.alloc (.cells #[.int .i64 10, .string okey, .string odata, .int .i64 on] 31)).drew).cell? ⟨w.heap.size, 3, none⟩ = some (.int .i64 on) from ⟨HP0.out.p0, HP0.out.p1, World.cell?_alloc_new w _ _ 3⟩)
  have MV := Lib.hid (show ∀ (w1 w2 : World), Below w1.heap.size w1 w2 → b < w1.heap.size → w.heap.size < w1.heap.size → (w1.cell? ⟨b, 0, none⟩ = some (.pointer (some ⟨g, 0, none⟩)) ∧ w1.cell? ⟨b, 1, none⟩ = some (.pointer (some ⟨h, 0, none⟩)) ∧ w1.cell? ⟨w.heap.size, 3, none⟩ = some (.int .i64 on)) → (w2.cell? ⟨b, 0, none⟩ = some (.pointer (some ⟨g, 0, none⟩)) ∧ w2.cell? ⟨b, 1, none⟩ = some (.pointer (some ⟨h, 0, none⟩)) ∧ w2.cell? ⟨w.heap.size, 3, none⟩ = some (.int .i64 on)) from fun w1 w2 hb e1 e2 q =>
    ⟨(hb.cell (p := ⟨b, 0, none⟩) e1).trans q.1, (hb.cell (p := ⟨b, 1, none⟩) e1).trans q.2.1, (hb.cell (p := ⟨w.heap.size, 3, none⟩) e2).trans q.2.2⟩)
  have hz0 : w.heap.size < ((w.alloc (.cells #[.int .i64 10, .string okey, .string odata, .int .i64 on] 31)).drew).heap.size := by simp
  have HZ0 := Lib.hid hz0
  have HLT := Lib.hid hlt
  clear hz0
  cases hg : goesB on
  · have CS := Lib.hid (fun w => sopen_no im on hg w)
    have CT := Lib.hid (fun w => ropen_no im on hg w)
    clear hp hf hop hil hdl himl hop2 him hg
    simp only [opV]
    go_enter Try.func38, Try.ntmps38
    go_wp2_with fail
    go_region_held3 (fun w' => w'.cell? ⟨b, 0, none⟩ = some (.pointer (some ⟨g, 0, none⟩)) ∧ w'.cell? ⟨b, 1, none⟩ = some (.pointer (some ⟨h, 0, none⟩)) ∧ w'.cell? ⟨w.heap.size, 3, none⟩ = some (.int .i64 on))
      (first | exact Q0.out | exact Q2.out | go_keep)
      (first
        | (go_at_call 22; go_split_ands; (with_reducible refine (CI.out _ HP0.out.ps).mono ?_); rintro e w2 ⟨rfl, hb2⟩
           have HB2 := Lib.hid (HBX.out.trans (hb2.mono HBX.out.size))
           have HP2 := Lib.hid (HP0.out.keep hb2)
           have HZ2 := Lib.hid (Nat.lt_of_lt_of_le HZ0.out hb2.size)
           have Q2 := Lib.hid (MV.out _ w2 hb2 HP0.out.lt HZ0.out Q0.out)
           clear hb2)
        | (go_at_call 35; go_split_ands; (with_reducible refine (CS.out _).mono ?_); rintro e w3 ⟨rfl, rfl⟩))
    go_wp2_with fail
    go_region_held3 (fun w' => w'.cell? ⟨b, 0, none⟩ = some (.pointer (some ⟨g, 0, none⟩)) ∧ w'.cell? ⟨b, 1, none⟩ = some (.pointer (some ⟨h, 0, none⟩)) ∧ w'.cell? ⟨w.heap.size, 3, none⟩ = some (.int .i64 on))
      (first | exact Q2.out | exact Q5.out | go_keep)
      (first
        | (go_at_call 34; go_split_ands; (with_reducible refine (CR.out _ HP2.out.rs.drew).mono ?_); rintro e w5 ⟨rfl, hb5⟩
           have HB5 := Lib.hid (HB2.out.drew.trans (hb5.mono HB2.out.size))
           have Q5 := Lib.hid (MV.out _ w5 hb5 HP2.out.lt HZ2.out Q2.out)
           clear hb5)
        | (go_at_call 36; go_split_ands; (with_reducible refine (CT.out _).mono ?_); rintro e w6 ⟨rfl, rfl⟩))
    go_wp2
    go_ret
    exact ⟨rfl, pair_same HP.out HB5.out⟩
  · have CS := Lib.hid (fun w => (show Calls Try.prog 35 #[.string im, .int .i64 on] w fun e w' => ∃ g2 bn2 bd2, e = .returned (.tuple #[.pointer (some ⟨g2, 0, none⟩), .int .i64 0]) ∧ PSF w' g2 bn2 bd2 (.slice none 0 0) (fieldsOf on x.dur) ∧ (∀ m ∈ foot g2 bn2 bd2 (.slice none 0 0), w.heap.size ≤ m) ∧ Below w.heap.size w w' from
      (sopen_yes im himl on hg w).mono fun e w' ⟨hb, hor⟩ => by
        rcases hor with ⟨h1, _⟩ | ⟨l', g2, bn2, bd2, h1, he, hp2, hf2⟩
        · rw [hop2] at h1; cases h1
        · rw [hop2] at h1
          injection h1 with h1
          subst h1
          exact ⟨g2, bn2, bd2, he, hp2, hf2, hb⟩))
    have CT := Lib.hid (fun w => (show Calls Try.prog 36 #[.string im, .int .i64 on] w fun e w' => ∃ g2 vd2 vw2 vv2, e = .returned (.tuple #[.pointer (some ⟨g2, 0, none⟩), .int .i64 0]) ∧ RSF w' g2 vd2 vw2 vv2 (fieldsOf on x.dur) ∧ (∀ m ∈ rfoot g2 vd2 vw2 vv2, w.heap.size ≤ m) ∧ Below w.heap.size w w' from
      (ropen_yes im himl on hg w).mono fun e w' ⟨hb, hor⟩ => by
        rcases hor with ⟨h1, _⟩ | ⟨l', g2, vd2, vw2, vv2, h1, he, hp2, hf2⟩
        · rw [hop2] at h1; cases h1
        · rw [hop2] at h1
          injection h1 with h1
          subst h1
          exact ⟨g2, vd2, vw2, vv2, he, hp2, hf2, hb⟩))
    obtain ⟨y, hy⟩ : ∃ y, fieldsOf on x.dur = y := ⟨_, rfl⟩
    simp only [hy] at CS CT
    rw [if_pos rfl, hy]
    clear hp hf hop hil hdl himl hop2 him hg hy
    simp only [opV]
    go_enter Try.func38, Try.ntmps38
    go_wp2_with fail
    go_region_held3 (fun w' => w'.cell? ⟨b, 0, none⟩ = some (.pointer (some ⟨g, 0, none⟩)) ∧ w'.cell? ⟨b, 1, none⟩ = some (.pointer (some ⟨h, 0, none⟩)) ∧ w'.cell? ⟨w.heap.size, 3, none⟩ = some (.int .i64 on))
      (first | exact Q0.out | exact Q2.out | exact Q3.out | go_keep)
      (first
        | (go_at_call 22; go_split_ands; (with_reducible refine (CI.out _ HP0.out.ps).mono ?_); rintro e w2 ⟨rfl, hb2⟩
           have HB2 := Lib.hid (HBX.out.trans (hb2.mono HBX.out.size))
           have HP2 := Lib.hid (HP0.out.keep hb2)
           have HZ2 := Lib.hid (Nat.lt_of_lt_of_le HZ0.out hb2.size)
           have Q2 := Lib.hid (MV.out _ w2 hb2 HP0.out.lt HZ0.out Q0.out)
           clear hb2)
        | (go_at_call 35; go_split_ands; (with_reducible refine (CS.out _).mono ?_); rintro e w3 ⟨g2, bn2, bd2, rfl, hq3, hf3, hb3⟩
           have HQ3 := Lib.hid hq3
           have HF3 := Lib.hid (fun m hm => Nat.le_trans HB2.out.size (hf3 m hm))
           have HB3 := Lib.hid (HB2.out.trans (hb3.mono HB2.out.size))
           have HP3 := Lib.hid (HP2.out.keep hb3)
           have HZ3 := Lib.hid (Nat.lt_of_lt_of_le HZ2.out hb3.size)
           have Q3 := Lib.hid (MV.out _ w3 hb3 HP2.out.lt HZ2.out Q2.out)
           clear hq3 hf3 hb3))
    go_wp2_with fail
    go_region_held3 (fun w' => w'.cell? ⟨b, 0, none⟩ = some (.pointer (some ⟨g, 0, none⟩)) ∧ w'.cell? ⟨b, 1, none⟩ = some (.pointer (some ⟨h, 0, none⟩)) ∧ w'.cell? ⟨w.heap.size, 3, none⟩ = some (.int .i64 on))
      (first | exact Q3.out | exact Q5.out | exact Q6.out | go_keep)
      (first
        | (go_at_call 34; go_split_ands; (with_reducible refine (CR.out _ HP3.out.rs.drew).mono ?_); rintro e w5 ⟨rfl, hb5⟩
           have HB5 := Lib.hid (HB3.out.drew.trans (hb5.mono HB3.out.size))
           have HQ5 := Lib.hid (HQ3.out.drew.keep hb5)
           have HZ5 := Lib.hid (Nat.lt_of_lt_of_le HZ3.out hb5.size)
           have HP5 := Lib.hid (Nat.lt_of_lt_of_le HP3.out.lt hb5.size)
           have Q5 := Lib.hid (MV.out _ w5 hb5 HP3.out.lt HZ3.out Q3.out)
           clear hb5)
        | (go_at_call 36; go_split_ands; (with_reducible refine (CT.out _).mono ?_); rintro e w6 ⟨h2, vd2, vw2, vv2, rfl, hq6, hf6, hb6⟩
           have HQ6 := Lib.hid hq6
           have HF6 := Lib.hid (fun m hm => Nat.le_trans HB5.out.size (hf6 m hm))
           have HD := Lib.hid (show ∀ m ∈ foot g2 bn2 bd2 (.slice none 0 0), m ∉ rfoot h2 vd2 vw2 vv2 from fun m hm e => by { have h1 := HQ5.out.foot_lt m hm; have h2 := hf6 m e; omega })
           have HS6 := Lib.hid (HQ5.out.keep hb6)
           have HB6 := Lib.hid (HB5.out.trans (hb6.mono HB5.out.size))
           have Q6 := Lib.hid (MV.out _ w6 hb6 HP5.out HZ5.out Q5.out)
           have PF6 := Lib.hid (HP.out.keep HB6.out)
           clear hq6 hf6 hb6))
    have f0 := PF6.out.pf 0
    have f1 := PF6.out.pf 1
    go_wp2
    go_ret
    exact ⟨rfl, pair_open HP.out HB6.out HS6.out HF3.out HQ6.out HF6.out HD.out⟩
theorem lstep_calls (K : Nat) (hK : K ≤ 2097151) (o : OpZ) (ho : o.Ok) (w : World) (b : Nat) (H : List Nat) (x : Fld) (hp : PairAt w b H x) (hf : Fine K x) :
    Calls Try.prog 38 #[.pointer (some ⟨b, 0, none⟩), opV o] w fun e w' => e = .returned (.bool true) ∧ PairNext w b H (stepZ x o) w' := by
  obtain ⟨g, bn, bd, v, h, vd, vw, vv, p, hm⟩ := hp
  unfold stepZ
  by_cases h10 : o.kind = 10
  · rw [if_pos h10]
    obtain ⟨ok, okey, odata, on⟩ := o
    simp only at h10
    subst h10
    exact (lstep_open K hK okey odata on w b g bn bd v h vd vw vv x p hf).mono fun e w' ⟨he, hn⟩ => ⟨he, hn.wide hm⟩
  · rw [if_neg h10]
    exact (lstep_do K hK o ho h10 w b g bn bd v h vd vw vv x p hf).mono fun e w' ⟨he, hn⟩ => ⟨he, hn.wide hm⟩
end Go.Proofs.Ytpddnbkmiogheaa
