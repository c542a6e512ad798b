import Derived.Test.YtegplajddhiejaaGreatRs3
import Derived.Deep.RegionWith
import Derived.Deep.RegionLaw
set_option linter.unusedVariables false
namespace Go.Proofs.YtegplajddhiejaaGreat
open Go.RowKit Go.WideMaps Go.Maps Go.MapKept
theorem infoRWrite : (Tryz.prog.info? 107).map (fun i => (i.zero, i.size, i.bytes)) = some (some (.agg #[.string ⟨#[]⟩, .string ⟨#[]⟩, .bool false]), 3, 40) := by kernel_rfl
theorem RSF.other {w : World} {g : Nat} {vd vw vv : Value} {x : Fld} (h : RSF w g vd vw vv x) (u : Int) : RSF w g vd vw vv { x with used := u } :=
  ⟨h.c0, h.c1, h.c2, h.c3, h.c4, h.c5, h.c6, h.fr, h.dur, h.now, h.row, h.nd, h.nn, h.nw, h.lt⟩
theorem refDo_is {l : List Rec} (hs : Sorted l) (p : Wr) : refDo p p.cut l = doW l p := by
  obtain ⟨k, d, c⟩ := p
  cases c
  · exact refDo_false _ hs
  · exact refDo_true _ l
theorem struck_used (x : Fld) (u : Int) : ({ x with used := u } : Fld).struck = { x.struck with used := u } := by
  unfold Fld.struck
  split <;> rfl
set_option maxRecDepth 100000 in
set_option maxHeartbeats 4000000 in
theorem rwrite_calls (K : Nat) (hK : K ≤ 2097151) (p : Wr) (u : Int) (w : World) (g : Nat) (vd vw vv : Value) (x : Fld) (h : RSF w g vd vw vv x) (hf : Fine K x) :
    Calls Tryz.prog 59 #[.pointer (some ⟨g, 0, none⟩), .agg #[.string p.key, .string p.data, .bool p.cut]] w fun e w' => e = .returned (.int .i64 (endZ x)) ∧ RKept w g vd vw vv (x.wrote p u) w' := by
  unfold endZ
  obtain ⟨i0, hi, hz0, hz1, hz2⟩ := info_parts infoRWrite
  have hdo := refDo_is hf.sn p
  have hlen := len_do p x.now
  have hl0 := hf.left.1
  have hl1 := hf.left.2
  have hpl : x.pend.length ≤ 2097151 := by have := hf.len; omega
  have hnl : x.now.length ≤ 4194303 := by have := hf.ln; omega
  obtain ⟨L, hL⟩ : ∃ L, doW x.now p = L := ⟨_, rfl⟩
  rw [hL] at hdo hlen
  have HW : Hid (x.wrote p u = ({ x with now := L, pend := x.pend ++ [p], used := u } : Fld).struck) := Lib.hid (by rw [← hL]; rfl)
  obtain ⟨k, d, ct⟩ := p
  simp only at hdo
  have H := Lib.hid h
  have HA := Lib.hid (h.alloc (.cells #[.string k, .string d, .bool ct] 107))
  have CD := Lib.hid (fun w (hS : RecL w vv x.now) => (show Calls Tryz.prog 72 #[vv, .agg #[.string k, .string d, .bool ct]] w fun e w' => ∃ v', e = .returned v' ∧ RecL w' v' L ∧ Row w' w.heap.size 2 v' L.length (recsV L) ∧ Below w.heap.size w w' from
    (rdone_calls x.now ⟨k, d, ct⟩ vv w hS hnl).mono fun e w' ⟨v', he, hr, hb⟩ => ⟨v', he, by rw [hdo] at hr; exact hr.mono (Nat.zero_le _), by rw [hdo] at hr; exact hr, hb⟩))
  have CS := Lib.hid (fun w vw vv x h h0 h1 => rdies_calls w g vd vw vv x h h0 h1)
  have hlt := h.lt
  have a6 := h.c6
  have af6 := h.fr 6
  obtain ⟨b, hb⟩ : ∃ b, strikesB x.left = b := ⟨_, rfl⟩
  have HSB := Lib.hid hb
  have hvv : ∃ a n c, vv = .slice a n c := by obtain ⟨a, c, e⟩ := h.now.slice; exact ⟨a, _, c, e⟩
  obtain ⟨ra, rn, rc, hvv⟩ := hvv
  have hve : ∃ a n c, vw = .slice a n c := by obtain ⟨a, c, e⟩ := h.row.slice; exact ⟨a, _, c, e⟩
  obtain ⟨va, vn, vc, hve⟩ := hve
  subst hvv hve
  rw [hb]
  clear h hb hdo hlen hL hf
  go_enter Tryz.func59, Tryz.ntmps59
  go_wp2_with fail
  go_region_with (go_at_call 72; (with_reducible refine (CD.out _ HA.out.drew.now).mono ?_); rintro e w1 ⟨v1, rfl, hl1', hr1, hb1⟩
                  have HP := Lib.hid (HA.out.drew.keep hb1)
                  have hv1 : ∃ a n c, v1 = .slice a n c := by { obtain ⟨a, c, e⟩ := hr1.slice; exact ⟨a, _, c, e⟩ }
                  obtain ⟨da, dn, dc, hv1⟩ := hv1
                  subst hv1
                  have p6 := HP.out.c6
                  have pf6 := HP.out.fr 6
                  have p2 := HP.out.c2
                  have pf2 := HP.out.fr 2
                  have b0 : w1.cell? ⟨w.heap.size, 0, none⟩ = some (.string k) := (hb1.cell (p := ⟨w.heap.size, 0, none⟩) (by simp)).trans (World.cell?_alloc_new w _ _ 0)
                  have b1 : w1.cell? ⟨w.heap.size, 1, none⟩ = some (.string d) := (hb1.cell (p := ⟨w.heap.size, 1, none⟩) (by simp)).trans (World.cell?_alloc_new w _ _ 1)
                  have b2 : w1.cell? ⟨w.heap.size, 2, none⟩ = some (.bool ct) := (hb1.cell (p := ⟨w.heap.size, 2, none⟩) (by simp)).trans (World.cell?_alloc_new w _ _ 2)
                  have hsz1 : w.heap.size < w1.heap.size := World.block_lt_of_cell? w1 _ b0
                  have HN := Lib.hid (show ∀ m, (Value.slice da dn dc).ownBlock = some m → w.heap.size < m from fun m hm => by { have h1 := (hr1.lt m hm).1; have h2 : w.heap.size + 1 ≤ m := by { simpa using h1 }; omega })
                  have HV := Lib.hid (HP.out.setView hl1' (fun e => by { have h1 := HN.out _ e; omega }) (fun m hm e => by { have h1 := HN.out _ e; have h2 := rsf_row H.out.row hm; omega }))
                  have HT1 := Lib.hid (((((Touch.refl (rfoot g vd (.slice va vn vc) (.slice ra rn rc)) w).alloc (.cells #[.string k, .string d, .bool ct] 107)).drew).then hb1).setCell (p := ⟨g, 6, none⟩) (.inl (mem_rfoot.2 (.inl rfl))) (.slice da dn dc))
                  clear hl1' hr1 hb1)
  all_goals
    go_wp2_with fail
    generalize hwS : w1.setCell ⟨g, 6, none⟩ (.slice da dn dc) = wS at HV HT1 ⊢
    have hsS : wS.heap.size = w1.heap.size := by rw [← hwS]; simp [World.setCell]
    have hgne : ∀ j, (⟨g, 6, none⟩ : Addr) ≠ ⟨w.heap.size, j, none⟩ := fun j e => by injection e with e1; omega
    have d0 : wS.cell? ⟨w.heap.size, 0, none⟩ = some (.string k) := by rw [← hwS, World.cell?_setCell_other (h := hgne 0)]; exact b0
    have d1 : wS.cell? ⟨w.heap.size, 1, none⟩ = some (.string d) := by rw [← hwS, World.cell?_setCell_other (h := hgne 1)]; exact b1
    have d2 : wS.cell? ⟨w.heap.size, 2, none⟩ = some (.bool ct) := by rw [← hwS, World.cell?_setCell_other (h := hgne 2)]; exact b2
    have e2 := HV.out.c2
    have ef2 := HV.out.fr 2
    have hszS : w.heap.size < wS.heap.size := by omega
    have hgS : g < wS.heap.size := by omega
    have HSS := Lib.hid hsS
    clear hwS hsS b0 b1 b2 p2 pf2 p6 pf6 hgne
    go_region_law (refine step_append_row _ rfl _ _ 44 44 rfl 0 107 i0 (.agg #[.string ⟨#[]⟩, .string ⟨#[]⟩, .bool false]) 3 40 Tryz.underlying44 hi hz0 hz1 hz2 rfl (.slice va vn vc) _ _ rfl (Row.drew (Row.alloc HV.out.row _)) _ 1 _ rfl (Row.src (Row.drew (row_lit wS _ 107 1 3 (by unfold maxLen; omega) rfl)) Tryz.underlying44 (by intro z hz; simp at hz; rcases hz with rfl | rfl | rfl <;> rfl)) (by unfold maxLen; show x.pend.length + 1 ≤ _; omega) (by show (x.pend.length + 1) * 40 ≤ _; omega) (Nat.zero_le _) ?_; intro v2 w2 hr2 hg2 hat2
                   have hve2 : ∃ a n c, v2 = .slice a n c := by { obtain ⟨a, c, e⟩ := hr2.slice; exact ⟨a, _, c, e⟩ }
                   obtain ⟨va2, vn2, vc2, hve2⟩ := hve2
                   subst hve2
                   have hr3 : Row w2 0 3 (.slice va2 vn2 vc2) (x.pend ++ [(⟨k, d, ct⟩ : Wr)]).length (wrsV (x.pend ++ [⟨k, d, ct⟩])) := by { rw [wrsV_snoc, List.length_append]; exact hr2 }
                   have HQ := Lib.hid (RSF.append (RSF.drew (HV.out.alloc (.cells #[.string k, .string d, .bool ct] 107))) hr3 hg2 (by rcases hat2 with e | e; exact .inl e; exact .inr ⟨_, e, Nat.le_refl _⟩))
                   have hn3 : g ∉ (Value.slice va vn vc).ownBlock.toList := fun e => (H.out.nw g (by simpa using e)).1 rfl
                   have hT3 := (Touch.refl (Value.slice va vn vc).ownBlock.toList _).grown hg2 (fun k hk => .inl (by simp [hk]))
                   have hgl : g < wS.heap.size := HV.out.lt
                   have q3 : w2.cell? ⟨g, 2, none⟩ = some (.slice va vn vc) := (hT3.cell (p := ⟨g, 2, none⟩) (Nat.lt_succ_of_lt hgl |> fun h => by simpa using h) hn3).trans (RSF.drew (HV.out.alloc _)).c2
                   have q4 : w2.frozen? ⟨g, 2, none⟩ = false := (hT3.frozen (p := ⟨g, 2, none⟩) (Nat.lt_succ_of_lt hgl |> fun h => by simpa using h) hn3).trans ((RSF.drew (HV.out.alloc _)).fr 2)
                   have HT2 := Lib.hid ((((HT1.out.alloc (.cells #[.string k, .string d, .bool ct] 107)).drew).grown hg2 (fun k hk => .inl (mem_rfoot.2 (.inr (.inr (.inl hk)))))).setCell (p := ⟨g, 2, none⟩) (.inl (mem_rfoot.2 (.inl rfl))) (.slice va2 vn2 vc2))
                   have HVB := Lib.hid (show ∀ m ∈ rfoot g vd (.slice va2 vn2 vc2) (.slice da dn dc), m ∈ rfoot g vd (.slice va vn vc) (.slice ra rn rc) ∨ w.heap.size ≤ m from fun m hm => by {
                     rcases mem_rfoot.1 hm with e | e | e | e
                     · exact .inl (mem_rfoot.2 (.inl e))
                     · exact .inl (mem_rfoot.2 (.inr (.inl e)))
                     · rcases hat2 with e2 | e2
                       · exact .inl (mem_rfoot.2 (.inr (.inr (.inl (by rw [← e2]; exact e)))))
                       · right; rw [e] at e2; injection e2 with e2; have h3 := HSS.out; simp at e2; omega
                     · right; exact Nat.le_of_lt (HN.out m e) })
                   clear hr2 hg2 hat2 hr3 hT3 hn3 hgl)
    go_wp2_with (go_at_call 17; (with_reducible refine (CS.out _ _ _ _ HQ.out hl0 hl1).mono ?_); rintro e w3 ⟨rfl, hp3, ht3, hz3⟩
                 have HP3 := Lib.hid (show RSF w3 g vd (.slice va2 vn2 vc2) (.slice da dn dc) (x.wrote ⟨k, d, ct⟩ u) by rw [HW.out, struck_used { x with now := L, pend := x.pend ++ [⟨k, d, ct⟩] } u]; exact hp3.other u)
                 have HT3 := Lib.hid (HT2.out.trans ht3 (fun x hx => by simp at hx; subst hx; exact .inl (mem_rfoot.2 (.inl rfl))))
                 simp only [HSB.out]
                 clear hp3 ht3)
  all_goals go_ret
  all_goals exact ⟨rfl, _, _, _, HP3.out, HT3.out, HVB.out⟩
end Go.Proofs.YtegplajddhiejaaGreat

set_option linter.unusedVariables false
namespace Go.Proofs.YtegplajddhiejaaGreat
open Go.RowKit Go.WideMaps Go.Maps Go.MapKept
theorem RKept.since {w w5 w' : World} {g : Nat} {vd vw vv : Value} {x : Fld} (h : RKept w5 g vd vw vv x w') (hb : Below w.heap.size w w5) : RKept w g vd vw vv x w' := by
  obtain ⟨vd', vw', vv', p, t, f⟩ := h
  exact ⟨vd', vw', vv', p, (Touch.below hb _).trans t (fun k hk => .inl hk), fun m hm => (f m hm).imp id (fun e => Nat.le_trans hb.size e)⟩
theorem then_is {K : Nat} {x : Fld} (h : Fine K x) (k d : ByteArray) : thenZ x k d = (costL (doW x.now ⟨k, d, false⟩) : Nat) := by
  have hc := cost_put (k := k) (d := d) h.sn
  unfold thenZ oldC
  rw [h.used]
  show _ = ((costL (putL k d x.now) : Nat) : Int)
  cases hf : findL k x.now with
  | none => rw [hf] at hc; simp only at hc ⊢; omega
  | some r => rw [hf] at hc; simp only at hc ⊢; omega
theorem fit_len {l : List Rec} (hf : ∀ r ∈ l, Fit r) (hl : l.length ≤ 2097152) : costL l ≤ 2199191027712 := by
  have h1 := cost_le hf
  omega
end Go.Proofs.YtegplajddhiejaaGreat
