import Derived.Test.YtegplajddhiejaaGreatMgLoneMake6
set_option linter.unusedVariables false
namespace Go.Proofs.YtegplajddhiejaaGreat
open Go.RowKit Go.WideMaps Go.Maps Go.MapKept
theorem rsput_calls (k d : ByteArray) (hk : k.size ≤ maxLen) (hd : d.size ≤ maxLen) (w : World) (b : Nat) (l : List Rec) (h : SMap w b l) (hl : l.length < maxLen) :
    Calls Tryz.prog 23 #[.map (some b), .string k, .string d] w fun e w' => e = .returned (.tuple #[]) ∧ SMap w' b (putL k d l) ∧ w.grownBy w' (some b) ∧ w'.heap.size = w.heap.size := by
  obtain ⟨w1, hrun, h1, h2, h3⟩ := h.run_put hk hd hl
  have H1 := Lib.hid h1
  have H3 := Lib.hid h3
  clear h1 h3 h
  go_enter Tryz.func23, Tryz.ntmps23
  go_wp2_with fail
  go_end0
  exact ⟨rfl, H1.out, h2, H3.out⟩
theorem rscut_calls (k d : ByteArray) (hk : k.size ≤ maxLen) (w : World) (b : Nat) (l : List Rec) (h : SMap w b l) :
    Calls Tryz.prog 24 #[.map (some b), .string k, .string d] w fun e w' => e = .returned (.tuple #[]) ∧ SMap w' b (cutL k l) ∧ w.grownBy w' (some b) ∧ w'.heap.size = w.heap.size := by
  obtain ⟨w1, hrun, h1, h2, h3⟩ := h.run_cut hk 0
  have H1 := Lib.hid h1
  have H3 := Lib.hid h3
  clear h1 h3 h
  go_enter Tryz.func24, Tryz.ntmps24
  go_wp2_with fail
  go_end0
  exact ⟨rfl, H1.out, h2, H3.out⟩
theorem infoWrite : (Tryz.prog.info? 61).map (fun i => (i.zero, i.size, i.bytes)) = some (some (.agg #[.string ⟨#[]⟩, .string ⟨#[]⟩, .bool false]), 3, 40) := by kernel_rfl
set_option maxRecDepth 100000 in
set_option maxHeartbeats 2000000 in
theorem sdone_put (k d : ByteArray) (hk : k.size ≤ 4194304) (hd : d.size ≤ 4194304) (w : World) (g bn bd : Nat) (v : Value) (x : Fld) (h : PSF w g bn bd v x) (hl : x.now.length < 4194304) (hp : x.pend.length < 4194304) (hl0 : 0 ≤ x.left) (hl1 : x.left ≤ 9223372036854775807) :
    Calls Tryz.prog 55 #[.pointer (some ⟨g, 0, none⟩), .agg #[.string k, .string d, .bool false], .func (.func 23) #[.map (some bn)] #[]] w fun e w' => e = .returned (.int .i64 (endZ x)) ∧ ∃ v', PSF w' g bn bd v' (Fld.struck { x with now := putL k d x.now, pend := x.pend ++ [⟨k, d, false⟩] }) ∧ Touch (foot g bn bd v) w w' ∧ (∀ m, v'.ownBlock = some m → v.ownBlock = some m ∨ w.heap.size ≤ m) := by
  unfold endZ
  obtain ⟨i0, hi, hz0, hz1, hz2⟩ := info_parts infoWrite
  have hkm : k.size ≤ maxLen := by unfold maxLen; omega
  have hdm : d.size ≤ maxLen := by unfold maxLen; omega
  have H := Lib.hid h
  have HA := Lib.hid (h.alloc (.cells #[.string k, .string d, .bool false] 61))
  have CD := Lib.hid (fun w (hS : SMap w bn x.now) => rsput_calls k d hkm hdm w bn x.now hS (by unfold maxLen; omega))
  have CS := Lib.hid (fun w v x h h0 h1 => sstrikes_calls w g bn bd v x h h0 h1)
  have hlt := h.lt
  obtain ⟨b, hb⟩ : ∃ b, strikesB x.left = b := ⟨_, rfl⟩
  have HSB := Lib.hid hb
  rw [hb]
  clear h hkm hdm hb
  go_enter Tryz.func55, Tryz.ntmps55
  go_wp2_with (go_at_call 23; (with_reducible refine (CD.out _ HA.out.now).mono ?_); rintro e w1 ⟨rfl, hs1, hg1, hz1'⟩
               have HP := Lib.hid (HA.out.putNow hg1 hs1)
               have c3 := HP.out.c3
               have hb1 : w1.cell? ⟨w.heap.size, 0, none⟩ = some (.string k) ∧ w1.cell? ⟨w.heap.size, 1, none⟩ = some (.string d) ∧ w1.cell? ⟨w.heap.size, 2, none⟩ = some (.bool false) := by {
                 have hne : w.heap.size ≠ bn := Nat.ne_of_gt H.out.now.lt
                 have hT : Touch [bn] (w.alloc (.cells #[.string k, .string d, .bool false] 61)) w1 := (Touch.refl _ _).grown hg1 (fun k hk => by injection hk with hk; simp [hk])
                 refine ⟨(hT.cell (p := ⟨w.heap.size, 0, none⟩) (by simp) (by simpa using hne)).trans (World.cell?_alloc_new w _ _ 0), (hT.cell (p := ⟨w.heap.size, 1, none⟩) (by simp) (by simpa using hne)).trans (World.cell?_alloc_new w _ _ 1), (hT.cell (p := ⟨w.heap.size, 2, none⟩) (by simp) (by simpa using hne)).trans (World.cell?_alloc_new w _ _ 2)⟩ }
               obtain ⟨b0, b1, b2⟩ := hb1
               have hsz1 : w1.heap.size = w.heap.size + 1 := by rw [hz1']; simp
               have HT1 := Lib.hid (((Touch.refl (foot g bn bd v) w).alloc (.cells #[.string k, .string d, .bool false] 61)).grown hg1 (fun k hk => by injection hk with hk; exact .inl (mem_foot.2 (.inr (.inl hk.symm)))))
               have hlt1 := HP.out.lt
               have hve : ∃ a n c, v = .slice a n c := by { obtain ⟨a, c, e⟩ := HP.out.row.slice; exact ⟨a, _, c, e⟩ }
               obtain ⟨va, vn, vc, hve⟩ := hve
               subst hve
               have HSZ := Lib.hid hsz1
               clear hs1 hg1 hz1' hsz1)
  go_region_law (refine step_append_row _ rfl _ _ 47 47 rfl 0 61 i0 (.agg #[.string ⟨#[]⟩, .string ⟨#[]⟩, .bool false]) 3 40 Tryz.underlying47 hi hz0 hz1 hz2 rfl (.slice va vn vc) _ _ rfl (Row.drew (Row.alloc HP.out.row _)) _ 1 _ rfl (Row.src (Row.drew (row_lit w1 _ 61 1 3 (by unfold maxLen; omega) rfl)) Tryz.underlying47 (by intro z hz; simp at hz; rcases hz with rfl | rfl | rfl <;> rfl)) (by unfold maxLen; show x.pend.length + 1 ≤ _; omega) (by show (x.pend.length + 1) * 40 ≤ _; omega) (Nat.zero_le _) ?_; intro v2 w2 hr2 hg2 hat2
                 have hve2 : ∃ a n c, v2 = .slice a n c := by { obtain ⟨a, c, e⟩ := hr2.slice; exact ⟨a, _, c, e⟩ }
                 obtain ⟨va2, vn2, vc2, hve2⟩ := hve2
                 subst hve2
                 have hT2 := (Touch.refl (foot g bn bd (.slice va vn vc)) _).grown hg2 (fun k hk => .inl (mem_foot.2 (.inr (.inr (.inr hk)))))
                 have hr3 : Row w2 0 3 (.slice va2 vn2 vc2) (x.pend ++ [(⟨k, d, false⟩ : Wr)]).length (wrsV (x.pend ++ [⟨k, d, false⟩])) := by { rw [wrsV_snoc, List.length_append]; exact hr2 }
                 have HQ := Lib.hid (PSF.append (PSF.drew (HP.out.alloc (.cells #[.string k, .string d, .bool false] 61))) hr3 hg2 (by rcases hat2 with e | e; exact .inl e; exact .inr ⟨_, e, Nat.le_refl _⟩))
                 have hn3 : g ∉ (Value.slice va vn vc).ownBlock.toList := fun e => (HP.out.nv g (by simpa using e)).1 rfl
                 have hT3 := (Touch.refl (Value.slice va vn vc).ownBlock.toList _).grown hg2 (fun k hk => .inl (by simp [hk]))
                 have q3 : w2.cell? ⟨g, 3, none⟩ = some (.slice va vn vc) := (hT3.cell (p := ⟨g, 3, none⟩) (by simp; omega) hn3).trans (PSF.drew (HP.out.alloc _)).c3
                 have q4 : w2.frozen? ⟨g, 3, none⟩ = false := (hT3.frozen (p := ⟨g, 3, none⟩) (by simp; omega) hn3).trans ((PSF.drew (HP.out.alloc _)).fr 3)
                 have HT2 := Lib.hid ((((HT1.out.alloc (.cells #[.string k, .string d, .bool false] 61)).drew).grown hg2 (fun k hk => .inl (mem_foot.2 (.inr (.inr (.inr hk)))))).setCell (p := ⟨g, 3, none⟩) (.inl (mem_foot.2 (.inl rfl))) (.slice va2 vn2 vc2))
                 have HV := Lib.hid (show ∀ m, (Value.slice va2 vn2 vc2).ownBlock = some m → (Value.slice va vn vc).ownBlock = some m ∨ w.heap.size ≤ m from fun m hm => by {
                   rcases hat2 with e | e
                   · exact .inl (by rw [← e]; exact hm)
                   · right; rw [hm] at e; injection e with e; have := HSZ.out; simp at e; omega })
                 clear hr2 hg2 hat2 hT2 hr3 hT3 hn3)
  go_wp2_with (go_at_call 14; (with_reducible refine (CS.out _ _ _ HQ.out hl0 hl1).mono ?_); rintro e w3 ⟨rfl, hp3, ht3, hz3⟩
               have HP3 := Lib.hid hp3
               have HT3 := Lib.hid (HT2.out.trans ht3 (fun x hx => by simp at hx; subst hx; exact .inl (mem_foot.2 (.inl rfl))))
               simp only [HSB.out]
               clear hp3 ht3)
  all_goals go_ret
  all_goals exact ⟨rfl, _, HP3.out, HT3.out, HV.out⟩
set_option maxRecDepth 100000 in
set_option maxHeartbeats 2000000 in
theorem sdone_cut (k d : ByteArray) (hk : k.size ≤ 4194304) (hd : d.size ≤ 4194304) (w : World) (g bn bd : Nat) (v : Value) (x : Fld) (h : PSF w g bn bd v x) (hl : x.now.length < 4194304) (hp : x.pend.length < 4194304) (hl0 : 0 ≤ x.left) (hl1 : x.left ≤ 9223372036854775807) :
    Calls Tryz.prog 55 #[.pointer (some ⟨g, 0, none⟩), .agg #[.string k, .string d, .bool true], .func (.func 24) #[.map (some bn)] #[]] w fun e w' => e = .returned (.int .i64 (endZ x)) ∧ ∃ v', PSF w' g bn bd v' (Fld.struck { x with now := cutL k x.now, pend := x.pend ++ [⟨k, d, true⟩] }) ∧ Touch (foot g bn bd v) w w' ∧ (∀ m, v'.ownBlock = some m → v.ownBlock = some m ∨ w.heap.size ≤ m) := by
  unfold endZ
  obtain ⟨i0, hi, hz0, hz1, hz2⟩ := info_parts infoWrite
  have hkm : k.size ≤ maxLen := by unfold maxLen; omega
  have hdm : d.size ≤ maxLen := by unfold maxLen; omega
  have H := Lib.hid h
  have HA := Lib.hid (h.alloc (.cells #[.string k, .string d, .bool true] 61))
  have CD := Lib.hid (fun w (hS : SMap w bn x.now) => rscut_calls k d hkm w bn x.now hS)
  have CS := Lib.hid (fun w v x h h0 h1 => sstrikes_calls w g bn bd v x h h0 h1)
  have hlt := h.lt
  obtain ⟨b, hb⟩ : ∃ b, strikesB x.left = b := ⟨_, rfl⟩
  have HSB := Lib.hid hb
  rw [hb]
  clear h hkm hdm hb
  go_enter Tryz.func55, Tryz.ntmps55
  go_wp2_with (go_at_call 24; (with_reducible refine (CD.out _ HA.out.now).mono ?_); rintro e w1 ⟨rfl, hs1, hg1, hz1'⟩
               have HP := Lib.hid (HA.out.putNow hg1 hs1)
               have c3 := HP.out.c3
               have hb1 : w1.cell? ⟨w.heap.size, 0, none⟩ = some (.string k) ∧ w1.cell? ⟨w.heap.size, 1, none⟩ = some (.string d) ∧ w1.cell? ⟨w.heap.size, 2, none⟩ = some (.bool true) := by {
                 have hne : w.heap.size ≠ bn := Nat.ne_of_gt H.out.now.lt
                 have hT : Touch [bn] (w.alloc (.cells #[.string k, .string d, .bool true] 61)) w1 := (Touch.refl _ _).grown hg1 (fun k hk => by injection hk with hk; simp [hk])
                 refine ⟨(hT.cell (p := ⟨w.heap.size, 0, none⟩) (by simp) (by simpa using hne)).trans (World.cell?_alloc_new w _ _ 0), (hT.cell (p := ⟨w.heap.size, 1, none⟩) (by simp) (by simpa using hne)).trans (World.cell?_alloc_new w _ _ 1), (hT.cell (p := ⟨w.heap.size, 2, none⟩) (by simp) (by simpa using hne)).trans (World.cell?_alloc_new w _ _ 2)⟩ }
               obtain ⟨b0, b1, b2⟩ := hb1
               have hsz1 : w1.heap.size = w.heap.size + 1 := by rw [hz1']; simp
               have HT1 := Lib.hid (((Touch.refl (foot g bn bd v) w).alloc (.cells #[.string k, .string d, .bool true] 61)).grown hg1 (fun k hk => by injection hk with hk; exact .inl (mem_foot.2 (.inr (.inl hk.symm)))))
               have hlt1 := HP.out.lt
               have hve : ∃ a n c, v = .slice a n c := by { obtain ⟨a, c, e⟩ := HP.out.row.slice; exact ⟨a, _, c, e⟩ }
               obtain ⟨va, vn, vc, hve⟩ := hve
               subst hve
               have HSZ := Lib.hid hsz1
               clear hs1 hg1 hz1' hsz1)
  go_region_law (refine step_append_row _ rfl _ _ 47 47 rfl 0 61 i0 (.agg #[.string ⟨#[]⟩, .string ⟨#[]⟩, .bool false]) 3 40 Tryz.underlying47 hi hz0 hz1 hz2 rfl (.slice va vn vc) _ _ rfl (Row.drew (Row.alloc HP.out.row _)) _ 1 _ rfl (Row.src (Row.drew (row_lit w1 _ 61 1 3 (by unfold maxLen; omega) rfl)) Tryz.underlying47 (by intro z hz; simp at hz; rcases hz with rfl | rfl | rfl <;> rfl)) (by unfold maxLen; show x.pend.length + 1 ≤ _; omega) (by show (x.pend.length + 1) * 40 ≤ _; omega) (Nat.zero_le _) ?_; intro v2 w2 hr2 hg2 hat2
                 have hve2 : ∃ a n c, v2 = .slice a n c := by { obtain ⟨a, c, e⟩ := hr2.slice; exact ⟨a, _, c, e⟩ }
                 obtain ⟨va2, vn2, vc2, hve2⟩ := hve2
                 subst hve2
                 have hT2 := (Touch.refl (foot g bn bd (.slice va vn vc)) _).grown hg2 (fun k hk => .inl (mem_foot.2 (.inr (.inr (.inr hk)))))
                 have hr3 : Row w2 0 3 (.slice va2 vn2 vc2) (x.pend ++ [(⟨k, d, true⟩ : Wr)]).length (wrsV (x.pend ++ [⟨k, d, true⟩])) := by { rw [wrsV_snoc, List.length_append]; exact hr2 }
                 have HQ := Lib.hid (PSF.append (PSF.drew (HP.out.alloc (.cells #[.string k, .string d, .bool true] 61))) hr3 hg2 (by rcases hat2 with e | e; exact .inl e; exact .inr ⟨_, e, Nat.le_refl _⟩))
                 have hn3 : g ∉ (Value.slice va vn vc).ownBlock.toList := fun e => (HP.out.nv g (by simpa using e)).1 rfl
                 have hT3 := (Touch.refl (Value.slice va vn vc).ownBlock.toList _).grown hg2 (fun k hk => .inl (by simp [hk]))
                 have q3 : w2.cell? ⟨g, 3, none⟩ = some (.slice va vn vc) := (hT3.cell (p := ⟨g, 3, none⟩) (by simp; omega) hn3).trans (PSF.drew (HP.out.alloc _)).c3
                 have q4 : w2.frozen? ⟨g, 3, none⟩ = false := (hT3.frozen (p := ⟨g, 3, none⟩) (by simp; omega) hn3).trans ((PSF.drew (HP.out.alloc _)).fr 3)
                 have HT2 := Lib.hid ((((HT1.out.alloc (.cells #[.string k, .string d, .bool true] 61)).drew).grown hg2 (fun k hk => .inl (mem_foot.2 (.inr (.inr (.inr hk)))))).setCell (p := ⟨g, 3, none⟩) (.inl (mem_foot.2 (.inl rfl))) (.slice va2 vn2 vc2))
                 have HV := Lib.hid (show ∀ m, (Value.slice va2 vn2 vc2).ownBlock = some m → (Value.slice va vn vc).ownBlock = some m ∨ w.heap.size ≤ m from fun m hm => by {
                   rcases hat2 with e | e
                   · exact .inl (by rw [← e]; exact hm)
                   · right; rw [hm] at e; injection e with e; have := HSZ.out; simp at e; omega })
                 clear hr2 hg2 hat2 hT2 hr3 hT3 hn3)
  go_wp2_with (go_at_call 14; (with_reducible refine (CS.out _ _ _ HQ.out hl0 hl1).mono ?_); rintro e w3 ⟨rfl, hp3, ht3, hz3⟩
               have HP3 := Lib.hid hp3
               have HT3 := Lib.hid (HT2.out.trans ht3 (fun x hx => by simp at hx; subst hx; exact .inl (mem_foot.2 (.inl rfl))))
               simp only [HSB.out]
               clear hp3 ht3)
  all_goals go_ret
  all_goals exact ⟨rfl, _, HP3.out, HT3.out, HV.out⟩
end Go.Proofs.YtegplajddhiejaaGreat
