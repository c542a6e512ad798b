import Derived.Test.YtcicdgajhheipaaSt8
set_option linter.unusedVariables false
namespace Go.Proofs.Ytcicdgajhheipaa
open Go.RowKit Go.WideMaps Go.Maps Go.MapKept
theorem foot_nil {g bn bd : Nat} {v : Value} {B : Nat} : ∀ m ∈ foot g bn bd (.slice none 0 0), m ∈ foot g bn bd v ∨ B ≤ m := foot_row (fun m hm => by cases hm)
theorem sync_1 {x : Fld} (h : x.off = true) : syncZ x = (124, x) := by unfold syncZ; rw [if_pos h]
theorem sync_2 {x : Fld} (h : x.off = false) (h2 : strikesB x.left = true) : syncZ x = (124, x.struck) := by unfold syncZ; rw [if_neg (by rw [h]; simp), if_pos h2]
theorem sync_3 {x : Fld} (h : x.off = false) (h2 : strikesB x.left = false) : syncZ x = (0, { x.struck with dur := x.pend.foldl doW x.dur, pend := [] }) := by unfold syncZ; rw [if_neg (by rw [h]; simp), if_neg (by rw [h2]; simp)]
theorem struck_same (x : Fld) : x.struck.pend = x.pend ∧ x.struck.dur = x.dur ∧ x.struck.now = x.now := by unfold Fld.struck; split <;> exact ⟨rfl, rfl, rfl⟩
set_option maxRecDepth 100000 in
set_option maxHeartbeats 2000000 in
theorem ssync_calls (K : Nat) (hK : K ≤ 2097152) (w : World) (g bn bd : Nat) (v : Value) (x : Fld) (h : PSF w g bn bd v x) (hf : Fine K x) :
    Calls Try.prog 22 #[.pointer (some ⟨g, 0, none⟩)] w fun e w' => e = .returned (.int .i64 (syncZ x).1) ∧ Kept w g bn bd v (syncZ x).2 w' := by
  have c5 := h.c5
  have hl := hf.left
  have H := Lib.hid h
  have HF := Lib.hid hf
  have CS := Lib.hid (fun w x h h0 h1 => sstrikes_calls w g bn bd v x h h0 h1)
  have CT := Lib.hid (fun w x h hf => ssettle_sync K hK w g bn bd v x h hf)
  by_cases ho : x.off = true
  · rw [sync_1 ho]
    rw [ho] at c5
    clear h hf
    go_enter Try.func22, Try.ntmps22
    go_wp2
    go_ret
    exact ⟨rfl, Kept.same H.out⟩
  · have ho' : x.off = false := by simpa using ho
    rw [ho'] at c5
    have C1 := Lib.hid (CS.out w x H.out hl.1 hl.2)
    cases hsb : strikesB x.left
    · rw [sync_3 ho' hsb]
      rw [hsb] at C1
      have hst := struck_same x
      have HX : Hid ({ x.struck with dur := x.struck.pend.foldl doW x.struck.dur, pend := [] } = ({ x.struck with dur := x.pend.foldl doW x.dur, pend := [] } : Fld)) := Lib.hid (by rw [hst.1, hst.2.1])
      have HFS := Lib.hid HF.out.struck
      clear h hf ho ho' hsb hst
      go_enter Try.func22, Try.ntmps22
      go_wp2_with (first
        | (go_at_call 39; (with_reducible refine C1.out.mono ?_); rintro e w1 ⟨rfl, hp1, ht1, hz1⟩
           have HP1 := Lib.hid hp1
           have HT1 := Lib.hid ht1
           clear hp1 ht1)
        | (go_at_call 40; (with_reducible refine (CT.out _ _ HP1.out HFS.out).mono ?_); rintro e w2 ⟨rfl, hp2, ht2⟩
           have HP2 := Lib.hid hp2
           have HT2 := Lib.hid ((HT1.out.mono (F1 := foot g bn bd v) (fun x hx => by simp at hx; subst hx; exact .inl (mem_foot.2 (.inl rfl)))).trans ht2 (fun x hx => .inl hx))
           clear hp2 ht2))
      go_ret
      exact ⟨rfl, bn, _, HX.out ▸ HP2.out, HT2.out, foot_nil⟩
    · rw [sync_2 ho' hsb]
      rw [hsb] at C1
      clear h hf ho ho' hsb
      go_enter Try.func22, Try.ntmps22
      go_wp2_with (go_at_call 39; (with_reducible refine C1.out.mono ?_); rintro e w1 ⟨rfl, hp1, ht1, hz1⟩; have HP1 := Lib.hid hp1; have HT1 := Lib.hid ht1; clear hp1 ht1)
      go_ret
      exact ⟨rfl, bn, v, HP1.out, HT1.out.mono (fun x hx => by simp at hx; subst hx; exact .inl (mem_foot.2 (.inl rfl))), fun m hm => .inl hm⟩
set_option maxRecDepth 100000 in
set_option maxHeartbeats 2000000 in
theorem scrash_calls (K : Nat) (hK : K ≤ 2097151) (keep : ByteArray) (hkeep : keep.size ≤ 4611686018427387904) (w : World) (g bn bd : Nat) (v : Value) (x : Fld) (h : PSF w g bn bd v x) (hf : Fine K x) :
    Calls Try.prog 24 #[.pointer (some ⟨g, 0, none⟩), .string keep] w fun e w' => e = .returned (.tuple #[]) ∧ Kept w g bn bd v (crashZ x keep) w' := by
  have H := Lib.hid h
  have HF := Lib.hid hf
  have hlt := h.lt
  have hage := hf.age
  have HC := Lib.hid (crash_fine hf keep)
  have hnf : w.heap.size ∉ foot g bn bd v := fun e => by have := h.foot_lt _ e; omega
  have C1 := Lib.hid (ssettle_crash K (by omega) keep hkeep w.heap.size (w.alloc (.cells #[.string keep] 9)) g bn bd v x (h.alloc _) hf (World.cell?_alloc_new w _ _ 0) (by simp) hnf)
  have CC := Lib.hid (fun w (h : SMap w bd (crashZ x keep).dur) => clone_calls w bd _ h)
  have CU := Lib.hid (fun w (h : SMap w bd (crashZ x keep).dur) => rsused_calls w bd _ h HC.out.sd HC.out.fd (by have := HC.out.len; omega))
  clear h hf hnf
  go_enter Try.func24, Try.ntmps24
  go_wp2_with fail
  (with_reducible refine C1.out.mono ?_); rintro e w1 ⟨rfl, hp1, ht1⟩
  have HP1 := Lib.hid hp1
  have HT1 := Lib.hid (((Touch.refl (foot g bn bd v) w).alloc (.cells #[.string keep] 9)).trans ht1 (fun x hx => .inl hx))
  have c1 := hp1.c1
  have c2 := hp1.c2
  have f1 := hp1.fr 1
  have hlt1 := hp1.lt
  clear hp1 ht1
  go_wp2_with fail
  (with_reducible refine (CC.out _ HP1.out.dur).mono ?_); rintro e w2 ⟨rfl, hs2, hb2, hz2⟩
  have hp2 := HP1.out.keep hb2
  have HP3 := Lib.hid (hp2.setNow hs2 (by omega) (by have := HP1.out.dur.lt; omega) (fun k hk => by cases hk))
  have HT3 := Lib.hid ((HT1.out.then hb2).setCell (p := ⟨g, 1, none⟩) (.inl (mem_foot.2 (.inl rfl))) (.map (some w1.heap.size)))
  have q1 := hp2.c1
  have q2 := hp2.c2
  have q3 := hp2.fr 1
  have hlt2 := hp2.lt
  have HZ1 := Lib.hid HT1.out.size
  clear hs2 hb2 hp2 hz2
  go_wp2_with fail
  (with_reducible refine (CU.out _ HP3.out.dur).mono ?_); rintro e w4 ⟨rfl, hb4⟩
  have hp4 := HP3.out.keep hb4
  have HT4 := Lib.hid (HT3.out.then hb4)
  have hage2 : x.age ≤ 2097151 := by omega
  have HP4 := Lib.hid hp4
  have t4 := hp4.c4
  have t5 := hp4.c5
  have t6 := hp4.c6
  have t7 : w4.cell? ⟨g, 7, none⟩ = some (.int .i64 x.age) := hp4.c7
  have s4 := hp4.fr 4
  have s5 := hp4.fr 5
  have s6 := hp4.fr 6
  have s7 := hp4.fr 7
  clear hp4 hb4
  obtain ⟨C, hC⟩ : ∃ C, costL (crashZ x keep).dur = C := ⟨_, rfl⟩
  rw [hC]
  have HCC := Lib.hid hC
  clear hC
  have HP5 := Lib.hid ((((HP4.out.setUsed C).setOff false).setLeft 0).setAge (x.age + 1))
  have HT5 := Lib.hid ((((HT4.out.setCell (p := ⟨g, 4, none⟩) (.inl (mem_foot.2 (.inl rfl))) (.int .i64 C)).setCell (p := ⟨g, 5, none⟩) (.inl (mem_foot.2 (.inl rfl))) (.bool false)).setCell (p := ⟨g, 6, none⟩) (.inl (mem_foot.2 (.inl rfl))) (.int .i64 0)).setCell (p := ⟨g, 7, none⟩) (.inl (mem_foot.2 (.inl rfl))) (.int .i64 (x.age + 1)))
  go_wp2
  go_end0
  refine ⟨rfl, w1.heap.size, .slice none 0 0, ?_, HT5.out, ?_⟩
  · have h := HP5.out
    unfold crashZ
    have e : (costL (crashL keep x.pend 0 x.dur) : Nat) = C := HCC.out
    rw [e]
    exact h
  · intro m hm
    rcases mem_foot.1 hm with e | e | e | e
    · exact .inl (mem_foot.2 (.inl e))
    · right; have := HZ1.out; omega
    · exact .inl (mem_foot.2 (.inr (.inr (.inl e))))
    · cases e
end Go.Proofs.Ytcicdgajhheipaa
