import Derived.Test.YtegplajddhiejaaGreatSt4
set_option linter.unusedVariables false
namespace Go.Proofs.YtegplajddhiejaaGreat
open Go.RowKit Go.WideMaps Go.Maps Go.MapKept
/-- What a call leaves of a store: the fields x'; of the blocks that were there none but the store's have turned, and its blocks are its own or new. -/
def Kept (w : World) (g bn bd : Nat) (v : Value) (x' : Fld) (w' : World) : Prop :=
  ∃ bn' v', PSF w' g bn' bd v' x' ∧ Touch (foot g bn bd v) w w' ∧ ∀ m ∈ foot g bn' bd v', m ∈ foot g bn bd v ∨ w.heap.size ≤ m
theorem Kept.same {w : World} {g bn bd : Nat} {v : Value} {x : Fld} (h : PSF w g bn bd v x) : Kept w g bn bd v x w := ⟨bn, v, h, Touch.refl _ _, fun m hm => .inl hm⟩
theorem Kept.drewN {w : World} {g bn bd : Nat} {v : Value} {x : Fld} (h : PSF w g bn bd v x) (n : Nat) : Kept w g bn bd v x (w.drewN n) := ⟨bn, v, h.drewN n, (Touch.refl _ _).drewN n, fun m hm => .inl hm⟩
theorem foot_row {g bn bd : Nat} {v v' : Value} {B : Nat} (h : ∀ m, v'.ownBlock = some m → v.ownBlock = some m ∨ B ≤ m) : ∀ m ∈ foot g bn bd v', m ∈ foot g bn bd v ∨ B ≤ m := by
  intro m hm
  rcases mem_foot.1 hm with e | e | e | e
  · exact .inl (mem_foot.2 (.inl e))
  · exact .inl (mem_foot.2 (.inr (.inl e)))
  · exact .inl (mem_foot.2 (.inr (.inr (.inl e))))
  · rcases h m e with e | e
    · exact .inl (mem_foot.2 (.inr (.inr (.inr e))))
    · exact .inr e
theorem put_1 {x : Fld} {k d : ByteArray} (h : x.off = true) : putZ x k d = (124, x) := by unfold putZ; rw [if_pos h]
theorem put_2 {x : Fld} {k d : ByteArray} (h : x.off = false) (h2 : keyedB k = false) : putZ x k d = (120, x) := by unfold putZ; rw [if_neg (by rw [h]; simp), if_pos h2]
theorem put_3 {x : Fld} {k d : ByteArray} (h : x.off = false) (h2 : keyedB k = true) (h3 : 1048576 < d.size) : putZ x k d = (121, x) := by unfold putZ; rw [if_neg (by rw [h]; simp), if_neg (by rw [h2]; simp), if_pos h3]
theorem put_4 {x : Fld} {k d : ByteArray} (h : x.off = false) (h2 : keyedB k = true) (h3 : ¬ 1048576 < d.size) (h4 : x.room < thenZ x k d ∧ x.used < thenZ x k d) : putZ x k d = (122, x) := by
  unfold putZ; rw [if_neg (by rw [h]; simp), if_neg (by rw [h2]; simp), if_neg h3, if_pos h4]
theorem put_5 {x : Fld} {k d : ByteArray} (h : x.off = false) (h2 : keyedB k = true) (h3 : ¬ 1048576 < d.size) (h4 : ¬ (x.room < thenZ x k d ∧ x.used < thenZ x k d)) : putZ x k d = (endZ x, x.wrote ⟨k, d, false⟩ (thenZ x k d)) := by
  unfold putZ; rw [if_neg (by rw [h]; simp), if_neg (by rw [h2]; simp), if_neg h3, if_neg h4]
end Go.Proofs.YtegplajddhiejaaGreat

set_option linter.unusedVariables false
namespace Go.Proofs.YtegplajddhiejaaGreat
open Go.RowKit Go.WideMaps Go.Maps Go.MapKept
theorem cut_1 {x : Fld} {k : ByteArray} (h : x.off = true) : cutZ x k = (124, x) := by unfold cutZ; rw [if_pos h]
theorem cut_2 {x : Fld} {k : ByteArray} (h : x.off = false) (h2 : keyedB k = false) : cutZ x k = (120, x) := by unfold cutZ; rw [if_neg (by rw [h]; simp), if_pos h2]
theorem cut_3 {x : Fld} {k : ByteArray} (h : x.off = false) (h2 : keyedB k = true) (h3 : findL k x.now = none) : cutZ x k = (123, x) := by unfold cutZ; rw [if_neg (by rw [h]; simp), if_neg (by rw [h2]; simp), h3]
theorem cut_4 {x : Fld} {k : ByteArray} {r : Rec} (h : x.off = false) (h2 : keyedB k = true) (h3 : findL k x.now = some r) : cutZ x k = (endZ x, x.wrote ⟨k, ⟨#[]⟩, true⟩ (x.used - (costR r : Nat))) := by
  unfold cutZ; rw [if_neg (by rw [h]; simp), if_neg (by rw [h2]; simp), h3]
theorem get_1 {x : Fld} {k : ByteArray} (h : x.off = true) : getZ x k = (⟨#[]⟩, 124) := by unfold getZ; rw [if_pos h]
theorem get_2 {x : Fld} {k : ByteArray} (h : x.off = false) (h2 : keyedB k = false) : getZ x k = (⟨#[]⟩, 120) := by unfold getZ; rw [if_neg (by rw [h]; simp), if_pos h2]
theorem get_3 {x : Fld} {k : ByteArray} (h : x.off = false) (h2 : keyedB k = true) (h3 : findL k x.now = none) : getZ x k = (⟨#[]⟩, 123) := by unfold getZ; rw [if_neg (by rw [h]; simp), if_neg (by rw [h2]; simp), h3]
theorem get_4 {x : Fld} {k : ByteArray} {r : Rec} (h : x.off = false) (h2 : keyedB k = true) (h3 : findL k x.now = some r) : getZ x k = (r.2, 0) := by unfold getZ; rw [if_neg (by rw [h]; simp), if_neg (by rw [h2]; simp), h3]
set_option maxRecDepth 100000 in
set_option maxHeartbeats 2000000 in
theorem scut_calls (K : Nat) (hK : K ≤ 2097152) (k : ByteArray) (hk : k.size ≤ 4194304) (w : World) (g bn bd : Nat) (v : Value) (x : Fld) (h : PSF w g bn bd v x) (hf : Fine K x) :
    Calls Tryz.prog 39 #[.pointer (some ⟨g, 0, none⟩), .string k] w fun e w' => e = .returned (.int .i64 (cutZ x k).1) ∧ Kept w g bn bd v (cutZ x k).2 w' := by
  have hkm : k.size ≤ maxLen := by unfold maxLen; omega
  have hn : x.now.length < 4194304 := by have := hf.ln; omega
  have hp : x.pend.length < 4194304 := by have := hf.len; omega
  have hu : 0 ≤ x.used ∧ x.used ≤ 4398046511104 := by
    have h1 := hf.used_le
    have h3 : K * 1048656 ≤ 2097152 * 1048656 := Nat.mul_le_mul_right _ hK
    omega
  have hl := hf.left
  have c1 := h.c1
  have c4 := h.c4
  have c5 := h.c5
  have f4 := h.fr 4
  have CK := Lib.hid (fun w => skeyed_calls k hkm w)
  have CC := Lib.hid (fun (d : ByteArray) hd w => scounts_calls k d hk hd w)
  have CD := Lib.hid (fun w v x h a b c e => sdone_cut k ⟨#[]⟩ hk (Nat.zero_le _) w g bn bd v x h a b c e)
  have H := Lib.hid h
  have HF := Lib.hid hf
  by_cases ho : x.off = true
  · rw [cut_1 ho]
    rw [ho] at c5
    clear h hf
    go_enter Tryz.func39, Tryz.ntmps39
    go_wp2
    go_ret
    exact ⟨rfl, Kept.same H.out⟩
  · have ho' : x.off = false := by simpa using ho
    rw [ho'] at c5
    have HO := Lib.hid ho'
    clear ho ho'
    cases hkb : keyedB k
    · rw [cut_2 HO.out hkb]
      rw [hkb] at CK
      clear h hf hkb
      go_enter Tryz.func39, Tryz.ntmps39
      go_wp2_with (go_at_call 53; (with_reducible refine (CK.out _).mono ?_); rintro e w1 ⟨rfl, rfl⟩)
      go_ret
      exact ⟨rfl, Kept.same H.out⟩
    · have HKB := Lib.hid hkb
      rw [hkb] at CK
      clear hkb
      cases hfi : findL k x.now with
      | none =>
        rw [cut_3 HO.out HKB.out hfi]
        have hlook := h.now.look_none hkm hfi
        clear h hf hfi
        go_enter Tryz.func39, Tryz.ntmps39
        go_wp2_with (go_at_call 53; (with_reducible refine (CK.out _).mono ?_); rintro e w1 ⟨rfl, rfl⟩)
        go_ret
        exact ⟨rfl, Kept.same H.out⟩
      | some r =>
        rw [cut_4 HO.out HKB.out hfi]
        have hlook := h.now.look_some hkm hfi
        have hr := find_some hfi
        have hrf := HF.out.fn r hr.1
        have hrr : (k, r.2) = r := by rw [← hr.2]
        have C2 := Lib.hid (CC.out r.2 (by have := hrf.2.2; omega))
        rw [hrr] at C2
        have hro2 : costR r ≤ 1048656 := by have h1 := hrf.2.1; have h2 := hrf.2.2; show r.1.size + r.2.size + 16 ≤ _; omega
        obtain ⟨rd, hrd⟩ : ∃ rd, r.2 = rd := ⟨_, rfl⟩
        rw [hrd] at C2 hlook
        obtain ⟨O, hO⟩ : ∃ O, costR r = O := ⟨_, rfl⟩
        rw [hO] at C2 hro2
        rw [hO]
        obtain ⟨U, hU⟩ : ∃ U, x.used = U := ⟨_, rfl⟩
        rw [hU] at c4 hu
        rw [hU]
        clear h hf hfi hrr hr hrf hrd hO hU
        go_enter Tryz.func39, Tryz.ntmps39
        go_wp2_with (go_at_call 53; (with_reducible refine (CK.out _).mono ?_); rintro e w1 ⟨rfl, rfl⟩)
        go_region_with ((go_at_call 54; (with_reducible refine (C2.out _).mono ?_); rintro e w1 ⟨rfl, rfl⟩))
        all_goals (go_wp2_with (go_at_call 55; (with_reducible refine (CD.out _ v { x with used := U - O } (PSF.drew (H.out.setUsed (U - O))) hn hp hl.1 hl.2).mono ?_); rintro e w2 ⟨rfl, v', hp2, ht2, hv2⟩; have HP2 := Lib.hid hp2; have HT2 := Lib.hid ((((Touch.refl (foot g bn bd v) w).setCell (p := ⟨g, 4, none⟩) (.inl (mem_foot.2 (.inl rfl))) (.int .i64 (U - O))).drew).trans ht2 (fun x hx => .inl hx)); have HV2 := Lib.hid (foot_row (g := g) (bn := bn) (bd := bd) hv2); clear hp2 ht2 hv2); go_ret; exact ⟨rfl, bn, v', HP2.out, HT2.out, fun m hm => by have := HV2.out m hm; simpa [World.setCell] using this⟩)
set_option maxHeartbeats 1000000 in
theorem sget_calls (K : Nat) (k : ByteArray) (hk : k.size ≤ 4194304) (w : World) (g bn bd : Nat) (v : Value) (x : Fld) (h : PSF w g bn bd v x) :
    Calls Tryz.prog 61 #[.pointer (some ⟨g, 0, none⟩), .string k] w fun e w' => e = .returned (.tuple #[.string (getZ x k).1, .int .i64 (getZ x k).2]) ∧ w = w' := by
  have hkm : k.size ≤ maxLen := by unfold maxLen; omega
  have c1 := h.c1
  have c5 := h.c5
  have CK := Lib.hid (fun w => skeyed_calls k hkm w)
  have H := Lib.hid h
  by_cases ho : x.off = true
  · rw [get_1 ho]
    rw [ho] at c5
    clear h
    go_enter Tryz.func61, Tryz.ntmps61
    go_wp2
    go_ret2
    exact ⟨rfl, rfl⟩
  · have ho' : x.off = false := by simpa using ho
    rw [ho'] at c5
    have HO := Lib.hid ho'
    clear ho ho'
    cases hkb : keyedB k
    · rw [get_2 HO.out hkb]
      rw [hkb] at CK
      clear h hkb
      go_enter Tryz.func61, Tryz.ntmps61
      go_wp2_with (go_at_call 53; (with_reducible refine (CK.out _).mono ?_); rintro e w1 ⟨rfl, rfl⟩)
      go_ret2
      exact ⟨rfl, rfl⟩
    · have HKB := Lib.hid hkb
      rw [hkb] at CK
      clear hkb
      cases hfi : findL k x.now with
      | none =>
        rw [get_3 HO.out HKB.out hfi]
        have hlook := h.now.look_none hkm hfi
        clear h hfi
        go_enter Tryz.func61, Tryz.ntmps61
        go_wp2_with (go_at_call 53; (with_reducible refine (CK.out _).mono ?_); rintro e w1 ⟨rfl, rfl⟩)
        go_ret2
        exact ⟨rfl, rfl⟩
      | some r =>
        rw [get_4 HO.out HKB.out hfi]
        have hlook := h.now.look_some hkm hfi
        clear h hfi
        go_enter Tryz.func61, Tryz.ntmps61
        go_wp2_with (go_at_call 53; (with_reducible refine (CK.out _).mono ?_); rintro e w1 ⟨rfl, rfl⟩)
        go_ret2
        exact ⟨rfl, rfl⟩
theorem sdown_calls (w : World) (g bn bd : Nat) (v : Value) (x : Fld) (h : PSF w g bn bd v x) : Calls Tryz.prog 36 #[.pointer (some ⟨g, 0, none⟩)] w fun e w' => e = .returned (.bool x.off) ∧ w = w' := by
  have c5 := h.c5
  clear h
  go_enter Tryz.func36, Tryz.ntmps36
  go_wp2
  go_ret
  exact ⟨rfl, rfl⟩
end Go.Proofs.YtegplajddhiejaaGreat
