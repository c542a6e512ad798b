import Derived.Test.YtegplajddhiejaaGreatMgLoneMake17
set_option linter.unusedVariables false
namespace Go.Proofs.YtegplajddhiejaaGreat
open Go.RowKit Go.WideMaps Go.Maps Go.MapKept
/-! The reference's Wipe. -/
theorem RKept.trans {w w1 w2 : World} {g : Nat} {vd vw vv vd1 vw1 vv1 : Value} {y : Fld} (ht : Touch (rfoot g vd vw vv) w w1) (hf : ∀ m ∈ rfoot g vd1 vw1 vv1, m ∈ rfoot g vd vw vv ∨ w.heap.size ≤ m) (h : RKept w1 g vd1 vw1 vv1 y w2) : RKept w g vd vw vv y w2 := by
  obtain ⟨a, b, c, p, t, f⟩ := h
  refine ⟨a, b, c, p, ht.trans t hf, fun m hm => ?_⟩
  rcases f m hm with e | e
  · exact hf m e
  · have := ht.size; right; omega
def RKeptS (w : World) (g : Nat) (vd vw vv : Value) (x : Fld) (kv : Value) (l : List ByteArray) (w' : World) : Prop :=
  ∃ a b c, RSF w' g a b c x ∧ Touch (rfoot g vd vw vv) w w' ∧ (∀ m ∈ rfoot g a b c, m ∈ rfoot g vd vw vv ∨ w.heap.size ≤ m) ∧ Row w' 0 1 kv l.length (strV l) ∧ ∀ k, kv.ownBlock = some k → k ∉ rfoot g a b c
section
variable {w w' wr : World} {g : Nat} {vd vw vv kv : Value} {x y : Fld} {l : List ByteArray}
theorem RKeptS.kept (h : RKeptS w g vd vw vv x kv l w') : RKept w g vd vw vv x w' := by
  obtain ⟨a, b, c, p, t, f, _⟩ := h
  exact ⟨a, b, c, p, t, f⟩
theorem RKeptS.at (h : RKeptS w g vd vw vv x kv l w') (j : Nat) (hj : j < l.length) : ∃ cg c, kv = .slice (some ⟨cg, 0, none⟩) l.length c ∧ cg < w'.heap.size ∧ w'.cell? ⟨cg, j, none⟩ = some (.string l[j]) := by
  obtain ⟨_, _, _, p, t, f, r, _⟩ := h
  exact row_str r j hj
theorem RKeptS.start (h : RSF w g vd vw vv x) (hb : Below w.heap.size w w') (hr : Row w' w.heap.size 1 kv l.length (strV l)) : RKeptS w g vd vw vv x kv l w' :=
  ⟨vd, vw, vv, h.keep hb, Touch.below hb _, fun m hm => .inl hm, hr.mono (Nat.zero_le _), fun k hk hm => by have := (hr.lt k hk).1; have := h.foot_lt k hm; omega⟩
theorem rcut_kept {K : Nat} (hK : K ≤ 2097151) (k : ByteArray) (hk : k.size ≤ 4194304) (h : RKeptS w g vd vw vv x kv l wr) (hf : Fine K x) :
    Calls Tryz.prog 43 #[.pointer (some ⟨g, 0, none⟩), .string k] wr fun e w' => e = .returned (.int .i64 (cutZ x k).1) ∧ RKeptS w g vd vw vv (cutZ x k).2 kv l w' := by
  obtain ⟨a, b, c, p, t, f, r, n⟩ := h
  refine (rcut_calls K hK k hk wr g a b c x p hf).mono fun e w' ⟨he, hk⟩ => ⟨he, ?_⟩
  obtain ⟨a2, b2, c2, p2, t2, f2⟩ := hk
  refine ⟨a2, b2, c2, p2, t.trans t2 f, fun m hm => ?_, r.touch t2 n, fun j hj hm => ?_⟩
  · rcases f2 m hm with e | e
    · exact f m e
    · have := t.size; right; omega
  · rcases f2 j hm with e | e
    · exact n j hj e
    · have := (r.lt j hj).2; omega
end
set_option maxRecDepth 100000 in
set_option maxHeartbeats 4000000 in
theorem rbwipe_calls {K g : Nat} {vd vw vv : Value} (hK : K ≤ 1048576) (s : Int) (s0 : 0 ≤ s) (s1 : s ≤ 9223372036854775807) (w : World) (x : Fld) (h : RSF w g vd vw vv x) (hf : Fine K x) :
    Calls Tryz.prog 29 #[.pointer (some ⟨g, 0, none⟩), .int .i64 s] w fun e w' => e = .returned (.tuple #[.int .i64 (wipeZ x s).1, .int .i64 (wipeZ x s).2.1]) ∧ RKept w g vd vw vv (wipeZ x s).2.2 w' := by
  have CP : Hid (∀ w, Calls Tryz.prog 42 #[.int .i64 s, .int .i64 8] w fun e w' => e = .returned (.string (beZ 8 s)) ∧ Below w.heap.size w w') := Lib.hid (fun w => refBig_any s 8 (.inl ⟨rfl, s0, s1⟩) w)
  have hbe := be_size8 s
  have hpb : (⟨#[66]⟩ : ByteArray) ++ beZ 8 s = prefZ s := rfl
  have CD := Lib.hid (fun w (h : RSF w g vd vw vv x) => rdown_calls w g vd vw vv x h)
  have H := Lib.hid h
  by_cases ho : x.off = true
  · have hz : wipeZ x s = (0, 124, x) := by unfold wipeZ; rw [if_pos ho]
    rw [hz]
    rw [ho] at CD
    have HK := Lib.hid (show RKept w g vd vw vv x w from ⟨vd, vw, vv, h, Touch.refl _ _, fun m hm => .inl hm⟩)
    clear h hf ho hz
    go_enter Tryz.func29, Tryz.ntmps29
    go_wp2_with (go_at_call 40; (with_reducible refine (CD.out _ H.out).mono ?_); rintro e w2 ⟨rfl, rfl⟩)
    go_ret2
    exact ⟨rfl, HK.out⟩
  · have ho' : x.off = false := by simpa using ho
    rw [ho'] at CD
    have hz : wipeZ x s = if (wipeL (keysZ x (prefZ s)) x).1 ≠ 0 then (0, (wipeL (keysZ x (prefZ s)) x).1, (wipeL (keysZ x (prefZ s)) x).2)
        else ((((keysZ x (prefZ s)).length : Nat) : Int), 0, (wipeL (keysZ x (prefZ s)) x).2) := by unfold wipeZ; rw [if_neg ho]
    have CK := Lib.hid (fun w (h : RSF w g vd vw vv x) => rkeys_calls K (by omega) (prefZ s) (by rw [pref_size]; decide) w g vd vw vv x h hf)
    have hkl := keys_len2 hf (prefZ s)
    have HFT := Lib.hid (keys_fit hf (prefZ s))
    obtain ⟨ks, hks⟩ : ∃ ks, keysZ x (prefZ s) = ks := ⟨_, rfl⟩
    rw [hks] at hkl HFT hz
    simp only [hks] at CK
    obtain ⟨n, hn⟩ : ∃ n, ks.length = n := ⟨_, rfl⟩
    have HN := Lib.hid hn
    rw [hn] at hkl hz
    simp only [hn] at CK
    have HZ := Lib.hid hz
    have HF := Lib.hid hf
    clear h hf hks hn ho ho' hz
    go_enter Tryz.func29, Tryz.ntmps29
    go_wp2_with (first
      | (go_at_call 40; (with_reducible refine (CD.out _ H.out).mono ?_); rintro e w2 ⟨rfl, rfl⟩)
      | (go_at_call 42; (with_reducible refine (CP.out _).mono ?_); rintro e w2 ⟨rfl, hb2⟩; have HB2 := Lib.hid hb2; clear hb2)
      | (go_at_call 41; (with_reducible refine (CK.out _ (H.out.keep HB2.out)).mono ?_); rintro e w3 ⟨kv, rfl, hr3, hb3⟩; obtain ⟨a, c, hkv⟩ := hr3.slice; subst hkv
         have HS := Lib.hid (RKeptS.start (l := ks) H.out (HB2.out.trans (hb3.mono HB2.out.size)) (by rw [HN.out]; exact hr3.mono HB2.out.size))
         clear hr3 hb3))
    go_loopw [8] (fun iv wr => ∃ (j : Nat), j ≤ n ∧ iv = .int .i64 j ∧ Hid (∃ y, RKeptS w g vd vw vv y (.slice a n c) ks wr ∧ Fine (K + j) y ∧ wipeL ks x = wipeL (ks.drop j) y)) (fun iv _ => n - (intOf iv).toNat)
    case atStart => exact ⟨0, by omega, rfl, Lib.hid ⟨x, HS.out, HF.out, by rw [List.drop_zero]⟩⟩
    case round =>
      obtain ⟨j, hj, rfl, HI⟩ := hrel
      obtain ⟨y, hy1, hy2, hy3⟩ := HI.out
      by_cases hlt : j < n
      · have hjl : j < ks.length := by rw [HN.out]; exact hlt
        obtain ⟨cg, cc, hv, hcg, hcl⟩ := hy1.at j hjl
        injection hv with hv e2 e3
        subst hv
        clear e2 e3
        have hfit := HFT.out _ (List.getElem_mem hjl)
        have hst := wipe_step (x := y) hjl
        rw [← hy3] at hst
        have CC := Lib.hid (rcut_kept (by omega) ks[j] (by omega) hy1 hy2)
        have HF2 := Lib.hid (cut_fine hy2 ks[j])
        obtain ⟨key, hkey⟩ : ∃ key, ks[j] = key := ⟨_, rfl⟩
        rw [hkey] at hcl CC HF2 hst
        obtain ⟨r, hr⟩ : ∃ r, cutZ y key = r := ⟨_, rfl⟩
        rw [hr] at CC HF2 hst
        obtain ⟨e, y2⟩ := r
        simp only at CC HF2 hst
        have hji : (j : Int) < n := by omega
        clear hkey hfit hr hy1 hy2 hy3 HI
        by_cases he : e = 0
        · subst he
          rw [if_neg (by simp)] at hst
          have HST := Lib.hid hst
          clear hst
          go_wp2_with (go_at_call 43; (with_reducible refine CC.out.mono ?_); rintro e w4 ⟨rfl, hk4⟩; have HK4 := Lib.hid hk4; clear hk4)
          go_roundw
          case rel => exact ⟨j + 1, by omega, by go_num, Lib.hid ⟨y2, HK4.out, HF2.out, HST.out⟩⟩
          case measure => simp [intOf]; omega
        · rw [if_pos (by simpa using he)] at hst
          have hne : (e == 0) = false := by rw [beq_eq_false_iff_ne]; exact he
          have HE := Lib.hid he
          have HST := Lib.hid hst
          clear hst he
          go_wp2_with (go_at_call 43; (with_reducible refine CC.out.mono ?_); rintro e w4 ⟨rfl, hk4⟩; have HK4 := Lib.hid hk4; clear hk4)
          go_ret2
          rw [show wipeZ x s = (0, e, y2) by rw [HZ.out, HST.out, if_pos HE.out]]
          exact ⟨rfl, HK4.out.kept⟩
      · obtain rfl : j = n := by omega
        have hdr : ks.drop j = [] := List.drop_of_length_le (by rw [HN.out]; exact Nat.le_refl _)
        rw [hdr] at hy3
        have hw : wipeL ks x = (0, y) := hy3
        have HW := Lib.hid hw
        have HY := Lib.hid hy1.kept
        clear hdr hy3 hw hy1 hy2 HI
        go_wp2
        go_ret2
        rw [show wipeZ x s = ((j : Int), 0, y) by rw [HZ.out, HW.out, if_neg (by simp)]]
        exact ⟨rfl, HY.out⟩
end Go.Proofs.YtegplajddhiejaaGreat

set_option linter.unusedVariables false
set_option linter.unusedSimpArgs false
namespace Go.Proofs.YtegplajddhiejaaGreat
open Go.RowKit Go.WideMaps Go.Maps Go.MapKept
end Go.Proofs.YtegplajddhiejaaGreat
