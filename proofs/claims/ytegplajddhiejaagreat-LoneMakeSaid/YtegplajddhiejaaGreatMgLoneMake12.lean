import Derived.Test.YtegplajddhiejaaGreatMgLoneMake1
import Derived.Test.YtegplajddhiejaaGreatSq1
import Derived.Test.YtegplajddhiejaaGreatBk17
set_option linter.unusedVariables false
namespace Go.Proofs.YtegplajddhiejaaGreat
/-! Wiping. -/
/-- What Wipe does behind the list of keys: cut by cut, up to the first refusal. -/
def wipeL : List ByteArray → Fld → Int × Fld
  | [], x => (0, x)
  | k :: ks, x => if (cutZ x k).1 ≠ 0 then (cutZ x k) else wipeL ks (cutZ x k).2
def wipeZ (x : Fld) (s : Int) : Int × Int × Fld :=
  if x.off then (0, 124, x) else
    if (wipeL (keysZ x (prefZ s)) x).1 ≠ 0 then (0, (wipeL (keysZ x (prefZ s)) x).1, (wipeL (keysZ x (prefZ s)) x).2)
    else (((keysZ x (prefZ s)).length : Nat), 0, (wipeL (keysZ x (prefZ s)) x).2)
theorem wipe_fine {K : Nat} : ∀ (ks : List ByteArray) {K : Nat} {x : Fld}, Fine K x → Fine (K + ks.length) (wipeL ks x).2
  | [], K, x, h => h
  | k :: ks, K, x, h => by
    have h1 := cut_fine h k
    unfold wipeL
    split
    · exact h1.mono (by simp only [List.length_cons]; omega)
    · exact (wipe_fine (K := 0) ks h1).mono (by simp only [List.length_cons]; omega)
theorem cut_there {K : Nat} {x : Fld} (hf : Fine K x) {k d : ByteArray} (ho : x.off = false) (hl : x.left = 0) (hm : (k, d) ∈ x.now) : (cutZ x k).1 = 0 ∧ (cutZ x k).2.off = false ∧ (cutZ x k).2.left = 0 ∧ (cutZ x k).2.now = cutL k x.now := by
  have hk : keyedB k = true := decide_eq_true ⟨(hf.fn _ hm).1, (hf.fn _ hm).2.1⟩
  have hfd := find_of_mem hf.sn hm rfl
  have hst : ∀ y : Fld, y.left = 0 → y.struck = y := fun y h => by unfold Fld.struck; rw [if_pos h]
  have hz : cutZ x k = (endZ x, x.wrote ⟨k, ⟨#[]⟩, true⟩ (x.used - (costR (k, d) : Nat))) := by
    unfold cutZ
    rw [if_neg (by rw [ho]; simp), if_neg (by rw [hk]; simp), hfd]
  have hw : x.wrote ⟨k, ⟨#[]⟩, true⟩ (x.used - (costR (k, d) : Nat)) = { x with now := doW x.now ⟨k, ⟨#[]⟩, true⟩, pend := x.pend ++ [⟨k, ⟨#[]⟩, true⟩], used := x.used - (costR (k, d) : Nat) } := by
    unfold Fld.wrote
    exact hst _ hl
  rw [hz, hw]
  exact ⟨by unfold endZ strikesB; rw [hl]; rfl, ho, hl, rfl⟩
theorem wipe_all : ∀ (ks : List ByteArray) {K : Nat} {x : Fld}, Fine K x → x.off = false → x.left = 0 → ks.Nodup → (∀ k ∈ ks, ∃ d, (k, d) ∈ x.now) →
    (wipeL ks x).1 = 0 ∧ (wipeL ks x).2.off = false ∧ (wipeL ks x).2.left = 0 ∧ ∀ r, r ∈ (wipeL ks x).2.now ↔ r ∈ x.now ∧ r.1 ∉ ks
  | [], K, x, hf, ho, hl, _, _ => ⟨rfl, ho, hl, fun r => by simp [wipeL]⟩
  | k :: ks, K, x, hf, ho, hl, hn, hm => by
    obtain ⟨d, hd⟩ := hm k (by simp)
    obtain ⟨c1, c2, c3, c4⟩ := cut_there hf ho hl hd
    obtain ⟨n1, n2⟩ := List.nodup_cons.1 hn
    obtain ⟨i1, i2, i3, i4⟩ := wipe_all ks (cut_fine hf k) c2 c3 n2 (fun j hj => by
      obtain ⟨d', hd'⟩ := hm j (by simp [hj])
      refine ⟨d', ?_⟩
      rw [c4]
      exact mem_cut.2 ⟨hd', fun e => n1 (by rw [← show j = k from e]; exact hj)⟩)
    unfold wipeL
    rw [if_neg (by rw [c1]; simp)]
    refine ⟨i1, i2, i3, fun r => ?_⟩
    rw [i4, c4, mem_cut, List.mem_cons]
    constructor
    · rintro ⟨⟨a, b⟩, c⟩
      exact ⟨a, fun e => by rcases e with e | e; exact b e; exact c e⟩
    · rintro ⟨a, b⟩
      exact ⟨⟨a, fun e => b (.inl e)⟩, fun e => b (.inr e)⟩
end Go.Proofs.YtegplajddhiejaaGreat

set_option linter.unusedVariables false
namespace Go.Proofs.YtegplajddhiejaaGreat
open Go.RowKit Go.WideMaps Go.Maps Go.MapKept
/-! Wipe. -/
theorem Kept.trans {w w1 w2 : World} {g bn bd bn1 : Nat} {v v1 : Value} {x y : Fld} (ht : Touch (foot g bn bd v) w w1) (hf : ∀ m ∈ foot g bn1 bd v1, m ∈ foot g bn bd v ∨ w.heap.size ≤ m) (h : Kept w1 g bn1 bd v1 y w2) : Kept w g bn bd v y w2 := by
  obtain ⟨bn2, v2, p, t, f⟩ := h
  refine ⟨bn2, v2, p, ht.trans t hf, fun m hm => ?_⟩
  rcases f m hm with e | e
  · exact hf m e
  · have := ht.size; right; omega
/-- A store whose way began at w, and a list of strings beside it. -/
def KeptS (w : World) (g bn bd : Nat) (v : Value) (x : Fld) (kv : Value) (l : List ByteArray) (w' : World) : Prop :=
  ∃ bn' v', PSF w' g bn' bd v' x ∧ Touch (foot g bn bd v) w w' ∧ (∀ m ∈ foot g bn' bd v', m ∈ foot g bn bd v ∨ w.heap.size ≤ m) ∧ Row w' 0 1 kv l.length (strV l) ∧ ∀ k, kv.ownBlock = some k → k ∉ foot g bn' bd v'
section
variable {w w' wr : World} {g bn bd : Nat} {v kv : Value} {x y : Fld} {l : List ByteArray}
theorem KeptS.kept (h : KeptS w g bn bd v x kv l w') : Kept w g bn bd v x w' := by
  obtain ⟨bn', v', p, t, f, _⟩ := h
  exact ⟨bn', v', p, t, f⟩
theorem KeptS.at (h : KeptS w g bn bd v x kv l w') (j : Nat) (hj : j < l.length) : ∃ cg c, kv = .slice (some ⟨cg, 0, none⟩) l.length c ∧ cg < w'.heap.size ∧ w'.cell? ⟨cg, j, none⟩ = some (.string l[j]) := by
  obtain ⟨bn', v', p, t, f, r, _⟩ := h
  exact row_str r j hj
theorem KeptS.start (h : PSF w g bn bd v x) (hb : Below w.heap.size w w') (hr : Row w' w.heap.size 1 kv l.length (strV l)) : KeptS w g bn bd v x kv l w' :=
  ⟨bn, v, h.keep hb, Touch.below hb _, fun m hm => .inl hm, hr.mono (Nat.zero_le _), fun k hk hm => by have := (hr.lt k hk).1; have := h.foot_lt k hm; omega⟩
theorem cut_kept {K : Nat} (hK : K ≤ 2097152) (k : ByteArray) (hk : k.size ≤ 4194304) (h : KeptS w g bn bd v x kv l wr) (hf : Fine K x) :
    Calls Tryz.prog 39 #[.pointer (some ⟨g, 0, none⟩), .string k] wr fun e w' => e = .returned (.int .i64 (cutZ x k).1) ∧ KeptS w g bn bd v (cutZ x k).2 kv l w' := by
  obtain ⟨bn', v', p, t, f, r, n⟩ := h
  refine (scut_calls K hK k hk wr g bn' bd v' x p hf).mono fun e w' ⟨he, hk⟩ => ⟨he, ?_⟩
  obtain ⟨bn2, v2, p2, t2, f2⟩ := hk
  refine ⟨bn2, v2, p2, t.trans t2 f, fun m hm => ?_, r.touch t2 n, fun j hj hm => ?_⟩
  · rcases f2 m hm with e | e
    · exact f m e
    · have := t.size; right; omega
  · rcases f2 j hm with e | e
    · exact n j hj e
    · have := (r.lt j hj).2; omega
end
theorem wipe_step {ks : List ByteArray} {x : Fld} {j : Nat} (h : j < ks.length) : wipeL (ks.drop j) x = if (cutZ x ks[j]).1 ≠ 0 then cutZ x ks[j] else wipeL (ks.drop (j + 1)) (cutZ x ks[j]).2 := by
  rw [List.drop_eq_getElem_cons h]
  rfl
set_option maxRecDepth 100000 in
set_option maxHeartbeats 4000000 in
theorem bwipe_calls {K g bn bd : Nat} {v : Value} (hK : K ≤ 1048576) (s : Int) (s0 : 0 ≤ s) (s1 : s ≤ 9223372036854775807) (w : World) (x : Fld) (h : PSF w g bn bd v x) (hf : Fine K x) :
    Calls Tryz.prog 26 #[.pointer (some ⟨g, 0, none⟩), .int .i64 s] w fun e w' => e = .returned (.tuple #[.int .i64 (wipeZ x s).1, .int .i64 (wipeZ x s).2.1]) ∧ Kept w g bn bd v (wipeZ x s).2.2 w' := by
  have CP := Lib.hid (fun w => prefix_calls s s0 s1 w)
  have CD := Lib.hid (fun w (h : PSF w g bn bd v x) => sdown_calls w g bn bd v x h)
  have H := Lib.hid h
  by_cases ho : x.off = true
  · have hz : wipeZ x s = (0, 124, x) := by unfold wipeZ; rw [if_pos ho]
    rw [hz]
    rw [ho] at CD
    have HK := Lib.hid (show Kept w g bn bd v x w from ⟨bn, v, h, Touch.refl _ _, fun m hm => .inl hm⟩)
    clear h hf ho hz
    go_enter Tryz.func26, Tryz.ntmps26
    go_wp2_with (go_at_call 36; (with_reducible refine (CD.out _ H.out).mono ?_); rintro e w2 ⟨rfl, rfl⟩)
    go_ret2
    exact ⟨rfl, HK.out⟩
  · have ho' : x.off = false := by simpa using ho
    rw [ho'] at CD
    have hz : wipeZ x s = if (wipeL (keysZ x (prefZ s)) x).1 ≠ 0 then (0, (wipeL (keysZ x (prefZ s)) x).1, (wipeL (keysZ x (prefZ s)) x).2)
        else ((((keysZ x (prefZ s)).length : Nat) : Int), 0, (wipeL (keysZ x (prefZ s)) x).2) := by unfold wipeZ; rw [if_neg ho]
    have CK := Lib.hid (fun w (h : PSF w g bn bd v x) => skeys_calls K (by omega) (prefZ s) w g bn bd v x h hf)
    have hkl := keys_len2 hf (prefZ s)
    have HFT := Lib.hid (keys_fit hf (prefZ s))
    obtain ⟨ks, hks⟩ : ∃ ks, keysZ x (prefZ s) = ks := ⟨_, rfl⟩
    rw [hks] at hkl HFT hz
    simp only [hks] at CK
    obtain ⟨n, hn⟩ : ∃ n, ks.length = n := ⟨_, rfl⟩
    have HN := Lib.hid hn
    rw [hn] at hkl hz
    simp only [hn] at CK
    have HZ := Lib.hid hz
    have HF := Lib.hid hf
    clear h hf hks hn ho ho' hz
    go_enter Tryz.func26, Tryz.ntmps26
    go_wp2_with (first
      | (go_at_call 36; (with_reducible refine (CD.out _ H.out).mono ?_); rintro e w2 ⟨rfl, rfl⟩)
      | (go_at_call 38; (with_reducible refine (CP.out _).mono ?_); rintro e w2 ⟨rfl, hb2⟩; have HB2 := Lib.hid hb2; clear hb2)
      | (go_at_call 37; (with_reducible refine (CK.out _ (H.out.keep HB2.out)).mono ?_); rintro e w3 ⟨kv, rfl, hr3, hb3⟩; obtain ⟨a, c, hkv⟩ := hr3.slice; subst hkv
         have HS := Lib.hid (KeptS.start (l := ks) H.out (HB2.out.trans (hb3.mono HB2.out.size)) (by rw [HN.out]; exact hr3.mono HB2.out.size))
         clear hr3 hb3))
    go_loopw [20] (fun iv wr => ∃ (j : Nat), j ≤ n ∧ iv = .int .i64 j ∧ Hid (∃ y, KeptS w g bn bd v y (.slice a n c) ks wr ∧ Fine (K + j) y ∧ wipeL ks x = wipeL (ks.drop j) y)) (fun iv _ => n - (intOf iv).toNat)
    case atStart => exact ⟨0, by omega, rfl, Lib.hid ⟨x, HS.out, HF.out, by rw [List.drop_zero]⟩⟩
    case round =>
      obtain ⟨j, hj, rfl, HI⟩ := hrel
      obtain ⟨y, hy1, hy2, hy3⟩ := HI.out
      by_cases hlt : j < n
      · have hjl : j < ks.length := by rw [HN.out]; exact hlt
        obtain ⟨cg, cc, hv, hcg, hcl⟩ := hy1.at j hjl
        injection hv with hv e2 e3
        subst hv
        clear e2 e3
        have hfit := HFT.out _ (List.getElem_mem hjl)
        have hst := wipe_step (x := y) hjl
        rw [← hy3] at hst
        have CC := Lib.hid (cut_kept (by omega) ks[j] (by omega) hy1 hy2)
        have HF2 := Lib.hid (cut_fine hy2 ks[j])
        obtain ⟨key, hkey⟩ : ∃ key, ks[j] = key := ⟨_, rfl⟩
        rw [hkey] at hcl CC HF2 hst
        obtain ⟨r, hr⟩ : ∃ r, cutZ y key = r := ⟨_, rfl⟩
        rw [hr] at CC HF2 hst
        obtain ⟨e, y2⟩ := r
        simp only at CC HF2 hst
        have hji : (j : Int) < n := by omega
        clear hkey hfit hr hy1 hy2 hy3 HI
        by_cases he : e = 0
        · subst he
          rw [if_neg (by simp)] at hst
          have HST := Lib.hid hst
          clear hst
          go_wp2_with (go_at_call 39; (with_reducible refine CC.out.mono ?_); rintro e w4 ⟨rfl, hk4⟩; have HK4 := Lib.hid hk4; clear hk4)
          go_roundw
          case rel => exact ⟨j + 1, by omega, by go_num, Lib.hid ⟨y2, HK4.out, HF2.out, HST.out⟩⟩
          case measure => simp [intOf]; omega
        · rw [if_pos (by simpa using he)] at hst
          have hne : (e == 0) = false := by rw [beq_eq_false_iff_ne]; exact he
          have HE := Lib.hid he
          have HST := Lib.hid hst
          clear hst he
          go_wp2_with (go_at_call 39; (with_reducible refine CC.out.mono ?_); rintro e w4 ⟨rfl, hk4⟩; have HK4 := Lib.hid hk4; clear hk4)
          go_ret2
          rw [show wipeZ x s = (0, e, y2) by rw [HZ.out, HST.out, if_pos HE.out]]
          exact ⟨rfl, HK4.out.kept⟩
      · obtain rfl : j = n := by omega
        have hdr : ks.drop j = [] := List.drop_of_length_le (by rw [HN.out]; exact Nat.le_refl _)
        rw [hdr] at hy3
        have hw : wipeL ks x = (0, y) := hy3
        have HW := Lib.hid hw
        have HY := Lib.hid hy1.kept
        clear hdr hy3 hw hy1 hy2 HI
        go_wp2
        go_ret2
        rw [show wipeZ x s = ((j : Int), 0, y) by rw [HZ.out, HW.out, if_neg (by simp)]]
        exact ⟨rfl, HY.out⟩
end Go.Proofs.YtegplajddhiejaaGreat
