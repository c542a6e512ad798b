import Derived.Test.YtpddnbkmiogheaaLd2
set_option linter.unusedVariables false
namespace Go.Proofs.Ytpddnbkmiogheaa
open Go.RowKit Go.WideMaps Go.Maps Go.MapKept
theorem gotA_one (t : GotZ) {nv : Value} (h : nv.oneCell' = true) : (gotA t nv).all (·.oneCell') = true := by
  cases nv <;> first | (simp [gotA, Value.oneCell']; done) | cases h
theorem row_one {w : World} {B size n : Nat} {v : Value} {xs : List Value} (h : Row w B size v n xs) : v.oneCell' = true := by
  obtain ⟨a, c, rfl⟩ := h.slice
  rfl
section
variable {w : World} {g bn bd : Nat} {v : Value} {x : Fld} {key data : ByteArray} {n : Int}
def opA (k : Int) (key data : ByteArray) (n : Int) : Value := .agg #[.int .i64 k, .string key, .string data, .int .i64 n]
set_option maxRecDepth 100000 in
set_option maxHeartbeats 2000000 in
theorem ldo_put (K : Nat) (hK : K ≤ 2097151) (hk : key.size ≤ 4194304) (hd : data.size ≤ 4194304) (h : PSF w g bn bd v x) (hf : Fine K x) :
    Calls Try.prog 16 #[.pointer (some ⟨g, 0, none⟩), opA 1 key data n] w fun e w' => e = .returned (gotV { noGot with e := (putZ x key data).1 } (.slice none 0 0)) ∧ Kept w g bn bd v (putZ x key data).2 w' := by
  have CP := Lib.hid (fun w (h : PSF w g bn bd v x) => sput_calls K (by omega) key data hk hd w g bn bd v x h hf)
  have H := Lib.hid h
  have HLT := Lib.hid h.foot_lt
  obtain ⟨y, hy⟩ : ∃ y, putZ x key data = y := ⟨_, rfl⟩
  obtain ⟨pe, px⟩ := y
  simp only [hy] at CP ⊢
  clear h hf hy
  unfold opA
  go_enter Try.func16, Try.ntmps16
  go_wp2_with (first
    | (go_at_call 27; (with_reducible refine (CP.out _ ((H.out.alloc _).alloc _)).mono ?_); rintro e w2 ⟨rfl, hk2⟩; obtain ⟨hg2, hall⟩ := box2 HLT.out hk2; have HA := Lib.hid hall; clear hk2 hall)
    | (refine wpList_store_row rfl 34 _ _ rfl (w.heap.size + 1) (gotA { noGot with e := pe } (.slice none 0 0)) rfl rfl 34 _ hg2 got_info rfl (gotA_one _ rfl) ?_))
  (try simp only [Exit.inBlock, Exit.then])
  refine bodyPost_ret (v := gotV { noGot with e := pe } (.slice none 0 0)) (results_cell_row rfl _ _ (w.heap.size + 1) 34 (gotA { noGot with e := pe } (.slice none 0 0)) (0, 0) _ rfl (HA.out _).1 Try.underlying34 rfl got_info) rfl ⟨rfl, (HA.out _).2⟩
set_option maxRecDepth 100000 in
set_option maxHeartbeats 2000000 in
theorem ldo_cut (K : Nat) (hK : K ≤ 2097151) (hk : key.size ≤ 4194304) (hd : data.size ≤ 4194304) (h : PSF w g bn bd v x) (hf : Fine K x) :
    Calls Try.prog 16 #[.pointer (some ⟨g, 0, none⟩), opA 2 key data n] w fun e w' => e = .returned (gotV { noGot with e := (cutZ x key).1 } (.slice none 0 0)) ∧ Kept w g bn bd v (cutZ x key).2 w' := by
  have CP := Lib.hid (fun w (h : PSF w g bn bd v x) => scut_calls K (by omega) key hk w g bn bd v x h hf)
  have H := Lib.hid h
  have HLT := Lib.hid h.foot_lt
  obtain ⟨y, hy⟩ : ∃ y, cutZ x key = y := ⟨_, rfl⟩
  obtain ⟨pe, px⟩ := y
  simp only [hy] at CP ⊢
  clear h hf hy
  unfold opA
  go_enter Try.func16, Try.ntmps16
  go_wp2_with (first
    | (go_at_call 41; (with_reducible refine (CP.out _ ((H.out.alloc _).alloc _)).mono ?_); rintro e w2 ⟨rfl, hk2⟩; obtain ⟨hg2, hall⟩ := box2 HLT.out hk2; have HA := Lib.hid hall; clear hk2 hall)
    | (refine wpList_store_row rfl 34 _ _ rfl (w.heap.size + 1) (gotA { noGot with e := pe } (.slice none 0 0)) rfl rfl 34 _ hg2 got_info rfl (gotA_one _ rfl) ?_))
  (try simp only [Exit.inBlock, Exit.then])
  refine bodyPost_ret (v := gotV { noGot with e := pe } (.slice none 0 0)) (results_cell_row rfl _ _ (w.heap.size + 1) 34 (gotA { noGot with e := pe } (.slice none 0 0)) (0, 0) _ rfl (HA.out _).1 Try.underlying34 rfl got_info) rfl ⟨rfl, (HA.out _).2⟩
set_option maxRecDepth 100000 in
set_option maxHeartbeats 2000000 in
theorem ldo_sync (K : Nat) (hK : K ≤ 2097151) (hk : key.size ≤ 4194304) (hd : data.size ≤ 4194304) (h : PSF w g bn bd v x) (hf : Fine K x) :
    Calls Try.prog 16 #[.pointer (some ⟨g, 0, none⟩), opA 3 key data n] w fun e w' => e = .returned (gotV { noGot with e := (syncZ x).1 } (.slice none 0 0)) ∧ Kept w g bn bd v (syncZ x).2 w' := by
  have CP := Lib.hid (fun w (h : PSF w g bn bd v x) => ssync_calls K (by omega) w g bn bd v x h hf)
  have H := Lib.hid h
  have HLT := Lib.hid h.foot_lt
  obtain ⟨y, hy⟩ : ∃ y, syncZ x = y := ⟨_, rfl⟩
  obtain ⟨pe, px⟩ := y
  simp only [hy] at CP ⊢
  clear h hf hy
  unfold opA
  go_enter Try.func16, Try.ntmps16
  go_wp2_with (first
    | (go_at_call 28; (with_reducible refine (CP.out _ ((H.out.alloc _).alloc _)).mono ?_); rintro e w2 ⟨rfl, hk2⟩; obtain ⟨hg2, hall⟩ := box2 HLT.out hk2; have HA := Lib.hid hall; clear hk2 hall)
    | (refine wpList_store_row rfl 34 _ _ rfl (w.heap.size + 1) (gotA { noGot with e := pe } (.slice none 0 0)) rfl rfl 34 _ hg2 got_info rfl (gotA_one _ rfl) ?_))
  (try simp only [Exit.inBlock, Exit.then])
  refine bodyPost_ret (v := gotV { noGot with e := pe } (.slice none 0 0)) (results_cell_row rfl _ _ (w.heap.size + 1) 34 (gotA { noGot with e := pe } (.slice none 0 0)) (0, 0) _ rfl (HA.out _).1 Try.underlying34 rfl got_info) rfl ⟨rfl, (HA.out _).2⟩
set_option maxRecDepth 100000 in
set_option maxHeartbeats 2000000 in
theorem ldo_arm (K : Nat) (hK : K ≤ 2097151) (hk : key.size ≤ 4194304) (hd : data.size ≤ 4194304) (h : PSF w g bn bd v x) (hf : Fine K x) :
    Calls Try.prog 16 #[.pointer (some ⟨g, 0, none⟩), opA 4 key data n] w fun e w' => e = .returned (gotV noGot (.slice none 0 0)) ∧ Kept w g bn bd v (armZ x n) w' := by
  have CP := Lib.hid (fun w (h : PSF w g bn bd v x) => sarm_calls n w g bn bd v x h)
  have H := Lib.hid h
  have HLT := Lib.hid h.foot_lt
  obtain ⟨px, hy⟩ : ∃ y, armZ x n = y := ⟨_, rfl⟩
  simp only [hy] at CP ⊢
  clear h hf hy
  unfold opA
  go_enter Try.func16, Try.ntmps16
  go_wp2_with (first
    | (go_at_call 42; (with_reducible refine (CP.out _ ((H.out.alloc _).alloc _)).mono ?_); rintro e w2 ⟨rfl, hk2⟩; obtain ⟨hg2, hall⟩ := box2 HLT.out hk2; have HA := Lib.hid hall; clear hk2 hall)
    | (refine wpList_store_row rfl 34 _ _ rfl (w.heap.size + 1) (gotA noGot (.slice none 0 0)) rfl rfl 34 _ hg2 got_info rfl (gotA_one _ rfl) ?_))
  (try simp only [Exit.inBlock, Exit.then])
  refine bodyPost_ret (v := gotV noGot (.slice none 0 0)) (results_cell_row rfl _ _ (w.heap.size + 1) 34 (gotA noGot (.slice none 0 0)) (0, 0) _ rfl (HA.out _).1 Try.underlying34 rfl got_info) rfl ⟨rfl, (HA.out _).2⟩
set_option maxRecDepth 100000 in
set_option maxHeartbeats 2000000 in
theorem ldo_crash (K : Nat) (hK : K ≤ 2097151) (hk : key.size ≤ 4194304) (hd : data.size ≤ 4194304) (h : PSF w g bn bd v x) (hf : Fine K x) :
    Calls Try.prog 16 #[.pointer (some ⟨g, 0, none⟩), opA 5 key data n] w fun e w' => e = .returned (gotV noGot (.slice none 0 0)) ∧ Kept w g bn bd v (crashZ x data) w' := by
  have CP := Lib.hid (fun w (h : PSF w g bn bd v x) => scrash_calls K (by omega) data hd w g bn bd v x h hf)
  have H := Lib.hid h
  have HLT := Lib.hid h.foot_lt
  obtain ⟨px, hy⟩ : ∃ y, crashZ x data = y := ⟨_, rfl⟩
  simp only [hy] at CP ⊢
  clear h hf hy
  unfold opA
  go_enter Try.func16, Try.ntmps16
  go_wp2_with (first
    | (go_at_call 19; (with_reducible refine (CP.out _ ((H.out.alloc _).alloc _)).mono ?_); rintro e w2 ⟨rfl, hk2⟩; obtain ⟨hg2, hall⟩ := box2 HLT.out hk2; have HA := Lib.hid hall; clear hk2 hall)
    | (refine wpList_store_row rfl 34 _ _ rfl (w.heap.size + 1) (gotA noGot (.slice none 0 0)) rfl rfl 34 _ hg2 got_info rfl (gotA_one _ rfl) ?_))
  (try simp only [Exit.inBlock, Exit.then])
  refine bodyPost_ret (v := gotV noGot (.slice none 0 0)) (results_cell_row rfl _ _ (w.heap.size + 1) 34 (gotA noGot (.slice none 0 0)) (0, 0) _ rfl (HA.out _).1 Try.underlying34 rfl got_info) rfl ⟨rfl, (HA.out _).2⟩
set_option maxRecDepth 100000 in
set_option maxHeartbeats 2000000 in
theorem ldo_get (K : Nat) (hk : key.size ≤ 4194304) (h : PSF w g bn bd v x) :
    Calls Try.prog 16 #[.pointer (some ⟨g, 0, none⟩), opA 6 key data n] w fun e w' => e = .returned (gotV { noGot with text := (getZ x key).1, e := (getZ x key).2 } (.slice none 0 0)) ∧ Kept w g bn bd v x w' := by
  have CP := Lib.hid (fun w (h : PSF w g bn bd v x) => sget_calls K key hk w g bn bd v x h)
  have H := Lib.hid h
  obtain ⟨y, hy⟩ : ∃ y, getZ x key = y := ⟨_, rfl⟩
  obtain ⟨pt, pe⟩ := y
  simp only [hy] at CP ⊢
  clear h hy
  unfold opA
  go_enter Try.func16, Try.ntmps16
  go_wp2_with (go_at_call 29; (with_reducible refine (CP.out _ ((H.out.alloc _).alloc _)).mono ?_); rintro e w2 ⟨rfl, rfl⟩)
  (try simp only [Exit.inBlock, Exit.then])
  refine bodyPost_ret (v := gotV { noGot with text := pt, e := pe } (.slice none 0 0)) (results_cell_row rfl _ _ (w.heap.size + 1) 34 (gotA { noGot with text := pt, e := pe } (.slice none 0 0)) (0, 0) _ rfl (heap_alloc2_new _ _ _) Try.underlying34 rfl got_info) rfl ⟨rfl, Kept.keep H.out (((Below.refl _ _).alloc (Nat.le_refl _) _).alloc (by simp) _)⟩
set_option maxRecDepth 100000 in
set_option maxHeartbeats 2000000 in
theorem ldo_tell (h : PSF w g bn bd v x) :
    Calls Try.prog 16 #[.pointer (some ⟨g, 0, none⟩), opA 9 key data n] w fun e w' => e = .returned (gotV { noGot with a := x.pend.length, b := x.used, c := x.room, d := x.off, g := x.age } (.slice none 0 0)) ∧ Kept w g bn bd v x w' := by
  have H := Lib.hid h
  have H2 := Lib.hid (fun A B => (h.alloc A).alloc B)
  clear h
  unfold opA
  go_enter Try.func16, Try.ntmps16
  go_wp2_with (first
    | (go_at_call 20; (with_reducible refine (spending_calls _ g bn bd v x (H2.out _ _)).mono ?_); rintro e w2 ⟨rfl, rfl⟩)
    | (go_at_call 24; (with_reducible refine (sused_calls _ g bn bd v x (H2.out _ _)).mono ?_); rintro e w2 ⟨rfl, rfl⟩)
    | (go_at_call 30; (with_reducible refine (sroom_calls _ g bn bd v x (H2.out _ _)).mono ?_); rintro e w2 ⟨rfl, rfl⟩)
    | (go_at_call 15; (with_reducible refine (sdown_calls _ g bn bd v x (H2.out _ _)).mono ?_); rintro e w2 ⟨rfl, rfl⟩)
    | (go_at_call 25; (with_reducible refine (sage_calls _ g bn bd v x (H2.out _ _)).mono ?_); rintro e w2 ⟨rfl, rfl⟩))
  (try simp only [Exit.inBlock, Exit.then])
  refine bodyPost_ret (v := gotV { noGot with a := x.pend.length, b := x.used, c := x.room, d := x.off, g := x.age } (.slice none 0 0)) (results_cell_row rfl _ _ (w.heap.size + 1) 34 (gotA { noGot with a := x.pend.length, b := x.used, c := x.room, d := x.off, g := x.age } (.slice none 0 0)) (0, 0) _ rfl (heap_alloc2_new _ _ _) Try.underlying34 rfl got_info) rfl ⟨rfl, Kept.keep H.out (((Below.refl _ _).alloc (Nat.le_refl _) _).alloc (by simp) _)⟩
set_option maxRecDepth 100000 in
set_option maxHeartbeats 2000000 in
theorem ldo_none (k : Int) (h1 : k ≠ 1) (h2 : k ≠ 2) (h3 : k ≠ 3) (h4 : k ≠ 4) (h5 : k ≠ 5) (h6 : k ≠ 6) (h7 : k ≠ 7) (h8 : k ≠ 8) (h9 : k ≠ 9) (h : PSF w g bn bd v x) :
    Calls Try.prog 16 #[.pointer (some ⟨g, 0, none⟩), opA k key data n] w fun e w' => e = .returned (gotV noGot (.slice none 0 0)) ∧ Kept w g bn bd v x w' := by
  have H := Lib.hid h
  clear h
  unfold opA
  go_enter Try.func16, Try.ntmps16
  go_wp2
  (try simp only [Exit.inBlock, Exit.then])
  refine bodyPost_ret (v := gotV noGot (.slice none 0 0)) (results_cell_row rfl _ _ (w.heap.size + 1) 34 (gotA noGot (.slice none 0 0)) (0, 0) _ rfl (heap_alloc2_new _ _ _) Try.underlying34 rfl got_info) rfl ⟨rfl, Kept.keep H.out (((Below.refl _ _).alloc (Nat.le_refl _) _).alloc (by simp) _)⟩
set_option maxRecDepth 100000 in
set_option maxHeartbeats 2000000 in
theorem ldo_image (K : Nat) (hK : K ≤ 2097151) (h : PSF w g bn bd v x) (hf : Fine K x) :
    Calls Try.prog 16 #[.pointer (some ⟨g, 0, none⟩), opA 8 key data n] w fun e w' => e = .returned (gotV { noGot with text := ⟨(imageL x.dur).toArray⟩ } (.slice none 0 0)) ∧ Kept w g bn bd v x w' := by
  have CP := Lib.hid (fun w (h : PSF w g bn bd v x) => simage_calls K (by omega) w g bn bd v x h hf)
  have H := Lib.hid h
  have HLT := Lib.hid h.foot_lt
  obtain ⟨pt, hy⟩ : ∃ y : ByteArray, ⟨(imageL x.dur).toArray⟩ = y := ⟨_, rfl⟩
  simp only [hy] at CP ⊢
  clear h hf hy
  unfold opA
  go_enter Try.func16, Try.ntmps16
  go_wp2_with (first
    | (go_at_call 22; (with_reducible refine (CP.out _ ((H.out.alloc _).alloc _)).mono ?_); rintro e w2 ⟨rfl, hb2⟩; obtain ⟨hg2, hall⟩ := box2 HLT.out (Kept.keep ((H.out.alloc _).alloc _) hb2); have HA := Lib.hid hall; clear hb2 hall)
    | (refine wpList_store_row rfl 34 _ _ rfl (w.heap.size + 1) (gotA { noGot with text := pt } (.slice none 0 0)) rfl rfl 34 _ hg2 got_info rfl (gotA_one _ rfl) ?_))
  (try simp only [Exit.inBlock, Exit.then])
  refine bodyPost_ret (v := gotV { noGot with text := pt } (.slice none 0 0)) (results_cell_row rfl _ _ (w.heap.size + 1) 34 (gotA { noGot with text := pt } (.slice none 0 0)) (0, 0) _ rfl (HA.out _).1 Try.underlying34 rfl got_info) rfl ⟨rfl, (HA.out _).2⟩
set_option maxRecDepth 100000 in
set_option maxHeartbeats 2000000 in
theorem ldo_keys (K : Nat) (hK : K ≤ 2097151) (h : PSF w g bn bd v x) (hf : Fine K x) :
    Calls Try.prog 16 #[.pointer (some ⟨g, 0, none⟩), opA 7 key data n] w fun e w' => ∃ nv, e = .returned (gotV { noGot with names := keysZ x key } nv) ∧ Row w' w.heap.size 1 nv (keysZ x key).length (strV (keysZ x key)) ∧ Kept w g bn bd v x w' := by
  have CP := Lib.hid (fun w (h : PSF w g bn bd v x) => skeys_calls K (by omega) key w g bn bd v x h hf)
  have H := Lib.hid h
  have HLT := Lib.hid h.foot_lt
  obtain ⟨pt, hy⟩ : ∃ y, keysZ x key = y := ⟨_, rfl⟩
  simp only [hy] at CP ⊢
  clear h hf hy
  unfold opA
  go_enter Try.func16, Try.ntmps16
  go_wp2_with (first
    | (go_at_call 23; (with_reducible refine (CP.out _ ((H.out.alloc _).alloc _)).mono ?_); rintro e w2 ⟨ks, rfl, hr2, hb2⟩; obtain ⟨ka, kc, rfl⟩ := hr2.slice; obtain ⟨hg2, hall⟩ := box2 HLT.out (Kept.keep ((H.out.alloc _).alloc _) hb2); have HA := Lib.hid hall; have HR := Lib.hid hr2; have h1 := (row_one HR.out); clear hb2 hall hr2)
    | (refine wpList_store_row rfl 34 _ _ rfl (w.heap.size + 1) (gotA { noGot with names := pt } (.slice ka pt.length kc)) rfl rfl 34 _ hg2 got_info rfl (gotA_one _ h1) ?_))
  (try simp only [Exit.inBlock, Exit.then])
  refine bodyPost_ret (v := gotV { noGot with names := pt } (.slice ka pt.length kc)) (results_cell_row rfl _ _ (w.heap.size + 1) 34 (gotA { noGot with names := pt } (.slice ka pt.length kc)) (0, 0) _ rfl (HA.out _).1 Try.underlying34 rfl got_info) rfl ⟨.slice ka pt.length kc, rfl, ?_, (HA.out _).2⟩
  have hr := HR.out
  refine (Row.touch hr (setRow_touch _ (w.heap.size + 1) _) (fun k hk hm => ?_)).mono (by simp; omega)
  have := (hr.lt k hk).1
  simp at hm this
  omega
end
theorem row_nil (w : World) (B : Nat) : Row w B 1 (.slice none 0 0) 0 (strV []) := Row.nil w B 1
theorem ldo_calls (K : Nat) (hK : K ≤ 2097151) (o : OpZ) (ho : o.Ok) (w : World) (g bn bd : Nat) (v : Value) (x : Fld) (h : PSF w g bn bd v x) (hf : Fine K x) :
    Calls Try.prog 16 #[.pointer (some ⟨g, 0, none⟩), opV o] w fun e w' => ∃ nv, e = .returned (gotV (doZ x o).1 nv) ∧ Row w' w.heap.size 1 nv (doZ x o).1.names.length (strV (doZ x o).1.names) ∧ Kept w g bn bd v (doZ x o).2 w' := by
  obtain ⟨k, key, data, n⟩ := o
  have hk : key.size ≤ 4194304 := by have := ho.key; simp only at this; omega
  have hd : data.size ≤ 4194304 := by have := ho.data; simp only at this; omega
  unfold doZ
  simp only
  by_cases h1 : k = 1
  · subst h1; rw [if_pos rfl]; exact (ldo_put K hK hk hd h hf).mono fun e w' ⟨he, hq⟩ => ⟨_, he, row_nil _ _, hq⟩
  rw [if_neg h1]
  by_cases h2 : k = 2
  · subst h2; rw [if_pos rfl]; exact (ldo_cut K hK hk hd h hf).mono fun e w' ⟨he, hq⟩ => ⟨_, he, row_nil _ _, hq⟩
  rw [if_neg h2]
  by_cases h3 : k = 3
  · subst h3; rw [if_pos rfl]; exact (ldo_sync K hK hk hd h hf).mono fun e w' ⟨he, hq⟩ => ⟨_, he, row_nil _ _, hq⟩
  rw [if_neg h3]
  by_cases h4 : k = 4
  · subst h4; rw [if_pos rfl]; exact (ldo_arm K hK hk hd h hf).mono fun e w' ⟨he, hq⟩ => ⟨_, he, row_nil _ _, hq⟩
  rw [if_neg h4]
  by_cases h5 : k = 5
  · subst h5; rw [if_pos rfl]; exact (ldo_crash K hK hk hd h hf).mono fun e w' ⟨he, hq⟩ => ⟨_, he, row_nil _ _, hq⟩
  rw [if_neg h5]
  by_cases h6 : k = 6
  · subst h6; rw [if_pos rfl]; exact (ldo_get K hk h).mono fun e w' ⟨he, hq⟩ => ⟨_, he, row_nil _ _, hq⟩
  rw [if_neg h6]
  by_cases h7 : k = 7
  · subst h7; rw [if_pos rfl]; exact (ldo_keys K hK h hf).mono fun e w' ⟨nv, he, hr, hq⟩ => ⟨nv, he, hr, hq⟩
  rw [if_neg h7]
  by_cases h8 : k = 8
  · subst h8; rw [if_pos rfl]; exact (ldo_image K hK h hf).mono fun e w' ⟨he, hq⟩ => ⟨_, he, row_nil _ _, hq⟩
  rw [if_neg h8]
  by_cases h9 : k = 9
  · subst h9; rw [if_pos rfl]; exact (ldo_tell h).mono fun e w' ⟨he, hq⟩ => ⟨_, he, row_nil _ _, hq⟩
  rw [if_neg h9]
  exact (ldo_none k h1 h2 h3 h4 h5 h6 h7 h8 h9 h).mono fun e w' ⟨he, hq⟩ => ⟨_, he, row_nil _ _, hq⟩
end Go.Proofs.Ytpddnbkmiogheaa
