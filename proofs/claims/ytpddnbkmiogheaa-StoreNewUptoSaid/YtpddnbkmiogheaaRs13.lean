import Derived.Test.YtpddnbkmiogheaaRs12
import Derived.Test.YtpddnbkmiogheaaLd4
set_option linter.unusedVariables false
namespace Go.Proofs.Ytpddnbkmiogheaa
open Go.RowKit Go.WideMaps Go.Maps Go.MapKept
section
variable {w w2 : World} {A : Obj} {zs : Array Value} {g : Nat} {vd vw vv : Value} {x' : Fld}
theorem rbox2 (hlt : ∀ k ∈ rfoot g vd vw vv, k < w.heap.size) (h : RKept ((w.alloc A).alloc (.cells zs 34)) g vd vw vv x' w2) :
    w2.heap[w.heap.size + 1]? = some (.cells zs 34 (0, 0)) ∧ (∀ cs, (w2.setRow (w.heap.size + 1) cs).heap[w.heap.size + 1]? = some (.cells cs 34 (0, 0)) ∧ RKept w g vd vw vv x' (w2.setRow (w.heap.size + 1) cs)) := by
  obtain ⟨vd', vw', vv', hp, ht, hf⟩ := h
  have hz : ((w.alloc A).alloc (.cells zs 34)).heap.size = w.heap.size + 2 := by simp
  have hb : w2.heap[w.heap.size + 1]? = some (.cells zs 34 (0, 0)) := by
    rw [ht.block (w.heap.size + 1) (by rw [hz]; omega) (fun hm => by have := hlt _ hm; omega)]
    exact heap_alloc2_new w A _
  refine ⟨hb, fun cs => ⟨setRow_heap w2 _ _ _ _ _ hb, vd', vw', vv', ?_, ?_, ?_⟩⟩
  · refine hp.touch (setRow_touch w2 (w.heap.size + 1) cs) (fun k hk hm => ?_)
    simp at hm
    subst hm
    rcases hf _ hk with e | e
    · have := hlt _ e; omega
    · rw [hz] at e; omega
  · have h1 : Touch (rfoot g vd vw vv) w w2 := (((Touch.refl _ w).alloc A).alloc _).trans ht (fun k hk => .inl hk)
    exact h1.trans (setRow_touch w2 (w.heap.size + 1) cs) (fun k hk => by simp at hk; subst hk; right; omega)
  · intro m hm
    rcases hf m hm with e | e
    · exact .inl e
    · rw [hz] at e; right; omega
end
section
variable {w : World} {g : Nat} {vd vw vv : Value} {x : Fld} {key data : ByteArray} {n : Int}
set_option maxRecDepth 100000 in
set_option maxHeartbeats 2000000 in
theorem ltold_put (K : Nat) (hK : K ≤ 2097151) (hk : key.size ≤ 4194304) (hd : data.size ≤ 4194304) (h : RSF w g vd vw vv x) (hf : Fine K x) :
    Calls Try.prog 33 #[.pointer (some ⟨g, 0, none⟩), opA 1 key data n] w fun e w' => e = .returned (gotV { noGot with e := (putZ x key data).1 } (.slice none 0 0)) ∧ RKept w g vd vw vv (putZ x key data).2 w' := by
  have CP := Lib.hid (fun w (h : RSF w g vd vw vv x) => rput_calls K (by omega) key data hk hd w g vd vw vv x h hf)
  have H := Lib.hid h
  have HLT := Lib.hid h.foot_lt
  obtain ⟨y, hy⟩ : ∃ y, putZ x key data = y := ⟨_, rfl⟩
  obtain ⟨pe, px⟩ := y
  simp only [hy] at CP ⊢
  clear h hf hy
  unfold opA
  go_enter Try.func33, Try.ntmps33
  go_wp2_with (first
    | (go_at_call 60; (with_reducible refine (CP.out _ ((H.out.alloc _).alloc _)).mono ?_); rintro e w2 ⟨rfl, hk2⟩; obtain ⟨hg2, hall⟩ := rbox2 HLT.out hk2; have HA := Lib.hid hall; clear hk2 hall)
    | (refine wpList_store_row rfl 34 _ _ rfl (w.heap.size + 1) (gotA { noGot with e := pe } (.slice none 0 0)) rfl rfl 34 _ hg2 got_info rfl (gotA_one _ rfl) ?_))
  (try simp only [Exit.inBlock, Exit.then])
  refine bodyPost_ret (v := gotV { noGot with e := pe } (.slice none 0 0)) (results_cell_row rfl _ _ (w.heap.size + 1) 34 (gotA { noGot with e := pe } (.slice none 0 0)) (0, 0) _ rfl (HA.out _).1 Try.underlying34 rfl got_info) rfl ⟨rfl, (HA.out _).2⟩
set_option maxRecDepth 100000 in
set_option maxHeartbeats 2000000 in
theorem ltold_cut (K : Nat) (hK : K ≤ 2097151) (hk : key.size ≤ 4194304) (hd : data.size ≤ 4194304) (h : RSF w g vd vw vv x) (hf : Fine K x) :
    Calls Try.prog 33 #[.pointer (some ⟨g, 0, none⟩), opA 2 key data n] w fun e w' => e = .returned (gotV { noGot with e := (cutZ x key).1 } (.slice none 0 0)) ∧ RKept w g vd vw vv (cutZ x key).2 w' := by
  have CP := Lib.hid (fun w (h : RSF w g vd vw vv x) => rcut_calls K (by omega) key hk w g vd vw vv x h hf)
  have H := Lib.hid h
  have HLT := Lib.hid h.foot_lt
  obtain ⟨y, hy⟩ : ∃ y, cutZ x key = y := ⟨_, rfl⟩
  obtain ⟨pe, px⟩ := y
  simp only [hy] at CP ⊢
  clear h hf hy
  unfold opA
  go_enter Try.func33, Try.ntmps33
  go_wp2_with (first
    | (go_at_call 61; (with_reducible refine (CP.out _ ((H.out.alloc _).alloc _)).mono ?_); rintro e w2 ⟨rfl, hk2⟩; obtain ⟨hg2, hall⟩ := rbox2 HLT.out hk2; have HA := Lib.hid hall; clear hk2 hall)
    | (refine wpList_store_row rfl 34 _ _ rfl (w.heap.size + 1) (gotA { noGot with e := pe } (.slice none 0 0)) rfl rfl 34 _ hg2 got_info rfl (gotA_one _ rfl) ?_))
  (try simp only [Exit.inBlock, Exit.then])
  refine bodyPost_ret (v := gotV { noGot with e := pe } (.slice none 0 0)) (results_cell_row rfl _ _ (w.heap.size + 1) 34 (gotA { noGot with e := pe } (.slice none 0 0)) (0, 0) _ rfl (HA.out _).1 Try.underlying34 rfl got_info) rfl ⟨rfl, (HA.out _).2⟩
set_option maxRecDepth 100000 in
set_option maxHeartbeats 2000000 in
theorem ltold_sync (K : Nat) (hK : K ≤ 2097151) (hk : key.size ≤ 4194304) (hd : data.size ≤ 4194304) (h : RSF w g vd vw vv x) (hf : Fine K x) :
    Calls Try.prog 33 #[.pointer (some ⟨g, 0, none⟩), opA 3 key data n] w fun e w' => e = .returned (gotV { noGot with e := (syncZ x).1 } (.slice none 0 0)) ∧ RKept w g vd vw vv (syncZ x).2 w' := by
  have CP := Lib.hid (fun w (h : RSF w g vd vw vv x) => rsync_calls K (by omega) w g vd vw vv x h hf)
  have H := Lib.hid h
  have HLT := Lib.hid h.foot_lt
  obtain ⟨y, hy⟩ : ∃ y, syncZ x = y := ⟨_, rfl⟩
  obtain ⟨pe, px⟩ := y
  simp only [hy] at CP ⊢
  clear h hf hy
  unfold opA
  go_enter Try.func33, Try.ntmps33
  go_wp2_with (first
    | (go_at_call 62; (with_reducible refine (CP.out _ ((H.out.alloc _).alloc _)).mono ?_); rintro e w2 ⟨rfl, hk2⟩; obtain ⟨hg2, hall⟩ := rbox2 HLT.out hk2; have HA := Lib.hid hall; clear hk2 hall)
    | (refine wpList_store_row rfl 34 _ _ rfl (w.heap.size + 1) (gotA { noGot with e := pe } (.slice none 0 0)) rfl rfl 34 _ hg2 got_info rfl (gotA_one _ rfl) ?_))
  (try simp only [Exit.inBlock, Exit.then])
  refine bodyPost_ret (v := gotV { noGot with e := pe } (.slice none 0 0)) (results_cell_row rfl _ _ (w.heap.size + 1) 34 (gotA { noGot with e := pe } (.slice none 0 0)) (0, 0) _ rfl (HA.out _).1 Try.underlying34 rfl got_info) rfl ⟨rfl, (HA.out _).2⟩
set_option maxRecDepth 100000 in
set_option maxHeartbeats 2000000 in
theorem ltold_arm (K : Nat) (hK : K ≤ 2097151) (hk : key.size ≤ 4194304) (hd : data.size ≤ 4194304) (h : RSF w g vd vw vv x) (hf : Fine K x) :
    Calls Try.prog 33 #[.pointer (some ⟨g, 0, none⟩), opA 4 key data n] w fun e w' => e = .returned (gotV noGot (.slice none 0 0)) ∧ RKept w g vd vw vv (armZ x n) w' := by
  have CP := Lib.hid (fun w (h : RSF w g vd vw vv x) => rarm_calls n w g vd vw vv x h)
  have H := Lib.hid h
  have HLT := Lib.hid h.foot_lt
  obtain ⟨px, hy⟩ : ∃ y, armZ x n = y := ⟨_, rfl⟩
  simp only [hy] at CP ⊢
  clear h hf hy
  unfold opA
  go_enter Try.func33, Try.ntmps33
  go_wp2_with (first
    | (go_at_call 63; (with_reducible refine (CP.out _ ((H.out.alloc _).alloc _)).mono ?_); rintro e w2 ⟨rfl, hk2⟩; obtain ⟨hg2, hall⟩ := rbox2 HLT.out hk2; have HA := Lib.hid hall; clear hk2 hall)
    | (refine wpList_store_row rfl 34 _ _ rfl (w.heap.size + 1) (gotA noGot (.slice none 0 0)) rfl rfl 34 _ hg2 got_info rfl (gotA_one _ rfl) ?_))
  (try simp only [Exit.inBlock, Exit.then])
  refine bodyPost_ret (v := gotV noGot (.slice none 0 0)) (results_cell_row rfl _ _ (w.heap.size + 1) 34 (gotA noGot (.slice none 0 0)) (0, 0) _ rfl (HA.out _).1 Try.underlying34 rfl got_info) rfl ⟨rfl, (HA.out _).2⟩
set_option maxRecDepth 100000 in
set_option maxHeartbeats 2000000 in
theorem ltold_crash (K : Nat) (hK : K ≤ 2097151) (hk : key.size ≤ 4194304) (hd : data.size ≤ 4194304) (h : RSF w g vd vw vv x) (hf : Fine K x) :
    Calls Try.prog 33 #[.pointer (some ⟨g, 0, none⟩), opA 5 key data n] w fun e w' => e = .returned (gotV noGot (.slice none 0 0)) ∧ RKept w g vd vw vv (crashZ x data) w' := by
  have CP := Lib.hid (fun w (h : RSF w g vd vw vv x) => rcrash_calls K (by omega) data hd w g vd vw vv x h hf)
  have H := Lib.hid h
  have HLT := Lib.hid h.foot_lt
  obtain ⟨px, hy⟩ : ∃ y, crashZ x data = y := ⟨_, rfl⟩
  simp only [hy] at CP ⊢
  clear h hf hy
  unfold opA
  go_enter Try.func33, Try.ntmps33
  go_wp2_with (first
    | (go_at_call 64; (with_reducible refine (CP.out _ ((H.out.alloc _).alloc _)).mono ?_); rintro e w2 ⟨rfl, hk2⟩; obtain ⟨hg2, hall⟩ := rbox2 HLT.out hk2; have HA := Lib.hid hall; clear hk2 hall)
    | (refine wpList_store_row rfl 34 _ _ rfl (w.heap.size + 1) (gotA noGot (.slice none 0 0)) rfl rfl 34 _ hg2 got_info rfl (gotA_one _ rfl) ?_))
  (try simp only [Exit.inBlock, Exit.then])
  refine bodyPost_ret (v := gotV noGot (.slice none 0 0)) (results_cell_row rfl _ _ (w.heap.size + 1) 34 (gotA noGot (.slice none 0 0)) (0, 0) _ rfl (HA.out _).1 Try.underlying34 rfl got_info) rfl ⟨rfl, (HA.out _).2⟩
set_option maxRecDepth 100000 in
set_option maxHeartbeats 2000000 in
theorem ltold_get (K : Nat) (hK : K ≤ 2097151) (hk : key.size ≤ 4194304) (h : RSF w g vd vw vv x) (hf : Fine K x) :
    Calls Try.prog 33 #[.pointer (some ⟨g, 0, none⟩), opA 6 key data n] w fun e w' => e = .returned (gotV { noGot with text := (getZ x key).1, e := (getZ x key).2 } (.slice none 0 0)) ∧ RKept w g vd vw vv x w' := by
  have CP := Lib.hid (fun w (h : RSF w g vd vw vv x) => rget_calls K (by omega) key hk w g vd vw vv x h hf)
  have H := Lib.hid h
  obtain ⟨y, hy⟩ : ∃ y, getZ x key = y := ⟨_, rfl⟩
  obtain ⟨pt, pe⟩ := y
  simp only [hy] at CP ⊢
  clear h hy hf
  unfold opA
  go_enter Try.func33, Try.ntmps33
  go_wp2_with (go_at_call 65; (with_reducible refine (CP.out _ ((H.out.alloc _).alloc _)).mono ?_); rintro e w2 ⟨rfl, rfl⟩)
  (try simp only [Exit.inBlock, Exit.then])
  refine bodyPost_ret (v := gotV { noGot with text := pt, e := pe } (.slice none 0 0)) (results_cell_row rfl _ _ (w.heap.size + 1) 34 (gotA { noGot with text := pt, e := pe } (.slice none 0 0)) (0, 0) _ rfl (heap_alloc2_new _ _ _) Try.underlying34 rfl got_info) rfl ⟨rfl, RKept.keep H.out (((Below.refl _ _).alloc (Nat.le_refl _) _).alloc (by simp) _)⟩
set_option maxRecDepth 100000 in
set_option maxHeartbeats 2000000 in
theorem ltold_tell (K : Nat) (hK : K ≤ 2097151) (h : RSF w g vd vw vv x) (hf : Fine K x) :
    Calls Try.prog 33 #[.pointer (some ⟨g, 0, none⟩), opA 9 key data n] w fun e w' => e = .returned (gotV { noGot with a := x.pend.length, b := x.used, c := x.room, d := x.off, g := x.age } (.slice none 0 0)) ∧ RKept w g vd vw vv x w' := by
  have H := Lib.hid h
  have HLT := Lib.hid h.foot_lt
  have H2 := Lib.hid (fun A B => (h.alloc A).alloc B)
  have CU := Lib.hid (fun w (h : RSF w g vd vw vv x) => rused_calls K (by omega) w g vd vw vv x h hf)
  clear h hf
  unfold opA
  go_enter Try.func33, Try.ntmps33
  go_wp2_with (first
    | (go_at_call 66; (with_reducible refine (rpending_calls _ g vd vw vv x (H2.out _ _)).mono ?_); rintro e w2 ⟨rfl, rfl⟩)
    | (go_at_call 67; (with_reducible refine (CU.out _ (H2.out _ _)).mono ?_); rintro e w2 ⟨rfl, nd, rfl⟩; obtain ⟨hg2, hall⟩ := rbox2 HLT.out (RKept.drewN (H2.out (.cells #[.int .i64 9, .string key, .string data, .int .i64 n] 31) (.cells #[.string ⟨#[]⟩, .slice none 0 0, .int .i64 0, .int .i64 0, .int .i64 0, .int .i64 0, .bool false, .int .i64 0] 34)) nd); have HA := Lib.hid hall; clear hall)
    | (go_at_call 68; (with_reducible refine (rroom_calls _ g vd vw vv x ((H2.out _ _).drewN _)).mono ?_); rintro e w2 ⟨rfl, rfl⟩)
    | (go_at_call 69; (with_reducible refine (rdown_calls _ g vd vw vv x ((H2.out _ _).drewN _)).mono ?_); rintro e w2 ⟨rfl, rfl⟩)
    | (go_at_call 70; (with_reducible refine (rage_calls _ g vd vw vv x ((H2.out _ _).drewN _)).mono ?_); rintro e w2 ⟨rfl, rfl⟩)
    | (refine wpList_store_row rfl 34 _ _ rfl (w.heap.size + 1) (gotA { noGot with a := x.pend.length, b := x.used, c := x.room, d := x.off, g := x.age } (.slice none 0 0)) rfl rfl 34 _ hg2 got_info rfl (gotA_one _ rfl) ?_))
  (try simp only [Exit.inBlock, Exit.then])
  refine bodyPost_ret (v := gotV { noGot with a := x.pend.length, b := x.used, c := x.room, d := x.off, g := x.age } (.slice none 0 0)) (results_cell_row rfl _ _ (w.heap.size + 1) 34 (gotA { noGot with a := x.pend.length, b := x.used, c := x.room, d := x.off, g := x.age } (.slice none 0 0)) (0, 0) _ rfl (HA.out _).1 Try.underlying34 rfl got_info) rfl ⟨rfl, (HA.out _).2⟩
set_option maxRecDepth 100000 in
set_option maxHeartbeats 2000000 in
theorem ltold_none (k : Int) (h1 : k ≠ 1) (h2 : k ≠ 2) (h3 : k ≠ 3) (h4 : k ≠ 4) (h5 : k ≠ 5) (h6 : k ≠ 6) (h7 : k ≠ 7) (h8 : k ≠ 8) (h9 : k ≠ 9) (h : RSF w g vd vw vv x) :
    Calls Try.prog 33 #[.pointer (some ⟨g, 0, none⟩), opA k key data n] w fun e w' => e = .returned (gotV noGot (.slice none 0 0)) ∧ RKept w g vd vw vv x w' := by
  have H := Lib.hid h
  clear h
  unfold opA
  go_enter Try.func33, Try.ntmps33
  go_wp2
  (try simp only [Exit.inBlock, Exit.then])
  refine bodyPost_ret (v := gotV noGot (.slice none 0 0)) (results_cell_row rfl _ _ (w.heap.size + 1) 34 (gotA noGot (.slice none 0 0)) (0, 0) _ rfl (heap_alloc2_new _ _ _) Try.underlying34 rfl got_info) rfl ⟨rfl, RKept.keep H.out (((Below.refl _ _).alloc (Nat.le_refl _) _).alloc (by simp) _)⟩
set_option maxRecDepth 100000 in
set_option maxHeartbeats 2000000 in
theorem ltold_image (K : Nat) (hK : K ≤ 2097151) (h : RSF w g vd vw vv x) (hf : Fine K x) :
    Calls Try.prog 33 #[.pointer (some ⟨g, 0, none⟩), opA 8 key data n] w fun e w' => e = .returned (gotV { noGot with text := ⟨(imageL x.dur).toArray⟩ } (.slice none 0 0)) ∧ RKept w g vd vw vv x w' := by
  have CP := Lib.hid (fun w (h : RSF w g vd vw vv x) => rimage_calls K (by omega) w g vd vw vv x h hf)
  have H := Lib.hid h
  have HLT := Lib.hid h.foot_lt
  obtain ⟨pt, hy⟩ : ∃ y : ByteArray, ⟨(imageL x.dur).toArray⟩ = y := ⟨_, rfl⟩
  simp only [hy] at CP ⊢
  clear h hf hy
  unfold opA
  go_enter Try.func33, Try.ntmps33
  go_wp2_with (first
    | (go_at_call 34; (with_reducible refine (CP.out _ ((H.out.alloc _).alloc _)).mono ?_); rintro e w2 ⟨rfl, hb2⟩; obtain ⟨hg2, hall⟩ := rbox2 HLT.out (RKept.keep ((H.out.alloc _).alloc _) hb2); have HA := Lib.hid hall; clear hb2 hall)
    | (refine wpList_store_row rfl 34 _ _ rfl (w.heap.size + 1) (gotA { noGot with text := pt } (.slice none 0 0)) rfl rfl 34 _ hg2 got_info rfl (gotA_one _ rfl) ?_))
  (try simp only [Exit.inBlock, Exit.then])
  refine bodyPost_ret (v := gotV { noGot with text := pt } (.slice none 0 0)) (results_cell_row rfl _ _ (w.heap.size + 1) 34 (gotA { noGot with text := pt } (.slice none 0 0)) (0, 0) _ rfl (HA.out _).1 Try.underlying34 rfl got_info) rfl ⟨rfl, (HA.out _).2⟩
set_option maxRecDepth 100000 in
set_option maxHeartbeats 2000000 in
theorem ltold_keys (K : Nat) (hK : K ≤ 2097151) (hk : key.size ≤ 4194304) (h : RSF w g vd vw vv x) (hf : Fine K x) :
    Calls Try.prog 33 #[.pointer (some ⟨g, 0, none⟩), opA 7 key data n] w fun e w' => ∃ nv, e = .returned (gotV { noGot with names := keysZ x key } nv) ∧ Row w' w.heap.size 1 nv (keysZ x key).length (strV (keysZ x key)) ∧ RKept w g vd vw vv x w' := by
  have CP := Lib.hid (fun w (h : RSF w g vd vw vv x) => rkeys_calls K (by omega) key (by omega) w g vd vw vv x h hf)
  have H := Lib.hid h
  have HLT := Lib.hid h.foot_lt
  obtain ⟨pt, hy⟩ : ∃ y, keysZ x key = y := ⟨_, rfl⟩
  simp only [hy] at CP ⊢
  clear h hf hy
  unfold opA
  go_enter Try.func33, Try.ntmps33
  go_wp2_with (first
    | (go_at_call 37; (with_reducible refine (CP.out _ ((H.out.alloc _).alloc _)).mono ?_); rintro e w2 ⟨ks, rfl, hr2, hb2⟩; obtain ⟨ka, kc, rfl⟩ := hr2.slice; obtain ⟨hg2, hall⟩ := rbox2 HLT.out (RKept.keep ((H.out.alloc _).alloc _) hb2); have HA := Lib.hid hall; have HR := Lib.hid hr2; have h1 := (row_one HR.out); clear hb2 hall hr2)
    | (refine wpList_store_row rfl 34 _ _ rfl (w.heap.size + 1) (gotA { noGot with names := pt } (.slice ka pt.length kc)) rfl rfl 34 _ hg2 got_info rfl (gotA_one _ h1) ?_))
  (try simp only [Exit.inBlock, Exit.then])
  refine bodyPost_ret (v := gotV { noGot with names := pt } (.slice ka pt.length kc)) (results_cell_row rfl _ _ (w.heap.size + 1) 34 (gotA { noGot with names := pt } (.slice ka pt.length kc)) (0, 0) _ rfl (HA.out _).1 Try.underlying34 rfl got_info) rfl ⟨.slice ka pt.length kc, rfl, ?_, (HA.out _).2⟩
  have hr := HR.out
  refine (Row.touch hr (setRow_touch _ (w.heap.size + 1) _) (fun k hk hm => ?_)).mono (by simp; omega)
  have := (hr.lt k hk).1
  simp at hm this
  omega
end
theorem ltold_calls (K : Nat) (hK : K ≤ 2097151) (o : OpZ) (ho : o.Ok) (w : World) (g : Nat) (vd vw vv : Value) (x : Fld) (h : RSF w g vd vw vv x) (hf : Fine K x) :
    Calls Try.prog 33 #[.pointer (some ⟨g, 0, none⟩), opV o] w fun e w' => ∃ nv, e = .returned (gotV (doZ x o).1 nv) ∧ Row w' w.heap.size 1 nv (doZ x o).1.names.length (strV (doZ x o).1.names) ∧ RKept w g vd vw vv (doZ x o).2 w' := by
  obtain ⟨k, key, data, n⟩ := o
  have hk : key.size ≤ 4194304 := by have := ho.key; simp only at this; omega
  have hd : data.size ≤ 4194304 := by have := ho.data; simp only at this; omega
  unfold doZ
  simp only
  by_cases h1 : k = 1
  · subst h1; rw [if_pos rfl]; exact (ltold_put K hK hk hd h hf).mono fun e w' ⟨he, hq⟩ => ⟨_, he, row_nil _ _, hq⟩
  rw [if_neg h1]
  by_cases h2 : k = 2
  · subst h2; rw [if_pos rfl]; exact (ltold_cut K hK hk hd h hf).mono fun e w' ⟨he, hq⟩ => ⟨_, he, row_nil _ _, hq⟩
  rw [if_neg h2]
  by_cases h3 : k = 3
  · subst h3; rw [if_pos rfl]; exact (ltold_sync K hK hk hd h hf).mono fun e w' ⟨he, hq⟩ => ⟨_, he, row_nil _ _, hq⟩
  rw [if_neg h3]
  by_cases h4 : k = 4
  · subst h4; rw [if_pos rfl]; exact (ltold_arm K hK hk hd h hf).mono fun e w' ⟨he, hq⟩ => ⟨_, he, row_nil _ _, hq⟩
  rw [if_neg h4]
  by_cases h5 : k = 5
  · subst h5; rw [if_pos rfl]; exact (ltold_crash K hK hk hd h hf).mono fun e w' ⟨he, hq⟩ => ⟨_, he, row_nil _ _, hq⟩
  rw [if_neg h5]
  by_cases h6 : k = 6
  · subst h6; rw [if_pos rfl]; exact (ltold_get K hK hk h hf).mono fun e w' ⟨he, hq⟩ => ⟨_, he, row_nil _ _, hq⟩
  rw [if_neg h6]
  by_cases h7 : k = 7
  · subst h7; rw [if_pos rfl]; exact (ltold_keys K hK hk h hf).mono fun e w' ⟨nv, he, hr, hq⟩ => ⟨nv, he, hr, hq⟩
  rw [if_neg h7]
  by_cases h8 : k = 8
  · subst h8; rw [if_pos rfl]; exact (ltold_image K hK h hf).mono fun e w' ⟨he, hq⟩ => ⟨_, he, row_nil _ _, hq⟩
  rw [if_neg h8]
  by_cases h9 : k = 9
  · subst h9; rw [if_pos rfl]; exact (ltold_tell K hK h hf).mono fun e w' ⟨he, hq⟩ => ⟨_, he, row_nil _ _, hq⟩
  rw [if_neg h9]
  exact (ltold_none k h1 h2 h3 h4 h5 h6 h7 h8 h9 h).mono fun e w' ⟨he, hq⟩ => ⟨_, he, row_nil _ _, hq⟩
end Go.Proofs.Ytpddnbkmiogheaa
