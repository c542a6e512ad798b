import Derived.Test.YtpddnbkmiogheaaLd5
set_option linter.unusedVariables false
namespace Go.Proofs.Ytpddnbkmiogheaa
open Go.RowKit Go.WideMaps Go.Maps Go.MapKept
theorem image_lives {B K : Nat} (hK : K ≤ 2097152) (w : World) (g : Nat) (x : Fld) (h : Lives B w g x) (hf : Fine K x) :
    Calls Try.prog 22 #[.pointer (some ⟨g, 0, none⟩)] w fun e w' => e = .returned (.string ⟨(imageL x.dur).toArray⟩) ∧ Below w.heap.size w w' := by
  obtain ⟨bn, bd, v, hp, hn⟩ := h
  exact simage_calls K hK w g bn bd v x hp hf
theorem keys_lives {B K : Nat} (hK : K ≤ 2097152) (p : ByteArray) (w : World) (g : Nat) (x : Fld) (h : Lives B w g x) (hf : Fine K x) :
    Calls Try.prog 23 #[.pointer (some ⟨g, 0, none⟩), .string p] w fun e w' => ∃ ks, e = .returned ks ∧ Row w' w.heap.size 1 ks (keysZ x p).length (strV (keysZ x p)) ∧ Below w.heap.size w w' := by
  obtain ⟨bn, bd, v, hp, hn⟩ := h
  exact skeys_calls K hK p w g bn bd v x hp hf
theorem used_lives {B : Nat} (w : World) (g : Nat) (x : Fld) (h : Lives B w g x) : Calls Try.prog 24 #[.pointer (some ⟨g, 0, none⟩)] w fun e w' => e = .returned (.int .i64 x.used) ∧ w = w' := by
  obtain ⟨bn, bd, v, hp, hn⟩ := h
  exact sused_calls w g bn bd v x hp
theorem room_lives {B : Nat} (w : World) (g : Nat) (x : Fld) (h : Lives B w g x) : Calls Try.prog 30 #[.pointer (some ⟨g, 0, none⟩)] w fun e w' => e = .returned (.int .i64 x.room) ∧ w = w' := by
  obtain ⟨bn, bd, v, hp, hn⟩ := h
  exact sroom_calls w g bn bd v x hp
theorem age_lives {B : Nat} (w : World) (g : Nat) (x : Fld) (h : Lives B w g x) : Calls Try.prog 25 #[.pointer (some ⟨g, 0, none⟩)] w fun e w' => e = .returned (.int .i64 x.age) ∧ w = w' := by
  obtain ⟨bn, bd, v, hp, hn⟩ := h
  exact sage_calls w g bn bd v x hp
theorem down_lives {B : Nat} (w : World) (g : Nat) (x : Fld) (h : Lives B w g x) : Calls Try.prog 15 #[.pointer (some ⟨g, 0, none⟩)] w fun e w' => e = .returned (.bool x.off) ∧ w = w' := by
  obtain ⟨bn, bd, v, hp, hn⟩ := h
  exact sdown_calls w g bn bd v x hp
theorem pending_lives {B : Nat} (w : World) (g : Nat) (x : Fld) (h : Lives B w g x) : Calls Try.prog 20 #[.pointer (some ⟨g, 0, none⟩)] w fun e w' => e = .returned (.int .i64 x.pend.length) ∧ w = w' := by
  obtain ⟨bn, bd, v, hp, hn⟩ := h
  exact spending_calls w g bn bd v x hp
theorem get_lives {B : Nat} (k : ByteArray) (hk : k.size ≤ 4194304) (w : World) (g : Nat) (x : Fld) (h : Lives B w g x) : Calls Try.prog 29 #[.pointer (some ⟨g, 0, none⟩), .string k] w fun e w' => e = .returned (.tuple #[.string (getZ x k).1, .int .i64 (getZ x k).2]) ∧ w = w' := by
  obtain ⟨bn, bd, v, hp, hn⟩ := h
  exact sget_calls 0 k hk w g bn bd v x hp
theorem see_lives {B : Nat} (k : ByteArray) (hk : k.size ≤ 4194304) (w : World) (g : Nat) (x : Fld) (h : Lives B w g x) : Calls Try.prog 14 #[.pointer (some ⟨g, 0, none⟩), .string k] w fun e w' => e = .returned (seenV (seeZ x k)) ∧ Below w.heap.size w w' := by
  obtain ⟨bn, bd, v, hp, hn⟩ := h
  exact lsee_calls 0 k hk w g bn bd v x hp
theorem put_lives {B K : Nat} (hK : K ≤ 2097152) (k d : ByteArray) (hk : k.size ≤ 4194304) (hd : d.size ≤ 4194304) (w : World) (g : Nat) (x : Fld) (hB : B ≤ w.heap.size) (h : Lives B w g x) (hf : Fine K x) :
    Calls Try.prog 27 #[.pointer (some ⟨g, 0, none⟩), .string k, .string d] w fun e w' => e = .returned (.int .i64 (putZ x k d).1) ∧ Lives B w' g (putZ x k d).2 ∧ Below B w w' := by
  obtain ⟨bn, bd, v, hp, hn⟩ := h
  exact (sput_calls K hK k d hk hd w g bn bd v x hp hf).mono fun e w' ⟨he, hk⟩ => ⟨he, hk.lives hn hB⟩
theorem sync_lives {B K : Nat} (hK : K ≤ 2097152) (w : World) (g : Nat) (x : Fld) (hB : B ≤ w.heap.size) (h : Lives B w g x) (hf : Fine K x) :
    Calls Try.prog 28 #[.pointer (some ⟨g, 0, none⟩)] w fun e w' => e = .returned (.int .i64 (syncZ x).1) ∧ Lives B w' g (syncZ x).2 ∧ Below B w w' := by
  obtain ⟨bn, bd, v, hp, hn⟩ := h
  exact (ssync_calls K hK w g bn bd v x hp hf).mono fun e w' ⟨he, hk⟩ => ⟨he, hk.lives hn hB⟩
theorem crash_lives {B K : Nat} (hK : K ≤ 2097151) (keep : ByteArray) (hkeep : keep.size ≤ 4194304) (w : World) (g : Nat) (x : Fld) (hB : B ≤ w.heap.size) (h : Lives B w g x) (hf : Fine K x) :
    Calls Try.prog 19 #[.pointer (some ⟨g, 0, none⟩), .string keep] w fun e w' => e = .returned (.tuple #[]) ∧ Lives B w' g (crashZ x keep) ∧ Below B w w' := by
  obtain ⟨bn, bd, v, hp, hn⟩ := h
  exact (scrash_calls K hK keep hkeep w g bn bd v x hp hf).mono fun e w' ⟨he, hk⟩ => ⟨he, hk.lives hn hB⟩
/-- A row that was made behind the store stays. -/
theorem crash_rows {B K : Nat} (hK : K ≤ 2097151) (keep : ByteArray) (hkeep : keep.size ≤ 4194304) (w0 w : World) (g : Nat) (x : Fld) (hB : B ≤ w0.heap.size) (h : Lives B w0 g x) (hf : Fine K x) (kv : Value) (n : Nat) (xs : List Value)
    (hb : Below w0.heap.size w0 w) (hr : Row w w0.heap.size 1 kv n xs) :
    Calls Try.prog 19 #[.pointer (some ⟨g, 0, none⟩), .string keep] w fun e w' => e = .returned (.tuple #[]) ∧ Lives B w' g (crashZ x keep) ∧ Below B w w' ∧ Row w' w0.heap.size 1 kv n xs := by
  obtain ⟨bn, bd, v, hp, hn⟩ := h
  refine (scrash_calls K hK keep hkeep w g bn bd v x (hp.keep hb) hf).mono fun e w' ⟨he, hk⟩ => ⟨he, (hk.lives hn (Nat.le_trans hB hb.size)).1, (hk.lives hn (Nat.le_trans hB hb.size)).2, ?_⟩
  obtain ⟨bn', v', hp', ht, hn'⟩ := hk
  exact hr.touch ht (fun k hk hm => by have := hp.foot_lt k hm; have := (hr.lt k hk).1; omega)
theorem new_lives (c : Int) (hc : goesB c = true) (w : World) : Calls Try.prog 13 #[.int .i64 c] w fun e w' => ∃ g, e = .returned (.pointer (some ⟨g, 0, none⟩)) ∧ Lives w.heap.size w' g (newF c) ∧ Below w.heap.size w w' :=
  (snew_yes c hc w).mono fun e w' ⟨g, bn, bd, he, hp, hn, hb⟩ => ⟨g, he, ⟨bn, bd, _, hp, hn⟩, hb⟩
theorem Lives.down {B B' : Nat} {w : World} {g : Nat} {x : Fld} (h : Lives B w g x) (hB : B' ≤ B) : Lives B' w g x := by
  obtain ⟨bn, bd, v, hp, hn⟩ := h
  exact ⟨bn, bd, v, hp, fun m hm => Nat.le_trans hB (hn m hm)⟩
end Go.Proofs.Ytpddnbkmiogheaa
