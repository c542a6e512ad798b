import Derived.Test.YtcicdgajhheipaaSt9
import Derived.Test.YtcicdgajhheipaaSt12
import Derived.Test.YtcicdgajhheipaaSt14
set_option linter.unusedVariables false
namespace Go.Proofs.Ytcicdgajhheipaa
open Go.RowKit Go.WideMaps Go.Maps Go.MapKept
/-! Stores of the call's own, told without the law of chapter 12. -/
/-- A store at block g: its fields, and every block of it is at B or above. -/
def Lives (B : Nat) (w : World) (g : Nat) (x : Fld) : Prop := ∃ bn bd v, PSF w g bn bd v x ∧ ∀ m ∈ foot g bn bd v, B ≤ m
section
variable {B K : Nat} {w w' : World} {g : Nat} {x : Fld}
theorem Lives.keep (h : Lives B w g x) (hb : Below w.heap.size w w') : Lives B w' g x := by
  obtain ⟨bn, bd, v, hp, hf⟩ := h
  exact ⟨bn, bd, v, hp.keep hb, hf⟩
theorem Lives.drewN (h : Lives B w g x) (n : Nat) : Lives B (w.drewN n) g x := by
  obtain ⟨bn, bd, v, hp, hf⟩ := h
  exact ⟨bn, bd, v, hp.drewN n, hf⟩
theorem Lives.down {B' : Nat} (h : Lives B w g x) (hB : B' ≤ B) : Lives B' w g x := by
  obtain ⟨bn, bd, v, hp, hn⟩ := h
  exact ⟨bn, bd, v, hp, fun m hm => Nat.le_trans hB (hn m hm)⟩
theorem Kept.lives {bn bd : Nat} {v : Value} (h : Kept w g bn bd v x w') (hf : ∀ m ∈ foot g bn bd v, B ≤ m) (hB : B ≤ w.heap.size) : Lives B w' g x ∧ Below B w w' := by
  obtain ⟨bn', v', hp, ht, hn⟩ := h
  exact ⟨⟨bn', bd, v', hp, fun m hm => by rcases hn m hm with e | e; exact hf m e; omega⟩, ht.toBelow hB hf⟩
theorem keys_lives (hK : K ≤ 2097152) (p : ByteArray) (h : Lives B w g x) (hf : Fine K x) :
    Calls Try.prog 46 #[.pointer (some ⟨g, 0, none⟩), .string p] w fun e w' => ∃ ks, e = .returned ks ∧ Row w' w.heap.size 1 ks (keysZ x p).length (strV (keysZ x p)) ∧ Below w.heap.size w w' := by
  obtain ⟨bn, bd, v, hp, hn⟩ := h
  exact skeys_calls K hK p w g bn bd v x hp hf
theorem down_lives (h : Lives B w g x) : Calls Try.prog 48 #[.pointer (some ⟨g, 0, none⟩)] w fun e w' => e = .returned (.bool x.off) ∧ w = w' := by
  obtain ⟨bn, bd, v, hp, hn⟩ := h
  exact sdown_calls w g bn bd v x hp
theorem get_lives (k : ByteArray) (hk : k.size ≤ 4194304) (h : Lives B w g x) : Calls Try.prog 42 #[.pointer (some ⟨g, 0, none⟩), .string k] w fun e w' => e = .returned (.tuple #[.string (getZ x k).1, .int .i64 (getZ x k).2]) ∧ w = w' := by
  obtain ⟨bn, bd, v, hp, hn⟩ := h
  exact sget_calls 0 k hk w g bn bd v x hp
theorem put_lives (hK : K ≤ 2097152) (k d : ByteArray) (hk : k.size ≤ 4194304) (hd : d.size ≤ 4194304) (hB : B ≤ w.heap.size) (h : Lives B w g x) (hf : Fine K x) :
    Calls Try.prog 38 #[.pointer (some ⟨g, 0, none⟩), .string k, .string d] w fun e w' => e = .returned (.int .i64 (putZ x k d).1) ∧ Lives B w' g (putZ x k d).2 ∧ Below B w w' := by
  obtain ⟨bn, bd, v, hp, hn⟩ := h
  exact (sput_calls K hK k d hk hd w g bn bd v x hp hf).mono fun e w' ⟨he, hk⟩ => ⟨he, hk.lives hn hB⟩
theorem cut_lives (hK : K ≤ 2097152) (k : ByteArray) (hk : k.size ≤ 4194304) (hB : B ≤ w.heap.size) (h : Lives B w g x) (hf : Fine K x) :
    Calls Try.prog 49 #[.pointer (some ⟨g, 0, none⟩), .string k] w fun e w' => e = .returned (.int .i64 (cutZ x k).1) ∧ Lives B w' g (cutZ x k).2 ∧ Below B w w' := by
  obtain ⟨bn, bd, v, hp, hn⟩ := h
  exact (scut_calls K hK k hk w g bn bd v x hp hf).mono fun e w' ⟨he, hk⟩ => ⟨he, hk.lives hn hB⟩
theorem sync_lives (hK : K ≤ 2097152) (hB : B ≤ w.heap.size) (h : Lives B w g x) (hf : Fine K x) :
    Calls Try.prog 22 #[.pointer (some ⟨g, 0, none⟩)] w fun e w' => e = .returned (.int .i64 (syncZ x).1) ∧ Lives B w' g (syncZ x).2 ∧ Below B w w' := by
  obtain ⟨bn, bd, v, hp, hn⟩ := h
  exact (ssync_calls K hK w g bn bd v x hp hf).mono fun e w' ⟨he, hk⟩ => ⟨he, hk.lives hn hB⟩
theorem crash_lives (hK : K ≤ 2097151) (keep : ByteArray) (hkeep : keep.size ≤ 4611686018427387904) (hB : B ≤ w.heap.size) (h : Lives B w g x) (hf : Fine K x) :
    Calls Try.prog 24 #[.pointer (some ⟨g, 0, none⟩), .string keep] w fun e w' => e = .returned (.tuple #[]) ∧ Lives B w' g (crashZ x keep) ∧ Below B w w' := by
  obtain ⟨bn, bd, v, hp, hn⟩ := h
  exact (scrash_calls K hK keep hkeep w g bn bd v x hp hf).mono fun e w' ⟨he, hk⟩ => ⟨he, hk.lives hn hB⟩
theorem new_lives (c : Int) (hc : goesB c = true) (w : World) : Calls Try.prog 19 #[.int .i64 c] w fun e w' => ∃ g, e = .returned (.pointer (some ⟨g, 0, none⟩)) ∧ Lives w.heap.size w' g (newF c) ∧ Below w.heap.size w w' :=
  (snew_yes c hc w).mono fun e w' ⟨g, bn, bd, he, hp, hn, hb⟩ => ⟨g, he, ⟨bn, bd, _, hp, hn⟩, hb⟩
end
end Go.Proofs.Ytcicdgajhheipaa
