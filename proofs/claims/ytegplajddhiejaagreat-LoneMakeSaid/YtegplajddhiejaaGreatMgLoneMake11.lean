import Derived.Test.YtegplajddhiejaaGreatMgLoneMake8
import Derived.Test.YtegplajddhiejaaGreatMgLoneMake10
import Derived.Test.YtegplajddhiejaaGreatShelf
import Derived.Laws.BitsAllLaws
import Derived.IntWalk
import Derived.Test.YtegplajddhiejaaGreatMgLoneMake9
import Derived.Test.YtegplajddhiejaaGreatMgLoneMake5
import Derived.Test.YtegplajddhiejaaGreatProg
import Derived.WalkKit
import Derived.Lib.Hide
import Derived.Below
import Derived.Deep.QuietTactic
set_option linter.unusedVariables false
namespace Go.Proofs.YtegplajddhiejaaGreat
open Go.RowKit Go.WideMaps Go.Maps Go.MapKept
theorem smade_calls (b : Nat) (u c : Int) (l : List Rec) (w : World) (h : SMap w b l) :
    Calls Tryz.prog 13 #[.map (some b), .int .i64 u, .int .i64 c] w fun e w' => ∃ g bn, e = .returned (.pointer (some ⟨g, 0, none⟩)) ∧ PSF w' g bn b (.slice none 0 0) ⟨c, l, l, [], u, false, 0, 0⟩ ∧ w.heap.size ≤ g ∧ w.heap.size ≤ bn ∧ Below w.heap.size w w' := by
  have CC := Lib.hid (clone_calls w b l h)
  have H := Lib.hid h
  clear h
  go_enter Tryz.func13, Tryz.ntmps13
  go_wp2_with (go_at_call 22; (with_reducible refine CC.out.mono ?_); rintro e w1 ⟨rfl, hs1, hb1, hz1⟩; have HS1 := Lib.hid hs1; have HB1 := Lib.hid hb1; have HZ1 := Lib.hid hz1; clear hs1 hb1 hz1)
  go_ret
  have hz := HZ1.out
  have hb := H.out.lt
  refine ⟨_, w.heap.size, rfl, ?_, by omega, Nat.le_refl _, HB1.out.alloc (by omega) _⟩
  have hc := fun j => World.cell?_alloc_new w1 (#[.int .i64 c, .map (some w.heap.size), .map (some b), .slice none 0 0, .int .i64 u, .bool false, .int .i64 0, .int .i64 0] : Array Value) 49 j
  exact { c0 := hc 0, c1 := hc 1, c2 := hc 2, c3 := hc 3, c4 := hc 4, c5 := hc 5, c6 := hc 6, c7 := hc 7, fr := fun j => World.frozen?_alloc_new w1 _ _ j, now := HS1.out.alloc _, dur := (H.out.keep HB1.out).alloc _,
          row := Row.nil _ 0 3, ne1 := by omega, ne2 := by omega, ne3 := by omega, nv := fun k hk => (by cases hk), lt := by simp }
theorem snew_no (c : Int) (hc : goesB c = false) (w : World) : Calls Tryz.prog 4 #[.int .i64 c] w fun e w' => e = .returned (.pointer none) ∧ w = w' := by
  have CG := Lib.hid (fun w => sgoes_calls c w)
  rw [hc] at CG
  clear hc
  go_enter Tryz.func4, Tryz.ntmps4
  go_wp2_with (go_at_call 12; (with_reducible refine (CG.out _).mono ?_); rintro e w1 ⟨rfl, rfl⟩)
  go_ret
  exact ⟨rfl, rfl⟩
theorem snew_yes (c : Int) (hc : goesB c = true) (w : World) : Calls Tryz.prog 4 #[.int .i64 c] w fun e w' => ∃ g bn bd, e = .returned (.pointer (some ⟨g, 0, none⟩)) ∧ PSF w' g bn bd (.slice none 0 0) (newF c) ∧ (∀ m ∈ foot g bn bd (.slice none 0 0), w.heap.size ≤ m) ∧ Below w.heap.size w w' := by
  have CG := Lib.hid (fun w => sgoes_calls c w)
  rw [hc] at CG
  have hmm := @run_makeMap Tryz.prog
  have CM := Lib.hid (smade_calls w.heap.size 0 c [] (w.alloc (.map #[] 0)) (SMap.made w))
  clear hc
  go_enter Tryz.func4, Tryz.ntmps4
  go_wp2_with (first
    | (go_at_call 12; (with_reducible refine (CG.out _).mono ?_); rintro e w1 ⟨rfl, rfl⟩)
    | (go_at_call 13; (with_reducible refine CM.out.mono ?_); rintro e w2 ⟨g, bn, rfl, hp, hg, hbn, hb⟩; have HP := Lib.hid hp; have HG := Lib.hid hg; have HBN := Lib.hid hbn; have HB := Lib.hid hb; clear hp hg hbn hb))
  go_ret
  have h1 := HG.out
  have h2 := HBN.out
  simp at h1 h2
  refine ⟨g, bn, w.heap.size, rfl, HP.out, fun m hm => ?_, ((Below.refl _ w).alloc (Nat.le_refl _) _).trans (HB.out.mono (by simp))⟩
  rcases mem_foot.1 hm with e | e | e | e
  · omega
  · omega
  · omega
  · cases e
theorem i64_or_nat (a b : Nat) (ha : a < 9223372036854775808) (hb : b < 9223372036854775808) : bits .or .i64 (a : Int) (b : Int) = ((a ||| b : Nat) : Int) := by
  have hx : a ||| b < 2 ^ 63 := Nat.or_lt_two_pow (by omega) (by omega)
  have e : ∀ n : Nat, n < 9223372036854775808 → (BitVec.ofInt 64 (n : Int)).toNat = n := fun n hn => by
    rw [BitVec.ofInt_natCast, BitVec.toNat_ofNat]; exact Nat.mod_eq_of_lt (by omega)
  show IntKind.i64.wrap ((BitVec.ofInt 64 (a : Int) ||| BitVec.ofInt 64 (b : Int)).toNat : Int) = _
  rw [BitVec.toNat_or, e a ha, e b hb]
  exact IntWalk.i64_in _ (by omega)
theorem len_val (x0 x1 x2 x3 : Nat) (r0 : x0 < 256) (r1 : x1 < 256) (r2 : x2 < 256) (r3 : x3 < 256) :
    bits BinOp.or IntKind.i64 (bits BinOp.or IntKind.i64 (bits BinOp.or IntKind.i64 (wrap64 (wrap64 (x0 : Int) * 16777216)) (wrap64 (wrap64 (x1 : Int) * 65536))) (wrap64 (wrap64 (x2 : Int) * 256))) (wrap64 (x3 : Int)) = (beN4 x0 x1 x2 x3 : Nat) := by
  have w0 : ∀ n : Int, 0 ≤ n → n < 4294967296 → wrap64 n = n := fun n h1 h2 => IntWalk.wrap64_in n ⟨by omega, by omega⟩
  rw [w0 (x0 : Int) (by omega) (by omega), w0 (x1 : Int) (by omega) (by omega), w0 (x2 : Int) (by omega) (by omega), w0 (x3 : Int) (by omega) (by omega)]
  rw [w0 ((x0 : Int) * 16777216) (by omega) (by omega), w0 ((x1 : Int) * 65536) (by omega) (by omega), w0 ((x2 : Int) * 256) (by omega) (by omega)]
  have e1 : bits BinOp.or IntKind.i64 ((x0 : Int) * 16777216) ((x1 : Int) * 65536) = (((x0 * 256 + x1) * 65536 : Nat) : Int) := by
    rw [show (x0 : Int) * 16777216 = ((x0 * 16777216 : Nat) : Int) by omega, show (x1 : Int) * 65536 = ((x1 * 65536 : Nat) : Int) by omega, i64_or_nat _ _ (by omega) (by omega)]
    congr 1
    rw [show x0 * 16777216 = 2 ^ 24 * x0 by omega, ← Nat.two_pow_add_eq_or_of_lt (i := 24) (by omega) x0]; omega
  have e2 : bits BinOp.or IntKind.i64 (((x0 * 256 + x1) * 65536 : Nat) : Int) ((x2 : Int) * 256) = ((((x0 * 256 + x1) * 256 + x2) * 256 : Nat) : Int) := by
    rw [show (x2 : Int) * 256 = ((x2 * 256 : Nat) : Int) by omega, i64_or_nat _ _ (by omega) (by omega)]
    congr 1
    rw [show (x0 * 256 + x1) * 65536 = 2 ^ 16 * (x0 * 256 + x1) by omega, ← Nat.two_pow_add_eq_or_of_lt (i := 16) (by omega) _]; omega
  have e3 : bits BinOp.or IntKind.i64 ((((x0 * 256 + x1) * 256 + x2) * 256 : Nat) : Int) (x3 : Int) = ((((x0 * 256 + x1) * 256 + x2) * 256 + x3 : Nat) : Int) := by
    rw [i64_or_nat _ _ (by omega) (by omega)]
    congr 1
    rw [show ((x0 * 256 + x1) * 256 + x2) * 256 = 2 ^ 8 * ((x0 * 256 + x1) * 256 + x2) by omega, ← Nat.two_pow_add_eq_or_of_lt (i := 8) (by omega) _]
  rw [e1, e2, e3]
  rfl
theorem num4_at (b : ByteArray) (hb : 4 ≤ b.size) : num4 b.data.toList = beN4 b[0].toNat b[1].toNat b[2].toNat b[3].toNat := by
  have hl : b.data.toList.length = b.size := by simp
  match h : b.data.toList, hl with
  | [], hl => simp at hl; omega
  | [x], hl => simp at hl; omega
  | [x, y], hl => simp at hl; omega
  | [x, y, z], hl => simp at hl; omega
  | x :: y :: z :: t :: r, hl =>
    have e : ∀ i (hi : i < b.size), b[i] = b.data.toList[i]'(by simpa using hi) := fun i hi => by simp [ByteArray.getElem_eq_getElem_data]
    rw [e 0 (by omega), e 1 (by omega), e 2 (by omega), e 3 (by omega)]
    simp [h, num4]
end Go.Proofs.YtegplajddhiejaaGreat

set_option linter.unusedVariables false
namespace Go.Proofs.YtegplajddhiejaaGreat
open Go.RowKit Go.WideMaps Go.Maps Go.MapKept
/-! Stores of the call's own, told without the law of chapter 12. -/
/-- A store at block g: its fields, and every block of it is at B or above. -/
def Lives (B : Nat) (w : World) (g : Nat) (x : Fld) : Prop := ∃ bn bd v, PSF w g bn bd v x ∧ ∀ m ∈ foot g bn bd v, B ≤ m
section
variable {B K : Nat} {w w' : World} {g : Nat} {x : Fld}
theorem Lives.keep (h : Lives B w g x) (hb : Below w.heap.size w w') : Lives B w' g x := by
  obtain ⟨bn, bd, v, hp, hf⟩ := h
  exact ⟨bn, bd, v, hp.keep hb, hf⟩
theorem Lives.drewN (h : Lives B w g x) (n : Nat) : Lives B (w.drewN n) g x := by
  obtain ⟨bn, bd, v, hp, hf⟩ := h
  exact ⟨bn, bd, v, hp.drewN n, hf⟩
theorem Lives.down {B' : Nat} (h : Lives B w g x) (hB : B' ≤ B) : Lives B' w g x := by
  obtain ⟨bn, bd, v, hp, hn⟩ := h
  exact ⟨bn, bd, v, hp, fun m hm => Nat.le_trans hB (hn m hm)⟩
theorem Kept.lives {bn bd : Nat} {v : Value} (h : Kept w g bn bd v x w') (hf : ∀ m ∈ foot g bn bd v, B ≤ m) (hB : B ≤ w.heap.size) : Lives B w' g x ∧ Below B w w' := by
  obtain ⟨bn', v', hp, ht, hn⟩ := h
  exact ⟨⟨bn', bd, v', hp, fun m hm => by rcases hn m hm with e | e; exact hf m e; omega⟩, ht.toBelow hB hf⟩
theorem keys_lives (hK : K ≤ 2097152) (p : ByteArray) (h : Lives B w g x) (hf : Fine K x) :
    Calls Tryz.prog 37 #[.pointer (some ⟨g, 0, none⟩), .string p] w fun e w' => ∃ ks, e = .returned ks ∧ Row w' w.heap.size 1 ks (keysZ x p).length (strV (keysZ x p)) ∧ Below w.heap.size w w' := by
  obtain ⟨bn, bd, v, hp, hn⟩ := h
  exact skeys_calls K hK p w g bn bd v x hp hf
theorem down_lives (h : Lives B w g x) : Calls Tryz.prog 36 #[.pointer (some ⟨g, 0, none⟩)] w fun e w' => e = .returned (.bool x.off) ∧ w = w' := by
  obtain ⟨bn, bd, v, hp, hn⟩ := h
  exact sdown_calls w g bn bd v x hp
theorem get_lives (k : ByteArray) (hk : k.size ≤ 4194304) (h : Lives B w g x) : Calls Tryz.prog 61 #[.pointer (some ⟨g, 0, none⟩), .string k] w fun e w' => e = .returned (.tuple #[.string (getZ x k).1, .int .i64 (getZ x k).2]) ∧ w = w' := by
  obtain ⟨bn, bd, v, hp, hn⟩ := h
  exact sget_calls 0 k hk w g bn bd v x hp
theorem cut_lives (hK : K ≤ 2097152) (k : ByteArray) (hk : k.size ≤ 4194304) (hB : B ≤ w.heap.size) (h : Lives B w g x) (hf : Fine K x) :
    Calls Tryz.prog 39 #[.pointer (some ⟨g, 0, none⟩), .string k] w fun e w' => e = .returned (.int .i64 (cutZ x k).1) ∧ Lives B w' g (cutZ x k).2 ∧ Below B w w' := by
  obtain ⟨bn, bd, v, hp, hn⟩ := h
  exact (scut_calls K hK k hk w g bn bd v x hp hf).mono fun e w' ⟨he, hk⟩ => ⟨he, hk.lives hn hB⟩
theorem sync_lives (hK : K ≤ 2097152) (hB : B ≤ w.heap.size) (h : Lives B w g x) (hf : Fine K x) :
    Calls Tryz.prog 8 #[.pointer (some ⟨g, 0, none⟩)] w fun e w' => e = .returned (.int .i64 (syncZ x).1) ∧ Lives B w' g (syncZ x).2 ∧ Below B w w' := by
  obtain ⟨bn, bd, v, hp, hn⟩ := h
  exact (ssync_calls K hK w g bn bd v x hp hf).mono fun e w' ⟨he, hk⟩ => ⟨he, hk.lives hn hB⟩
theorem new_lives (c : Int) (hc : goesB c = true) (w : World) : Calls Tryz.prog 4 #[.int .i64 c] w fun e w' => ∃ g, e = .returned (.pointer (some ⟨g, 0, none⟩)) ∧ Lives w.heap.size w' g (newF c) ∧ Below w.heap.size w w' :=
  (snew_yes c hc w).mono fun e w' ⟨g, bn, bd, he, hp, hn, hb⟩ => ⟨g, he, ⟨bn, bd, _, hp, hn⟩, hb⟩
end
end Go.Proofs.YtegplajddhiejaaGreat

set_option linter.unusedVariables false
namespace Go.Proofs.YtegplajddhiejaaGreat
open Go.RowKit Go.WideMaps Go.Maps Go.MapKept
/-! Records of a book in a store. -/
theorem keyz_size (s k n : Int) : (keyZ s k n).size = 18 := by
  unfold keyZ
  rw [ByteArray.size_append, ByteArray.size_append, pref_size, one_size, be8_size]
theorem keyz_keyed (s k n : Int) : keyedB (keyZ s k n) = true := decide_eq_true (by rw [keyz_size]; omega)
/-- A record in its bounds. -/
structure InB (s k n : Int) : Prop where
  s0 : 0 ≤ s
  s1 : s ≤ 9223372036854775807
  k0 : 1 ≤ k
  k1 : k ≤ 255
  n0 : 0 ≤ n
  n1 : n ≤ 9223372036854775807
/-- What a Get of a book answers. -/
def bgetZ (x : Fld) (s k n : Int) : ByteArray × Int :=
  if (getZ x (keyZ s k n)).2 ≠ 0 then (⟨#[]⟩, (getZ x (keyZ s k n)).2) else
    match parseZ (getZ x (keyZ s k n)).1 with
    | .tuple #[.int .i64 j, .int .i64 m, .string p, .int .i64 e] => if e ≠ 0 ∨ j ≠ k ∨ m ≠ n then (⟨#[]⟩, 132) else (p, 0)
    | _ => (⟨#[]⟩, 132)
set_option maxRecDepth 100000 in
set_option maxHeartbeats 1000000 in
/-- A Get that finds a frame. -/
theorem bget_frame {B K g : Nat} (s k n : Int) (p : ByteArray) (hb : InB s k n) (hp : p.size ≤ 524288) (w : World) (x : Fld) (h : Lives B w g x) (hg : getZ x (keyZ s k n) = (frameZ k n p, 0)) :
    Calls Tryz.prog 44 #[.pointer (some ⟨g, 0, none⟩), .int .i64 s, .int .i64 k, .int .i64 n] w fun e w' => e = .returned (.tuple #[.string p, .int .i64 0]) ∧ Below w.heap.size w w' := by
  have CK := Lib.hid (fun w => key_calls s k n hb.s0 hb.s1 hb.k0 hb.k1 hb.n0 hb.n1 w)
  have hks := keyz_size s k n
  have hfs := frame_size k n p
  have CG := Lib.hid (fun w (h : Lives B w g x) => get_lives (keyZ s k n) (by omega) h)
  simp only [hg] at CG
  have CP := Lib.hid (fun w => parse_any (frameZ k n p) _ (parse_frame k n p hb.k0 hb.k1 hb.n0 hb.n1 hp) (by omega) w)
  have HL := Lib.hid h
  obtain ⟨kz, hkz⟩ : ∃ z, keyZ s k n = z := ⟨_, rfl⟩
  obtain ⟨fz, hfz⟩ : ∃ z, frameZ k n p = z := ⟨_, rfl⟩
  simp only [hkz, hfz] at CK CG CP
  clear hb hp h hks hfs hkz hfz hg
  go_enter Tryz.func44, Tryz.ntmps44
  go_wp2_with (first
    | (go_at_call 60; (with_reducible refine (CK.out _).mono ?_); rintro e w1 ⟨rfl, hb1⟩; have HL1 := Lib.hid (HL.out.keep hb1); have HB1 := Lib.hid hb1; clear hb1)
    | (go_at_call 61; (with_reducible refine (CG.out _ HL1.out).mono ?_); rintro e w2 ⟨rfl, rfl⟩)
    | (go_at_call 62; (with_reducible refine (CP.out _).mono ?_); rintro e w3 ⟨rfl, hb3⟩; have HB3 := Lib.hid (belowThen HB1.out hb3); clear hb3))
  go_ret2
  exact ⟨rfl, HB3.out⟩
end Go.Proofs.YtegplajddhiejaaGreat

set_option linter.unusedVariables false
namespace Go.Proofs.YtegplajddhiejaaGreat
open Go.RowKit
/-- A list of one-cell elements that came in: a slice whose cells are xs. -/
def Held (w : World) (v : Value) (xs : List Value) : Prop :=
  ∃ a cap, v = .slice a xs.length cap ∧ xs.length ≤ cap ∧ (xs ≠ [] → ∃ g o, a = some ⟨g, o, none⟩ ∧ g < w.heap.size ∧ ∀ j (h : j < xs.length), w.cell? ⟨g, o + j, none⟩ = some xs[j])
theorem Held.nil (w : World) : Held w (.slice none 0 0) [] := ⟨none, 0, rfl, Nat.le_refl _, fun h => absurd rfl h⟩
theorem Held.keep {w w' : World} {v : Value} {xs : List Value} (h : Held w v xs) (hb : Below w.heap.size w w') : Held w' v xs := by
  obtain ⟨a, cap, rfl, hc, hx⟩ := h
  refine ⟨a, cap, rfl, hc, fun hne => ?_⟩
  obtain ⟨g, o, rfl, hg, hcs⟩ := hx hne
  exact ⟨g, o, rfl, Nat.lt_of_lt_of_le hg hb.size, fun j hj => (hb.cell (p := ⟨g, o + j, none⟩) hg).trans (hcs j hj)⟩
theorem Held.alloc {w : World} {v : Value} {xs : List Value} (h : Held w v xs) (o : Obj) : Held (w.alloc o) v xs := h.keep ((Below.refl _ _).alloc (Nat.le_refl _) o)
theorem Held.below {w w' : World} {B : Nat} {v : Value} {xs : List Value} (h : Held w v xs) (hs : w.heap.size ≤ B) (hb : Below B w w') : Held w' v xs := h.keep (hb.mono hs)
def bV (l : List Bool) : List Value := l.map Value.bool
def tV (l : List ByteArray) : List Value := l.map Value.string
def iV (l : List Int) : List Value := l.map (Value.int .i64)
theorem bV_len (l : List Bool) : (bV l).length = l.length := by simp [bV]
theorem tV_len (l : List ByteArray) : (tV l).length = l.length := by simp [tV]
theorem iV_len (l : List Int) : (iV l).length = l.length := by simp [iV]
theorem bV_ne {l : List Bool} (j : Nat) (h : j < l.length) : bV l ≠ [] := by intro e; have := bV_len l; rw [e] at this; simp at this; omega
theorem tV_ne {l : List ByteArray} (j : Nat) (h : j < l.length) : tV l ≠ [] := by intro e; have := tV_len l; rw [e] at this; simp at this; omega
theorem iV_ne {l : List Int} (j : Nat) (h : j < l.length) : iV l ≠ [] := by intro e; have := iV_len l; rw [e] at this; simp at this; omega
theorem Held.bool {w : World} {v : Value} {l : List Bool} (h : Held w v (bV l)) : ∃ a cap, v = .slice a l.length cap ∧ l.length ≤ cap ∧ ∀ j (hj : j < l.length), ∃ g o, a = some ⟨g, o, none⟩ ∧ g < w.heap.size ∧ w.cell? ⟨g, o + j, none⟩ = some (.bool l[j]) := by
  obtain ⟨a, cap, rfl, hc, hx⟩ := h
  rw [bV_len] at hc ⊢
  refine ⟨a, cap, rfl, hc, fun j hj => ?_⟩
  obtain ⟨g, o, ha, hg, hcs⟩ := hx (bV_ne j hj)
  exact ⟨g, o, ha, hg, by rw [hcs j (by rw [bV_len]; exact hj)]; simp [bV]⟩
theorem Held.text {w : World} {v : Value} {l : List ByteArray} (h : Held w v (tV l)) : ∃ a cap, v = .slice a l.length cap ∧ l.length ≤ cap ∧ ∀ j (hj : j < l.length), ∃ g o, a = some ⟨g, o, none⟩ ∧ g < w.heap.size ∧ w.cell? ⟨g, o + j, none⟩ = some (.string l[j]) := by
  obtain ⟨a, cap, rfl, hc, hx⟩ := h
  rw [tV_len] at hc ⊢
  refine ⟨a, cap, rfl, hc, fun j hj => ?_⟩
  obtain ⟨g, o, ha, hg, hcs⟩ := hx (tV_ne j hj)
  exact ⟨g, o, ha, hg, by rw [hcs j (by rw [tV_len]; exact hj)]; simp [tV]⟩
theorem Held.int {w : World} {v : Value} {l : List Int} (h : Held w v (iV l)) : ∃ a cap, v = .slice a l.length cap ∧ l.length ≤ cap ∧ ∀ j (hj : j < l.length), ∃ g o, a = some ⟨g, o, none⟩ ∧ g < w.heap.size ∧ w.cell? ⟨g, o + j, none⟩ = some (.int .i64 l[j]) := by
  obtain ⟨a, cap, rfl, hc, hx⟩ := h
  rw [iV_len] at hc ⊢
  refine ⟨a, cap, rfl, hc, fun j hj => ?_⟩
  obtain ⟨g, o, ha, hg, hcs⟩ := hx (iV_ne j hj)
  exact ⟨g, o, ha, hg, by rw [hcs j (by rw [iV_len]; exact hj)]; simp [iV]⟩
theorem belowDrewN {B : Nat} {w W : World} (h : Below B w W) (n : Nat) : Below B w (W.drewN n) := ⟨h.os, h.tape, h.output, h.size, h.block⟩
end Go.Proofs.YtegplajddhiejaaGreat
