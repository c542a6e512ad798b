import Derived.Test.YtcicdgajhheipaaSt9
import Derived.Test.YtcicdgajhheipaaSp4
import Derived.Test.YtcicdgajhheipaaShelf
import Derived.Laws.BitsAllLaws
import Derived.IntWalk
set_option linter.unusedVariables false
namespace Go.Proofs.Ytcicdgajhheipaa
open Go.RowKit Go.WideMaps Go.Maps Go.MapKept
theorem smade_calls (b : Nat) (u c : Int) (l : List Rec) (w : World) (h : SMap w b l) :
    Calls Try.prog 37 #[.map (some b), .int .i64 u, .int .i64 c] w fun e w' => ∃ g bn, e = .returned (.pointer (some ⟨g, 0, none⟩)) ∧ PSF w' g bn b (.slice none 0 0) ⟨c, l, l, [], u, false, 0, 0⟩ ∧ w.heap.size ≤ g ∧ w.heap.size ≤ bn ∧ Below w.heap.size w w' := by
  have CC := Lib.hid (clone_calls w b l h)
  have H := Lib.hid h
  clear h
  go_enter Try.func37, Try.ntmps37
  go_wp2_with (go_at_call 44; (with_reducible refine CC.out.mono ?_); rintro e w1 ⟨rfl, hs1, hb1, hz1⟩; have HS1 := Lib.hid hs1; have HB1 := Lib.hid hb1; have HZ1 := Lib.hid hz1; clear hs1 hb1 hz1)
  go_ret
  have hz := HZ1.out
  have hb := H.out.lt
  refine ⟨_, w.heap.size, rfl, ?_, by omega, Nat.le_refl _, HB1.out.alloc (by omega) _⟩
  have hc := fun j => World.cell?_alloc_new w1 (#[.int .i64 c, .map (some w.heap.size), .map (some b), .slice none 0 0, .int .i64 u, .bool false, .int .i64 0, .int .i64 0] : Array Value) 79 j
  exact { c0 := hc 0, c1 := hc 1, c2 := hc 2, c3 := hc 3, c4 := hc 4, c5 := hc 5, c6 := hc 6, c7 := hc 7, fr := fun j => World.frozen?_alloc_new w1 _ _ j, now := HS1.out.alloc _, dur := (H.out.keep HB1.out).alloc _,
          row := Row.nil _ 0 3, ne1 := by omega, ne2 := by omega, ne3 := by omega, nv := fun k hk => (by cases hk), lt := by simp }
theorem snew_no (c : Int) (hc : goesB c = false) (w : World) : Calls Try.prog 19 #[.int .i64 c] w fun e w' => e = .returned (.pointer none) ∧ w = w' := by
  have CG := Lib.hid (fun w => sgoes_calls c w)
  rw [hc] at CG
  clear hc
  go_enter Try.func19, Try.ntmps19
  go_wp2_with (go_at_call 36; (with_reducible refine (CG.out _).mono ?_); rintro e w1 ⟨rfl, rfl⟩)
  go_ret
  exact ⟨rfl, rfl⟩
theorem snew_yes (c : Int) (hc : goesB c = true) (w : World) : Calls Try.prog 19 #[.int .i64 c] w fun e w' => ∃ g bn bd, e = .returned (.pointer (some ⟨g, 0, none⟩)) ∧ PSF w' g bn bd (.slice none 0 0) (newF c) ∧ (∀ m ∈ foot g bn bd (.slice none 0 0), w.heap.size ≤ m) ∧ Below w.heap.size w w' := by
  have CG := Lib.hid (fun w => sgoes_calls c w)
  rw [hc] at CG
  have hmm := @run_makeMap Try.prog
  have CM := Lib.hid (smade_calls w.heap.size 0 c [] (w.alloc (.map #[] 0)) (SMap.made w))
  clear hc
  go_enter Try.func19, Try.ntmps19
  go_wp2_with (first
    | (go_at_call 36; (with_reducible refine (CG.out _).mono ?_); rintro e w1 ⟨rfl, rfl⟩)
    | (go_at_call 37; (with_reducible refine CM.out.mono ?_); rintro e w2 ⟨g, bn, rfl, hp, hg, hbn, hb⟩; have HP := Lib.hid hp; have HG := Lib.hid hg; have HBN := Lib.hid hbn; have HB := Lib.hid hb; clear hp hg hbn hb))
  go_ret
  have h1 := HG.out
  have h2 := HBN.out
  simp at h1 h2
  refine ⟨g, bn, w.heap.size, rfl, HP.out, fun m hm => ?_, ((Below.refl _ w).alloc (Nat.le_refl _) _).trans (HB.out.mono (by simp))⟩
  rcases mem_foot.1 hm with e | e | e | e
  · omega
  · omega
  · omega
  · cases e
theorem i64_or_nat (a b : Nat) (ha : a < 9223372036854775808) (hb : b < 9223372036854775808) : bits .or .i64 (a : Int) (b : Int) = ((a ||| b : Nat) : Int) := by
  have hx : a ||| b < 2 ^ 63 := Nat.or_lt_two_pow (by omega) (by omega)
  have e : ∀ n : Nat, n < 9223372036854775808 → (BitVec.ofInt 64 (n : Int)).toNat = n := fun n hn => by
    rw [BitVec.ofInt_natCast, BitVec.toNat_ofNat]; exact Nat.mod_eq_of_lt (by omega)
  show IntKind.i64.wrap ((BitVec.ofInt 64 (a : Int) ||| BitVec.ofInt 64 (b : Int)).toNat : Int) = _
  rw [BitVec.toNat_or, e a ha, e b hb]
  exact IntWalk.i64_in _ (by omega)
theorem len_val (x0 x1 x2 x3 : Nat) (r0 : x0 < 256) (r1 : x1 < 256) (r2 : x2 < 256) (r3 : x3 < 256) :
    bits BinOp.or IntKind.i64 (bits BinOp.or IntKind.i64 (bits BinOp.or IntKind.i64 (wrap64 (wrap64 (x0 : Int) * 16777216)) (wrap64 (wrap64 (x1 : Int) * 65536))) (wrap64 (wrap64 (x2 : Int) * 256))) (wrap64 (x3 : Int)) = (beN4 x0 x1 x2 x3 : Nat) := by
  have w0 : ∀ n : Int, 0 ≤ n → n < 4294967296 → wrap64 n = n := fun n h1 h2 => IntWalk.wrap64_in n ⟨by omega, by omega⟩
  rw [w0 (x0 : Int) (by omega) (by omega), w0 (x1 : Int) (by omega) (by omega), w0 (x2 : Int) (by omega) (by omega), w0 (x3 : Int) (by omega) (by omega)]
  rw [w0 ((x0 : Int) * 16777216) (by omega) (by omega), w0 ((x1 : Int) * 65536) (by omega) (by omega), w0 ((x2 : Int) * 256) (by omega) (by omega)]
  have e1 : bits BinOp.or IntKind.i64 ((x0 : Int) * 16777216) ((x1 : Int) * 65536) = (((x0 * 256 + x1) * 65536 : Nat) : Int) := by
    rw [show (x0 : Int) * 16777216 = ((x0 * 16777216 : Nat) : Int) by omega, show (x1 : Int) * 65536 = ((x1 * 65536 : Nat) : Int) by omega, i64_or_nat _ _ (by omega) (by omega)]
    congr 1
    rw [show x0 * 16777216 = 2 ^ 24 * x0 by omega, ← Nat.two_pow_add_eq_or_of_lt (i := 24) (by omega) x0]; omega
  have e2 : bits BinOp.or IntKind.i64 (((x0 * 256 + x1) * 65536 : Nat) : Int) ((x2 : Int) * 256) = ((((x0 * 256 + x1) * 256 + x2) * 256 : Nat) : Int) := by
    rw [show (x2 : Int) * 256 = ((x2 * 256 : Nat) : Int) by omega, i64_or_nat _ _ (by omega) (by omega)]
    congr 1
    rw [show (x0 * 256 + x1) * 65536 = 2 ^ 16 * (x0 * 256 + x1) by omega, ← Nat.two_pow_add_eq_or_of_lt (i := 16) (by omega) _]; omega
  have e3 : bits BinOp.or IntKind.i64 ((((x0 * 256 + x1) * 256 + x2) * 256 : Nat) : Int) (x3 : Int) = ((((x0 * 256 + x1) * 256 + x2) * 256 + x3 : Nat) : Int) := by
    rw [i64_or_nat _ _ (by omega) (by omega)]
    congr 1
    rw [show ((x0 * 256 + x1) * 256 + x2) * 256 = 2 ^ 8 * ((x0 * 256 + x1) * 256 + x2) by omega, ← Nat.two_pow_add_eq_or_of_lt (i := 8) (by omega) _]
  rw [e1, e2, e3]
  rfl
theorem num4_at (b : ByteArray) (hb : 4 ≤ b.size) : num4 b.data.toList = beN4 b[0].toNat b[1].toNat b[2].toNat b[3].toNat := by
  have hl : b.data.toList.length = b.size := by simp
  match h : b.data.toList, hl with
  | [], hl => simp at hl; omega
  | [x], hl => simp at hl; omega
  | [x, y], hl => simp at hl; omega
  | [x, y, z], hl => simp at hl; omega
  | x :: y :: z :: t :: r, hl =>
    have e : ∀ i (hi : i < b.size), b[i] = b.data.toList[i]'(by simpa using hi) := fun i hi => by simp [ByteArray.getElem_eq_getElem_data]
    rw [e 0 (by omega), e 1 (by omega), e 2 (by omega), e 3 (by omega)]
    simp [h, num4]
end Go.Proofs.Ytcicdgajhheipaa
