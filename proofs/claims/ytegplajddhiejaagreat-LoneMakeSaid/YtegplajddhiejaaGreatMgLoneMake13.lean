import Derived.Test.YtegplajddhiejaaGreatBk12
import Derived.Test.YtegplajddhiejaaGreatMgLoneMake12
set_option linter.unusedVariables false
namespace Go.Proofs.YtegplajddhiejaaGreat
open Go.RowKit
/-- Is there such a key? -/
def keyOk (s k n : Int) : Prop := 0 ≤ s ∧ 1 ≤ k ∧ k ≤ 255 ∧ 0 ≤ n
set_option maxHeartbeats 1000000 in
theorem key_bad (s k n : Int) (h : ¬ keyOk s k n) (w : World) : Calls Tryz.prog 60 #[.int .i64 s, .int .i64 k, .int .i64 n] w fun e w' => e = .returned (.tuple #[.string ⟨#[]⟩, .int .i64 10]) ∧ w = w' := by
  unfold keyOk at h
  go_enter Tryz.func60, Tryz.ntmps60
  rcases Int.lt_or_le s 0 with a | a <;> rcases Int.lt_or_le k 1 with b | b <;> rcases Int.lt_or_le 255 k with c | c <;> rcases Int.lt_or_le n 0 with d | d
  all_goals (try (exfalso; omega))
  all_goals (clear h; go_wp2_with fail; go_ret2; exact ⟨rfl, rfl⟩)
set_option maxHeartbeats 1000000 in
theorem refKey_bad (s k n : Int) (h : ¬ keyOk s k n) (w : World) : Calls Tryz.prog 65 #[.int .i64 s, .int .i64 k, .int .i64 n] w fun e w' => e = .returned (.tuple #[.string ⟨#[]⟩, .int .i64 10]) ∧ w = w' := by
  unfold keyOk at h
  go_enter Tryz.func65, Tryz.ntmps65
  rcases Int.lt_or_le s 0 with a | a <;> rcases Int.lt_or_le k 1 with b | b <;> rcases Int.lt_or_le 255 k with c | c <;> rcases Int.lt_or_le n 0 with d | d
  all_goals (try (exfalso; omega))
  all_goals (clear h; go_wp2_with fail; go_ret2; exact ⟨rfl, rfl⟩)
theorem belowAlloc {w x : World} (h : Below w.heap.size w x) (o : Obj) : Below w.heap.size w (x.alloc o) := h.alloc h.size o
theorem belowDrew {w x : World} (h : Below w.heap.size w x) : Below w.heap.size w x.drew := h.drew
theorem refBig_any (V z : Int) (hz : (z = 8 ∧ 0 ≤ V ∧ V ≤ 9223372036854775807) ∨ (z = 4 ∧ 0 ≤ V ∧ V < 4294967296)) (w : World) :
    Calls Tryz.prog 42 #[.int .i64 V, .int .i64 z] w fun e w' => e = .returned (.string (beZ z V)) ∧ Below w.heap.size w w' := by
  rcases hz with ⟨rfl, h⟩ | ⟨rfl, h⟩
  · exact refBig_calls V 8 (by omega) w
  · exact refBig_calls V 4 (by omega) w
theorem pref_be (s : Int) : (⟨#[66]⟩ : ByteArray) ++ beZ 8 s = prefZ s := rfl
set_option maxRecDepth 100000 in
set_option maxHeartbeats 2000000 in
theorem refKey_calls (s k n : Int) (h0 : 0 ≤ s) (h1 : s ≤ 9223372036854775807) (k1 : 1 ≤ k) (k2 : k ≤ 255) (n0 : 0 ≤ n) (n1 : n ≤ 9223372036854775807) (w : World) :
    Calls Tryz.prog 65 #[.int .i64 s, .int .i64 k, .int .i64 n] w fun e w' => e = .returned (.tuple #[.string (keyZ s k n), .int .i64 0]) ∧ Below w.heap.size w w' := by
  have hs := be_size8 n
  have hs' := be_size8 s
  have ho := one_size k
  have hk : IntKind.u8.wrap k = k := by rw [IntKind.wrap_u8]; omega
  have hcv : ∀ (w : World) (b : Nat), w.cell? ⟨b, 0, none⟩ = some (.int .u8 k) → (convert 112 9 (.slice (some ⟨b, 0, none⟩) 1 1)).run Tryz.prog w = .ok (.string (oneZ k)) w :=
    fun w b hc => run_convert_bytes_arg w 112 5 Tryz.underlying112 Tryz.underlying5 b 0 1 1 [k] rfl (fun i hi => by
      obtain rfl : i = 0 := by omega
      exact hc) 9 Tryz.underlying9
  go_enter Tryz.func65, Tryz.ntmps65
  go_wp2_with fail
  go_region_with (go_at_call 42; refine (refBig_calls _ 8 ?_ _).mono ?_ <;> first | omega | (rintro e w1 ⟨rfl, hb1⟩; obtain ⟨hc1, hf1⟩ := bcell hb1; have hz1 := hb1.size; try simp [Nat.add_one_le_iff] at hz1))
  all_goals go_wp2
  all_goals go_ret2
  all_goals refine ⟨rfl, ?_⟩
  all_goals (repeat (first | exact Below.refl _ _ | refine belowThen ?_ (by assumption) | refine belowAlloc ?_ _ | refine belowDrew ?_))
end Go.Proofs.YtegplajddhiejaaGreat

set_option linter.unusedVariables false
namespace Go.Proofs.YtegplajddhiejaaGreat
open Go.RowKit Go.WideMaps Go.Maps Go.MapKept
/-! Put, Get and Drop of a book, whatever they are asked. -/
def keyG (s k n : Int) : Bool := decide (0 ≤ s ∧ 1 ≤ k ∧ k ≤ 255 ∧ 0 ≤ n)
def bputG (x : Fld) (s k n : Int) (p : ByteArray) : Int × Fld := if keyG s k n = false then (10, x) else if 524288 < p.size then (121, x) else putZ x (keyZ s k n) (frameZ k n p)
def bdropG (x : Fld) (s k n : Int) : Int × Fld := if keyG s k n = false then (10, x) else cutZ x (keyZ s k n)
def bgetG (x : Fld) (s k n : Int) : ByteArray × Int := if keyG s k n = false then (⟨#[]⟩, 10) else bgetZ x s k n
theorem bput_fine {K : Nat} {x : Fld} (h : Fine K x) (s k n : Int) (p : ByteArray) : Fine (K + 1) (bputG x s k n p).2 := by
  unfold bputG
  split
  · exact h.mono (by omega)
  · split
    · exact h.mono (by omega)
    · exact put_fine h _ _
theorem bdrop_fine {K : Nat} {x : Fld} (h : Fine K x) (s k n : Int) : Fine (K + 1) (bdropG x s k n).2 := by
  unfold bdropG
  split
  · exact h.mono (by omega)
  · exact cut_fine h _
theorem get_size {K : Nat} {x : Fld} (h : Fine K x) (k : ByteArray) : (getZ x k).1.size ≤ 1048576 := by
  unfold getZ
  split
  · exact Nat.zero_le _
  · split
    · exact Nat.zero_le _
    · split
      · exact Nat.zero_le _
      · rename_i r hr
        exact (h.fn r (find_some hr).1).2.2
theorem keyG_bad {s k n : Int} (h : keyG s k n = false) : ¬ keyOk s k n := fun h' => (of_decide_eq_false (p := 0 ≤ s ∧ 1 ≤ k ∧ k ≤ 255 ∧ 0 ≤ n) h) h'
theorem keyG_ok {s k n : Int} (h : keyG s k n = true) : 0 ≤ s ∧ 1 ≤ k ∧ k ≤ 255 ∧ 0 ≤ n := of_decide_eq_true h
/-- What a Get answers of the bytes that stand under its key. -/
theorem bget_cases {K : Nat} {x : Fld} (hf : Fine K x) (s k n : Int) :
    ((getZ x (keyZ s k n)).2 ≠ 0 ∧ bgetZ x s k n = (⟨#[]⟩, (getZ x (keyZ s k n)).2)) ∨
    ((getZ x (keyZ s k n)).2 = 0 ∧ ∃ j m p e, parseZ (getZ x (keyZ s k n)).1 = .tuple #[.int .i64 j, .int .i64 m, .string p, .int .i64 e] ∧ bgetZ x s k n = if e ≠ 0 ∨ j ≠ k ∨ m ≠ n then (⟨#[]⟩, 132) else (p, 0)) := by
  by_cases h : (getZ x (keyZ s k n)).2 = 0
  · right
    refine ⟨h, ?_⟩
    rcases parse_cases (getZ x (keyZ s k n)).1 with ⟨c, hc, hp⟩ | ⟨j, m, p, hp, _⟩
    · refine ⟨_, _, _, _, hp, ?_⟩
      unfold bgetZ
      rw [if_neg (by simpa using h), hp]
      rfl
    · refine ⟨_, _, _, _, hp, ?_⟩
      unfold bgetZ
      rw [if_neg (by simpa using h), hp]
      rfl
  · left
    refine ⟨h, ?_⟩
    unfold bgetZ
    rw [if_pos h]
section
variable {w w' w5 : World} {g bn bd : Nat} {v : Value} {x : Fld}
theorem Kept.since (h : Kept w5 g bn bd v x w') (hb : Below w.heap.size w w5) : Kept w g bn bd v x w' := Kept.trans (x := x) (Touch.below hb _) (fun m hm => .inl hm) h
theorem Kept.keep (h : PSF w g bn bd v x) (hb : Below w.heap.size w w') : Kept w g bn bd v x w' := ⟨bn, v, h.keep hb, Touch.below hb _, fun m hm => .inl hm⟩
end
--PART
set_option maxRecDepth 100000 in
set_option maxHeartbeats 1000000 in
theorem pdrop_any (K : Nat) (hK : K ≤ 2097151) (s k n : Int) (s1 : s ≤ 9223372036854775807) (n1 : n ≤ 9223372036854775807) (w : World) (g bn bd : Nat) (v : Value) (x : Fld) (h : PSF w g bn bd v x) (hf : Fine K x) :
    Calls Tryz.prog 46 #[.pointer (some ⟨g, 0, none⟩), .int .i64 s, .int .i64 k, .int .i64 n] w fun e w' => e = .returned (.int .i64 (bdropG x s k n).1) ∧ Kept w g bn bd v (bdropG x s k n).2 w' := by
  have H := Lib.hid h
  cases hok : keyG s k n
  · have CK := Lib.hid (fun w => key_bad s k n (keyG_bad hok) w)
    have hz : bdropG x s k n = (10, x) := by unfold bdropG; rw [if_pos hok]
    rw [hz]
    clear h hf hok hz
    go_enter Tryz.func46, Tryz.ntmps46
    go_wp2_with (go_at_call 60; (with_reducible refine (CK.out _).mono ?_); rintro e w1 ⟨rfl, rfl⟩)
    go_ret
    exact ⟨rfl, Kept.same H.out⟩
  · obtain ⟨s0, k1, k2, n0⟩ := keyG_ok hok
    have CK := Lib.hid (fun w => key_calls s k n s0 s1 k1 k2 n0 n1 w)
    have hz : bdropG x s k n = cutZ x (keyZ s k n) := by unfold bdropG; rw [if_neg (by rw [hok]; simp)]
    rw [hz]
    have hks := keyz_size s k n
    have CP := Lib.hid (fun w (h : PSF w g bn bd v x) => scut_calls K (by omega) (keyZ s k n) (by omega) w g bn bd v x h hf)
    obtain ⟨kz, hkz⟩ : ∃ z, keyZ s k n = z := ⟨_, rfl⟩
    obtain ⟨y, hy⟩ : ∃ y, cutZ x kz = y := ⟨_, rfl⟩
    simp only [hkz, hy] at CK CP ⊢
    obtain ⟨ye, yx⟩ := y
    simp only at CP ⊢
    clear h hf hok hz s0 k1 k2 n0 s1 n1 hks hkz hy
    go_enter Tryz.func46, Tryz.ntmps46
    go_wp2_with (first
      | (go_at_call 60; (with_reducible refine (CK.out _).mono ?_); rintro e w1 ⟨rfl, hb1⟩; have HB1 := Lib.hid hb1; clear hb1)
      | (go_at_call 39; (with_reducible refine (CP.out _ (H.out.keep HB1.out)).mono ?_); rintro e w3 ⟨rfl, hk3⟩; have HK3 := Lib.hid (hk3.since HB1.out); clear hk3))
    go_ret
    exact ⟨rfl, HK3.out⟩
set_option maxRecDepth 100000 in
set_option maxHeartbeats 1000000 in
theorem pget_any (K : Nat) (hK : K ≤ 2097151) (s k n : Int) (s1 : s ≤ 9223372036854775807) (n1 : n ≤ 9223372036854775807) (w : World) (g bn bd : Nat) (v : Value) (x : Fld) (h : PSF w g bn bd v x) (hf : Fine K x) :
    Calls Tryz.prog 44 #[.pointer (some ⟨g, 0, none⟩), .int .i64 s, .int .i64 k, .int .i64 n] w fun e w' => e = .returned (.tuple #[.string (bgetG x s k n).1, .int .i64 (bgetG x s k n).2]) ∧ Below w.heap.size w w' := by
  have H := Lib.hid h
  cases hok : keyG s k n
  · have CK := Lib.hid (fun w => key_bad s k n (keyG_bad hok) w)
    have hz : bgetG x s k n = (⟨#[]⟩, 10) := by unfold bgetG; rw [if_pos hok]
    rw [hz]
    clear h hf hok hz
    go_enter Tryz.func44, Tryz.ntmps44
    go_wp2_with (go_at_call 60; (with_reducible refine (CK.out _).mono ?_); rintro e w1 ⟨rfl, rfl⟩)
    go_ret2
    exact ⟨rfl, Below.refl _ _⟩
  · obtain ⟨s0, k1, k2, n0⟩ := keyG_ok hok
    have CK := Lib.hid (fun w => key_calls s k n s0 s1 k1 k2 n0 n1 w)
    have hz : bgetG x s k n = bgetZ x s k n := by unfold bgetG; rw [if_neg (by rw [hok]; simp)]
    rw [hz]
    have hks := keyz_size s k n
    have hgs := get_size hf (keyZ s k n)
    have CG := Lib.hid (fun w (h : PSF w g bn bd v x) => sget_calls K (keyZ s k n) (by omega) w g bn bd v x h)
    rcases bget_cases hf s k n with ⟨h1, h2⟩ | ⟨h1, j, m, q, e, h2, h3⟩
    · rw [h2]
      obtain ⟨kz, hkz⟩ : ∃ z, keyZ s k n = z := ⟨_, rfl⟩
      obtain ⟨y, hy⟩ : ∃ y, getZ x kz = y := ⟨_, rfl⟩
      rw [hkz, hy] at h1
      simp only [hkz, hy] at CK CG ⊢
      obtain ⟨yb, ye⟩ := y
      simp only at CG h1 ⊢
      have hne : (ye == 0) = false := by rw [beq_eq_false_iff_ne]; exact h1
      clear h hf hok hz s0 k1 k2 n0 s1 n1 hks hgs h2 hkz hy h1
      go_enter Tryz.func44, Tryz.ntmps44
      go_wp2_with (first
        | (go_at_call 60; (with_reducible refine (CK.out _).mono ?_); rintro e w1 ⟨rfl, hb1⟩; have HB1 := Lib.hid hb1; clear hb1)
        | (go_at_call 61; (with_reducible refine (CG.out _ (H.out.keep HB1.out)).mono ?_); rintro e w2 ⟨rfl, rfl⟩))
      go_ret2
      exact ⟨rfl, HB1.out⟩
    · rw [h3]
      have CP := Lib.hid (fun w => parse_any (getZ x (keyZ s k n)).1 _ h2 (by omega) w)
      obtain ⟨kz, hkz⟩ : ∃ z, keyZ s k n = z := ⟨_, rfl⟩
      obtain ⟨y, hy⟩ : ∃ y, getZ x kz = y := ⟨_, rfl⟩
      rw [hkz, hy] at h1
      simp only [hkz, hy] at CK CG CP ⊢
      obtain ⟨yb, ye⟩ := y
      simp only at CG CP h1 ⊢
      subst h1
      clear h hf hok hz s0 k1 k2 n0 s1 n1 hks hgs h2 hkz hy h3
      by_cases he : e = 0
      · by_cases hj : j = k
        · by_cases hm : m = n
          · rw [if_neg (by simp [he, hj, hm])]
            subst he hj hm
            go_enter Tryz.func44, Tryz.ntmps44
            go_wp2_with (first
              | (go_at_call 60; (with_reducible refine (CK.out _).mono ?_); rintro e w1 ⟨rfl, hb1⟩; have HB1 := Lib.hid hb1; clear hb1)
              | (go_at_call 61; (with_reducible refine (CG.out _ (H.out.keep HB1.out)).mono ?_); rintro e w2 ⟨rfl, rfl⟩)
              | (go_at_call 62; (with_reducible refine (CP.out _).mono ?_); rintro e w3 ⟨rfl, hb3⟩; have HB3 := Lib.hid (belowThen HB1.out hb3); clear hb3))
            go_ret2
            exact ⟨rfl, HB3.out⟩
          · rw [if_pos (.inr (.inr hm))]
            subst he hj
            have hne : (m == n) = false := by rw [beq_eq_false_iff_ne]; exact hm
            clear hm
            go_enter Tryz.func44, Tryz.ntmps44
            go_wp2_with (first
              | (go_at_call 60; (with_reducible refine (CK.out _).mono ?_); rintro e w1 ⟨rfl, hb1⟩; have HB1 := Lib.hid hb1; clear hb1)
              | (go_at_call 61; (with_reducible refine (CG.out _ (H.out.keep HB1.out)).mono ?_); rintro e w2 ⟨rfl, rfl⟩)
              | (go_at_call 62; (with_reducible refine (CP.out _).mono ?_); rintro e w3 ⟨rfl, hb3⟩; have HB3 := Lib.hid (belowThen HB1.out hb3); clear hb3))
            go_ret2
            exact ⟨rfl, HB3.out⟩
        · rw [if_pos (.inr (.inl hj))]
          subst he
          have hne : (j == k) = false := by rw [beq_eq_false_iff_ne]; exact hj
          clear hj
          go_enter Tryz.func44, Tryz.ntmps44
          go_wp2_with (first
            | (go_at_call 60; (with_reducible refine (CK.out _).mono ?_); rintro e w1 ⟨rfl, hb1⟩; have HB1 := Lib.hid hb1; clear hb1)
            | (go_at_call 61; (with_reducible refine (CG.out _ (H.out.keep HB1.out)).mono ?_); rintro e w2 ⟨rfl, rfl⟩)
            | (go_at_call 62; (with_reducible refine (CP.out _).mono ?_); rintro e w3 ⟨rfl, hb3⟩; have HB3 := Lib.hid (belowThen HB1.out hb3); clear hb3))
          go_ret2
          exact ⟨rfl, HB3.out⟩
      · rw [if_pos (.inl he)]
        have hne : (e == 0) = false := by rw [beq_eq_false_iff_ne]; exact he
        have hne2 : (e != 0) = true := by rw [bne_iff_ne]; exact he
        clear he
        go_enter Tryz.func44, Tryz.ntmps44
        go_wp2_with (first
          | (go_at_call 60; (with_reducible refine (CK.out _).mono ?_); rintro e w1 ⟨rfl, hb1⟩; have HB1 := Lib.hid hb1; clear hb1)
          | (go_at_call 61; (with_reducible refine (CG.out _ (H.out.keep HB1.out)).mono ?_); rintro e w2 ⟨rfl, rfl⟩)
          | (go_at_call 62; (with_reducible refine (CP.out _).mono ?_); rintro e w3 ⟨rfl, hb3⟩; have HB3 := Lib.hid (belowThen HB1.out hb3); clear hb3))
        go_ret2
        exact ⟨rfl, HB3.out⟩
end Go.Proofs.YtegplajddhiejaaGreat
