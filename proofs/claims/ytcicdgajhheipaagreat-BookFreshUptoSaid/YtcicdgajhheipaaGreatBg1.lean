import Derived.Test.YtcicdgajhheipaaGreatMgBookFresh13
set_option linter.unusedVariables false
namespace Go.Proofs.YtcicdgajhheipaaGreat
open Go.RowKit Go.WideMaps Go.Maps Go.MapKept
/-! Put, Get and Drop of a book, whatever they are asked. -/
def keyG (s k n : Int) : Bool := decide (0 ≤ s ∧ 1 ≤ k ∧ k ≤ 255 ∧ 0 ≤ n)
def bputG (x : Fld) (s k n : Int) (p : ByteArray) : Int × Fld := if keyG s k n = false then (10, x) else if 524288 < p.size then (121, x) else putZ x (keyZ s k n) (frameZ k n p)
def bdropG (x : Fld) (s k n : Int) : Int × Fld := if keyG s k n = false then (10, x) else cutZ x (keyZ s k n)
def bgetG (x : Fld) (s k n : Int) : ByteArray × Int := if keyG s k n = false then (⟨#[]⟩, 10) else bgetZ x s k n
theorem bput_fine {K : Nat} {x : Fld} (h : Fine K x) (s k n : Int) (p : ByteArray) : Fine (K + 1) (bputG x s k n p).2 := by
  unfold bputG
  split
  · exact h.mono (by omega)
  · split
    · exact h.mono (by omega)
    · exact put_fine h _ _
theorem bdrop_fine {K : Nat} {x : Fld} (h : Fine K x) (s k n : Int) : Fine (K + 1) (bdropG x s k n).2 := by
  unfold bdropG
  split
  · exact h.mono (by omega)
  · exact cut_fine h _
theorem get_size {K : Nat} {x : Fld} (h : Fine K x) (k : ByteArray) : (getZ x k).1.size ≤ 1048576 := by
  unfold getZ
  split
  · exact Nat.zero_le _
  · split
    · exact Nat.zero_le _
    · split
      · exact Nat.zero_le _
      · rename_i r hr
        exact (h.fn r (find_some hr).1).2.2
theorem keyG_bad {s k n : Int} (h : keyG s k n = false) : ¬ keyOk s k n := fun h' => (of_decide_eq_false (p := 0 ≤ s ∧ 1 ≤ k ∧ k ≤ 255 ∧ 0 ≤ n) h) h'
theorem keyG_ok {s k n : Int} (h : keyG s k n = true) : 0 ≤ s ∧ 1 ≤ k ∧ k ≤ 255 ∧ 0 ≤ n := of_decide_eq_true h
/-- What a Get answers of the bytes that stand under its key. -/
theorem bget_cases {K : Nat} {x : Fld} (hf : Fine K x) (s k n : Int) :
    ((getZ x (keyZ s k n)).2 ≠ 0 ∧ bgetZ x s k n = (⟨#[]⟩, (getZ x (keyZ s k n)).2)) ∨
    ((getZ x (keyZ s k n)).2 = 0 ∧ ∃ j m p e, parseZ (getZ x (keyZ s k n)).1 = .tuple #[.int .i64 j, .int .i64 m, .string p, .int .i64 e] ∧ bgetZ x s k n = if e ≠ 0 ∨ j ≠ k ∨ m ≠ n then (⟨#[]⟩, 132) else (p, 0)) := by
  by_cases h : (getZ x (keyZ s k n)).2 = 0
  · right
    refine ⟨h, ?_⟩
    rcases parse_cases (getZ x (keyZ s k n)).1 with ⟨c, hc, hp⟩ | ⟨j, m, p, hp, _⟩
    · refine ⟨_, _, _, _, hp, ?_⟩
      unfold bgetZ
      rw [if_neg (by simpa using h), hp]
      rfl
    · refine ⟨_, _, _, _, hp, ?_⟩
      unfold bgetZ
      rw [if_neg (by simpa using h), hp]
      rfl
  · left
    refine ⟨h, ?_⟩
    unfold bgetZ
    rw [if_pos h]
section
variable {w w' w5 : World} {g bn bd : Nat} {v : Value} {x : Fld}
theorem Kept.since (h : Kept w5 g bn bd v x w') (hb : Below w.heap.size w w5) : Kept w g bn bd v x w' := Kept.trans (x := x) (Touch.below hb _) (fun m hm => .inl hm) h
theorem Kept.keep (h : PSF w g bn bd v x) (hb : Below w.heap.size w w') : Kept w g bn bd v x w' := ⟨bn, v, h.keep hb, Touch.below hb _, fun m hm => .inl hm⟩
end
--PART
set_option maxRecDepth 100000 in
set_option maxHeartbeats 1000000 in
theorem pput_any (K : Nat) (hK : K ≤ 2097151) (s k n : Int) (p : ByteArray) (s1 : s ≤ 9223372036854775807) (n1 : n ≤ 9223372036854775807) (hp : p.size ≤ 4194304) (w : World) (g bn bd : Nat) (v : Value) (x : Fld) (h : PSF w g bn bd v x) (hf : Fine K x) :
    Calls Tryz.prog 27 #[.pointer (some ⟨g, 0, none⟩), .int .i64 s, .int .i64 k, .int .i64 n, .string p] w fun e w' => e = .returned (.int .i64 (bputG x s k n p).1) ∧ Kept w g bn bd v (bputG x s k n p).2 w' := by
  have H := Lib.hid h
  cases hok : keyG s k n
  · have CK := Lib.hid (fun w => key_bad s k n (keyG_bad hok) w)
    have hz : bputG x s k n p = (10, x) := by unfold bputG; rw [if_pos hok]
    rw [hz]
    clear h hf hok hz
    go_enter Tryz.func27, Tryz.ntmps27
    go_wp2_with (go_at_call 59; (with_reducible refine (CK.out _).mono ?_); rintro e w1 ⟨rfl, rfl⟩)
    go_ret
    exact ⟨rfl, Kept.same H.out⟩
  · obtain ⟨s0, k1, k2, n0⟩ := keyG_ok hok
    have CK := Lib.hid (fun w => key_calls s k n s0 s1 k1 k2 n0 n1 w)
    by_cases hbig : 524288 < p.size
    · have CF := Lib.hid (fun w => frame_big k n p k1 k2 n0 (by omega) w)
      have hz : bputG x s k n p = (121, x) := by unfold bputG; rw [if_neg (by rw [hok]; simp), if_pos hbig]
      rw [hz]
      obtain ⟨kz, hkz⟩ : ∃ z, keyZ s k n = z := ⟨_, rfl⟩
      simp only [hkz] at CK
      clear h hf hok hz hbig s0 k1 k2 n0 s1 n1 hp hkz
      go_enter Tryz.func27, Tryz.ntmps27
      go_wp2_with (first
        | (go_at_call 59; (with_reducible refine (CK.out _).mono ?_); rintro e w1 ⟨rfl, hb1⟩; have HB1 := Lib.hid hb1; clear hb1)
        | (go_at_call 60; (with_reducible refine (CF.out _).mono ?_); rintro e w2 ⟨rfl, rfl⟩))
      go_ret
      exact ⟨rfl, Kept.keep H.out HB1.out⟩
    · have hz : bputG x s k n p = putZ x (keyZ s k n) (frameZ k n p) := by unfold bputG; rw [if_neg (by rw [hok]; simp), if_neg hbig]
      rw [hz]
      have CF := Lib.hid (fun w => frame_calls k n p k1 k2 n0 n1 (by omega) w)
      have hks := keyz_size s k n
      have hfs := frame_size k n p
      have CP := Lib.hid (fun w (h : PSF w g bn bd v x) => sput_calls K (by omega) (keyZ s k n) (frameZ k n p) (by omega) (by omega) w g bn bd v x h hf)
      obtain ⟨kz, hkz⟩ : ∃ z, keyZ s k n = z := ⟨_, rfl⟩
      obtain ⟨fz, hfz⟩ : ∃ z, frameZ k n p = z := ⟨_, rfl⟩
      obtain ⟨y, hy⟩ : ∃ y, putZ x kz fz = y := ⟨_, rfl⟩
      simp only [hkz, hfz, hy] at CK CF CP ⊢
      obtain ⟨ye, yx⟩ := y
      simp only at CP ⊢
      clear h hf hok hz hbig s0 k1 k2 n0 s1 n1 hp hks hfs hkz hfz hy
      go_enter Tryz.func27, Tryz.ntmps27
      go_wp2_with (first
        | (go_at_call 59; (with_reducible refine (CK.out _).mono ?_); rintro e w1 ⟨rfl, hb1⟩; have HB1 := Lib.hid hb1; clear hb1)
        | (go_at_call 60; (with_reducible refine (CF.out _).mono ?_); rintro e w2 ⟨rfl, hb2⟩; have HB2 := Lib.hid (belowThen HB1.out hb2); clear hb2)
        | (go_at_call 35; (with_reducible refine (CP.out _ (H.out.keep HB2.out)).mono ?_); rintro e w3 ⟨rfl, hk3⟩; have HK3 := Lib.hid (hk3.since HB2.out); clear hk3))
      go_ret
      exact ⟨rfl, HK3.out⟩
set_option maxRecDepth 100000 in
set_option maxHeartbeats 1000000 in
theorem pdrop_any (K : Nat) (hK : K ≤ 2097151) (s k n : Int) (s1 : s ≤ 9223372036854775807) (n1 : n ≤ 9223372036854775807) (w : World) (g bn bd : Nat) (v : Value) (x : Fld) (h : PSF w g bn bd v x) (hf : Fine K x) :
    Calls Tryz.prog 31 #[.pointer (some ⟨g, 0, none⟩), .int .i64 s, .int .i64 k, .int .i64 n] w fun e w' => e = .returned (.int .i64 (bdropG x s k n).1) ∧ Kept w g bn bd v (bdropG x s k n).2 w' := by
  have H := Lib.hid h
  cases hok : keyG s k n
  · have CK := Lib.hid (fun w => key_bad s k n (keyG_bad hok) w)
    have hz : bdropG x s k n = (10, x) := by unfold bdropG; rw [if_pos hok]
    rw [hz]
    clear h hf hok hz
    go_enter Tryz.func31, Tryz.ntmps31
    go_wp2_with (go_at_call 59; (with_reducible refine (CK.out _).mono ?_); rintro e w1 ⟨rfl, rfl⟩)
    go_ret
    exact ⟨rfl, Kept.same H.out⟩
  · obtain ⟨s0, k1, k2, n0⟩ := keyG_ok hok
    have CK := Lib.hid (fun w => key_calls s k n s0 s1 k1 k2 n0 n1 w)
    have hz : bdropG x s k n = cutZ x (keyZ s k n) := by unfold bdropG; rw [if_neg (by rw [hok]; simp)]
    rw [hz]
    have hks := keyz_size s k n
    have CP := Lib.hid (fun w (h : PSF w g bn bd v x) => scut_calls K (by omega) (keyZ s k n) (by omega) w g bn bd v x h hf)
    obtain ⟨kz, hkz⟩ : ∃ z, keyZ s k n = z := ⟨_, rfl⟩
    obtain ⟨y, hy⟩ : ∃ y, cutZ x kz = y := ⟨_, rfl⟩
    simp only [hkz, hy] at CK CP ⊢
    obtain ⟨ye, yx⟩ := y
    simp only at CP ⊢
    clear h hf hok hz s0 k1 k2 n0 s1 n1 hks hkz hy
    go_enter Tryz.func31, Tryz.ntmps31
    go_wp2_with (first
      | (go_at_call 59; (with_reducible refine (CK.out _).mono ?_); rintro e w1 ⟨rfl, hb1⟩; have HB1 := Lib.hid hb1; clear hb1)
      | (go_at_call 65; (with_reducible refine (CP.out _ (H.out.keep HB1.out)).mono ?_); rintro e w3 ⟨rfl, hk3⟩; have HK3 := Lib.hid (hk3.since HB1.out); clear hk3))
    go_ret
    exact ⟨rfl, HK3.out⟩
set_option maxRecDepth 100000 in
set_option maxHeartbeats 1000000 in
theorem pget_any (K : Nat) (hK : K ≤ 2097151) (s k n : Int) (s1 : s ≤ 9223372036854775807) (n1 : n ≤ 9223372036854775807) (w : World) (g bn bd : Nat) (v : Value) (x : Fld) (h : PSF w g bn bd v x) (hf : Fine K x) :
    Calls Tryz.prog 29 #[.pointer (some ⟨g, 0, none⟩), .int .i64 s, .int .i64 k, .int .i64 n] w fun e w' => e = .returned (.tuple #[.string (bgetG x s k n).1, .int .i64 (bgetG x s k n).2]) ∧ Below w.heap.size w w' := by
  have H := Lib.hid h
  cases hok : keyG s k n
  · have CK := Lib.hid (fun w => key_bad s k n (keyG_bad hok) w)
    have hz : bgetG x s k n = (⟨#[]⟩, 10) := by unfold bgetG; rw [if_pos hok]
    rw [hz]
    clear h hf hok hz
    go_enter Tryz.func29, Tryz.ntmps29
    go_wp2_with (go_at_call 59; (with_reducible refine (CK.out _).mono ?_); rintro e w1 ⟨rfl, rfl⟩)
    go_ret2
    exact ⟨rfl, Below.refl _ _⟩
  · obtain ⟨s0, k1, k2, n0⟩ := keyG_ok hok
    have CK := Lib.hid (fun w => key_calls s k n s0 s1 k1 k2 n0 n1 w)
    have hz : bgetG x s k n = bgetZ x s k n := by unfold bgetG; rw [if_neg (by rw [hok]; simp)]
    rw [hz]
    have hks := keyz_size s k n
    have hgs := get_size hf (keyZ s k n)
    have CG := Lib.hid (fun w (h : PSF w g bn bd v x) => sget_calls K (keyZ s k n) (by omega) w g bn bd v x h)
    rcases bget_cases hf s k n with ⟨h1, h2⟩ | ⟨h1, j, m, q, e, h2, h3⟩
    · rw [h2]
      obtain ⟨kz, hkz⟩ : ∃ z, keyZ s k n = z := ⟨_, rfl⟩
      obtain ⟨y, hy⟩ : ∃ y, getZ x kz = y := ⟨_, rfl⟩
      rw [hkz, hy] at h1
      simp only [hkz, hy] at CK CG ⊢
      obtain ⟨yb, ye⟩ := y
      simp only at CG h1 ⊢
      have hne : (ye == 0) = false := by rw [beq_eq_false_iff_ne]; exact h1
      clear h hf hok hz s0 k1 k2 n0 s1 n1 hks hgs h2 hkz hy h1
      go_enter Tryz.func29, Tryz.ntmps29
      go_wp2_with (first
        | (go_at_call 59; (with_reducible refine (CK.out _).mono ?_); rintro e w1 ⟨rfl, hb1⟩; have HB1 := Lib.hid hb1; clear hb1)
        | (go_at_call 61; (with_reducible refine (CG.out _ (H.out.keep HB1.out)).mono ?_); rintro e w2 ⟨rfl, rfl⟩))
      go_ret2
      exact ⟨rfl, HB1.out⟩
    · rw [h3]
      have CP := Lib.hid (fun w => parse_any (getZ x (keyZ s k n)).1 _ h2 (by omega) w)
      obtain ⟨kz, hkz⟩ : ∃ z, keyZ s k n = z := ⟨_, rfl⟩
      obtain ⟨y, hy⟩ : ∃ y, getZ x kz = y := ⟨_, rfl⟩
      rw [hkz, hy] at h1
      simp only [hkz, hy] at CK CG CP ⊢
      obtain ⟨yb, ye⟩ := y
      simp only at CG CP h1 ⊢
      subst h1
      clear h hf hok hz s0 k1 k2 n0 s1 n1 hks hgs h2 hkz hy h3
      by_cases he : e = 0
      · by_cases hj : j = k
        · by_cases hm : m = n
          · rw [if_neg (by simp [he, hj, hm])]
            subst he hj hm
            go_enter Tryz.func29, Tryz.ntmps29
            go_wp2_with (first
              | (go_at_call 59; (with_reducible refine (CK.out _).mono ?_); rintro e w1 ⟨rfl, hb1⟩; have HB1 := Lib.hid hb1; clear hb1)
              | (go_at_call 61; (with_reducible refine (CG.out _ (H.out.keep HB1.out)).mono ?_); rintro e w2 ⟨rfl, rfl⟩)
              | (go_at_call 62; (with_reducible refine (CP.out _).mono ?_); rintro e w3 ⟨rfl, hb3⟩; have HB3 := Lib.hid (belowThen HB1.out hb3); clear hb3))
            go_ret2
            exact ⟨rfl, HB3.out⟩
          · rw [if_pos (.inr (.inr hm))]
            subst he hj
            have hne : (m == n) = false := by rw [beq_eq_false_iff_ne]; exact hm
            clear hm
            go_enter Tryz.func29, Tryz.ntmps29
            go_wp2_with (first
              | (go_at_call 59; (with_reducible refine (CK.out _).mono ?_); rintro e w1 ⟨rfl, hb1⟩; have HB1 := Lib.hid hb1; clear hb1)
              | (go_at_call 61; (with_reducible refine (CG.out _ (H.out.keep HB1.out)).mono ?_); rintro e w2 ⟨rfl, rfl⟩)
              | (go_at_call 62; (with_reducible refine (CP.out _).mono ?_); rintro e w3 ⟨rfl, hb3⟩; have HB3 := Lib.hid (belowThen HB1.out hb3); clear hb3))
            go_ret2
            exact ⟨rfl, HB3.out⟩
        · rw [if_pos (.inr (.inl hj))]
          subst he
          have hne : (j == k) = false := by rw [beq_eq_false_iff_ne]; exact hj
          clear hj
          go_enter Tryz.func29, Tryz.ntmps29
          go_wp2_with (first
            | (go_at_call 59; (with_reducible refine (CK.out _).mono ?_); rintro e w1 ⟨rfl, hb1⟩; have HB1 := Lib.hid hb1; clear hb1)
            | (go_at_call 61; (with_reducible refine (CG.out _ (H.out.keep HB1.out)).mono ?_); rintro e w2 ⟨rfl, rfl⟩)
            | (go_at_call 62; (with_reducible refine (CP.out _).mono ?_); rintro e w3 ⟨rfl, hb3⟩; have HB3 := Lib.hid (belowThen HB1.out hb3); clear hb3))
          go_ret2
          exact ⟨rfl, HB3.out⟩
      · rw [if_pos (.inl he)]
        have hne : (e == 0) = false := by rw [beq_eq_false_iff_ne]; exact he
        have hne2 : (e != 0) = true := by rw [bne_iff_ne]; exact he
        clear he
        go_enter Tryz.func29, Tryz.ntmps29
        go_wp2_with (first
          | (go_at_call 59; (with_reducible refine (CK.out _).mono ?_); rintro e w1 ⟨rfl, hb1⟩; have HB1 := Lib.hid hb1; clear hb1)
          | (go_at_call 61; (with_reducible refine (CG.out _ (H.out.keep HB1.out)).mono ?_); rintro e w2 ⟨rfl, rfl⟩)
          | (go_at_call 62; (with_reducible refine (CP.out _).mono ?_); rintro e w3 ⟨rfl, hb3⟩; have HB3 := Lib.hid (belowThen HB1.out hb3); clear hb3))
        go_ret2
        exact ⟨rfl, HB3.out⟩
end Go.Proofs.YtcicdgajhheipaaGreat
