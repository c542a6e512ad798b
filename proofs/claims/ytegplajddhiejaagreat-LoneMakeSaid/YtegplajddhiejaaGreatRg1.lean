import Derived.Test.YtegplajddhiejaaGreatMgLoneMake13
import Derived.Test.YtegplajddhiejaaGreatBk14
import Derived.Test.YtegplajddhiejaaGreatMgLoneMake16
set_option linter.unusedVariables false
namespace Go.Proofs.YtegplajddhiejaaGreat
open Go.RowKit Go.WideMaps Go.Maps Go.MapKept
/-! The reference's Put, Get and Drop, whatever they are asked. -/
theorem refParse_any (s : ByteArray) (v : Value) (hv : parseZ s = v) (hs : s.size < 9223372036854775807) (w : World) : Calls Tryz.prog 67 #[.string s] w fun e w' => e = .returned v ∧ Below w.heap.size w w' := by
  subst hv; exact refParse_calls s hs w
set_option maxRecDepth 100000 in
set_option maxHeartbeats 1000000 in
theorem rbdrop_any (K : Nat) (hK : K ≤ 2097151) (s k n : Int) (s1 : s ≤ 9223372036854775807) (n1 : n ≤ 9223372036854775807) (w : World) (g : Nat) (vd vw vv : Value) (x : Fld) (h : RSF w g vd vw vv x) (hf : Fine K x) :
    Calls Tryz.prog 49 #[.pointer (some ⟨g, 0, none⟩), .int .i64 s, .int .i64 k, .int .i64 n] w fun e w' => e = .returned (.int .i64 (bdropG x s k n).1) ∧ RKept w g vd vw vv (bdropG x s k n).2 w' := by
  have H := Lib.hid h
  cases hok : keyG s k n
  · have CK := Lib.hid (fun w => refKey_bad s k n (keyG_bad hok) w)
    have hz : bdropG x s k n = (10, x) := by unfold bdropG; rw [if_pos hok]
    rw [hz]
    clear h hf hok hz
    go_enter Tryz.func49, Tryz.ntmps49
    go_wp2_with (go_at_call 65; (with_reducible refine (CK.out _).mono ?_); rintro e w1 ⟨rfl, rfl⟩)
    go_ret
    exact ⟨rfl, RKept.same H.out⟩
  · obtain ⟨s0, k1, k2, n0⟩ := keyG_ok hok
    have CK := Lib.hid (fun w => refKey_calls s k n s0 s1 k1 k2 n0 n1 w)
    have hz : bdropG x s k n = cutZ x (keyZ s k n) := by unfold bdropG; rw [if_neg (by rw [hok]; simp)]
    rw [hz]
    have hks := keyz_size s k n
    have CP := Lib.hid (fun w (h : RSF w g vd vw vv x) => rcut_calls K hK (keyZ s k n) (by omega) w g vd vw vv x h hf)
    obtain ⟨kz, hkz⟩ : ∃ z, keyZ s k n = z := ⟨_, rfl⟩
    obtain ⟨y, hy⟩ : ∃ y, cutZ x kz = y := ⟨_, rfl⟩
    simp only [hkz, hy] at CK CP ⊢
    obtain ⟨ye, yx⟩ := y
    simp only at CP ⊢
    clear h hf hok hz s0 k1 k2 n0 s1 n1 hks hkz hy
    go_enter Tryz.func49, Tryz.ntmps49
    go_wp2_with (first
      | (go_at_call 65; (with_reducible refine (CK.out _).mono ?_); rintro e w1 ⟨rfl, hb1⟩; have HB1 := Lib.hid hb1; clear hb1)
      | (go_at_call 43; (with_reducible refine (CP.out _ (H.out.keep HB1.out)).mono ?_); rintro e w3 ⟨rfl, hk3⟩; have HK3 := Lib.hid (hk3.since HB1.out); clear hk3))
    go_ret
    exact ⟨rfl, HK3.out⟩
set_option maxRecDepth 100000 in
set_option maxHeartbeats 1000000 in
theorem rbget_any (K : Nat) (hK : K ≤ 2097151) (s k n : Int) (s1 : s ≤ 9223372036854775807) (n1 : n ≤ 9223372036854775807) (w : World) (g : Nat) (vd vw vv : Value) (x : Fld) (h : RSF w g vd vw vv x) (hf : Fine K x) :
    Calls Tryz.prog 48 #[.pointer (some ⟨g, 0, none⟩), .int .i64 s, .int .i64 k, .int .i64 n] w fun e w' => e = .returned (.tuple #[.string (bgetG x s k n).1, .int .i64 (bgetG x s k n).2]) ∧ Below w.heap.size w w' := by
  have H := Lib.hid h
  cases hok : keyG s k n
  · have CK := Lib.hid (fun w => refKey_bad s k n (keyG_bad hok) w)
    have hz : bgetG x s k n = (⟨#[]⟩, 10) := by unfold bgetG; rw [if_pos hok]
    rw [hz]
    clear h hf hok hz
    go_enter Tryz.func48, Tryz.ntmps48
    go_wp2_with (go_at_call 65; (with_reducible refine (CK.out _).mono ?_); rintro e w1 ⟨rfl, rfl⟩)
    go_ret2
    exact ⟨rfl, Below.refl _ _⟩
  · obtain ⟨s0, k1, k2, n0⟩ := keyG_ok hok
    have CK := Lib.hid (fun w => refKey_calls s k n s0 s1 k1 k2 n0 n1 w)
    have hz : bgetG x s k n = bgetZ x s k n := by unfold bgetG; rw [if_neg (by rw [hok]; simp)]
    rw [hz]
    have hks := keyz_size s k n
    have hgs := get_size hf (keyZ s k n)
    have CG := Lib.hid (fun w (h : RSF w g vd vw vv x) => rget_calls K (by omega) (keyZ s k n) (by omega) w g vd vw vv x h hf)
    rcases bget_cases hf s k n with ⟨h1, h2⟩ | ⟨h1, j, m, q, e, h2, h3⟩
    · rw [h2]
      obtain ⟨kz, hkz⟩ : ∃ z, keyZ s k n = z := ⟨_, rfl⟩
      obtain ⟨y, hy⟩ : ∃ y, getZ x kz = y := ⟨_, rfl⟩
      rw [hkz, hy] at h1
      simp only [hkz, hy] at CK CG ⊢
      obtain ⟨yb, ye⟩ := y
      simp only at CG h1 ⊢
      have hne : (ye == 0) = false := by rw [beq_eq_false_iff_ne]; exact h1
      clear h hf hok hz s0 k1 k2 n0 s1 n1 hks hgs h2 hkz hy h1
      go_enter Tryz.func48, Tryz.ntmps48
      go_wp2_with (first
        | (go_at_call 65; (with_reducible refine (CK.out _).mono ?_); rintro e w1 ⟨rfl, hb1⟩; have HB1 := Lib.hid hb1; clear hb1)
        | (go_at_call 66; (with_reducible refine (CG.out _ (H.out.keep HB1.out)).mono ?_); rintro e w2 ⟨rfl, rfl⟩))
      go_ret2
      exact ⟨rfl, HB1.out⟩
    · rw [h3]
      have CP := Lib.hid (fun w => refParse_any (getZ x (keyZ s k n)).1 _ h2 (by omega) w)
      obtain ⟨kz, hkz⟩ : ∃ z, keyZ s k n = z := ⟨_, rfl⟩
      obtain ⟨y, hy⟩ : ∃ y, getZ x kz = y := ⟨_, rfl⟩
      rw [hkz, hy] at h1
      simp only [hkz, hy] at CK CG CP ⊢
      obtain ⟨yb, ye⟩ := y
      simp only at CG CP h1 ⊢
      subst h1
      clear h hf hok hz s0 k1 k2 n0 s1 n1 hks hgs h2 hkz hy h3
      by_cases he : e = 0
      · by_cases hj : j = k
        · by_cases hm : m = n
          · rw [if_neg (by simp [he, hj, hm])]
            subst he hj hm
            go_enter Tryz.func48, Tryz.ntmps48
            go_wp2_with (first
              | (go_at_call 65; (with_reducible refine (CK.out _).mono ?_); rintro e w1 ⟨rfl, hb1⟩; have HB1 := Lib.hid hb1; clear hb1)
              | (go_at_call 66; (with_reducible refine (CG.out _ (H.out.keep HB1.out)).mono ?_); rintro e w2 ⟨rfl, rfl⟩)
              | (go_at_call 67; (with_reducible refine (CP.out _).mono ?_); rintro e w3 ⟨rfl, hb3⟩; have HB3 := Lib.hid (belowThen HB1.out hb3); clear hb3))
            go_ret2
            exact ⟨rfl, HB3.out⟩
          · rw [if_pos (.inr (.inr hm))]
            subst he hj
            have hne : (m == n) = false := by rw [beq_eq_false_iff_ne]; exact hm
            clear hm
            go_enter Tryz.func48, Tryz.ntmps48
            go_wp2_with (first
              | (go_at_call 65; (with_reducible refine (CK.out _).mono ?_); rintro e w1 ⟨rfl, hb1⟩; have HB1 := Lib.hid hb1; clear hb1)
              | (go_at_call 66; (with_reducible refine (CG.out _ (H.out.keep HB1.out)).mono ?_); rintro e w2 ⟨rfl, rfl⟩)
              | (go_at_call 67; (with_reducible refine (CP.out _).mono ?_); rintro e w3 ⟨rfl, hb3⟩; have HB3 := Lib.hid (belowThen HB1.out hb3); clear hb3))
            go_ret2
            exact ⟨rfl, HB3.out⟩
        · rw [if_pos (.inr (.inl hj))]
          subst he
          have hne : (j == k) = false := by rw [beq_eq_false_iff_ne]; exact hj
          clear hj
          go_enter Tryz.func48, Tryz.ntmps48
          go_wp2_with (first
            | (go_at_call 65; (with_reducible refine (CK.out _).mono ?_); rintro e w1 ⟨rfl, hb1⟩; have HB1 := Lib.hid hb1; clear hb1)
            | (go_at_call 66; (with_reducible refine (CG.out _ (H.out.keep HB1.out)).mono ?_); rintro e w2 ⟨rfl, rfl⟩)
            | (go_at_call 67; (with_reducible refine (CP.out _).mono ?_); rintro e w3 ⟨rfl, hb3⟩; have HB3 := Lib.hid (belowThen HB1.out hb3); clear hb3))
          go_ret2
          exact ⟨rfl, HB3.out⟩
      · rw [if_pos (.inl he)]
        have hne : (e == 0) = false := by rw [beq_eq_false_iff_ne]; exact he
        have hne2 : (e != 0) = true := by rw [bne_iff_ne]; exact he
        clear he
        go_enter Tryz.func48, Tryz.ntmps48
        go_wp2_with (first
          | (go_at_call 65; (with_reducible refine (CK.out _).mono ?_); rintro e w1 ⟨rfl, hb1⟩; have HB1 := Lib.hid hb1; clear hb1)
          | (go_at_call 66; (with_reducible refine (CG.out _ (H.out.keep HB1.out)).mono ?_); rintro e w2 ⟨rfl, rfl⟩)
          | (go_at_call 67; (with_reducible refine (CP.out _).mono ?_); rintro e w3 ⟨rfl, hb3⟩; have HB3 := Lib.hid (belowThen HB1.out hb3); clear hb3))
        go_ret2
        exact ⟨rfl, HB3.out⟩
end Go.Proofs.YtegplajddhiejaaGreat
