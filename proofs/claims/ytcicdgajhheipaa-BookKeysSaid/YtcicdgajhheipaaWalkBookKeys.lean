import Derived.Test.YtcicdgajhheipaaBookKeyLaw
set_option linter.unusedVariables false
namespace Go.Proofs.Ytcicdgajhheipaa
open Go.RowKit
theorem within_b (n : Int) (h : n ≤ 9223372036854775807) : 0 ≤ withinZ n ∧ withinZ n ≤ 9223372036854775807 := by
  unfold withinZ; split <;> omega
theorem kind_b (k : Int) : 1 ≤ kindZ k ∧ kindZ k ≤ 255 := by unfold kindZ; omega
theorem key_size (s k n : Int) : (keyZ s k n).size = 18 := by
  unfold keyZ; rw [ByteArray.size_append, ByteArray.size_append, pref_size, one_size, be8_size]
attribute [local irreducible] keyZ withinZ kindZ be8Z prefZ oneZ
set_option maxRecDepth 100000 in
set_option maxHeartbeats 1000000 in
theorem bookKeys_walk (s k n t l m : Int) (hs : -9223372036854775808 ≤ s ∧ s ≤ 9223372036854775807) (hk : -9223372036854775808 ≤ k ∧ k ≤ 9223372036854775807) (hn : -9223372036854775808 ≤ n ∧ n ≤ 9223372036854775807) (ht : -9223372036854775808 ≤ t ∧ t ≤ 9223372036854775807) (hl : -9223372036854775808 ≤ l ∧ l ≤ 9223372036854775807) (hm : -9223372036854775808 ≤ m ∧ m ≤ 9223372036854775807) (w : World) :
    Calls Try.prog 4 #[.int .i64 s, .int .i64 k, .int .i64 n, .int .i64 t, .int .i64 l, .int .i64 m] w fun e w' => e = .returned (.bool true) ∧ Below w.heap.size w w' := by
  obtain ⟨s0, s1⟩ := within_b s hs.2
  obtain ⟨n0, n1⟩ := within_b n hn.2
  obtain ⟨t0, t1⟩ := within_b t ht.2
  obtain ⟨m0, m1⟩ := within_b m hm.2
  obtain ⟨k0, k1⟩ := kind_b k
  clear hs hk hn ht hl hm
  obtain ⟨l0, l1⟩ := kind_b l
  have KL := Lib.hid (key_law (withinZ s) (kindZ k) (withinZ n) (withinZ t) (kindZ l) (withinZ m) s0 s1 n0 n1 t0 t1 m0 m1 k0 k1 l0 l1)
  have z1 := key_size (withinZ s) (kindZ k) (withinZ n)
  have z2 := key_size (withinZ t) (kindZ l) (withinZ m)
  go_enter Try.func4, Try.ntmps4
  go_wp2_with (first
   | (go_at_call 11; refine (within_calls _ _).mono ?_; rintro e w1 ⟨rfl, rfl⟩)
   | (go_at_call 12; refine (kindOf_calls _ _).mono ?_; rintro e w1 ⟨rfl, rfl⟩)
   | (go_at_call 10; refine (key_calls _ _ _ ?_ ?_ ?_ ?_ ?_ ?_ _).mono ?_ <;> first | assumption | (rintro e w1 ⟨rfl, hb⟩)))
  all_goals go_ret
  all_goals obtain ⟨p, q⟩ := KL.out
  all_goals clear KL
  · rename_i hS hK hE
    rw [hS, hK] at p q
    refine ⟨congrArg (fun x => Ending.returned (.bool x)) (show (Op.bytesLess (keyZ (withinZ t) (kindZ l) (withinZ n)).toList (keyZ (withinZ t) (kindZ l) (withinZ m)).toList == decide (withinZ n < withinZ m)) = true from ?_), belowThen (by assumption) (by assumption)⟩
    rw [q]; simp
  · rename_i hS hK hE
    rw [hS, hK] at p q
    refine absurd ?_ hE
    rw [Bool.eq_iff_iff, beq_iff_eq, p, beq_iff_eq]; simp
  · rename_i hS hK hK2 hE
    rw [hS] at p q
    exact absurd (p.mp hE).2.1 hK
  · rename_i hS hK hK2 hE
    rw [hS] at p q
    refine ⟨congrArg (fun x => Ending.returned (.bool x)) (show (_ && (Op.bytesLess (keyZ (withinZ t) (kindZ k) (withinZ n)).toList (keyZ (withinZ t) (kindZ l) (withinZ m)).toList == decide (kindZ k < kindZ l))) = true from ?_), belowThen (by assumption) (by assumption)⟩
    rw [q]; simp [hE, hK]
  · rename_i hS hS2 hE
    exact absurd (p.mp hE).1 hS
  · rename_i hS hS2 hE
    refine ⟨congrArg (fun x => Ending.returned (.bool x)) (show (_ && (Op.bytesLess (keyZ (withinZ s) (kindZ k) (withinZ n)).toList (keyZ (withinZ t) (kindZ l) (withinZ m)).toList == decide (withinZ s < withinZ t))) = true from ?_), belowThen (by assumption) (by assumption)⟩
    rw [q]; simp [hE, hS]
end Go.Proofs.Ytcicdgajhheipaa
