import Derived.Test.YtcicdgajhheipaaBk18
set_option linter.unusedVariables false
namespace Go.Proofs.Ytcicdgajhheipaa
open Go.RowKit Go.WideMaps Go.Maps Go.MapKept
/-! The law of Wipe: its steps. -/
structure WipS (K : Nat) (x : Fld) (s k : Int) (L : List Int) : Prop where
  fine : Fine K x
  off : x.off = false
  left : x.left = 0
  room : x.room = 536870912
  pairs : Pairs x s k L
theorem wip_put {K : Nat} {x : Fld} {s k n : Int} {L : List Int} (hK : K ≤ 400) (hi : InS s k) (hn : 0 ≤ n ∧ n ≤ 9223372036854775807) (h : WipS K x s k L) :
    ∃ x1 x2, putZ x (keyZ s k n) (frameZ k n txtA) = (0, x1) ∧ putZ x1 (keyZ (s + 1) k n) (frameZ k n txtB) = (0, x2) ∧ Fine (K + 1) x1 ∧ WipS (K + 2) x2 s k (insI n L) := by
  obtain ⟨hf, ho, hl, hr, hp⟩ := h
  have hs1 := frame_size k n txtA
  have hs2 := frame_size k n txtB
  have ha : txtA.size = 1 := rfl
  have hb : txtB.size = 1 := rfl
  obtain ⟨q1, q2, q3, q4, q5, q6⟩ := put_room (k := keyZ s k n) (d := frameZ k n txtA) hf ho hl (keyz_keyed s k n) (by omega) (by rw [hr]; omega)
  have hf1 := put_fine hf (keyZ s k n) (frameZ k n txtA)
  obtain ⟨y1, hy1⟩ : ∃ y, putZ x (keyZ s k n) (frameZ k n txtA) = y := ⟨_, rfl⟩
  rw [hy1] at q1 q2 q3 q4 q6 hf1
  obtain ⟨e1, x1⟩ := y1
  simp only at q1 q2 q3 q4 q6 hf1
  subst q1
  obtain ⟨r1, r2, r3, r4, r5, r6⟩ := put_room (k := keyZ (s + 1) k n) (d := frameZ k n txtB) hf1 q2 q3 (keyz_keyed _ k n) (by omega) (by rw [q4, hr]; omega)
  have hf2 := put_fine hf1 (keyZ (s + 1) k n) (frameZ k n txtB)
  obtain ⟨y2, hy2⟩ : ∃ y, putZ x1 (keyZ (s + 1) k n) (frameZ k n txtB) = y := ⟨_, rfl⟩
  rw [hy2] at r1 r2 r3 r4 r6 hf2
  obtain ⟨e2, x2⟩ := y2
  simp only at r1 r2 r3 r4 r6 hf2
  subst r1
  exact ⟨x1, x2, hy1, hy2, hf1, hf2, r2, r3, r4.trans (q4.trans hr), hp.more hi hn (by rw [r6, q6]; rfl)⟩
theorem wip_new {s k : Int} : WipS 0 (newF 536870912) s k [] := ⟨newF_fine (by decide), rfl, rfl, rfl, Pairs.none s k _⟩
theorem key_data (s k n : Int) : (keyZ s k n).data.toList = 66 :: (toB (dig 8 s) ++ (toB [k] ++ toB (dig 8 n))) := by
  have h := key_list s k n
  rw [ByteArray.toList_eq] at h
  rw [h]; rfl
theorem pow8 : (256 : Int) ^ 8 = 18446744073709551616 := by decide
/-- The numbers that the keys of one space and kind tell. -/
theorem okN_key {s k n : Int} (h : InB s k n) : okN (keyZ s k n) = true ∧ nmN (keyZ s k n) = n ∧ spN (keyZ s k n) = s ∧ kdN (keyZ s k n) = k := by
  have hd := key_data s k n
  have hl1 : (toB (dig 8 s)).length = 8 := by rw [toB_len, dig_len]
  have hl2 : (toB (dig 8 n)).length = 8 := by rw [toB_len, dig_len]
  have hlen : (keyZ s k n).data.toList.length = 18 := by rw [size_list, keyz_size]
  have h9 : (keyZ s k n).data.toList.getD 9 0 = UInt8.ofNat k.toNat := by
    rw [hd, List.getD_eq_getElem?_getD, List.getElem?_cons_succ, List.getElem?_append_right (by omega), hl1]
    rfl
  have hs : (rdN (keyZ s k n) 1 8 : Int) = s := by
    rw [rdN_list _ _ _ (by omega), hd, List.drop_one, List.tail_cons, List.take_append_of_le_length (by omega), List.take_of_length_le (by omega), rdL_dig, pow8]
    have := h.s0; have := h.s1; omega
  have hn : (rdN (keyZ s k n) 10 8 : Int) = n := by
    have e : (keyZ s k n).data.toList.drop 10 = toB (dig 8 n) := by
      rw [hd, show (10 : Nat) = 9 + 1 by rfl, List.drop_succ_cons, List.drop_append, hl1, List.drop_of_length_le (by omega)]
      rfl
    rw [rdN_list _ _ _ (by omega), e, List.take_of_length_le (by omega), rdL_dig, pow8]
    have := h.n0; have := h.n1; omega
  have hb := byte_of k h.k0 h.k1
  have hh : headN (keyZ s k n) = true := decide_eq_true ⟨keyz_size s k n, by rw [hd]; rfl, fun e => by
    rw [h9] at e
    rw [e] at hb
    have := h.k0
    have e2 : ((0 : UInt8).toNat : Int) = 0 := rfl
    omega⟩
  have s1 := h.s1
  have n1 := h.n1
  refine ⟨?_, ?_, ?_, ?_⟩
  · unfold okN
    rw [hh, Bool.true_and, decide_eq_true_eq]
    omega
  · unfold nmN
    rw [if_pos hh, hn]
    exact IntWalk.wrap64_in _ (by have := h.n0; omega)
  · unfold spN
    rw [if_pos hh, hs]
    exact IntWalk.wrap64_in _ (by have := h.s0; omega)
  · unfold kdN
    rw [if_pos hh, h9, hb]
theorem nums_keys {s k : Int} {L : List Int} (h : ∀ n ∈ L, InB s k n) : numsZ (L.map (keyZ s k)) = L := by
  induction L with
  | nil => rfl
  | cons n r ih =>
    have h1 := okN_key (h n (by simp))
    have h2 := ih (fun m hm => h m (by simp [hm]))
    unfold numsZ at *
    rw [List.map_cons, List.filter_cons, if_pos h1.1, List.map_cons, h1.2.1, h2]
set_option maxRecDepth 100000 in
set_option maxHeartbeats 1000000 in
theorem sameInts_calls (u v : Value) (l : List Int) (w : World) (hu : Row w 0 1 u l.length (iV l)) (hv : Row w 0 1 v l.length (iV l)) (hlen : l.length ≤ 4194304) :
    Calls Try.prog 27 #[u, v] w fun e w' => e = .returned (.bool true) ∧ ∃ n, w.drewN n = w' := by
  have HU := Lib.hid hu
  have HV := Lib.hid hv
  obtain ⟨a, ca, rfl⟩ := hu.slice
  obtain ⟨b, cb, rfl⟩ := hv.slice
  obtain ⟨n, hn⟩ : ∃ n, l.length = n := ⟨_, rfl⟩
  have HN := Lib.hid hn
  rw [hn] at hlen
  rw [hn]
  clear hu hv hn
  go_enter Try.func27, Try.ntmps27
  go_wp2
  go_loopw [5] (fun iv wr => ∃ k q : Nat, k ≤ n ∧ iv = .int .i64 k ∧ Hid (w.drewN q = wr)) (fun iv _ => n - (intOf iv).toNat)
  case atStart => exact ⟨0, 0, by omega, rfl, Lib.hid rfl⟩
  case round =>
    obtain ⟨k, q, hk, rfl, HW⟩ := hrel
    by_cases hlt : k < n
    · have hkl : k < l.length := by rw [HN.out]; exact hlt
      obtain ⟨g1, c1, hv1, hg1, hc1⟩ := row_int HU.out k hkl
      obtain ⟨g2, c2, hv2, hg2, hc2⟩ := row_int HV.out k hkl
      injection hv1 with e1 x1 y1
      injection hv2 with e2 x2 y2
      subst e1 e2
      clear x1 y1 x2 y2
      have hr1 : wr.cell? ⟨g1, k, none⟩ = some (.int .i64 l[k]) := by rw [← HW.out]; exact hc1
      have hr2 : wr.cell? ⟨g2, k, none⟩ = some (.int .i64 l[k]) := by rw [← HW.out]; exact hc2
      generalize l[k] = z at *
      have hbk : (k : Int) < n := by omega
      clear hc1 hc2
      go_wp2
      go_quiet (fail)
      go_wp2
      go_roundw
      case rel => exact ⟨k + 1, _, by omega, by go_num, Lib.hid (by rw [← HW.out]; exact (World.drewN_drewN _ _ _).symm)⟩
      case measure => simp [intOf]; omega
    · obtain rfl : k = n := by omega
      go_wp2
      go_ret
      exact ⟨rfl, q, HW.out⟩
end Go.Proofs.Ytcicdgajhheipaa
