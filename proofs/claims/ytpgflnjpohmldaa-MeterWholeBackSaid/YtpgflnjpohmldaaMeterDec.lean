import Derived.Test.YtpgflnjpohmldaaMeterHeld
set_option linter.unusedVariables false
namespace Go.Proofs.Ytpgflnjpohmldaa
open Go.RowKit FloatMath
theorem behind_calls (d : Nat) (hd : d ≤ 9) (w : World) : Calls Try.prog 25 #[.int .i64 d] w fun e w' => e = .returned (.string (behZ d)) ∧ w = w' := by
  rcases Nat.eq_zero_or_pos d with h | h
  · subst h
    go_enter Try.func25, Try.ntmps25
    go_wp2
    go_ret
    exact ⟨rfl, rfl⟩
  · have hz : ((d : Int) == 0) = false := by rw [beq_eq_false_iff_ne]; omega
    have hb : behZ d = ⟨(46 :: List.replicate d 48).toArray⟩ := by unfold behZ; rw [if_neg (by omega)]
    have HB := Lib.hid hb
    clear hb h
    go_enter Try.func25, Try.ntmps25
    go_wp2
    go_loop [3, 4] (fun s i => ∃ (k : Nat) (x : ByteArray), k ≤ d ∧ i = .int .i64 k ∧ s = .string x ∧ x.size ≤ 10 ∧ Hid (x.data.toList = 46 :: List.replicate k 48)) (fun _ i => d - (intOf i).toNat)
    case atStart => exact ⟨0, _, by omega, rfl, rfl, by show 1 ≤ 10; omega, Lib.hid rfl⟩
    case round =>
      obtain ⟨k, x, hk, rfl, rfl, hx, HX⟩ := hrel
      have hsz : x.size = 1 + k := by
        rw [show x.size = x.data.toList.length by simp, HX.out]; simp; omega
      by_cases hlt : k < d
      · have HS := Lib.hid hsz
        clear hsz
        go_wp2
        go_round
        case rel =>
          refine ⟨k + 1, x ++ ⟨#[48]⟩, by omega, by go_num, rfl, ?_, Lib.hid ?_⟩
          · rw [ByteArray.size_append, HS.out]; show 1 + k + 1 ≤ 10; omega
          · rw [ba_app, HX.out, List.replicate_succ']; rfl
        case measure => simp [intOf]; omega
      · obtain rfl : k = d := by omega
        have hxe : x = behZ k := ba_ext _ _ (by rw [HB.out, HX.out])
        clear hsz
        go_wp2
        go_ret
        exact ⟨by rw [← hxe]; rfl, rfl⟩
/-- A block's first bytes. -/
def rowB (w : World) (B : Nat) (l : List Nat) : Prop := ∀ i, i < l.length → w.cell? ⟨B, i, none⟩ = some (.int .u8 (l.getD i 0 : Nat)) ∧ w.frozen? ⟨B, i, none⟩ = false
theorem rowB_set {w : World} {B : Nat} {l : List Nat} (h : rowB w B l) (i : Nat) (hi : i < l.length) (x : Nat) : rowB (w.setCell ⟨B, i, none⟩ (.int .u8 (x : Int))) B (l.set i x) := by
  intro j hj
  rw [List.length_set] at hj
  refine ⟨?_, by rw [World.frozen?_setCell]; exact (h j hj).2⟩
  by_cases e : i = j
  · subst e
    rw [World.cell?_setCell_same _ _ _ (h i hi).1, List.getD_eq_getElem?_getD, List.getElem?_set_self hi]; rfl
  · rw [World.cell?_setCell_other _ _ _ _ (by intro hc; apply e; injection hc), (h j hj).1, List.getD_eq_getElem?_getD, List.getD_eq_getElem?_getD, List.getElem?_set_ne e]
theorem rowB_zero (w : World) : rowB (w.alloc (.cells #[.int .u8 0, .int .u8 0, .int .u8 0, .int .u8 0, .int .u8 0, .int .u8 0, .int .u8 0, .int .u8 0, .int .u8 0, .int .u8 0, .int .u8 0, .int .u8 0, .int .u8 0, .int .u8 0, .int .u8 0, .int .u8 0, .int .u8 0, .int .u8 0, .int .u8 0, .int .u8 0] 78)) w.heap.size (List.replicate 20 0) := by
  intro i hi
  rw [List.length_replicate] at hi
  have hc : i = 0 ∨ i = 1 ∨ i = 2 ∨ i = 3 ∨ i = 4 ∨ i = 5 ∨ i = 6 ∨ i = 7 ∨ i = 8 ∨ i = 9 ∨ i = 10 ∨ i = 11 ∨ i = 12 ∨ i = 13 ∨ i = 14 ∨ i = 15 ∨ i = 16 ∨ i = 17 ∨ i = 18 ∨ i = 19 := by omega
  rcases hc with rfl | rfl | rfl | rfl | rfl | rfl | rfl | rfl | rfl | rfl | rfl | rfl | rfl | rfl | rfl | rfl | rfl | rfl | rfl | rfl <;> (constructor <;> simp)
/-- The bytes behind a place, as a string. -/
theorem rowB_str {w : World} {B : Nat} {l : List Nat} (h : rowB w B l) (a n c : Nat) (t : List Nat) (hl : l = List.replicate a 0 ++ t) (hn : t.length = n) (ht : ∀ d ∈ t, d < 256) :
    (convert 77 9 (.slice (some ⟨B, a, none⟩) n c)).run Try.prog w = .ok (.string ⟨(t.map UInt8.ofNat).toArray⟩) w := by
  subst hn
  have := run_convert_bytes_back (P := Try.prog) w 77 9 5 ⟨B, a, none⟩ c (t.map UInt8.ofNat) Try.underlying77 Try.underlying5 Try.underlying9 (fun j hj => by
    rw [List.length_map] at hj
    rw [show (⟨B, a, none⟩ : Addr).add j = ⟨B, a + j, none⟩ by first | (simp [Addr.add]; done) | (simp [Addr.add]; omega)]
    rw [(h (a + j) (by rw [hl, List.length_append, List.length_replicate]; omega)).1, hl, List.getD_eq_getElem?_getD, List.getElem?_append_right (by rw [List.length_replicate]; omega), List.length_replicate, Nat.add_sub_cancel_left, List.getElem?_eq_getElem hj, List.getElem_map, UInt8.toNat_ofNat', Nat.mod_eq_of_lt (ht _ (List.getElem_mem hj))]
    rfl)
  rw [List.length_map] at this
  exact this
theorem rep_set (a x : Nat) (t : List Nat) : (List.replicate (a + 1) 0 ++ t).set a x = List.replicate a 0 ++ (x :: t) := by
  rw [List.replicate_succ', List.append_assoc, List.set_append_right _ _ (by simp), List.length_replicate, Nat.sub_self]; rfl
set_option maxRecDepth 100000 in
set_option maxHeartbeats 1000000 in
theorem dec_pos (v : Int) (h1 : 0 ≤ v) (h2 : v ≤ 9007199254740992) (w : World) : Calls Try.prog 24 #[.int .i64 v] w fun e w' => e = .returned (.string (decZ v)) ∧ Below w.heap.size w w' := by
  obtain ⟨N, hN⟩ : ∃ N, N = v.natAbs := ⟨_, rfl⟩
  obtain ⟨Y, hY⟩ : ∃ Y : Int, (N : Int) = Y := ⟨_, rfl⟩
  have hY0 : 0 ≤ Y := by omega
  have hY1 : Y ≤ 9007199254740992 := by omega
  have hw : IntKind.u64.wrap v = Y := by rw [IntKind.wrap_u64]; omega
  have hYN : Y.toNat = N := by omega
  have hlen := digs_pow_len 0 N
  have hN2 : N < 10 ^ 16 := by
    have : (10 : Nat) ^ 16 = 10000000000000000 := by decide
    omega
  have hlN := digs_len 16 N hN2
  have HN := Lib.hid (And.intro hN (And.intro hYN hlN))
  clear hN hY hYN hlen hN2 hlN
  go_enter Try.func24, Try.ntmps24
  go_wp2
  try rw [hw]
  clear hw
  go_loopw [4, 5] (fun av yv wr => ∃ (a j : Nat) (y : Int) (p : List Nat), a + j = 20 ∧ j ≤ 18 ∧ av = .int .i64 a ∧ yv = .int .u64 y ∧ 0 ≤ y ∧ y ≤ 9007199254740992 ∧ Hid (p.length = j ∧ (j = 0 ∨ 0 < y)) ∧ Hid (padTo (digs N) 1 = p ++ padTo (digs y.toNat) (1 - j)) ∧ Hid (rowB wr w.heap.size (List.replicate a 0 ++ (p.map (48 + ·)).reverse)) ∧ Hid (Below w.heap.size w wr)) (fun av _ _ => (intOf av).toNat)
  case atStart => exact ⟨20, 0, Y, [], rfl, by omega, rfl, rfl, hY0, hY1, Lib.hid ⟨rfl, .inl rfl⟩, Lib.hid (by rw [HN.out.2.1]; rfl), Lib.hid (rowB_zero w), Lib.hid ((Below.refl _ _).alloc (Nat.le_refl _) _)⟩
  case round =>
    obtain ⟨a, j, y, p, haj, hj, rfl, rfl, y0, y1, HPJ, HP, HR, HB⟩ := hrel
    obtain ⟨b, rfl⟩ : ∃ b, a = b + 1 := ⟨a - 1, by omega⟩
    have hstep : padTo (digs N) 1 = (p ++ [(y % 10).toNat]) ++ padTo (digs (y / 10).toNat) (1 - (j + 1)) := by
      rw [HP.out, padTo_step y.toNat (1 - j) (by rcases HPJ.out.2 with h | h <;> omega), List.append_assoc]
      rw [show (y % 10).toNat = y.toNat % 10 by omega, show (y / 10).toNat = y.toNat / 10 by omega, Nat.sub_sub]; rfl
    have hjl : j + 1 ≤ 17 := by
      have := congrArg List.length hstep
      rw [padTo_len, List.length_append, List.length_append, HPJ.out.1, List.length_singleton] at this
      have := HN.out.2.2
      omega
    have hcl := HR.out b (by rw [List.length_append, List.length_replicate]; omega)
    obtain ⟨hcell, hfr⟩ := hcl
    have hb1 : (((b + 1 : Nat) : Int) - 1) = (b : Int) := by omega
    have hb20 : (b : Int) < 20 := by omega
    have hset := rowB_set HR.out b (by rw [List.length_append, List.length_replicate]; omega) (48 + (y % 10).toNat)
    rw [rep_set] at hset
    have hcast : ((48 + (y % 10).toNat : Nat) : Int) = 48 + y % 10 := by omega
    rw [hcast] at hset
    have HS := Lib.hid hset
    have HST := Lib.hid hstep
    clear hset hstep hcast
    by_cases hy10 : y / 10 = 0
    · have hend : padTo (digs N) 1 = p ++ [(y % 10).toNat] := by
        rw [HST.out, hy10, show (1 - (j + 1)) = 0 by omega]
        show _ ++ padTo (digs 0) 0 = _
        rw [padTo_end, List.append_nil]
      have htb : ∀ d ∈ (((48 + (y % 10).toNat) :: (p.map (48 + ·)).reverse)), d < 256 := by
        have hall := padTo_dig N 1
        rw [hend] at hall
        intro d hd
        rcases List.mem_cons.mp hd with h | h
        · omega
        · rw [List.mem_reverse, List.mem_map] at h
          obtain ⟨x, hx, rfl⟩ := h
          have := hall x (List.mem_append_left _ hx)
          omega
      have htl : ((48 + (y % 10).toNat) :: (p.map (48 + ·)).reverse).length = 20 - b := by
        rw [List.length_cons, List.length_reverse, List.length_map, HPJ.out.1]; omega
      obtain ⟨S, hS⟩ : ∃ S : ByteArray, S = ⟨((((48 + (y % 10).toNat) :: (p.map (48 + ·)).reverse)).map UInt8.ofNat).toArray⟩ := ⟨_, rfl⟩
      have hdz : decZ v = S := by
        rw [hS]
        unfold decZ
        rw [if_neg (by omega), List.nil_append, ← HN.out.1, hend, ← digT_bytes, List.map_append, List.reverse_append]
        rfl
      have HZ := Lib.hid (And.intro htb (And.intro htl (And.intro hdz hend)))
      have hy10b : (y / 10 == 0) = true := by rw [beq_iff_eq]; exact hy10
      clear htb htl hdz hend hy10
      have hconv := rowB_str (w := wr.setCell ⟨w.heap.size, b, none⟩ (.int .u8 (48 + y % 10))) (B := w.heap.size) HS.out b (20 - b) (20 - b) _ rfl HZ.out.2.1 HZ.out.1
      rw [← hS] at hconv
      clear hS
      have hble : (b : Int) ≤ 20 := by omega
      go_wp2
      go_ret
      exact ⟨by rw [HZ.out.2.2.1]; rfl, HB.out.setCell (Nat.le_refl _) _⟩
    · have hyb : (y / 10 == 0) = false := by rw [beq_eq_false_iff_ne]; exact hy10
      have hpos : 0 < y / 10 := by omega
      clear hy10
      go_wp2
      go_roundw
      case rel =>
        refine ⟨b, j + 1, y / 10, p ++ [(y % 10).toNat], by omega, by omega, rfl, by go_num, by omega, by omega, Lib.hid ⟨by rw [List.length_append, HPJ.out.1]; rfl, .inr hpos⟩, HST, Lib.hid ?_, Lib.hid (HB.out.setCell (Nat.le_refl _) _)⟩
        rw [List.map_append, List.reverse_append]
        exact HS.out
      case measure => simp [intOf]
set_option maxRecDepth 100000 in
set_option maxHeartbeats 1000000 in
theorem dec_neg (v : Int) (h1 : v < 0) (h2 : -9007199254740992 ≤ v) (w : World) : Calls Try.prog 24 #[.int .i64 v] w fun e w' => e = .returned (.string (decZ v)) ∧ Below w.heap.size w w' := by
  obtain ⟨N, hN⟩ : ∃ N, N = v.natAbs := ⟨_, rfl⟩
  obtain ⟨Y, hY⟩ : ∃ Y : Int, (N : Int) = Y := ⟨_, rfl⟩
  have hY0 : 0 ≤ Y := by omega
  have hY1 : Y ≤ 9007199254740992 := by omega
  have hw : IntKind.u64.wrap (-IntKind.u64.wrap v) = Y := by rw [IntKind.wrap_u64, IntKind.wrap_u64]; omega
  have hYN : Y.toNat = N := by omega
  have hlen := digs_pow_len 0 N
  have hN2 : N < 10 ^ 16 := by
    have : (10 : Nat) ^ 16 = 10000000000000000 := by decide
    omega
  have hlN := digs_len 16 N hN2
  have HN := Lib.hid (And.intro hN (And.intro hYN hlN))
  clear hN hY hYN hlen hN2 hlN
  go_enter Try.func24, Try.ntmps24
  go_wp2
  try rw [hw]
  clear hw
  go_loopw [4, 5] (fun av yv wr => ∃ (a j : Nat) (y : Int) (p : List Nat), a + j = 20 ∧ j ≤ 18 ∧ av = .int .i64 a ∧ yv = .int .u64 y ∧ 0 ≤ y ∧ y ≤ 9007199254740992 ∧ Hid (p.length = j ∧ (j = 0 ∨ 0 < y)) ∧ Hid (padTo (digs N) 1 = p ++ padTo (digs y.toNat) (1 - j)) ∧ Hid (rowB wr w.heap.size (List.replicate a 0 ++ (p.map (48 + ·)).reverse)) ∧ Hid (Below w.heap.size w wr)) (fun av _ _ => (intOf av).toNat)
  case atStart => exact ⟨20, 0, Y, [], rfl, by omega, rfl, rfl, hY0, hY1, Lib.hid ⟨rfl, .inl rfl⟩, Lib.hid (by rw [HN.out.2.1]; rfl), Lib.hid (rowB_zero w), Lib.hid ((Below.refl _ _).alloc (Nat.le_refl _) _)⟩
  case round =>
    obtain ⟨a, j, y, p, haj, hj, rfl, rfl, y0, y1, HPJ, HP, HR, HB⟩ := hrel
    obtain ⟨b, rfl⟩ : ∃ b, a = b + 1 := ⟨a - 1, by omega⟩
    have hstep : padTo (digs N) 1 = (p ++ [(y % 10).toNat]) ++ padTo (digs (y / 10).toNat) (1 - (j + 1)) := by
      rw [HP.out, padTo_step y.toNat (1 - j) (by rcases HPJ.out.2 with h | h <;> omega), List.append_assoc]
      rw [show (y % 10).toNat = y.toNat % 10 by omega, show (y / 10).toNat = y.toNat / 10 by omega, Nat.sub_sub]; rfl
    have hjl : j + 1 ≤ 17 := by
      have := congrArg List.length hstep
      rw [padTo_len, List.length_append, List.length_append, HPJ.out.1, List.length_singleton] at this
      have := HN.out.2.2
      omega
    have hcl := HR.out b (by rw [List.length_append, List.length_replicate]; omega)
    obtain ⟨hcell, hfr⟩ := hcl
    have hb1 : (((b + 1 : Nat) : Int) - 1) = (b : Int) := by omega
    have hb20 : (b : Int) < 20 := by omega
    have hset := rowB_set HR.out b (by rw [List.length_append, List.length_replicate]; omega) (48 + (y % 10).toNat)
    rw [rep_set] at hset
    have hcast : ((48 + (y % 10).toNat : Nat) : Int) = 48 + y % 10 := by omega
    rw [hcast] at hset
    have HS := Lib.hid hset
    have HST := Lib.hid hstep
    clear hset hstep hcast
    by_cases hy10 : y / 10 = 0
    · have hend : padTo (digs N) 1 = p ++ [(y % 10).toNat] := by
        rw [HST.out, hy10, show (1 - (j + 1)) = 0 by omega]
        show _ ++ padTo (digs 0) 0 = _
        rw [padTo_end, List.append_nil]
      have htb : ∀ d ∈ (((48 + (y % 10).toNat) :: (p.map (48 + ·)).reverse)), d < 256 := by
        have hall := padTo_dig N 1
        rw [hend] at hall
        intro d hd
        rcases List.mem_cons.mp hd with h | h
        · omega
        · rw [List.mem_reverse, List.mem_map] at h
          obtain ⟨x, hx, rfl⟩ := h
          have := hall x (List.mem_append_left _ hx)
          omega
      have htl : ((48 + (y % 10).toNat) :: (p.map (48 + ·)).reverse).length = 20 - b := by
        rw [List.length_cons, List.length_reverse, List.length_map, HPJ.out.1]; omega
      obtain ⟨S, hS⟩ : ∃ S : ByteArray, S = ⟨((45 :: ((48 + (y % 10).toNat) :: (p.map (48 + ·)).reverse)).map UInt8.ofNat).toArray⟩ := ⟨_, rfl⟩
      have hdz : decZ v = S := by
        rw [hS]
        unfold decZ
        rw [if_pos h1, ← HN.out.1, hend, ← digT_bytes, List.map_append, List.reverse_append]
        rfl
      have HZ := Lib.hid (And.intro htb (And.intro htl (And.intro hdz hend)))
      have hy10b : (y / 10 == 0) = true := by rw [beq_iff_eq]; exact hy10
      clear htb htl hdz hend hy10
      obtain ⟨c, rfl⟩ : ∃ c, b = c + 1 := ⟨b - 1, by omega⟩
      have hs2 := rowB_set HS.out c (by rw [List.length_append, List.length_replicate]; omega) 45
      rw [rep_set, show ((45 : Nat) : Int) = 45 from rfl] at hs2
      have hcl2 := HS.out c (by rw [List.length_append, List.length_replicate]; omega)
      obtain ⟨hcell2, hfr2⟩ := hcl2
      have hconv := rowB_str hs2 c (20 - c) (20 - c) _ rfl (by rw [List.length_cons, HZ.out.2.1]; omega) (fun d hd => (List.mem_cons.mp hd).elim (fun h => by omega) (fun h => HZ.out.1 d h))
      rw [← hS] at hconv
      have H2 := Lib.hid hs2
      clear hS hs2
      have hcle : (c : Int) ≤ 20 := by omega
      have hc1 : (((c + 1 : Nat) : Int) - 1) = (c : Int) := by omega
      have hc20 : (c : Int) < 20 := by omega
      go_wp2
      go_ret
      exact ⟨by rw [HZ.out.2.2.1]; rfl, (HB.out.setCell (Nat.le_refl _) _).setCell (Nat.le_refl _) _⟩
    · have hyb : (y / 10 == 0) = false := by rw [beq_eq_false_iff_ne]; exact hy10
      have hpos : 0 < y / 10 := by omega
      clear hy10
      go_wp2
      go_roundw
      case rel =>
        refine ⟨b, j + 1, y / 10, p ++ [(y % 10).toNat], by omega, by omega, rfl, by go_num, by omega, by omega, Lib.hid ⟨by rw [List.length_append, HPJ.out.1]; rfl, .inr hpos⟩, HST, Lib.hid ?_, Lib.hid (HB.out.setCell (Nat.le_refl _) _)⟩
        rw [List.map_append, List.reverse_append]
        exact HS.out
      case measure => simp [intOf]
theorem dec_calls (v : Int) (h1 : -9007199254740992 ≤ v) (h2 : v ≤ 9007199254740992) (w : World) : Calls Try.prog 24 #[.int .i64 v] w fun e w' => e = .returned (.string (decZ v)) ∧ Below w.heap.size w w' := by
  rcases Int.lt_or_le v 0 with h | h
  · exact dec_neg v h h1 w
  · exact dec_pos v h h2 w
end Go.Proofs.Ytpgflnjpohmldaa
