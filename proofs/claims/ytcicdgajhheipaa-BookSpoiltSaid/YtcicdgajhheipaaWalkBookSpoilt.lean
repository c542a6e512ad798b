import Derived.Test.YtcicdgajhheipaaBookSpoil
import Derived.Test.YtcicdgajhheipaaWalkBookBack
set_option linter.unusedVariables false
namespace Go.Proofs.Ytcicdgajhheipaa
open Go.RowKit
attribute [local irreducible] parseZ frameZ kindZ withinZ shortZ kF nF
/-- The bytes that the row holds. -/
def rowIs (w : World) (B : Nat) (l : List UInt8) : Prop := ∀ j, j < l.length → w.cell? ⟨B, j, none⟩ = some (.int .u8 (l.getD j 0).toNat) ∧ w.frozen? ⟨B, j, none⟩ = false
theorem rowIs_bytes (w : World) (s : ByteArray) (c : Nat) (n : Nat) (hn : n = (bytesRow s c).size) : rowIs (w.alloc (.cells (bytesRow s c) 5 (n, n + 1))) w.heap.size s.data.toList := by
  subst hn
  intro j hj
  have hj' : j < s.data.size := by simpa using hj
  constructor
  · rw [World.cell?_alloc_mark, bytesRow_at s c j hj', List.getD_eq_getElem?_getD, List.getElem?_eq_getElem hj]
    rfl
  · rw [World.frozen?_alloc_mark]
    have : ¬ (bytesRow s c).size ≤ j := by simp only [bytesRow, Array.size_append, Array.size_map, Array.size_replicate]; omega
    simp [this]
theorem rowIs_set (w : World) (B : Nat) (l : List UInt8) (h : rowIs w B l) (i : Nat) (hi : i < l.length) (x : UInt8) (y : Int) (hy : y = (x.toNat : Int)) :
    rowIs (w.setCell ⟨B, i, none⟩ (.int .u8 y)) B (l.set i x) := by
  intro j hj
  rw [List.length_set] at hj
  refine ⟨?_, by rw [World.frozen?_setCell]; exact (h j hj).2⟩
  by_cases e : i = j
  · subst e
    rw [World.cell?_setCell_same _ _ _ (h i hi).1, List.getD_eq_getElem?_getD, List.getElem?_set_self hi, hy]; rfl
  · rw [World.cell?_setCell_other _ _ _ _ (by intro hc; apply e; injection hc), (h j hj).1, List.getD_eq_getElem?_getD, List.getD_eq_getElem?_getD, List.getElem?_set_ne e]
theorem rowIs_drew {w : World} {B : Nat} {l : List UInt8} (h : rowIs w B l) : rowIs w.drew B l := h
/-- A frame's parts. -/
theorem frame_parts (K N : Int) (P : ByteArray) (K1 : 1 ≤ K) (K2 : K ≤ 255) (N0 : 0 ≤ N) (N1 : N ≤ 9223372036854775807) (P1 : P.size ≤ 524288) :
    ∃ H T : List UInt8, H.length = 14 ∧ T.length = 4 ∧ (frameZ K N P).data.toList = H ++ (P.data.toList ++ T) ∧
      ∀ (b : ByteArray) (l : List UInt8), l.length = P.size → b.data.toList = H ++ (l ++ T) → (∀ v, v < 4294967296 → crcRun v l ≠ crcRun v P.data.toList) → parseZ b = .tuple #[.int .i64 0, .int .i64 0, .string ⟨#[]⟩, .int .i64 131] := by
  refine ⟨toB [165, K] ++ (toB (dig 8 N) ++ toB (dig 4 P.size)), toB (dig 4 (crcZ (bodyZ K N P) : Nat)), ?_, ?_, ?_, ?_⟩
  · simp only [List.length_append, toB_len, dig_len]; simp
  · rw [toB_len, dig_len]
  · rw [frame_list]; simp only [List.append_assoc]
  · intro b l hl hb hne
    refine parse_spoilt K N P b l K1 K2 N0 N1 P1 hl ?_ hne
    rw [hb]; simp only [List.append_assoc]
theorem mask_bit (m j : Nat) (hm : m < 4294967296) : bits BinOp.and IntKind.u32 ((m : Int) / 2 ^ j) 1 = if m.testBit j then 1 else 0 := by
  have e : (m : Int) / 2 ^ j = ((m / 2 ^ j : Nat) : Int) := by push_cast; rfl
  have hd : m / 2 ^ j ≤ m := Nat.div_le_self _ _
  rw [e, u32_low _ (by omega)]
  have : m.testBit j = decide (m / 2 ^ j % 2 = 1) := by rw [Nat.testBit_eq_decide_div_mod_eq]
  rw [this]
  rcases Nat.mod_two_eq_zero_or_one (m / 2 ^ j) with h | h <;> rw [h] <;> simp
theorem u8_turn (x r : Nat) (hx : x < 256) (hr : r < 8) : bits BinOp.xor IntKind.u8 (x : Int) (2 ^ r % 256) = ((UInt8.ofNat (x ^^^ 2 ^ r)).toNat : Int) := by
  have hp : 2 ^ r ≤ 2 ^ 7 := Nat.pow_le_pow_right (by omega) (by omega)
  have e : ((2 : Int) ^ r % 256) = ((2 ^ r : Nat) : Int) := by
    rw [show ((2 : Int) ^ r) = ((2 ^ r : Nat) : Int) by push_cast; rfl]
    generalize 2 ^ r = z at *
    omega
  have hlt := u8_xor_lt x (2 ^ r) hx (by omega)
  rw [e, u8_xor_nat _ _ hx (by omega), UInt8.toNat_ofNat', Nat.mod_eq_of_lt (by omega)]
theorem set_mid (H l T : List UInt8) (q : Nat) (x : UInt8) (hH : H.length = 14) (hq : q < l.length) : (H ++ (l ++ T)).set (14 + q) x = H ++ (l.set q x ++ T) := by
  rw [List.set_append_right _ _ (by omega), hH, show 14 + q - 14 = q by omega, List.set_append_left _ _ hq]
theorem row_string (w : World) (B n cap : Nat) (L : List UInt8) (hL : L.length = n) (h : rowIs w B L) : (convert 34 9 (.slice (some ⟨B, 0, none⟩) n cap)).run Try.prog w = .ok (.string ⟨L.toArray⟩) w := by
  subst hL
  refine run_convert_bytes_back w 34 9 5 ⟨B, 0, none⟩ cap L Try.underlying34 Try.underlying5 Try.underlying9 (fun j hj => ?_)
  have := (h j hj).1
  rw [List.getD_eq_getElem?_getD, List.getElem?_eq_getElem hj] at this
  rw [show (⟨B, 0, none⟩ : Addr).add j = ⟨B, j, none⟩ by simp [Addr.add]; omega]
  exact this
theorem spoilt_end (K N : Int) (P : ByteArray) (H l T : List UInt8) (w : World) (B cap s j a mask : Nat) (tn : Bool) (hH : H.length = 14) (hT : T.length = 4) (hs : P.size = s) (hF : (frameZ K N P).data.toList = H ++ (P.data.toList ++ T))
    (e1 : parseZ (frameZ K N P) = .tuple #[.int .i64 K, .int .i64 N, .string P, .int .i64 0])
    (hsp : ∀ (b : ByteArray) (l : List UInt8), l.length = P.size → b.data.toList = H ++ (l ++ T) → (∀ v, v < 4294967296 → crcRun v l ≠ crcRun v P.data.toList) → parseZ b = .tuple #[.int .i64 0, .int .i64 0, .string ⟨#[]⟩, .int .i64 131])
    (ht : turnedTo P.data.toList l a j mask) (hi : tn = true ↔ ∃ i, i < j ∧ mask.testBit i = true) (hr : rowIs w B (H ++ (l ++ T))) (hj : j ≤ 32) (haj : a + j ≤ 8 * s) :
    ∃ b' : ByteArray, b'.size = 18 + s ∧ (convert 34 9 (.slice (some ⟨B, 0, none⟩) (18 + s) cap)).run Try.prog w = .ok (.string b') w ∧ ∃ x y p, parseZ b' = .tuple #[.int .i64 x, .int .i64 y, .string p, .int .i64 (if tn then 131 else 0)] := by
  have hl : l.length = s := by rw [ht.1, size_list, hs]
  have hn : (H ++ (l ++ T)).length = 18 + s := by rw [List.length_append, List.length_append, hH, hl, hT]; omega
  refine ⟨⟨(H ++ (l ++ T)).toArray⟩, ?_, row_string w B (18 + s) cap _ hn hr, ?_⟩
  · rw [← size_list]; exact hn
  · cases tn with
    | true =>
      obtain ⟨i, h1, h2⟩ := hi.mp rfl
      refine ⟨_, _, _, hsp _ l (by rw [hl, hs]) rfl (fun v _ => turned_some ht hj (by rw [size_list, hs]; exact haj) i h1 h2 v)⟩
    | false =>
      have hno : ∀ i, i < j → mask.testBit i = false := fun i h => by
        cases hb : mask.testBit i with
        | false => rfl
        | true => exact absurd (hi.mpr ⟨i, h, hb⟩) (by simp)
      have := turned_none ht hno
      subst this
      have hb : (⟨(H ++ (P.data.toList ++ T)).toArray⟩ : ByteArray) = frameZ K N P := ba_ext _ _ (by rw [hF])
      exact ⟨_, _, _, by rw [hb, e1]; rfl⟩
set_option maxRecDepth 100000 in
set_option maxHeartbeats 2000000 in
theorem spoilt_core (kind number at_ K N A : Int) (mask s a : Nat) (payload P : ByteArray) (hK : kindZ kind = K) (hN : withinZ number = N) (hP : shortZ payload = P) (hA : withinZ at_ = A)
    (K1 : 1 ≤ K) (K2 : K ≤ 255) (N0 : 0 ≤ N) (N1 : N ≤ 9223372036854775807) (P1 : P.size ≤ 524288) (A0 : 0 ≤ A) (hs : P.size = s) (hs0 : 0 < s) (hs1 : s ≤ 524288) (ha : A % (8 * (s : Int)) = (a : Int)) (ha8 : a < 8 * s)
    (hpl : payload.size ≤ 140737488351232) (hm : mask < 4294967296) (w : World) :
    Calls Try.prog 6 #[.int .i64 kind, .int .i64 number, .string payload, .int .i64 at_, .int .u32 mask] w fun e w' => e = .returned (.bool true) ∧ Below w.heap.size w w' := by
  have c12 := fun w => kindOf_calls kind w
  have c11 := fun w => within_calls number w
  have c11' := fun w => within_calls at_ w
  have c13 := fun w => short_calls payload (by omega) w
  rw [hK] at c12; rw [hN] at c11; rw [hP] at c13; rw [hA] at c11'
  have e1 := parse_frame K N P K1 K2 N0 N1 P1
  have fs := frame_size K N P
  rw [hs] at fs
  have hcv := fun (w : World) (s : ByteArray) => run_bytes_of_string (P := Try.prog) w 9 34 5 s Try.underlying9 Try.underlying34 Try.underlying5
  go_enter Try.func6, Try.ntmps6
  go_wp2_with (first
      | (go_at_call 12; refine (c12 _).mono ?_; rintro e w1 ⟨rfl, rfl⟩)
      | (go_at_call 11; refine (c11 _).mono ?_; rintro e w1 ⟨rfl, rfl⟩)
      | (go_at_call 11; refine (c11' _).mono ?_; rintro e w1 ⟨rfl, rfl⟩)
      | (go_at_call 13; refine (c13 _).mono ?_; rintro e w1 ⟨rfl, rfl⟩)
      | (go_at_call 14; refine (frame_calls _ _ _ ?_ ?_ ?_ ?_ ?_ _).mono ?_ <;> first | omega | (rintro e wA ⟨rfl, hbA⟩))
      | (go_at_call 15; refine (parse_calls _ ?_ _).mono ?_ <;> first | omega | (rintro e wB ⟨rfl, hbB⟩; first | rw [e1])))
  rw [ha]
  obtain ⟨H, T, hH, hT, hF, hsp⟩ := frame_parts K N P K1 K2 N0 N1 P1
  have HSP := Lib.hid hsp
  have HF := Lib.hid hF
  have HHT := Lib.hid (And.intro hH hT)
  have HP := Lib.hid hs
  clear hsp hF hH hT hs c12 c11 c11' c13
  have HFS := Lib.hid fs
  clear fs hcv ha
  generalize hcap : grownCap wB (18 + s) 0 5 = cap
  clear hcap
  go_loopw [20, 21, 22] (fun t k i wr => ∃ (j : Nat) (l : List UInt8) (tn : Bool), j ≤ 32 ∧ a + j ≤ 8 * s ∧ k = .int .i64 j ∧ t = .bool tn ∧ Hid (turnedTo P.data.toList l a j mask) ∧ Hid (tn = true ↔ ∃ i, i < j ∧ mask.testBit i = true) ∧ Hid (rowIs wr wB.heap.size (H ++ (l ++ T))) ∧ Hid (Below w.heap.size w wr)) (fun _ k _ _ => 32 - (intOf k).toNat)
  case atStart =>
    refine ⟨0, P.data.toList, false, by omega, by omega, rfl, rfl, Lib.hid (turned_zero _ _ _), Lib.hid ⟨fun h => (by cases h), fun ⟨i, hi, _⟩ => by omega⟩, Lib.hid ?_, Lib.hid ?_⟩
    · rw [← HF.out]; exact rowIs_drew (rowIs_bytes _ _ _ _ rfl)
    · exact ((belowThen hbA hbB).alloc (Nat.le_trans hbA.size hbB.size) _).drew
  case round =>
    obtain ⟨j, l, tn, hj, haj, rfl, rfl, HT, HI, HR, HB⟩ := hrel
    have hbm := mask_bit mask j hm
    by_cases hj32 : j < 32
    · by_cases haj2 : a + j < 8 * s
      · cases hbit : mask.testBit j with
        | true =>
          rw [hbit, if_pos rfl] at hbm
          have HBT := Lib.hid hbit
          clear hbit
          obtain ⟨q, hq⟩ : ∃ q, q = (a + j) / 8 := ⟨_, rfl⟩
          have hqs : q < s := by omega
          have hlen : q < l.length := by rw [HT.out.1, size_list, HP.out]; exact hqs
          have hrow := HR.out (14 + (a + j) / 8) (by rw [List.length_append, List.length_append, HHT.out.1]; omega)
          obtain ⟨hc, hf⟩ := hrow
          have hgd : (H ++ (l ++ T)).getD (14 + (a + j) / 8) 0 = l.getD q 0 := by
            rw [List.getD_eq_getElem?_getD, List.getD_eq_getElem?_getD, List.getElem?_append_right (by rw [HHT.out.1]; omega), List.getElem?_append_left (by rw [HHT.out.1]; omega), HHT.out.1]
            congr 2; omega
          rw [hgd] at hc
          have hx := (l.getD q 0).toNat_lt
          generalize hX : (l.getD q 0).toNat = x at *
          have HX := Lib.hid (And.intro hX hq)
          clear hX hq hgd hlen
          go_wp2
          go_roundw
          case rel =>
            refine ⟨j + 1, l.set q (UInt8.ofNat (x ^^^ 2 ^ ((a + j) % 8))), true, by omega, by omega, by go_num, rfl, ?_, ?_, ?_, ?_⟩
            · exact Lib.hid (by
                have := turned_one HT.out HBT.out (by rw [size_list, HP.out]; exact haj2) (UInt8.ofNat (x ^^^ 2 ^ ((a + j) % 8))) (by
                  have hlt := u8_xor_lt x (2 ^ ((a + j) % 8)) hx (Nat.lt_of_le_of_lt (Nat.pow_le_pow_right (by omega) (show (a + j) % 8 ≤ 7 by omega)) (by decide))
                  rw [← HX.out.2, HX.out.1, UInt8.toNat_ofNat', Nat.mod_eq_of_lt (by omega)])
                rwa [← HX.out.2] at this)
            · exact Lib.hid ⟨fun _ => ⟨j, by omega, HBT.out⟩, fun _ => rfl⟩
            · refine Lib.hid ?_
              have hq := HX.out.2
              have hll : l.length = s := by rw [HT.out.1, size_list, HP.out]
              rw [← set_mid H l T q _ HHT.out.1 (by rw [hll]; exact hqs), ← hq]
              exact rowIs_set _ _ _ HR.out (14 + q) (by rw [List.length_append, List.length_append, HHT.out.1]; omega) _ _ (u8_turn x _ hx (by omega))
            · exact Lib.hid (HB.out.setCell (show w.heap.size ≤ wB.heap.size from Nat.le_trans hbA.size hbB.size) _)
          case measure => simp [intOf]; omega
        | false =>
          rw [hbit, if_neg (by simp)] at hbm
          have HBT := Lib.hid hbit
          clear hbit
          go_wp2
          go_roundw
          case rel =>
            refine ⟨j + 1, l, tn, by omega, by omega, by go_num, rfl, Lib.hid (turned_skip HT.out HBT.out), Lib.hid ?_, HR, HB⟩
            rw [HI.out]
            refine ⟨fun ⟨i, h1, h2⟩ => ⟨i, by omega, h2⟩, fun ⟨i, h1, h2⟩ => ?_⟩
            rcases Nat.lt_or_ge i j with h | h
            · exact ⟨i, h, h2⟩
            · have := HBT.out
              rw [show i = j by omega, this] at h2; cases h2
          case measure => simp [intOf]; omega
      · have hend := spoilt_end K N P H l T wr wB.heap.size cap s j a mask tn HHT.out.1 HHT.out.2 HP.out HF.out e1 HSP.out HT.out HI.out HR.out hj haj
        obtain ⟨b', hb', hconv, x, y, p, hpz⟩ := hend
        cases tn
        all_goals
          go_wp2_with (go_at_call 15; refine (parse_any b' _ hpz ?_ _).mono ?_ <;> first | omega | (rintro e wC ⟨rfl, hbC⟩))
          go_ret
          exact ⟨rfl, belowThen HB.out hbC⟩
    · have hend := spoilt_end K N P H l T wr wB.heap.size cap s j a mask tn HHT.out.1 HHT.out.2 HP.out HF.out e1 HSP.out HT.out HI.out HR.out hj haj
      obtain ⟨b', hb', hconv, x, y, p, hpz⟩ := hend
      cases tn
      all_goals
        go_wp2_with (go_at_call 15; refine (parse_any b' _ hpz ?_ _).mono ?_ <;> first | omega | (rintro e wC ⟨rfl, hbC⟩))
        go_ret
        exact ⟨rfl, belowThen HB.out hbC⟩
set_option maxRecDepth 100000 in
set_option maxHeartbeats 1000000 in
theorem spoilt_none (kind number at_ K N : Int) (mask : Nat) (payload P : ByteArray) (hK : kindZ kind = K) (hN : withinZ number = N) (hP : shortZ payload = P)
    (K1 : 1 ≤ K) (K2 : K ≤ 255) (N0 : 0 ≤ N) (N1 : N ≤ 9223372036854775807) (hs : P.size = 0)
    (hpl : payload.size ≤ 140737488351232) (w : World) :
    Calls Try.prog 6 #[.int .i64 kind, .int .i64 number, .string payload, .int .i64 at_, .int .u32 mask] w fun e w' => e = .returned (.bool true) ∧ Below w.heap.size w w' := by
  have c12 := fun w => kindOf_calls kind w
  have c11 := fun w => within_calls number w
  have c13 := fun w => short_calls payload (by omega) w
  rw [hK] at c12; rw [hN] at c11; rw [hP] at c13
  have e1 := parse_frame K N P K1 K2 N0 N1 (by omega)
  have fs := frame_size K N P
  rw [hs] at fs
  go_enter Try.func6, Try.ntmps6
  go_wp2_with (first
      | (go_at_call 12; refine (c12 _).mono ?_; rintro e w1 ⟨rfl, rfl⟩)
      | (go_at_call 11; refine (c11 _).mono ?_; rintro e w1 ⟨rfl, rfl⟩)
      | (go_at_call 13; refine (c13 _).mono ?_; rintro e w1 ⟨rfl, rfl⟩)
      | (go_at_call 14; refine (frame_calls _ _ _ ?_ ?_ ?_ ?_ ?_ _).mono ?_ <;> first | omega | (rintro e wA ⟨rfl, hbA⟩))
      | (go_at_call 15; refine (parse_calls _ ?_ _).mono ?_ <;> first | omega | (rintro e wB ⟨rfl, hbB⟩; first | rw [e1])))
  go_ret
  exact ⟨rfl, belowThen hbA hbB⟩
theorem bookSpoilt_walk (kind number : Int) (payload : ByteArray) (at_ mask : Int) (h0 : -9223372036854775808 ≤ kind ∧ kind ≤ 9223372036854775807) (h1 : -9223372036854775808 ≤ number ∧ number ≤ 9223372036854775807)
    (hpl : payload.size ≤ 140737488351232) (h3 : -9223372036854775808 ≤ at_ ∧ at_ ≤ 9223372036854775807) (h4 : 0 ≤ mask ∧ mask ≤ 4294967295) (w : World) :
    Calls Try.prog 6 #[.int .i64 kind, .int .i64 number, .string payload, .int .i64 at_, .int .u32 mask] w fun e w' => e = .returned (.bool true) ∧ Below w.heap.size w w' := by
  obtain ⟨m, rfl⟩ : ∃ m : Nat, mask = m := ⟨mask.toNat, by omega⟩
  have hs1 := shortZ_size payload
  rcases Nat.eq_zero_or_pos (shortZ payload).size with hz | hz
  · exact spoilt_none kind number at_ _ _ m payload _ rfl rfl rfl (kind_b kind).1 (kind_b kind).2 (within_b number h1.2).1 (within_b number h1.2).2 hz hpl w
  · have hA := (within_b at_ h3.2).1
    have e0 := Int.emod_nonneg (withinZ at_) (show (8 * ((shortZ payload).size : Int)) ≠ 0 by omega)
    have e2 := Int.emod_lt_of_pos (withinZ at_) (show 0 < (8 * ((shortZ payload).size : Int)) by omega)
    obtain ⟨a, ha⟩ : ∃ a : Nat, withinZ at_ % (8 * ((shortZ payload).size : Int)) = a := ⟨(withinZ at_ % (8 * ((shortZ payload).size : Int))).toNat, by omega⟩
    exact spoilt_core kind number at_ _ _ _ m _ a payload _ rfl rfl rfl rfl (kind_b kind).1 (kind_b kind).2 (within_b number h1.2).1 (within_b number h1.2).2 hs1 hA rfl hz hs1 ha (by omega) hpl (by omega) w
end Go.Proofs.Ytcicdgajhheipaa
