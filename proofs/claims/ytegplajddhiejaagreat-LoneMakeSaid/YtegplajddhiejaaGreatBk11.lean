import Derived.Test.YtegplajddhiejaaGreatMgLoneMake4
set_option linter.unusedVariables false
namespace Go.Proofs.YtegplajddhiejaaGreat
open Go.RowKit
theorem ba_ext (a b : ByteArray) (h : a.data.toList = b.data.toList) : a = b := by
  cases a; cases b; congr 1; exact Array.toList_inj.mp h
theorem extract_list (b : ByteArray) (i j : Nat) : (b.extract i j).data.toList = (b.data.toList.take j).drop i := by
  rw [ByteArray.data_extract, Array.toList_extract, List.extract_eq_take_drop, List.drop_take]
theorem rd_end (b : ByteArray) (x : List UInt8) (y : List UInt8) (hb : b.data.toList = x ++ y) (hy : y.length = 4) : rdN b (b.size - 4) 4 = rdL y := by
  have hs : b.size = x.length + 4 := by rw [← size_list, hb, List.length_append, hy]
  rw [rdN_list b _ 4 (by rw [size_list]; omega), hb, show b.size - 4 = x.length by omega, List.drop_left, List.take_of_length_le (by omega)]
theorem parse_frame (k n : Int) (p : ByteArray) (k1 : 1 ≤ k) (k2 : k ≤ 255) (n0 : 0 ≤ n) (n1 : n ≤ 9223372036854775807) (hp : p.size ≤ 524288) :
    parseZ (frameZ k n p) = .tuple #[.int .i64 k, .int .i64 n, .string p, .int .i64 0] := by
  obtain ⟨hs, hk, hn, hl, hw⟩ := head_facts (frameZ k n p) k n p.size _ k1 k2 n0 n1 hp (frame_list k n p)
  have hz := frame_size k n p
  have hd : (toB (dig 4 (crcZ (bodyZ k n p) : Nat))).length = 4 := by rw [toB_len, dig_len]
  have hf : (frameZ k n p).data.toList = (bodyZ k n p).data.toList ++ toB (dig 4 (crcZ (bodyZ k n p) : Nat)) := by
    unfold frameZ; rw [ByteArray.data_append, Array.toList_append, be4_list]
  have hb : (frameZ k n p).extract 0 ((frameZ k n p).size - 4) = bodyZ k n p := by
    apply ba_ext
    rw [extract_list, hf, hz, List.drop_zero, show 18 + p.size - 4 = (bodyZ k n p).data.toList.length by rw [size_list, body_size]; omega, List.take_left]
  have hr := rd_end (frameZ k n p) _ _ hf hd
  have hc := rdL_dig (crcZ (bodyZ k n p) : Nat) 4
  have hc' := crcZ_lt (bodyZ k n p)
  rw [show (256 : Int) ^ 4 = 4294967296 by decide, Int.emod_eq_of_lt (by omega) (by omega)] at hc
  rw [parse_right]
  · have he : (frameZ k n p).extract 14 ((frameZ k n p).size - 4) = p := by
      apply ba_ext
      rw [extract_list, hz, hf, show 18 + p.size - 4 = (bodyZ k n p).data.toList.length by rw [size_list, body_size]; omega, List.take_left, body_list]
      rw [← List.append_assoc, ← List.append_assoc, List.drop_append_of_le_length (by simp only [List.length_append, toB_len, dig_len]; simp), List.drop_of_length_le (by simp only [List.length_append, toB_len, dig_len]; simp), List.nil_append]
    rw [he, hk, hn]
  · intro j hj
    rcases Nat.lt_or_ge j 6 with h | h
    · exact hw j h
    · have hcs : j = 6 ∨ j = 7 ∨ j = 8 := by omega
      rcases hcs with rfl | rfl | rfl
      · simp only [wrongZ, decide_eq_false_iff_not]; omega
      · simp only [wrongZ, decide_eq_false_iff_not]; omega
      · simp only [wrongZ, bne_eq_false_iff_eq]; rw [hr, hb, hc]
theorem parse_more (k n : Int) (p more : ByteArray) (k1 : 1 ≤ k) (k2 : k ≤ 255) (n0 : 0 ≤ n) (n1 : n ≤ 9223372036854775807) (hp : p.size ≤ 524288) (hm : 0 < more.size) :
    parseZ (frameZ k n p ++ more) = .tuple #[.int .i64 0, .int .i64 0, .string ⟨#[]⟩, .int .i64 111] := by
  have hb : (frameZ k n p ++ more).data.toList = toB [165, k] ++ (toB (dig 8 n) ++ (toB (dig 4 p.size) ++ ((p.data.toList ++ toB (dig 4 (crcZ (bodyZ k n p) : Nat))) ++ more.data.toList))) := by
    rw [ByteArray.data_append, Array.toList_append, frame_list]; simp only [List.append_assoc]
  obtain ⟨hs, hk, hn, hl, hw⟩ := head_facts _ k n p.size _ k1 k2 n0 n1 hp hb
  have hz : (frameZ k n p ++ more).size = 18 + p.size + more.size := by rw [ByteArray.size_append, frame_size]
  refine parse_wrong _ 7 (by omega) ?_ ?_
  · simp only [wrongZ, decide_eq_true_iff]; omega
  · intro j hj
    rcases Nat.lt_or_ge j 6 with h | h
    · exact hw j h
    · obtain rfl : j = 6 := by omega
      simp only [wrongZ, decide_eq_false_iff_not]; omega
theorem parse_cut (k n : Int) (p : ByteArray) (c : Nat) (k1 : 1 ≤ k) (k2 : k ≤ 255) (n0 : 0 ≤ n) (n1 : n ≤ 9223372036854775807) (hp : p.size ≤ 524288) (hc : c < (frameZ k n p).size) :
    parseZ ((frameZ k n p).extract 0 c) = .tuple #[.int .i64 0, .int .i64 0, .string ⟨#[]⟩, .int .i64 12] := by
  have hz := frame_size k n p
  have hs : ((frameZ k n p).extract 0 c).size = c := by rw [ByteArray.size_extract]; omega
  rcases Nat.lt_or_ge c 14 with h | h
  · rcases Nat.eq_zero_or_pos c with h0 | h0
    · refine parse_wrong _ 0 (by omega) ?_ (fun j hj => by omega)
      simp only [wrongZ, beq_iff_eq]; omega
    · refine parse_wrong _ 2 (by omega) ?_ ?_
      · simp only [wrongZ, decide_eq_true_iff]; omega
      · intro j hj
        have hcs : j = 0 ∨ j = 1 := by omega
        rcases hcs with rfl | rfl
        · simp only [wrongZ, beq_eq_false_iff_ne]; omega
        · have : ((frameZ k n p).extract 0 c).data.toList.getD 0 0 = 165 := by
            rw [extract_list, List.drop_zero, frame_list]
            obtain ⟨d, rfl⟩ : ∃ d, c = d + 1 := ⟨c - 1, by omega⟩
            rfl
          simp only [wrongZ, this]; rfl
  · have hb : ((frameZ k n p).extract 0 c).data.toList = toB [165, k] ++ (toB (dig 8 n) ++ (toB (dig 4 p.size) ++ ((p.data.toList ++ toB (dig 4 (crcZ (bodyZ k n p) : Nat))).take (c - 14)))) := by
      rw [extract_list, List.drop_zero, frame_list]
      rw [← List.append_assoc, ← List.append_assoc, List.take_append, List.take_of_length_le (by simp only [List.length_append, toB_len, dig_len]; simp; omega)]
      simp only [List.length_append, toB_len, dig_len, List.append_assoc]
      rfl
    obtain ⟨hs', hk, hn, hl, hw⟩ := head_facts _ k n p.size _ k1 k2 n0 n1 hp hb
    refine parse_wrong _ 6 (by omega) ?_ hw
    simp only [wrongZ, decide_eq_true_iff]; omega
theorem parse_back (b : ByteArray) (hw : ∀ j, j < 9 → wrongZ b j = false) :
    frameZ (kF b) (nF b) (b.extract 14 (b.size - 4)) = b ∧ (1 : Int) ≤ kF b ∧ (kF b : Int) ≤ 255 ∧ (nF b : Int) ≤ 9223372036854775807 ∧ (b.extract 14 (b.size - 4)).size ≤ 524288 := by
  have w1 := hw 1 (by omega)
  have w3 := hw 3 (by omega)
  have w4 := hw 4 (by omega)
  have w5 := hw 5 (by omega)
  have w6 := hw 6 (by omega)
  have w7 := hw 7 (by omega)
  have w8 := hw 8 (by omega)
  simp only [wrongZ, decide_eq_false_iff_not, beq_eq_false_iff_ne, bne_eq_false_iff_eq] at w1 w3 w4 w5 w6 w7 w8
  have hk := kF_lt b
  have hs : b.size = 18 + lF b := by omega
  have hz : (b.extract 14 (b.size - 4)).size = lF b := by rw [ByteArray.size_extract]; omega
  refine ⟨?_, by omega, by omega, by omega, by omega⟩
  have hL := size_list b
  have hlen : 14 ≤ b.data.toList.length := by omega
  have hbody : bodyZ (kF b) (nF b) (b.extract 14 (b.size - 4)) = b.extract 0 (b.size - 4) := by
    apply ba_ext
    rw [body_list, hz, extract_list, extract_list, List.drop_zero]
    have e1 : toB [165, (kF b : Int)] = b.data.toList.take 2 := by
      have a0 : b.data.toList.getD 0 0 = 165 := by rw [← UInt8.toNat_inj]; have : (165 : UInt8).toNat = 165 := rfl; omega
      have a1 : (b.data.toList.getD 1 0).toNat = kF b := by unfold kF; rw [if_neg (by omega)]
      match hq : b.data.toList, hlen with
      | x :: y :: t, _ =>
        rw [hq] at a0 a1
        simp only [List.getD_cons_zero, List.getD_cons_succ] at a0 a1
        subst a0
        show [_, _] = [165, y]
        congr 2
        rw [← UInt8.toNat_inj, UInt8.toNat_ofNat', ← a1]
        have := y.toNat_lt
        omega
    have e2 : toB (dig 8 (nF b : Int)) = (b.data.toList.drop 2).take 8 := by
      have : nF b = rdL ((b.data.toList.drop 2).take 8) := by unfold nF; rw [if_neg (by omega), rdN_list b 2 8 (by omega)]
      rw [this]
      have q := dig_rdL ((b.data.toList.drop 2).take 8)
      rwa [show ((b.data.toList.drop 2).take 8).length = 8 by rw [List.length_take, List.length_drop]; omega] at q
    have e3 : toB (dig 4 (lF b : Int)) = (b.data.toList.drop 10).take 4 := by
      have : lF b = rdL ((b.data.toList.drop 10).take 4) := by unfold lF; rw [if_neg (by omega), rdN_list b 10 4 (by omega)]
      rw [this]
      have q := dig_rdL ((b.data.toList.drop 10).take 4)
      rwa [show ((b.data.toList.drop 10).take 4).length = 4 by rw [List.length_take, List.length_drop]; omega] at q
    rw [e1, e2, e3]
    generalize b.data.toList = L at *
    have h1 : L.take (b.size - 4) = L.take 2 ++ ((L.drop 2).take 8 ++ ((L.drop 10).take 4 ++ (L.take (b.size - 4)).drop 14)) := by
      generalize hT : L.take (b.size - 4) = T
      have t2 : L.take 2 = T.take 2 := by rw [← hT, List.take_take]; congr 1; omega
      have t8 : (L.drop 2).take 8 = (T.drop 2).take 8 := by rw [← hT, List.drop_take, List.take_take]; congr 1; omega
      have t4 : (L.drop 10).take 4 = (T.drop 10).take 4 := by rw [← hT, List.drop_take, List.take_take]; congr 1; omega
      rw [t2, t8, t4]
      rw [show T.drop 14 = (T.drop 10).drop 4 by rw [List.drop_drop], List.take_append_drop, show T.drop 10 = (T.drop 2).drop 8 by rw [List.drop_drop], List.take_append_drop, List.take_append_drop]
    exact h1.symm
  unfold frameZ
  rw [hbody]
  apply ba_ext
  rw [ByteArray.data_append, Array.toList_append, be4_list, ← w8, extract_list, List.drop_zero]
  have hr : rdN b (b.size - 4) 4 = rdL (b.data.toList.drop (b.size - 4)) := by
    rw [rdN_list b _ 4 (by omega), List.take_of_length_le (by rw [List.length_drop]; omega)]
  rw [hr]
  have q := dig_rdL (b.data.toList.drop (b.size - 4))
  rw [show (b.data.toList.drop (b.size - 4)).length = 4 by rw [List.length_drop]; omega] at q
  rw [q, List.take_append_drop]
end Go.Proofs.YtegplajddhiejaaGreat
