import Derived.Test.YtpddnbkmiogheaaSt14
import Derived.WalkSpells
import Derived.Lib.Strings
set_option linter.unusedVariables false
namespace Go.Proofs.Ytpddnbkmiogheaa
open Go.RowKit Go.WideMaps Go.Maps Go.MapKept
theorem ext_bytes (b : ByteArray) (i j : Nat) : b.extract i j = bytesB ((b.data.toList.drop i).take (j - i)) := by
  have h : (b.extract i j).data.toList = (b.data.toList.drop i).take (j - i) := by
    rw [ByteArray.data_extract, Array.toList_extract]
  rw [← h, bytesB_list]
theorem ext_rest (b : ByteArray) (i : Nat) : b.extract i b.size = bytesB (b.data.toList.drop i) := by
  rw [ext_bytes]
  have h : (b.data.toList.drop i).length ≤ b.size - i := by rw [List.length_drop]; simp
  rw [List.take_of_length_le h]
def recV : Option (List UInt8 × List UInt8 × List UInt8) → Value
  | none => .tuple #[.string ⟨#[]⟩, .string ⟨#[]⟩, .string ⟨#[]⟩, .bool false]
  | some (k, d, r) => .tuple #[.string (bytesB k), .string (bytesB d), .string (bytesB r), .bool true]
theorem one_at (b : ByteArray) (h0 : 0 < b.size) : ∃ c s, b.data.toList = c :: s ∧ b[0] = c ∧ s = b.data.toList.drop 1 ∧ s.length + 1 = b.size := by
  have hl : b.data.toList.length = b.size := by simp
  match h : b.data.toList, hl with
  | [], hl => simp at hl; omega
  | c :: s, hl =>
    refine ⟨c, s, rfl, ?_, by simp, by simpa using hl⟩
    have e : b[0] = b.data.toList[0]'(by simpa using h0) := by simp [ByteArray.getElem_eq_getElem_data]
    rw [e]; simp [h]
set_option maxRecDepth 100000 in
set_option maxHeartbeats 2000000 in
theorem srecord_calls (b : ByteArray) (h0 : 0 < b.size) (hb : b.size ≤ 4611686018427387904) (w : World) : Calls Try.prog 72 #[.string b] w fun e w' => e = .returned (recV (oneL b.data.toList)) ∧ ∃ n, w.drewN n = w' := by
  obtain ⟨c, s, hcs, hc0, hs, hsl⟩ := one_at b h0
  have hc2 := c.toNat_lt
  obtain ⟨n, hn⟩ : ∃ n, c.toNat = n := ⟨_, rfl⟩
  rw [hn] at hc2
  have hbn : b[0].toNat = n := by rw [hc0, hn]
  by_cases h1 : n < 1 ∨ 64 < n ∨ s.length < n + 4
  · have hz : oneL b.data.toList = none := by rw [hcs, oneL, hn, if_pos h1]
    rw [hz]
    clear hz hcs hc0 hs hn
    by_cases a1 : n < 1
    · go_enter Try.func72, Try.ntmps72
      go_wp2
      exact bodyPost_ret (v := recV none) (by simp [results, Try.results72, go_sem, recV]) rfl ⟨rfl, 0, rfl⟩
    · by_cases a2 : 64 < n
      · go_enter Try.func72, Try.ntmps72
        go_wp2
        exact bodyPost_ret (v := recV none) (by simp [results, Try.results72, go_sem, recV]) rfl ⟨rfl, 0, rfl⟩
      · have a3 : (b.size : Int) < 1 + n + 4 := by omega
        go_enter Try.func72, Try.ntmps72
        go_wp2
        exact bodyPost_ret (v := recV none) (by simp [results, Try.results72, go_sem, recV]) rfl ⟨rfl, 0, rfl⟩
  · have a1 : 1 ≤ n := by omega
    have a2 : n ≤ 64 := by omega
    have a3 : 1 + (n : Int) + 4 ≤ b.size := by omega
    have a4 : 1 + n ≤ b.size := by omega
    have hrest : b.extract (1 + n) b.size = bytesB (s.drop n) := by rw [ext_rest, hs, List.drop_drop]
    have hkey : b.extract 1 (1 + n) = bytesB (s.take n) := by rw [ext_bytes, hs, show 1 + n - 1 = n by omega]
    have hsz : (bytesB (s.drop n)).size = s.length - n := by rw [bytesB_size, List.length_drop]
    have hone : oneL b.data.toList = if 1048576 < num4 (s.drop n) ∨ (s.drop n).length < 4 + num4 (s.drop n) then none else some (s.take n, ((s.drop n).drop 4).take (num4 (s.drop n)), ((s.drop n).drop 4).drop (num4 (s.drop n))) := by rw [hcs, oneL, hn, if_neg h1]
    obtain ⟨q, hq⟩ : ∃ q, bytesB (s.drop n) = q := ⟨_, rfl⟩
    have hql : q.data.toList = s.drop n := by rw [← hq, list_bytesB]
    rw [hq] at hrest hsz
    rw [← hql] at hone
    have hq4 : 4 ≤ q.size := by omega
    have hqb : q.size ≤ 4611686018427387904 := by omega
    have CL := Lib.hid (fun w => slength_calls q hq4 hqb w)
    obtain ⟨m, hm⟩ : ∃ m, num4 q.data.toList = m := ⟨_, rfl⟩
    rw [hm] at CL hone
    have hm2 : m < 4294967296 := by
      rw [← hm, num4_at q hq4]
      have := q[0].toNat_lt; have := q[1].toNat_lt; have := q[2].toNat_lt; have := q[3].toNat_lt
      unfold beN4; omega
    have hlq : q.data.toList.length = q.size := by simp
    have HONE := Lib.hid hone
    have HKEY := Lib.hid hkey
    clear hcs hc0 hs hn h1 hone hm hkey hq hql hsz
    by_cases b1 : 1048576 < m
    · have HZ := Lib.hid (HONE.out.trans (if_pos (.inl b1)))
      have b1' : (1048576 : Int) < m := by omega
      clear b1
      go_enter Try.func72, Try.ntmps72
      go_wp2_with fail
      go_quiet (fail)
      go_wp2_with (go_at_call 89; (with_reducible refine (CL.out _).mono ?_); rintro e w1 ⟨rfl, n1, rfl⟩)
      exact bodyPost_ret (v := recV none) (by simp [results, Try.results72, go_sem, recV]) rfl ⟨by rw [HZ.out], _, rfl⟩
    · have b1' : (m : Int) ≤ 1048576 := by omega
      by_cases b2 : q.size < 4 + m
      · have HZ := Lib.hid (HONE.out.trans (if_pos (.inr (by rw [hlq]; exact b2))))
        have b2' : (q.size : Int) < 4 + m := by omega
        clear b1 b2
        go_enter Try.func72, Try.ntmps72
        go_wp2_with fail
        go_quiet (fail)
        go_wp2_with (go_at_call 89; (with_reducible refine (CL.out _).mono ?_); rintro e w1 ⟨rfl, n1, rfl⟩)
        exact bodyPost_ret (v := recV none) (by simp [results, Try.results72, go_sem, recV]) rfl ⟨by rw [HZ.out], _, rfl⟩
      · have HZ := Lib.hid (HONE.out.trans (if_neg (by rw [hlq]; omega)))
        have b2' : 4 + (m : Int) ≤ q.size := by omega
        have b3' : 4 + m ≤ q.size := by omega
        have e1 : q.extract 4 (4 + m) = bytesB ((q.data.toList.drop 4).take m) := by rw [ext_bytes, show 4 + m - 4 = m by omega]
        have e2 : q.extract (4 + m) q.size = bytesB ((q.data.toList.drop 4).drop m) := by rw [ext_rest, List.drop_drop]
        have HE1 := Lib.hid e1
        have HE2 := Lib.hid e2
        clear b1 b2 e1 e2
        go_enter Try.func72, Try.ntmps72
        go_wp2_with fail
        go_quiet (fail)
        go_wp2_with (go_at_call 89; (with_reducible refine (CL.out _).mono ?_); rintro e w1 ⟨rfl, n1, rfl⟩)
        go_quiet (fail)
        go_wp2_with fail
        exact bodyPost_ret (v := .tuple #[.string (b.extract 1 (1 + n)), .string (q.extract 4 (4 + m)), .string (q.extract (4 + m) q.size), .bool true]) (by simp [results, Try.results72, go_sem]) rfl ⟨by rw [HZ.out, HKEY.out, HE1.out, HE2.out]; rfl, _, (World.drewN_drewN _ _ _).symm⟩
end Go.Proofs.Ytpddnbkmiogheaa
