import Derived.Test.YtpddnbkmiogheaaRs10
set_option linter.unusedVariables false
namespace Go.Proofs.Ytpddnbkmiogheaa
open Go.RowKit Go.WideMaps Go.Maps Go.MapKept
/-- What 'one' answers. -/
def oneV (p : Nat) : Option (List UInt8 × List UInt8 × List UInt8) → Value
  | none => .tuple #[.agg #[.string ⟨#[]⟩, .string ⟨#[]⟩], .int .i64 (-1)]
  | some (k, d, r) => .tuple #[.agg #[.string (bytesB k), .string (bytesB d)], .int .i64 ((p + 5 + k.length + d.length : Nat) : Int)]
theorem cutB_list (b : ByteArray) (i j : Nat) : b.extract i j = bytesB ((b.data.toList.drop i).take (j - i)) := by
  refine ByteArray.ext (Array.toList_inj.1 ?_)
  rw [list_bytesB]
  simp [ByteArray.data_extract]
set_option maxRecDepth 100000 in
set_option maxHeartbeats 4000000 in
theorem rone_calls (b : ByteArray) (p : Nat) (hp : p < b.size) (hb : b.size ≤ 4398046511104) (w : World) :
    Calls Try.prog 73 #[.string b, .int .i64 p] w fun e w' => e = .returned (oneV p (oneL (b.data.toList.drop p))) ∧ Below w.heap.size w w' := by
  have hl : b.data.toList.length = b.size := by simp
  have hd : b.data.toList.drop p = b[p] :: b.data.toList.drop (p + 1) := by
    rw [List.drop_eq_getElem_cons (by omega)]; rfl
  have hrl : (b.data.toList.drop (p + 1)).length = b.size - (p + 1) := by rw [List.length_drop, hl]
  have hdd : ∀ n, (b.data.toList.drop (p + 1)).drop n = b.data.toList.drop (p + 1 + n) := fun n => by rw [List.drop_drop]
  have hpi : (p : Int) < b.size := by omega
  obtain ⟨n, hn⟩ : ∃ n, b[p].toNat = n := ⟨_, rfl⟩
  have hn2 : n < 256 := by have := b[p].toNat_lt; omega
  have hone : oneL (b.data.toList.drop p) = if n < 1 ∨ 64 < n ∨ b.size - (p + 1) < n + 4 then none
      else if 1048576 < num4 (b.data.toList.drop (p + 1 + n)) ∨ b.size - (p + 1 + n) < 4 + num4 (b.data.toList.drop (p + 1 + n)) then none
      else some ((b.data.toList.drop (p + 1)).take n, ((b.data.toList.drop (p + 1 + n)).drop 4).take (num4 (b.data.toList.drop (p + 1 + n))), ((b.data.toList.drop (p + 1 + n)).drop 4).drop (num4 (b.data.toList.drop (p + 1 + n)))) := by
    rw [hd, oneL, hn, hrl]
    simp only [hdd, List.length_drop, hl]
  have HONE := Lib.hid hone
  have hnv : ((b[p].toNat : Nat) : Int) = n := by rw [hn]
  rw [HONE.out]
  by_cases h1 : n < 1 ∨ 64 < n ∨ b.size - (p + 1) < n + 4
  · rw [if_pos h1]
    unfold oneV
    have hcs : (n : Int) < 1 ∨ (¬ (n : Int) < 1 ∧ (64 : Int) < n) ∨ (¬ (n : Int) < 1 ∧ ¬ (64 : Int) < n ∧ (b.size : Int) - p - 1 < n + 4) := by omega
    clear hd hrl hdd hone h1 hl hn
    rcases hcs with h1 | ⟨h1, h2⟩ | ⟨h1, h2, h3⟩
    all_goals
      go_enter Try.func73, Try.ntmps73
      go_wp2
      exact bodyPost_ret (v := .tuple #[.agg #[.string ⟨#[]⟩, .string ⟨#[]⟩], .int .i64 (-1)]) (by simp [results, Try.results73, go_sem]) rfl ⟨rfl, (Below.refl _ _).alloc (Nat.le_refl _) _⟩
  · rw [if_neg h1]
    have g1 : ¬ (n : Int) < 1 := by omega
    have g2 : ¬ (64 : Int) < n := by omega
    have g3 : ¬ (b.size : Int) - p - 1 < n + 4 := by omega
    have hq : p + 1 + n + 4 ≤ b.size := by omega
    have hn64 : n ≤ 64 := by omega
    obtain ⟨q, hqq⟩ : ∃ q, p + 1 + n = q := ⟨_, rfl⟩
    have CN := Lib.hid (fun w => rnumber_calls b q (by omega) hb w)
    rw [hqq]
    obtain ⟨m, hm⟩ : ∃ m, num4 (b.data.toList.drop q) = m := ⟨_, rfl⟩
    simp only [hm] at CN
    rw [hm]
    have hmb : m < 4294967296 := by
      rw [← hm, rdP_num b q (by omega)]
      have := rdP_lt b q 4
      rwa [show (256 : Nat) ^ 4 = 4294967296 by decide] at this
    have hqi : (p : Int) + 1 + n = q := by omega
    have hkey : b.extract (p + 1) q = bytesB ((b.data.toList.drop (p + 1)).take n) := by rw [cutB_list, show q - (p + 1) = n by omega]
    have HKEY := Lib.hid hkey
    have hp1 : ((p : Int) + 1).toNat = p + 1 := by omega
    have hkl : ((b.data.toList.drop (p + 1)).take n).length = n := by rw [List.length_take, hrl]; omega
    have HKL := Lib.hid hkl
    have HDL := Lib.hid (show ∀ k, q + 4 + k ≤ b.size → (((b.data.toList.drop q).drop 4).take k).length = k from fun k hk => by rw [List.length_take, List.length_drop, List.length_drop, hl]; omega)
    have HDD := Lib.hid (show ∀ k, b.extract (q + 4) (q + 4 + k) = bytesB (((b.data.toList.drop q).drop 4).take k) from fun k => by rw [cutB_list, List.drop_drop, show q + 4 + k - (q + 4) = k by omega])
    by_cases h2 : 1048576 < m ∨ b.size - q < 4 + m
    · rw [if_pos h2]
      unfold oneV
      have hcs : (1048576 : Int) < m ∨ (¬ (1048576 : Int) < m ∧ (b.size : Int) - q - 4 < m) := by omega
      have hq2 : (q : Int) + 4 ≤ b.size := by omega
      have hq3 : (p : Int) + 1 ≤ q := by omega
      have hq4 : (q : Int) ≤ b.size := by omega
      clear hd hrl hdd hone h1 hl hn h2 hqq hm hkey hkl
      rcases hcs with h2 | ⟨h2, h3⟩
      all_goals
        go_enter Try.func73, Try.ntmps73
        go_wp2_with (go_at_call 90; (with_reducible refine (CN.out _).mono ?_); rintro e w1 ⟨rfl, rfl⟩)
        exact bodyPost_ret (v := .tuple #[.agg #[.string ⟨#[]⟩, .string ⟨#[]⟩], .int .i64 (-1)]) (by simp [results, Try.results73, go_sem]) rfl ⟨rfl, (Below.refl _ _).alloc (Nat.le_refl _) _⟩
    · rw [if_neg h2]
      simp only [oneV]
      rw [HKL.out, HDL.out m (by omega), ← HKEY.out, ← HDD.out m]
      have k1 : ¬ (1048576 : Int) < m := by omega
      have k2 : ¬ (b.size : Int) - q - 4 < m := by omega
      have hq2 : (q : Int) + 4 ≤ b.size := by omega
      have hq3 : (p : Int) + 1 ≤ q := by omega
      have hq4 : (q : Int) ≤ b.size := by omega
      have hq5 : (q : Int) + 4 + m ≤ b.size := by omega
      have hend : ((p + 5 + n + m : Nat) : Int) = (q : Int) + 4 + m := by omega
      rw [hend]
      have ht1 : ((q : Int) + 4).toNat = q + 4 := by omega
      have ht2 : ((q : Int) + 4 + m).toNat = q + 4 + m := by omega
      clear hd hrl hdd hone h1 hl hn h2 hqq hm hkey hkl hend
      go_enter Try.func73, Try.ntmps73
      go_wp2_with (go_at_call 90; (with_reducible refine (CN.out _).mono ?_); rintro e w1 ⟨rfl, rfl⟩)
      exact bodyPost_ret (v := .tuple #[.agg #[.string (b.extract (p + 1) q), .string (b.extract (q + 4) (q + 4 + m))], .int .i64 ((q : Int) + 4 + m)]) (by simp [results, Try.results73, go_sem]) rfl ⟨rfl, (Below.refl _ _).alloc (Nat.le_refl _) _⟩
end Go.Proofs.Ytpddnbkmiogheaa
