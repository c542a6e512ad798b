import Derived.Test.YtkpfbjlbllpahaaDoorProg
import Derived.WalkKit
import Derived.Lib.Hide
import Derived.Deep.QuietTactic
import Derived.BigQuiet
import Derived.IntWalk
set_option linter.unusedVariables false
namespace Go.Proofs.YtkpfbjlbllpahaaDoor
open Go.RowKit
/-- x turned right by n. -/
def rotI (x : Int) (n : Nat) : Int := bits BinOp.or IntKind.u32 (x / 2 ^ n) (x * 2 ^ (32 - n) % 4294967296)
theorem or_comm32 (a b : Int) : bits BinOp.or IntKind.u32 a b = bits BinOp.or IntKind.u32 b a := by
  simp only [bits]; rw [BitVec.or_comm]
theorem wrap32_rng (x : Int) : 0 ≤ IntKind.u32.wrap x ∧ IntKind.u32.wrap x ≤ 4294967295 := by rw [IntKind.wrap_u32]; omega
theorem bits32_rng (o : BinOp) (a b : Int) : 0 ≤ bits o IntKind.u32 a b ∧ bits o IntKind.u32 a b ≤ 4294967295 := by
  unfold bits; exact wrap32_rng _
theorem rotI_rng (x : Int) (n : Nat) : 0 ≤ rotI x n ∧ rotI x n ≤ 4294967295 := bits32_rng _ _ _
set_option maxHeartbeats 1000000 in
theorem rotr_calls (x : Int) (n : Nat) (h0 : 0 ≤ x) (h1 : x ≤ 4294967295) (n0 : 1 ≤ n) (n1 : n ≤ 31) (w : World) :
    Calls Tryd.prog 129 #[.int .u32 x, .int .u64 n] w fun e w' => e = .returned (.int .u32 (rotI x n)) ∧ w = w' := by
  go_enter Tryd.func129, Tryd.ntmps129
  go_wp2
  go_ret
  exact ⟨rfl, rfl⟩
set_option maxHeartbeats 1000000 in
theorem turned_calls (x : Int) (n : Nat) (h0 : 0 ≤ x) (h1 : x ≤ 4294967295) (n0 : 1 ≤ n) (n1 : n ≤ 31) (w : World) :
    Calls Tryd.prog 143 #[.int .u32 x, .int .i64 n] w fun e w' => e = .returned (.int .u32 (rotI x n)) ∧ w = w' := by
  have hb : bits BinOp.and IntKind.u64 (IntKind.u64.wrap (-(n : Int))) 31 = ((32 - n : Nat) : Int) := by
    have h : n = 1 ∨ n = 2 ∨ n = 3 ∨ n = 4 ∨ n = 5 ∨ n = 6 ∨ n = 7 ∨ n = 8 ∨ n = 9 ∨ n = 10 ∨ n = 11 ∨ n = 12 ∨ n = 13 ∨ n = 14 ∨ n = 15 ∨ n = 16 ∨ n = 17 ∨ n = 18 ∨ n = 19 ∨ n = 20 ∨ n = 21 ∨ n = 22 ∨ n = 23 ∨ n = 24 ∨ n = 25 ∨ n = 26 ∨ n = 27 ∨ n = 28 ∨ n = 29 ∨ n = 30 ∨ n = 31 := by omega
    rcases h with h | h | h | h | h | h | h | h | h | h | h | h | h | h | h | h | h | h | h | h | h | h | h | h | h | h | h | h | h | h | h <;> subst h <;> decide
  obtain ⟨m, hm⟩ : ∃ m : Nat, m = 32 - n := ⟨_, rfl⟩
  rw [← hm] at hb
  have hm1 : m ≤ 31 := by omega
  have hm0 : 1 ≤ m := by omega
  have hm2 : 32 - m = n := by omega
  have hr : rotI x n = bits BinOp.or IntKind.u32 (x * 2 ^ m % 4294967296) (x / 2 ^ n) := by rw [or_comm32, hm]; rfl
  have HM := Lib.hid (And.intro hm hr)
  clear hm hr
  go_enter Tryd.func143, Tryd.ntmps143
  go_wp2
  exact bodyPost_ret (v := .int .u32 (bits BinOp.or IntKind.u32 (x * 2 ^ m % 4294967296) (x / 2 ^ n))) (by simp [results, Tryd.results143, go_sem]) rfl ⟨by rw [HM.out.2], rfl⟩
end Go.Proofs.YtkpfbjlbllpahaaDoor
