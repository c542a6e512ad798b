import Derived.Test.YtkpfbjlbllpahaaDoorMk5
import Derived.Test.YtkpfbjlbllpahaaDoorByt
set_option linter.unusedVariables false
namespace Go.Proofs.YtkpfbjlbllpahaaDoor
open Go.RowKit
set_option maxRecDepth 100000 in
set_option maxHeartbeats 2000000 in
/-- What a proof puts at the key's place: the text. -/
theorem mbottom_calls (key : ByteArray) (W : Int) (f b : Bool) (o v : ByteArray) (F H : Value) (hk : key.size ≤ 1048576) (ho : o.size ≤ 1048576) (hv : v.size ≤ 1048576) (w : World) :
    Calls Tryd.prog 88 #[.string key, .agg #[.int .i64 W, .bool f, .bool b, .string o, .string v, F, H]] w fun e w' => e = .returned (.string (if f then saidB key v else if b then saidB o v else ⟨#[]⟩)) ∧ Below w.heap.size w w' := by
  have C1 := Lib.hid (fun w => msaid_calls key v hk hv w)
  have C2 := Lib.hid (fun w => msaid_calls o v ho hv w)
  have HB0 := Lib.hid ((Below.refl w.heap.size w).alloc (Nat.le_refl _) (.cells #[.int .i64 W, .bool f, .bool b, .string o, .string v, F, H] 25))
  generalize saidB key v = x1 at *
  generalize saidB o v = x2 at *
  cases f <;> cases b
  all_goals
    go_enter Tryd.func88, Tryd.ntmps88
    go_wp2_with (first
      | (go_at_call 105; (with_reducible refine (C1.out _).mono ?_); rintro e w1 ⟨rfl, hb1⟩; have HB1 := Lib.hid (HB0.out.trans (hb1.mono (by simp))); clear hb1)
      | (go_at_call 105; (with_reducible refine (C2.out _).mono ?_); rintro e w1 ⟨rfl, hb1⟩; have HB1 := Lib.hid (HB0.out.trans (hb1.mono (by simp))); clear hb1))
    go_ret
    first
      | exact ⟨rfl, HB1.out⟩
      | exact ⟨rfl, HB0.out⟩
/-- The bytes of a number, the greatest first, as far as they are laid. -/
def beU (n j : Nat) : List UInt8 := (List.range j).map fun i => UInt8.ofNat (n / 2 ^ (8 * (7 - i)))
theorem beU_len (n j : Nat) : (beU n j).length = j := by simp [beU]
theorem beU_step (n j : Nat) : beU n (j + 1) = beU n j ++ [UInt8.ofNat (n / 2 ^ (8 * (7 - j)))] := by simp [beU, List.range_succ]
theorem beU_be8 (n : Nat) : (be8Z n).data.toList = beU n 8 := by
  have e : ∀ k : Nat, (UInt8.ofNat ((n : Int) / (2 ^ (8 * k) : Nat) % 256).toNat) = UInt8.ofNat (n / 2 ^ (8 * k)) := fun k => by
    apply UInt8.toNat_inj.1
    rw [UInt8.toNat_ofNat', UInt8.toNat_ofNat', show ((n : Int) / (2 ^ (8 * k) : Nat) % 256) = ((n / 2 ^ (8 * k) % 256 : Nat) : Int) by omega, Int.toNat_natCast]
    omega
  have e0 := e 0
  have e1 := e 1
  have e2 := e 2
  have e3 := e 3
  have e4 := e 4
  have e5 := e 5
  have e6 := e 6
  have e7 := e 7
  simp at e0 e1 e2 e3 e4 e5 e6 e7
  unfold be8Z be8L beU
  simp [strOfNums, List.range_succ, e0, e1, e2, e3, e4, e5, e6, e7]
end Go.Proofs.YtkpfbjlbllpahaaDoor
