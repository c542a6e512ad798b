import Derived.Test.YtfjpbkdijglfdaaDoorSha16
import Derived.Laws.BitsAllLaws
set_option linter.unusedVariables false
namespace Go.Proofs.YtfjpbkdijglfdaaDoor
open Go.RowKit
theorem xor8 (a b : UInt8) : bits BinOp.xor IntKind.u8 (a.toNat : Int) (b.toNat : Int) = ((a ^^^ b).toNat : Int) := by
  rw [u8_xor_nat _ _ a.toNat_lt b.toNat_lt, UInt8.toNat_xor]
/-- The key, not longer than a block. -/
def hkeyZ (key : List UInt8) : List UInt8 := if 64 < key.length then shaZ key else key
theorem hkeyZ_len (key : List UInt8) : (hkeyZ key).length ≤ 64 := by
  unfold hkeyZ; split
  · rw [shaZ_len]; omega
  · omega
/-- .. filled up. -/
def blkZ (key : List UInt8) : List UInt8 := hkeyZ key ++ List.replicate (64 - (hkeyZ key).length) 0
theorem blkZ_len (key : List UInt8) : (blkZ key).length = 64 := by
  have := hkeyZ_len key
  rw [blkZ, List.length_append, List.length_replicate]; omega
def xorZ (l : List UInt8) (x : UInt8) : List UInt8 := l.map (· ^^^ x)
theorem xorZ_len (l : List UInt8) (x : UInt8) : (xorZ l x).length = l.length := by simp [xorZ]
/-- HMAC. -/
def macZ (key msg : List UInt8) : List UInt8 := shaZ (xorZ (blkZ key) 92 ++ shaZ (xorZ (blkZ key) 54 ++ msg))
theorem macZ_len (key msg : List UInt8) : (macZ key msg).length = 32 := shaZ_len _
theorem xorZ_take (l : List UInt8) (x : UInt8) (k : Nat) (h : k < l.length) : (xorZ l x).take (k + 1) = (xorZ l x).take k ++ [l[k] ^^^ x] := by
  rw [List.take_succ_eq_append_getElem (by rw [xorZ_len]; exact h)]
  simp [xorZ]
end Go.Proofs.YtfjpbkdijglfdaaDoor
