import Derived.Test.YtkpfbjlbllpahaaDoorMk7
import Derived.Test.YtkpfbjlbllpahaaDoorMk2
import Derived.Test.YtkpfbjlbllpahaaDoorMl3
import Derived.Laws.MakeOwn
import Derived.Deep.RegionHeld3
set_option linter.unusedVariables false
namespace Go.Proofs.YtkpfbjlbllpahaaDoor
open Go.RowKit
/-- The hash beside the way at depth d. -/
def sideB (W : Int) (fs : List Bool) (hs : List ByteArray) (d : Nat) : ByteArray := if fs.getD d false = true then hs.getD ((fs.take d).count true) ⟨#[]⟩ else emptyB W
/-- The text of the part that is s steps above the key's place. -/
def wayT (W : Int) (p : ByteArray) (fs : List Bool) (hs : List ByteArray) (t0 : ByteArray) : Nat → ByteArray
  | 0 => t0
  | s + 1 => if bitN p (fs.length - 1 - s) = 1 then aboveB W (sideB W fs hs (fs.length - 1 - s)) (cutB (wayT W p fs hs t0 s) W) else aboveB W (cutB (wayT W p fs hs t0 s) W) (sideB W fs hs (fs.length - 1 - s))
/-- The hash of that part. -/
def wayH (W : Int) (p : ByteArray) (fs : List Bool) (hs : List ByteArray) (h0 : ByteArray) : Nat → ByteArray
  | 0 => h0
  | s + 1 => if bitN p (fs.length - 1 - s) = 1 then joinB W (sideB W fs hs (fs.length - 1 - s)) (wayH W p fs hs h0 s) else joinB W (wayH W p fs hs h0 s) (sideB W fs hs (fs.length - 1 - s))
theorem way_hash (W : Int) (p : ByteArray) (fs : List Bool) (hs : List ByteArray) (t0 : ByteArray) : ∀ s, cutB (wayT W p fs hs t0 s) W = wayH W p fs hs (cutB t0 W) s
  | 0 => rfl
  | s + 1 => by
    have ih := way_hash W p fs hs t0 s
    simp only [wayT, wayH]
    split
    · rw [cut_above, ih]
    · rw [cut_above, ih]
theorem count_lt {fs : List Bool} {d : Nat} (hd : d < fs.length) (hx : fs[d] = true) : (fs.take d).count true < fs.count true := by
  have h1 := count_step d hd
  rw [hx, if_pos rfl] at h1
  have h2 : (fs.take (d + 1)).count true ≤ fs.count true := (List.take_sublist _ _).count_le _
  omega
theorem sideB_on {W : Int} {fs : List Bool} {hs : List ByteArray} {d : Nat} (hd : d < fs.length) (hx : fs[d] = true) (hc : (fs.take d).count true < hs.length) : sideB W fs hs d = hs[(fs.take d).count true] := by
  unfold sideB
  rw [List.getD_eq_getElem?_getD, List.getElem?_eq_getElem hd, Option.getD_some, if_pos hx, List.getD_eq_getElem?_getD, List.getElem?_eq_getElem hc, Option.getD_some]
theorem sideB_off {W : Int} {fs : List Bool} {hs : List ByteArray} {d : Nat} (hd : d < fs.length) (hx : fs[d] = false) : sideB W fs hs d = emptyB W := by
  unfold sideB
  rw [List.getD_eq_getElem?_getD, List.getElem?_eq_getElem hd, Option.getD_some, hx, if_neg (by simp)]
/-- What Check has found of the hashes beside the way. -/
structure Sided (m : Nat) (fs : List Bool) (hs : List ByteArray) : Prop where
  width : 1 ≤ m ∧ m ≤ 32
  full : fs.length = 8 * m
  count : hs.length = fs.count true
  sized : ∀ j (h : j < hs.length), hs[j].size = m
theorem Sided.of {m : Nat} {fs : List Bool} {hs : List ByteArray} (h : sidedZ m fs hs = 0) (h1 : 1 ≤ m ∧ m ≤ 32) : Sided m fs hs := by
  unfold sidedZ at h
  split at h
  · omega
  · rename_i h72
    split at h
    · omega
    · rename_i h71
      refine ⟨h1, by omega, by omega, fun j hj => ?_⟩
      by_cases e : (hs[j].size : Int) = m
      · omega
      · exact absurd ⟨_, List.getElem_mem hj, e⟩ h72
section
variable {m : Nat} {fs : List Bool} {hs : List ByteArray} (S : Sided m fs hs)
theorem Sided.side_size (S : Sided m fs hs) (d : Nat) (hd : d < fs.length) : (sideB m fs hs d).size = m := by
  cases hx : fs[d]
  · rw [sideB_off hd hx, emptyB, cutB_size, widN_in (by have := S.width; omega) (by have := S.width; omega)]; omega
  · have hc : (fs.take d).count true < hs.length := by rw [S.count]; exact count_lt hd hx
    rw [sideB_on hd hx hc]; exact S.sized _ hc
theorem Sided.way_size (S : Sided m fs hs) (p t0 : ByteArray) (ht : t0.size ≤ 4194304) : ∀ s, s ≤ fs.length → (wayT m p fs hs t0 s).size ≤ 4194304
  | 0, _ => ht
  | s + 1, h => by
    have h1 := S.side_size (fs.length - 1 - s) (by omega)
    have h2 := cutB_size (wayT m p fs hs t0 s) m
    have h3 := widN_le m
    have h4 := S.width
    simp only [wayT]
    split
    · exact Nat.le_trans (above_size _ _ _ (by omega) (by omega)) (by omega)
    · exact Nat.le_trans (above_size _ _ _ (by omega) (by omega)) (by omega)
end
end Go.Proofs.YtkpfbjlbllpahaaDoor
