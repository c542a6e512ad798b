import Derived.Test.YtkpfbjlbllpahaaDoorSha11
import Derived.WalkSpells
import Derived.WalkLawsBesides
set_option linter.unusedVariables false
namespace Go.Proofs.YtkpfbjlbllpahaaDoor
open Go.RowKit
def strLen : Value → Nat
  | .string s => s.size
  | _ => 0
theorem Laid.only {w w' : World} {hb : Nat} (h : Laid w) (hg : w.grownBy w' (some hb)) (h4 : 4 ≤ hb) : Laid w' :=
  h.grown hg.size fun p hp => World.cell?_of_block (hg.block p.block (by have := h.size; omega) (by intro e; injection e with e; omega))
theorem ext_take (x : ByteArray) (n : Nat) : (x.extract 0 n).data.toList = x.data.toList.take n := by
  simp [ByteArray.data_extract, Array.toList_extract, List.extract]
theorem ext_drop (x : ByteArray) (n : Nat) : (x.extract n x.size).data.toList = x.data.toList.drop n := by
  rw [ByteArray.data_extract, Array.toList_extract, List.extract_eq_take_drop]
  exact List.take_of_length_le (by simp)
theorem toList_eq (x : ByteArray) (l : List UInt8) (h : x.data.toList = l) : x = ⟨l.toArray⟩ := by
  subst h; rfl
set_option maxRecDepth 100000 in
set_option maxHeartbeats 1000000 in
theorem blocks_calls (hb : Nat) (st : List Int) (tl : Array Value) (hst : stOk st) (q : ByteArray) (w : World) (hL : Laid w) (hS : w.heap[hb]? = some (.cells (hcells st tl) 159 (0, 0))) (h4 : 4 ≤ hb) :
    Calls Tryd.prog 124 #[.string q, .func (.func 123) #[.pointer (some ⟨hb, 0, none⟩)] #[]] w fun e w' => e = .returned (.string ⟨(leftZ q.data.toList).toArray⟩) ∧
      w'.heap[hb]? = some (.cells (hcells (feedZ st q.data.toList) tl) 159 (0, 0)) ∧ w.grownBy w' (some hb) := by
  have HL := Lib.hid hL
  have HS := Lib.hid hS
  have HST := Lib.hid hst
  clear hL hS hst
  go_enter Tryd.func124, Tryd.ntmps124
  go_wp2
  go_loopw [0] (fun xv wr => ∃ (x : ByteArray) (j : Nat), xv = .string x ∧ Hid (x.data.toList = q.data.toList.drop (64 * j) ∧ 64 * j ≤ q.data.toList.length) ∧ Hid (wr.heap[hb]? = some (.cells (hcells (feedN st q.data.toList j) tl) 159 (0, 0))) ∧ Hid (w.grownBy wr (some hb))) (fun xv _ => strLen xv)
  case atStart => exact ⟨q, 0, rfl, Lib.hid ⟨by simp, by omega⟩, HS, Lib.hid (World.grownBy.refl _ _)⟩
  case round =>
    obtain ⟨x, j, rfl, HX, HH, HG⟩ := hrel
    have hxl : x.data.toList.length = x.size := by simp
    have HXL := Lib.hid hxl
    clear hxl
    by_cases hlt : 64 ≤ x.size
    · have hlti : (64 : Int) ≤ (x.size : Int) := by omega
      have hex : (x.extract 0 64).size = 64 := by rw [ByteArray.size_extract]; omega
      have C := Lib.hid (take_calls hb (feedN st q.data.toList j) tl (feedN_ok HST.out _ _) (x.extract 0 64) hex wr (HL.out.only HG.out h4) HH.out h4)
      have HEX := Lib.hid hex
      clear hex
      go_wp2_with (go_at_call 123; (with_reducible refine C.out.mono ?_); rintro e w1 ⟨rfl, hh1, hg1⟩; have HH1 := Lib.hid hh1; have HG1 := Lib.hid hg1; clear hh1 hg1)
      go_roundw
      case rel =>
        obtain ⟨h1, h2⟩ := HX.out
        have h3 := HXL.out
        refine ⟨_, j + 1, rfl, Lib.hid ⟨?_, ?_⟩, ?_, Lib.hid (only_trans HG.out HG1.out)⟩
        · rw [ext_drop, h1, List.drop_drop]; congr 1
        · rw [h1, List.length_drop] at h3; omega
        · have e : feedN st q.data.toList (j + 1) = takeZ (feedN st q.data.toList j) (x.extract 0 64).data.toList := by
            rw [feedN, ext_take, h1]
          rw [e]; exact HH1
      case measure => simp [strLen]; omega
    · have hlti : (x.size : Int) < 64 := by omega
      obtain ⟨h1, h2⟩ := HX.out
      have h3 := HXL.out
      have hj : j = q.data.toList.length / 64 := by rw [h1, List.length_drop] at h3; omega
      have hx : x = ⟨(leftZ q.data.toList).toArray⟩ := toList_eq _ _ (by rw [h1, hj]; rfl)
      have hh := HH.out
      rw [hj, show feedN st q.data.toList (q.data.toList.length / 64) = feedZ st q.data.toList from rfl] at hh
      have HHH := Lib.hid hh
      have HXX := Lib.hid hx
      clear hh h1 h2 h3 hj hx
      go_wp2
      go_ret
      exact ⟨congrArg (fun s => Ending.returned (.string s)) HXX.out, HHH.out, HG.out⟩
end Go.Proofs.YtkpfbjlbllpahaaDoor
