import Derived.Test.YtkpfbjlbllpahaaDoorRows
import Derived.Test.YtkpfbjlbllpahaaDoorSha6
import Derived.WalkKit
import Derived.ProofKit
import Derived.OpenShut
import Derived.Lib.SmallJoins
import Derived.Stop.LaidErr
import Derived.Deep.DeepHandedRow
import Derived.Lib.LaidTab
set_option linter.unusedVariables false
namespace Go.Proofs.YtkpfbjlbllpahaaDoor
open Go.ChangeShapes Go.WideShapes Go.ChangeAt Go.RowKit
theorem own : ownKnob Tryd.prog.godebug = none := by kernel_rfl
theorem laidOut : laidOutB Tryd.prog = true := by kernel_rfl
theorem gFirst : Tryd.prog.globalNamed "annals/annalsref2.first" = some 0 := by kernel_rfl
theorem gBegin : Tryd.prog.globalNamed "annals/sha.begin" = some 1 := by kernel_rfl
theorem gRtable : Tryd.prog.globalNamed "annals/annalsref2.table" = some 2 := by kernel_rfl
theorem gTable : Tryd.prog.globalNamed "annals/sha.table" = some 3 := by kernel_rfl
theorem tFirst : (Tryd.prog.globals[0]?).map (·.type) = some 144 := by kernel_rfl
theorem tBegin : (Tryd.prog.globals[1]?).map (·.type) = some 156 := by kernel_rfl
theorem tRtable : (Tryd.prog.globals[2]?).map (·.type) = some 163 := by kernel_rfl
theorem tTable : (Tryd.prog.globals[3]?).map (·.type) = some 163 := by kernel_rfl
theorem cW : Tryd.prog.cellsOf 143 = 1 := by kernel_rfl
theorem cFirst : Tryd.prog.cellsOf 144 = 8 := by kernel_rfl
theorem cBegin : Tryd.prog.cellsOf 156 = 8 := by kernel_rfl
theorem cTable : Tryd.prog.cellsOf 163 = 64 := by kernel_rfl
/-- What a row's list gives. -/
theorem tables {W : World} (h0 : laidMet Tryd.prog [("annals/annalsref2.first", Lib.tabData .u32 beginZ), ("annals/annalsref2.table", Lib.tabData .u32 tabZ), ("annals/sha.begin", Lib.tabData .u32 beginZ), ("annals/sha.table", Lib.tabData .u32 tabZ)] W) : Laid W := by
  have a0 := Lib.tabIs_of_head gFirst tFirst Tryd.underlying144 Tryd.underlying143 cW cFirst h0
  have a1 := Lib.tabIs_of_head gRtable tRtable Tryd.underlying163 Tryd.underlying143 cW cTable h0.tail
  have a2 := Lib.tabIs_of_head gBegin tBegin Tryd.underlying156 Tryd.underlying143 cW cBegin h0.tail.tail
  have a3 := Lib.tabIs_of_head gTable tTable Tryd.underlying163 Tryd.underlying143 cW cTable h0.tail.tail.tail
  have k3 : W.cell? ⟨3, 0, none⟩ = some (.int .u32 (tabZ.getD 0 0)) := a3.cell gTable 0 (by decide)
  refine ⟨?_, fun j hj => a0.cell gFirst j hj, fun j hj => a2.cell gBegin j hj, fun j hj => a1.cell gRtable j hj, fun j hj => a3.cell gTable j hj⟩
  by_cases hlt : 3 < W.heap.size
  · omega
  · exfalso
    have hn : W.heap[3]? = none := Array.getElem?_eq_none (by omega)
    simp [World.cell?, hn] at k3
def lay (zs : List Int) : Obj → Obj
  | .cells _ t frozen => .cells (zs.map fun z => Value.int .u32 z).toArray t frozen
  | o => o
/-- A world for the witness. -/
noncomputable def laidWorld (os : Os) : World :=
  { World.holding Tryd.prog os ⟨#[], #[], []⟩ with heap := ((((World.holding Tryd.prog os ⟨#[], #[], []⟩).heap.modify 0 (lay beginZ)).modify 1 (lay beginZ)).modify 2 (lay tabZ)).modify 3 (lay tabZ) }
end Go.Proofs.YtkpfbjlbllpahaaDoor
