/- The statement QueuePromisedUpto, tied: for every input whose bulk is at most 1048576 the law answers true, and its arguments read behind the call as before. The condition: the bulk. -/
import Derived.Test.YtfjpbkdijglfdaaDoorCards
import Derived.Test.YtfjpbkdijglfdaaDoorTie
import Derived.Test.YtfjpbkdijglfdaaDoorPrm5
import Derived.WalkKit
import Derived.ProofKit
import Derived.OpenShut
import Derived.Lib.SmallJoins
import Derived.Stop.LaidErr
import Derived.Deep.DeepHandedRow
import Derived.Lib.LaidTab
set_option linter.unusedVariables false
namespace Go.Proofs.YtfjpbkdijglfdaaDoor.queuePromisedLaw
open Go.ChangeShapes Go.WideShapes Go.ChangeAt Go.RowKit
open Go.ChangeMaps (open_string shut_string)
theorem own : ownKnob Tryd.prog.godebug = none := by kernel_rfl
theorem gFirst : Tryd.prog.globalNamed "annals/annalsref2.first" = some 0 := by kernel_rfl
theorem gBegin : Tryd.prog.globalNamed "annals/sha.begin" = some 1 := by kernel_rfl
theorem gRtable : Tryd.prog.globalNamed "annals/annalsref2.table" = some 2 := by kernel_rfl
theorem gTable : Tryd.prog.globalNamed "annals/sha.table" = some 3 := by kernel_rfl
theorem tFirst : (Tryd.prog.globals[0]?).map (·.type) = some 37 := by kernel_rfl
theorem tBegin : (Tryd.prog.globals[1]?).map (·.type) = some 42 := by kernel_rfl
theorem tRtable : (Tryd.prog.globals[2]?).map (·.type) = some 54 := by kernel_rfl
theorem tTable : (Tryd.prog.globals[3]?).map (·.type) = some 54 := by kernel_rfl
theorem c36 : Tryd.prog.cellsOf 36 = 1 := by kernel_rfl
theorem c37 : Tryd.prog.cellsOf 37 = 8 := by kernel_rfl
theorem c42 : Tryd.prog.cellsOf 42 = 8 := by kernel_rfl
theorem c54 : Tryd.prog.cellsOf 54 = 64 := by kernel_rfl
/-- What the row's list gives. -/
theorem tables {W : World} (h : laidMetH Tryd.prog Rows.queuePromisedUptoRow.laid W) : Laid W := by
  have h0 : laidMet Tryd.prog [("annals/annalsref2.first", Lib.tabData .u32 beginZ), ("annals/annalsref2.table", Lib.tabData .u32 tabZ), ("annals/sha.begin", Lib.tabData .u32 beginZ), ("annals/sha.table", Lib.tabData .u32 tabZ)] W := h
  have a0 := Lib.tabIs_of_head gFirst tFirst Tryd.underlying37 Tryd.underlying36 c36 c37 h0
  have a1 := Lib.tabIs_of_head gRtable tRtable Tryd.underlying54 Tryd.underlying36 c36 c54 h0.tail
  have a2 := Lib.tabIs_of_head gBegin tBegin Tryd.underlying42 Tryd.underlying36 c36 c42 h0.tail.tail
  have a3 := Lib.tabIs_of_head gTable tTable Tryd.underlying54 Tryd.underlying36 c36 c54 h0.tail.tail.tail
  have k3 : W.cell? ⟨3, 0, none⟩ = some (.int .u32 (tabZ.getD 0 0)) := a3.cell gTable 0 (by decide)
  refine ⟨?_, fun j hj => a0.cell gFirst j hj, fun j hj => a2.cell gBegin j hj, fun j hj => a1.cell gRtable j hj, fun j hj => a3.cell gTable j hj⟩
  by_cases hlt : 3 < W.heap.size
  · omega
  · exfalso
    have hn : W.heap[3]? = none := Array.getElem?_eq_none (by omega)
    simp [World.cell?, hn] at k3
def lay (zs : List Int) : Obj → Obj
  | .cells _ t frozen => .cells (zs.map fun z => Value.int .u32 z).toArray t frozen
  | o => o
/-- A world for the witness. -/
noncomputable def laidWorld (os : Os) : World :=
  { World.holding Tryd.prog os ⟨#[], #[], []⟩ with heap := ((((World.holding Tryd.prog os ⟨#[], #[], []⟩).heap.modify 0 (lay beginZ)).modify 1 (lay beginZ)).modify 2 (lay tabZ)).modify 3 (lay tabZ) }
noncomputable def wit : Array Value := #[.string ⟨#[]⟩, .string ⟨#[]⟩, .agg #[.string ⟨#[]⟩, .int .i64 0, .int .i64 0, .string ⟨#[]⟩]]
theorem laid_met (os : Os) : laidMet Tryd.prog Rows.queuePromisedUptoRow.laid ((laidWorld os).forCall (fun _ _ => 0) ⟨#[], wit, []⟩).memory :=
  laidMet_of_run' 8 (by kernel_rfl) (by kernel_rfl)
theorem reads (os : Os) {H : Type} (enc : TypeId × Value → H) : ∃ places, DataW.whole enc Tryd.prog ((laidWorld os).forCall (fun _ _ => 0) ⟨#[], wit, []⟩).memory Tryd.f3.params.toList Rows.queuePromisedSpec.vars false wit.toList 8 = some ([.lit (.string []), .lit (.string []), .agg [.lit (.string []), .lit (.int .i64 0), .lit (.int .i64 0), .lit (.string [])]], [], places) :=
  ⟨[], by kernel_rfl⟩
theorem str_of {H : Type} {enc : TypeId × Value → H} {W : World} {b : Nat} {sp : Nat → Bool} {hd : Bool} {n t : Nat} {v : Value} {y : DataW H × List MemPlace} (ht : Tryd.prog.underlying t = some .string) (h : DataW.trod enc Tryd.prog W b sp hd n t [v] = some y) :
    ∃ s : ByteArray, v = .string s ∧ y = (.lit (.string s.data.toList), []) ∧ s.size ≤ maxLen := by
  obtain ⟨s, h1, h2, h3⟩ := DataW.trod_string ht h
  exact ⟨s, by simpa using h1, h2, h3⟩
theorem int_of {H : Type} {enc : TypeId × Value → H} {W : World} {b : Nat} {sp : Nat → Bool} {hd : Bool} {n t : Nat} {v : Value} {y : DataW H × List MemPlace} (ht : Tryd.prog.underlying t = some (.int .i64)) (h : DataW.trod enc Tryd.prog W b sp hd n t [v] = some y) :
    ∃ z : Int, v = .int .i64 z ∧ y = (.lit (.int .i64 z), []) ∧ (Lit.int .i64 z).wf = true := by
  obtain ⟨s, h1, h2, h3⟩ := DataW.trod_int ht h
  exact ⟨s, by simpa using h1, h2, h3⟩
theorem contract (H : Type) (enc : TypeId × Value → H) (W : World) (base : Nat) (args : Array Value) (ds gs : List (DataW H)) (before : List MemPlace)
    (hval : ∀ (j : Nat) t v, Tryd.f3.params[j]? = some t → args[j]? = some v → Value.okWide Tryd.prog W .any base t v)
    (hW : DataW.Whole enc Tryd.prog Tryd.f3.params.toList Rows.queuePromisedSpec.vars false W args.toList ds gs before) (hk : Rows.uptoBulkAll (ds ++ gs) ≤ 1048576) (hL : laidMetH Tryd.prog Rows.queuePromisedUptoRow.laid W) :
    Calls Tryd.prog 3 args W fun e W' => ∃ v, e = .returned v ∧ Rows.queuePromisedSpec.post enc Tryd.prog Tryd.f3 false true false false W args v W' := by
  have hW' := hW
  obtain ⟨p, q, hA0, hV, rfl, hfz, hnd⟩ := hW
  have hA : DataW.TrodAll enc Tryd.prog W 0 (fun _ => true) true Tryd.f3.params.toList args.toList ds p := hA0
  rw [Tryd.params3] at hA hval
  obtain ⟨v0, vs0, d0, ds0, p0, q0, hargs, rfl, rfl, h0, r0⟩ := trodAll_cons hA
  obtain ⟨v1, vs1, d1, ds1, p1, q1, rfl, rfl, rfl, h1, r1⟩ := trodAll_cons r0
  obtain ⟨v2, vs2, d2, ds2, p2, q2, rfl, rfl, rfl, h2, r2⟩ := trodAll_cons r1
  obtain ⟨rfl, rfl, rfl⟩ := trodAll_nil r2
  obtain rfl : args = #[v0, v1, v2] := by cases args; simpa using hargs
  obtain ⟨rfl, rfl⟩ := trodVars_none hV
  obtain ⟨s, rfl, rfl, rfl, z0⟩ := open_string Tryd.underlying9 (hval 0 9 v0 rfl rfl) h0
  obtain ⟨l, rfl, rfl, rfl, z1⟩ := open_string Tryd.underlying9 (hval 1 9 v1 rfl rfl) h1
  obtain ⟨u0, u1, u2, u3, y0, y1, y2, y3, n, rfl, rfl, rfl, g0, g1, g2, g3⟩ := Joins.open_agg4 Tryd.underlying23 (by kernel_rfl) (by kernel_rfl) (hval 2 23 v2 rfl rfl) h2
  obtain ⟨x, rfl, rfl, zx⟩ := str_of Tryd.underlying9 g0
  obtain ⟨T, rfl, rfl, zT⟩ := int_of Tryd.underlying3 g1
  obtain ⟨D, rfl, rfl, zD⟩ := int_of Tryd.underlying3 g2
  obtain ⟨m, rfl, rfl, zm⟩ := str_of Tryd.underlying9 g3
  simp only [List.append_nil, Rows.uptoBulkAll, Rows.uptoBulk, Array.length_toList] at hk
  have e0 : s.size = s.data.size := rfl
  have e1 : l.size = l.data.size := rfl
  have e2 : x.size = x.data.size := rfl
  have e3 : m.size = m.data.size := rfl
  have bT := bounds_i64 zT
  have bD := bounds_i64 zD
  clear hA0
  simp only [List.append_nil] at hW'
  refine (queuePromised_walk s l x m T D (by omega) (by omega) (by omega) (by omega) bT.1 bT.2 bD.1 bD.2 W (tables hL)).mono fun e W' ⟨he, bel⟩ => ?_
  subst he
  have sh : ∀ (b : Nat) (sp : Nat → Bool) (hd : Bool), DataW.Trod enc Tryd.prog W' b sp hd 23 (.agg #[.string x, .int .i64 T, .int .i64 D, .string m]) (.agg [.lit (.string x.data.toList), .lit (.int .i64 T), .lit (.int .i64 D), .lit (.string m.data.toList)]) [] := fun b sp hd =>
    Joins.shut_agg4 Tryd.underlying23 (by kernel_rfl) (by kernel_rfl) (y0 := (_, [])) (y1 := (_, [])) (y2 := (_, [])) (y3 := (_, []))
      ⟨1, by simp [DataW.trod, Tryd.underlying9, zx]⟩ ⟨1, by simp [DataW.trod, Tryd.underlying3, zT]⟩ ⟨1, by simp [DataW.trod, Tryd.underlying3, zD]⟩ ⟨1, by simp [DataW.trod, Tryd.underlying9, zm]⟩
  exact ⟨_, rfl, _, _, _, [], _, [], hW', trodAll_mk1 (shut_bool Tryd.underlying4 _), (trodAll_cons_mk (shut_string Tryd.underlying9 z0) (trodAll_cons_mk (shut_string Tryd.underlying9 z1) (trodAll_cons_mk (sh _ _ _) trodAll_mk0))), rfl, bel.frame _, fun h => by cases h⟩
set_option maxRecDepth 100000 in
theorem liftedUpto (os : Os) (started : os.Started) (H : Type) (enc : TypeId × Value → H) (F : Stop.Interp) :
    ReturnsInHanded {} Tryd.checked os 3 .any ((Rows.OpenSpec.upto Rows.queuePromisedSpec).preRow enc Tryd.prog Tryd.f3 Rows.queuePromisedUptoRow.domain false Rows.queuePromisedUptoRow.laid) (((Rows.OpenSpec.upto Rows.queuePromisedSpec).at F).post enc Tryd.prog Tryd.f3 false true false false) := by
  obtain ⟨places, hx⟩ := reads os enc
  refine returnsInHanded_of_row (C := Tryd.checked) (s := Rows.OpenSpec.upto Rows.queuePromisedSpec) own started (by kernel_rfl) Tryd.func3
    (witness_row_at (enc := enc) (C := Tryd.checked) false (laidWorld os) wit rfl (by kernel_rfl) (by kernel_rfl) (by kernel_rfl)
      (OpenSpec.preRow_of_cond 8 hx (by kernel_rfl) (fun k hk => by cases hk; kernel_rfl) (by kernel_rfl) (laid_met os))) ?_
  intro W base args ds gs before hval hW _ hcond _ hL _ _
  exact contract H enc W base args ds gs before hval hW (of_decide_eq_true (hcond _ rfl)) hL
theorem saidUpto : Rows.QueuePromisedUptoSaid :=
  OpenClaim.holds_of_cond 3 Tryd.f3 rfl rfl rfl rfl rfl rfl rfl ⟨rfl, rfl, rfl, rfl, rfl⟩ rfl rfl rfl rfl rfl (by kernel_rfl) Tryd.func3 (by kernel_rfl)
    (of_decide_eq_true (by kernel_rfl)) (by unfold Func.isWrapper; first | (rw [if_pos (by decide +kernel)]; kernel_rfl) | (rw [if_neg (by decide +kernel)]; exact ⟨rfl, rfl⟩))
    (fun os started H enc _ F => by rw [OpenClaim.pre_eq_preRow]; exact liftedUpto os started H enc F)
theorem plain (f : FuncId) (fn : Func) (hf : Tryd.pinned.checked.prog.funcNamed "annals/annalslaw21.QueuePromised" = some f) (hfn : Tryd.pinned.checked.prog.funcs[f]? = some fn) :
    false = Tryd.pinned.checked.prog.looks [] ∧ ∀ (j : Nat) t, fn.params[j]? = some t → Tryd.pinned.checked.prog.wantsStandIn t = false := by
  obtain rfl : f = 3 := Option.some.inj ((show Tryd.prog.funcNamed "annals/annalslaw21.QueuePromised" = some 3 by kernel_rfl).symm.trans hf) |>.symm
  obtain rfl : fn = Tryd.f3 := (Option.some.inj (Tryd.func3.symm.trans hfn)).symm
  refine ⟨by kernel_rfl, fun j t ht => ?_⟩
  rw [Tryd.params3] at ht
  obtain rfl | rfl : t = 9 ∨ t = 23 := by
    have := Array.mem_of_getElem? ht
    simp at this
    omega
  · exact (show Tryd.prog.wantsStandIn 9 = false by kernel_rfl)
  · exact (show Tryd.prog.wantsStandIn 23 = false by kernel_rfl)
theorem cardUpto : Rows.QueuePromisedUptoCardSaid :=
  Claim7.holds_tied_plain_at .later [] _ _ _ _ saidUpto (fun _ h => by cases h) (by kernel_rfl) (fun _ h => by cases h) queuePromisedUpto_row_tie rfl ⟨rfl, rfl⟩ (by kernel_rfl) rfl plain (by kernel_rfl)
end Go.Proofs.YtfjpbkdijglfdaaDoor.queuePromisedLaw
namespace Go.Proofs.YtfjpbkdijglfdaaDoor
theorem queuePromised_holds : Rows.QueuePromisedUptoCardSaid := queuePromisedLaw.cardUpto
#print axioms queuePromised_holds
end Go.Proofs.YtfjpbkdijglfdaaDoor
