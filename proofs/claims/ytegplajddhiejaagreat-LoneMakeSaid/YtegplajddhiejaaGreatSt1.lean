import Derived.Test.YtegplajddhiejaaGreatProg
import Derived.Test.YtegplajddhiejaaGreatSp1
import Derived.Test.YtegplajddhiejaaGreatRw
import Derived.Below
import Derived.Lib.Hide
set_option linter.unusedVariables false
namespace Go.Proofs.YtegplajddhiejaaGreat
open Go.RowKit Go.WideMaps Go.Maps Go.MapKept
/-- Of the blocks that were there, none but those of F have turned. -/
structure Touch (F : List Nat) (w w' : World) : Prop where
  os : w'.os = w.os
  tape : w'.tape = w.tape
  output : w'.output = w.output
  size : w.heap.size ≤ w'.heap.size
  block : ∀ k, k < w.heap.size → k ∉ F → w'.heap[k]? = w.heap[k]?
theorem Touch.refl (F : List Nat) (w : World) : Touch F w w := ⟨rfl, rfl, rfl, Nat.le_refl _, fun _ _ _ => rfl⟩
theorem Touch.trans {F F1 : List Nat} {w w1 w2 : World} (h : Touch F w w1) (k : Touch F1 w1 w2) (hF : ∀ x ∈ F1, x ∈ F ∨ w.heap.size ≤ x) : Touch F w w2 :=
  ⟨k.os.trans h.os, k.tape.trans h.tape, k.output.trans h.output, Nat.le_trans h.size k.size, fun i hi hn => (k.block i (Nat.lt_of_lt_of_le hi h.size) (fun hm => by
    rcases hF i hm with h1 | h1
    · exact hn h1
    · omega)).trans (h.block i hi hn)⟩
theorem Touch.mono {F F1 : List Nat} {w w1 : World} (h : Touch F w w1) (hF : ∀ x ∈ F, x ∈ F1 ∨ w.heap.size ≤ x) : Touch F1 w w1 := (Touch.refl F1 w).trans h hF
theorem Touch.below {w w' : World} (h : Below w.heap.size w w') (F : List Nat) : Touch F w w' := ⟨h.os, h.tape, h.output, h.size, fun k hk _ => h.block k hk⟩
theorem Touch.then {F : List Nat} {w w1 w2 : World} (h : Touch F w w1) (k : Below w1.heap.size w1 w2) : Touch F w w2 := h.trans (Touch.below k []) (fun x hx => by cases hx)
theorem Touch.alloc {F : List Nat} {w w1 : World} (h : Touch F w w1) (o : Obj) : Touch F w (w1.alloc o) := h.then ((Below.refl _ _).alloc (Nat.le_refl _) o)
theorem Touch.drew {F : List Nat} {w w1 : World} (h : Touch F w w1) : Touch F w w1.drew := ⟨h.os, h.tape, h.output, h.size, h.block⟩
theorem Touch.drewN {F : List Nat} {w w1 : World} (h : Touch F w w1) (n : Nat) : Touch F w (w1.drewN n) := ⟨h.os, h.tape, h.output, h.size, h.block⟩
theorem Touch.setCell {F : List Nat} {w w1 : World} (h : Touch F w w1) {p : Addr} (hp : p.block ∈ F ∨ w.heap.size ≤ p.block) (u : Value) : Touch F w (w1.setCell p u) :=
  h.trans (F1 := [p.block]) ⟨rfl, rfl, rfl, by simp [World.setCell], fun k hk hn => Below.heap_setCell w1 p u k (fun e => hn (by simp [e]))⟩ (fun x hx => by simp at hx; subst hx; exact hp)
theorem Touch.grown {F : List Nat} {w w1 w2 : World} {row : Option Nat} (h : Touch F w w1) (hg : w1.grownBy w2 row) (hr : ∀ k, row = some k → k ∈ F ∨ w.heap.size ≤ k) : Touch F w w2 := by
  cases row with
  | none => exact h.trans (F1 := []) ⟨hg.os, hg.tape, hg.output, hg.size, fun k hk _ => hg.block k hk (by simp)⟩ (fun x hx => by cases hx)
  | some r => exact h.trans (F1 := [r]) ⟨hg.os, hg.tape, hg.output, hg.size, fun k hk hn => hg.block k hk (fun e => hn (by injection e with e; simp [e]))⟩ (fun x hx => by simp at hx; subst hx; exact hr _ rfl)
theorem Touch.cell {F : List Nat} {w w' : World} (h : Touch F w w') {p : Addr} (hp : p.block < w.heap.size) (hn : p.block ∉ F) : w'.cell? p = w.cell? p := World.cell?_of_block (w := w) (h.block p.block hp hn)
theorem Touch.frozen {F : List Nat} {w w' : World} (h : Touch F w w') {p : Addr} (hp : p.block < w.heap.size) (hn : p.block ∉ F) : w'.frozen? p = w.frozen? p := World.frozen?_of_block (w := w) (h.block p.block hp hn)
theorem Touch.toBelow {F : List Nat} {w w' : World} {B : Nat} (h : Touch F w w') (hB : B ≤ w.heap.size) (hF : ∀ x ∈ F, B ≤ x) : Below B w w' :=
  ⟨h.os, h.tape, h.output, h.size, fun k hk => h.block k (by omega) (fun hm => by have := hF k hm; omega)⟩
theorem Row.touch {F : List Nat} {w w' : World} {base size n : Nat} {v : Value} {xs : List Value} (h : Row w base size v n xs) (ht : Touch F w w') (hn : ∀ k, v.ownBlock = some k → k ∉ F) : Row w' base size v n xs :=
  h.of ht.size fun k hk => ht.block k (h.lt k hk).2 (hn k hk)
/-! A map of strings by strings. -/
def litK (k : ByteArray) : Lit := .string k.data.toList
def datE (r : Rec) : Lit × DataW Unit := (litK r.1, .lit (.string r.2.data.toList))
def toD (l : List Rec) : DataW Unit := .map (l.map datE)
theorem litK_inj {a b : ByteArray} (h : litK a = litK b) : a = b := by
  unfold litK at h
  injection h with h
  exact ByteArray.ext (Array.toList_inj.1 h)
theorem litK_same (a b : ByteArray) : (litK a).sameKey (litK b) = decide (a = b) := by
  show (a.data.toList == b.data.toList) = _
  by_cases e : a = b
  · subst e; simp
  · rw [decide_eq_false e, beq_eq_false_iff_ne]
    intro h; exact e (ByteArray.ext (Array.toList_inj.1 h))
theorem litK_before (a b : ByteArray) : (litK a).before (litK b) = kLt a b := rfl
theorem map_ins (x : Rec) : ∀ l : List Rec, (insL x l).map datE = DataW.insert (datE x) (l.map datE)
  | [] => rfl
  | y :: r => by
    unfold insL
    simp only [List.map_cons]
    rw [DataW.insert]
    have : (datE x).1.before (datE y).1 = kLt x.1 y.1 := rfl
    rw [this]
    split
    · rfl
    · rw [List.map_cons, map_ins x r]
theorem map_cut (k : ByteArray) : ∀ l : List Rec, (cutL k l).map datE = (l.map datE).filter fun p => !p.1.sameKey (litK k)
  | [] => rfl
  | y :: r => by
    have ih := map_cut k r
    unfold cutL at *
    rw [List.map_cons, List.filter_cons, List.filter_cons]
    have : (datE y).1.sameKey (litK k) = decide (y.1 = k) := litK_same _ _
    rw [this]
    split
    · rw [List.map_cons, ih]
    · exact ih
theorem toD_put (k d : ByteArray) (l : List Rec) : (toD l).put (litK k) (.lit (.string d.data.toList)) = toD (putL k d l) := by
  unfold toD putL
  rw [map_ins, map_cut]; rfl
theorem toD_del (k : ByteArray) (l : List Rec) : (toD l).del (litK k) = toD (cutL k l) := by
  unfold toD
  rw [map_cut]; rfl
theorem toD_find (k : ByteArray) : ∀ l : List Rec, (l.map datE).find? (fun p => p.1.sameKey (litK k)) = (findL k l).map datE
  | [] => rfl
  | y :: r => by
    have ih := toD_find k r
    unfold findL at *
    rw [List.map_cons, List.find?_cons, List.find?_cons]
    have : (datE y).1.sameKey (litK k) = decide (y.1 = k) := litK_same _ _
    rw [this]
    split
    · rfl
    · exact ih
theorem toD_at (k : ByteArray) (l : List Rec) (z : DataW Unit) : (toD l).atKey (litK k) z = match findL k l with | some r => .lit (.string r.2.data.toList) | none => z := by
  unfold toD DataW.atKey
  simp only []
  rw [toD_find]
  cases findL k l <;> rfl
theorem toD_has (k : ByteArray) (l : List Rec) : Maps.has (toD l) (litK k) = (findL k l).isSome := by
  unfold toD
  rw [Maps.has_eq]
  induction l with
  | nil => rfl
  | cons y r ih =>
    unfold findL at *
    rw [List.map_cons, List.any_cons, List.find?_cons, ih]
    have : (datE y).1.sameKey (litK k) = decide (y.1 = k) := litK_same _ _
    rw [this]
    by_cases e : y.1 = k <;> simp [e]
theorem toD_size (l : List Rec) : Maps.size (toD l) = l.length := by simp [toD, Maps.size_eq]
/-- Block b is a map that holds just these records. -/
def SMap (w : World) (b : Nat) (l : List Rec) : Prop := w.ownsMap Tryz.prog 9 (plainElem (H := Unit) Tryz.prog 9) b l.length (toD l)
theorem recLaw : Keyed Tryz.prog 9 := string_keyed Tryz.underlying9
theorem recZero (w : World) : (zeroValue 9).run Tryz.prog w = .ok (.string ⟨#[]⟩) w := by kernel_rfl
theorem owns_trim {w : World} {b n : Nat} {l : List Rec} (h : w.ownsMap Tryz.prog 9 (plainElem (H := Unit) Tryz.prog 9) b n (toD l)) : SMap w b l := by
  obtain ⟨es, clock, hb, F, hs, hD⟩ := h
  refine ⟨es, clock, hb, F, ?_, hD⟩
  have h1 := congrArg Maps.size hD
  rw [toD_size] at h1
  rw [h1]
  simp [Maps.size, length_sorted]
theorem SMap.lt {w : World} {b : Nat} {l : List Rec} (h : SMap w b l) : b < w.heap.size := World.ownsMap.lt h
theorem SMap.touch {F : List Nat} {w w' : World} {b : Nat} {l : List Rec} (h : SMap w b l) (ht : Touch F w w') (hn : b ∉ F) : SMap w' b l := by
  have hl := h.lt
  obtain ⟨es, clock, hb, r⟩ := h
  exact ⟨es, clock, (ht.block b hl hn).trans hb, r⟩
theorem SMap.keep {w w' : World} {b : Nat} {l : List Rec} (h : SMap w b l) (hb : Below w.heap.size w w') : SMap w' b l := h.touch (Touch.below hb []) (by simp)
theorem SMap.alloc {w : World} {b : Nat} {l : List Rec} (h : SMap w b l) (o : Obj) : SMap (w.alloc o) b l := World.ownsMap.alloc h o
theorem SMap.drewN {w : World} {b : Nat} {l : List Rec} (h : SMap w b l) (n : Nat) : SMap (w.drewN n) b l := h
theorem SMap.setCell {w : World} {b : Nat} {l : List Rec} (h : SMap w b l) {a : Addr} (ha : b ≠ a.block) (u : Value) : SMap (w.setCell a u) b l := World.ownsMap.setCell h ha u
theorem SMap.made (w : World) : SMap (w.alloc (.map #[] 0)) w.heap.size [] := World.ownsMap_made w _ _ _
section
variable {w : World} {b : Nat} {l : List Rec}
theorem SMap.look_some (h : SMap w b l) {k : ByteArray} (hk : k.size ≤ maxLen) {r : Rec} (hf : findL k l = some r) : (Instr.lookup 42 (.map (some b)) (.string k) true).run Tryz.prog w = .ok (.tuple #[.string r.2, .bool true]) w := by
  obtain ⟨v, ps, hrun, hv⟩ := World.ownsMap.look_ok h recLaw Tryz.underlying42 (recZero w) (zd := .lit (.string [])) (zp := []) (plainElem_string (s := ⟨#[]⟩) Tryz.underlying9 (by decide)) (keyOf_string_mk Tryz.underlying9 hk)
  have e1 := toD_at k l (.lit (.string []))
  have e2 := toD_has k l
  rw [hf] at e1 e2
  change (toD l).atKey (Lit.string k.data.toList) _ = _ at e1
  change Maps.has (toD l) (Lit.string k.data.toList) = _ at e2
  rw [e2] at hrun
  rw [e1] at hv
  obtain ⟨s, rfl, hs, _⟩ := plainElem_string_inv Tryz.underlying9 hv
  simp only [Prod.mk.injEq, DataW.lit.injEq, Lit.string.injEq] at hs
  have : r.2 = s := ByteArray.ext (Array.toList_inj.1 hs.1)
  rw [this]; exact hrun
theorem SMap.look_none (h : SMap w b l) {k : ByteArray} (hk : k.size ≤ maxLen) (hf : findL k l = none) : (Instr.lookup 42 (.map (some b)) (.string k) true).run Tryz.prog w = .ok (.tuple #[.string ⟨#[]⟩, .bool false]) w := by
  obtain ⟨v, ps, hrun, hv⟩ := World.ownsMap.look_ok h recLaw Tryz.underlying42 (recZero w) (zd := .lit (.string [])) (zp := []) (plainElem_string (s := ⟨#[]⟩) Tryz.underlying9 (by decide)) (keyOf_string_mk Tryz.underlying9 hk)
  have e1 := toD_at k l (.lit (.string []))
  have e2 := toD_has k l
  rw [hf] at e1 e2
  change (toD l).atKey (Lit.string k.data.toList) _ = _ at e1
  change Maps.has (toD l) (Lit.string k.data.toList) = _ at e2
  rw [e2] at hrun
  rw [e1] at hv
  obtain ⟨s, rfl, hs, _⟩ := plainElem_string_inv Tryz.underlying9 hv
  simp only [Prod.mk.injEq, DataW.lit.injEq, Lit.string.injEq] at hs
  have : s = ⟨#[]⟩ := ByteArray.ext (Array.toList_inj.1 hs.1.symm)
  subst this; exact hrun
theorem SMap.look_one (h : SMap w b l) {k : ByteArray} (hk : k.size ≤ maxLen) {r : Rec} (hf : findL k l = some r) : (Instr.lookup 42 (.map (some b)) (.string k) false).run Tryz.prog w = .ok (.string r.2) w := by
  obtain ⟨v, ps, hrun, hv⟩ := World.ownsMap.lookup h recLaw Tryz.underlying42 (recZero w) (zd := .lit (.string [])) (zp := []) (plainElem_string (s := ⟨#[]⟩) Tryz.underlying9 (by decide)) (keyOf_string_mk Tryz.underlying9 hk)
  have e1 := toD_at k l (.lit (.string []))
  rw [hf] at e1
  change (toD l).atKey (Lit.string k.data.toList) _ = _ at e1
  rw [e1] at hv
  obtain ⟨s, rfl, hs, _⟩ := plainElem_string_inv Tryz.underlying9 hv
  simp only [Prod.mk.injEq, DataW.lit.injEq, Lit.string.injEq] at hs
  have : r.2 = s := ByteArray.ext (Array.toList_inj.1 hs.1)
  rw [this]; exact hrun
theorem SMap.run_put (h : SMap w b l) {k d : ByteArray} (hk : k.size ≤ maxLen) (hd : d.size ≤ maxLen) (hl : l.length < maxLen) :
    ∃ w', (Instr.mapUpdate 42 (.map (some b)) (.string k) (.string d)).run Tryz.prog w = .ok () w' ∧ SMap w' b (putL k d l) ∧ w.grownBy w' (some b) ∧ w'.heap.size = w.heap.size := by
  obtain ⟨w', hrun, h1, h2⟩ := World.ownsMap.store h recLaw Tryz.underlying42 hl (keyOf_string_mk Tryz.underlying9 hk) (plainElem_string Tryz.underlying9 hd)
  have e := toD_put k d l
  change (toD l).put (Lit.string k.data.toList) _ = _ at e
  rw [e] at h1
  refine ⟨w', hrun, owns_trim h1, h2.grown, ?_⟩
  obtain ⟨es, clock, es', clock', hb, rfl⟩ := h2
  simp [ChangeMaps.setBlock]
theorem SMap.run_cut (h : SMap w b l) {k : ByteArray} (hk : k.size ≤ maxLen) (ty : TypeId) :
    ∃ w', (Builtin.delete_ #[42, 9] ty #[.map (some b), .string k]).run Tryz.prog w = .ok (.tuple #[]) w' ∧ SMap w' b (cutL k l) ∧ w.grownBy w' (some b) ∧ w'.heap.size = w.heap.size := by
  obtain ⟨w', hrun, h1, h2⟩ := World.ownsMap.drop h recLaw Tryz.underlying42 (keyOf_string_mk Tryz.underlying9 hk) ty
  have e := toD_del k l
  change (toD l).del (Lit.string k.data.toList) = _ at e
  rw [e] at h1
  refine ⟨w', hrun, owns_trim h1, h2.grown, ?_⟩
  obtain ⟨es, clock, es', clock', hb, rfl⟩ := h2
  simp [ChangeMaps.setBlock]
end
end Go.Proofs.YtegplajddhiejaaGreat
