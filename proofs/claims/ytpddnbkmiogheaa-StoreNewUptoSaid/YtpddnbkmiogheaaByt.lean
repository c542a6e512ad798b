import Derived.Test.YtpddnbkmiogheaaRw
set_option linter.unusedVariables false
namespace Go.Proofs.Ytpddnbkmiogheaa
open Go.RowKit
/-- The cells of bytes. -/
def bC (l : List UInt8) : List Value := l.map fun x => .int .u8 (x.toNat : Int)
theorem bC_len (l : List UInt8) : (bC l).length = l.length := by simp [bC]
theorem bC_app (l m : List UInt8) : bC (l ++ m) = bC l ++ bC m := by simp [bC]
theorem bC_at (l : List UInt8) (j : Nat) (h : j < l.length) : (bC l)[j]? = some (.int .u8 (l[j].toNat : Int)) := by simp [bC, List.getElem?_eq_getElem h]
theorem bC_one (l : List UInt8) : ∀ u ∈ bC l, u.oneCell' = true := by
  intro u hu; simp only [bC, List.mem_map] at hu; obtain ⟨x, _, rfl⟩ := hu; rfl
theorem bC_string (s : ByteArray) : byteCells s = bC s.data.toList := rfl
/-- A slice of the call's own that holds these bytes. -/
def RowB (w : World) (base : Nat) (v : Value) (l : List UInt8) : Prop := Row w base 1 v l.length (bC l)
theorem infoU8 : (Try.prog.info? 5).map (fun i => (i.zero, i.size, i.bytes)) = some (some (.int .u8 0), 1, 1) := by kernel_rfl
section
variable {w w' : World} {base : Nat} {v : Value} {l : List UInt8}
theorem RowB.nil (w : World) (base : Nat) : RowB w base (.slice none 0 0) [] := Row.nil w base 1
theorem RowB.alloc (h : RowB w base v l) (o : Obj) : RowB (w.alloc o) base v l := Row.alloc h o
theorem RowB.drew (h : RowB w base v l) : RowB w.drew base v l := h
theorem RowB.drewN (h : RowB w base v l) (n : Nat) : RowB (w.drewN n) base v l := h
theorem RowB.keep (h : RowB w base v l) (hb : Below w.heap.size w w') : RowB w' base v l := Row.keep h hb
theorem RowB.below {B : Nat} (h : RowB w base v l) (hb : Below B w w') (hB : ∀ k, v.ownBlock = some k → k < B) : RowB w' base v l := Row.below h hb hB
theorem RowB.lt (h : RowB w base v l) (k : Nat) (hk : v.ownBlock = some k) : base ≤ k ∧ k < w.heap.size := Row.lt h k hk
theorem RowB.slice (h : RowB w base v l) : ∃ a cap, v = .slice a l.length cap := Row.slice h
theorem RowB.mono {base' : Nat} (h : RowB w base v l) (hb : base' ≤ base) : RowB w base' v l := Row.mono h hb
theorem RowB.form (h : RowB w base v l) : (v = .slice none 0 0 ∧ l = []) ∨ ∃ g cap, v = .slice (some ⟨g, 0, none⟩) l.length cap ∧ base ≤ g ∧ g < w.heap.size ∧ l.length ≤ cap ∧
    ∀ j (hj : j < l.length), w.cell? ⟨g, j, none⟩ = some (.int .u8 l[j].toNat) := by
  rcases Row.form h with ⟨rfl, h0, hx⟩ | ⟨g, cap, rfl, hb, hg, hc, hm, hx, _⟩
  · exact .inl ⟨rfl, List.eq_nil_of_length_eq_zero h0⟩
  · exact .inr ⟨g, cap, rfl, hb, hg, hc, fun j hj => hx j _ (bC_at l j hj)⟩
/-- The row as a string. -/
theorem RowB.str (h : RowB w base v l) : (convert 78 9 v).run Try.prog w = .ok (.string ⟨l.toArray⟩) w := by
  rcases h.form with ⟨rfl, rfl⟩ | ⟨g, cap, rfl, _, _, _, ho⟩
  · exact run_convert_bytes_nil (P := Try.prog) (w := w) 78 5 Try.underlying78 Try.underlying5 0 0 9 Try.underlying9
  · refine run_convert_bytes_back (P := Try.prog) w 78 9 5 ⟨g, 0, none⟩ cap l Try.underlying78 Try.underlying5 Try.underlying9 (fun j hj => ?_)
    rw [show (⟨g, 0, none⟩ : Addr).add j = ⟨g, j, none⟩ by simp [Addr.add]; omega]
    exact ho j hj
theorem RowB.src (h : RowB w base v l) : Src Try.prog 1 78 v l.length (bC l) w := Row.src h Try.underlying78 (bC_one l)
end
theorem lit_row (w : World) (x : UInt8) : RowB (w.alloc (.cells #[.int .u8 (x.toNat : Int)] 5)) w.heap.size (.slice (some ⟨w.heap.size, 0, none⟩) 1 1) [x] :=
  row_lit w #[.int .u8 (x.toNat : Int)] 5 1 1 (by unfold maxLen; omega) rfl
/-- A row of the call's own grows by a source of bytes. -/
theorem wpList_bytes {ops : Array Oper} {rest : List Oper} {o : Oper} {a : Act} {Q : Exit → Act → World → Prop} (w : World) (hgd : o.guard = none) (s x : Operand) (tx : TypeId)
    (ho : o.op = .call { callee := .builtin .append, args := #[s, x], argTypes := #[78, tx] }) (base : Nat) (v : Value) (l : List UInt8) (hs : a.eval s = v)
    (xv : Value) (m : List UInt8) (hx : a.eval x = xv) (hsrc : Src Try.prog 1 tx xv m.length (bC m) w) (hrow : RowB w base v l) (hlen : l.length + m.length ≤ 140737488355328) (hbase : base ≤ w.heap.size)
    (h : ∀ v' w', RowB w' base v' (l ++ m) → Below base w w' → (v'.ownBlock = v.ownBlock ∨ v'.ownBlock = some w.heap.size) → w.grownBy w' v.ownBlock → wpList Try.prog ops Q rest (a.put o.dst v') w') : wpList Try.prog ops Q (o :: rest) a w := by
  obtain ⟨i0, hi, hz0, hz1, hz2⟩ := info_parts infoU8
  refine wpList_append_row w hgd s x 78 tx ho base 5 i0 (.int .u8 0) 1 1 Try.underlying78 hi hz0 hz1 hz2 rfl v _ _ hs hrow xv _ _ hx hsrc (by unfold maxLen; omega) (by omega) hbase ?_
  intro v' w1 h1 hg hat
  exact h v' w1 (by unfold RowB; rw [bC_app, List.length_append]; exact h1) (Row.low hrow hg (Below.refl _ _) hbase) hat hg
/-- One byte appended. -/
theorem wpList_byte {ops : Array Oper} {rest : List Oper} {o : Oper} {a : Act} {Q : Exit → Act → World → Prop} (w : World) (u : Int) (hgd : o.guard = none) (s x : Operand)
    (ho : o.op = .call { callee := .builtin .append, args := #[s, x], argTypes := #[78, 78] }) (base : Nat) (v : Value) (l : List UInt8) (hs : a.eval s = v)
    (hx : a.eval x = .slice (some ⟨w.heap.size, 0, none⟩) 1 1) (y : UInt8) (hy : u = (y.toNat : Int)) (hrow : RowB w base v l) (hlen : l.length < 140737488355328) (hbase : base ≤ w.heap.size)
    (h : ∀ v' w', RowB w' base v' (l ++ [y]) → Below base w w' → (v'.ownBlock = v.ownBlock ∨ (∃ k, v'.ownBlock = some k ∧ w.heap.size ≤ k)) → w.grownBy w' v.ownBlock → wpList Try.prog ops Q rest (a.put o.dst v') w') : wpList Try.prog ops Q (o :: rest) a (w.alloc (.cells #[.int .u8 u] 5)) := by
  subst hy
  refine wpList_bytes _ hgd s x 78 ho base v l hs _ [y] hx (lit_row w y).src (hrow.alloc _) (by simp; omega) (Nat.le_trans hbase (by simp)) ?_
  intro v' w1 h1 hb hat hg
  have hg' : w.grownBy w1 v.ownBlock := ⟨hg.os, hg.tape, hg.output, Nat.le_trans (by simp) hg.size, fun i hi hne => (hg.block i (by simp; omega) hne).trans (Below.heap_alloc w _ i hi)⟩
  refine h v' w1 h1 (((Below.refl base w).alloc hbase _).trans hb) ?_ hg'
  rcases hat with e | e
  · exact .inl e
  · exact .inr ⟨_, e, by simp⟩
/-- '[]byte(s)'. -/
theorem bytes_row (w : World) (s : ByteArray) (hs : s.size ≤ maxLen) : ∃ cap w', (convert 9 78 (.string s)).run Try.prog w = .ok (.slice (some ⟨w.heap.size, 0, none⟩) s.size cap) w' ∧ RowB w' w.heap.size (.slice (some ⟨w.heap.size, 0, none⟩) s.size cap) s.data.toList ∧ Below w.heap.size w w' := by
  have hsz := Lib.bytesWorld_size w 5 s
  have hge := grownCap_ge w s.size 0 5
  have hl : s.data.toList.length = s.size := by simp
  have hcs : (Lib.bytesCells w 5 s).size = grownCap w s.size 0 5 := by
    unfold Lib.bytesCells; rw [Array.size_append, Array.size_map, Array.size_replicate]
    have : s.data.size = s.size := rfl
    omega
  refine ⟨_, _, Lib.run_convert_string_bytes w 9 78 5 s (u := .string) Try.underlying9 Try.underlying78 Try.underlying5, ?_, ?_⟩
  · unfold RowB
    rw [hl]
    refine ⟨by rw [bC_len, hl]; omega, .inr ⟨w.heap.size, _, rfl, Nat.le_refl _, by omega, hge, grownCap_le_maxLen w _ _ _ hs, fun j u hu => ?_, fun j hj => ?_⟩⟩
    · have hj : j < s.size := by have := (List.getElem?_eq_some_iff.1 hu).1; rw [bC_len, hl] at this; exact this
      rw [Lib.bytesWorld_cell w 5 s j hj, ← hu, bC_at _ j (by omega), List.getD_eq_getElem?_getD, List.getElem?_eq_getElem (by omega)]; rfl
    · have hj' : j < (Lib.bytesCells w 5 s).size := by rw [hcs]; omega
      refine ⟨?_, ?_⟩
      · simp only [World.cell?, Lib.bytesWorld_at_new]
        simp [hj']
      · simp only [World.frozen?, Lib.bytesWorld_at_new]
        simp; omega
  · exact ⟨rfl, rfl, rfl, by omega, fun k hk => Lib.bytesWorld_at_old w 5 s k hk⟩
end Go.Proofs.Ytpddnbkmiogheaa
