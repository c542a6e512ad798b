import Derived.Test.YtegplajddhiejaaGreatRw
import Derived.Test.YtegplajddhiejaaGreatMgLoneMake15
import Derived.Test.YtegplajddhiejaaGreatMgLoneMake10
set_option linter.unusedVariables false
namespace Go.Proofs.YtegplajddhiejaaGreat
open Go.RowKit
/-- The cells of bytes. -/
def bC (l : List UInt8) : List Value := l.map fun x => .int .u8 (x.toNat : Int)
theorem bC_len (l : List UInt8) : (bC l).length = l.length := by simp [bC]
theorem bC_app (l m : List UInt8) : bC (l ++ m) = bC l ++ bC m := by simp [bC]
theorem bC_at (l : List UInt8) (j : Nat) (h : j < l.length) : (bC l)[j]? = some (.int .u8 (l[j].toNat : Int)) := by simp [bC, List.getElem?_eq_getElem h]
theorem bC_one (l : List UInt8) : ∀ u ∈ bC l, u.oneCell' = true := by
  intro u hu; simp only [bC, List.mem_map] at hu; obtain ⟨x, _, rfl⟩ := hu; rfl
theorem bC_string (s : ByteArray) : byteCells s = bC s.data.toList := rfl
/-- A slice of the call's own that holds these bytes. -/
def RowB (w : World) (base : Nat) (v : Value) (l : List UInt8) : Prop := Row w base 1 v l.length (bC l)
theorem infoU8 : (Tryz.prog.info? 5).map (fun i => (i.zero, i.size, i.bytes)) = some (some (.int .u8 0), 1, 1) := by kernel_rfl
section
variable {w w' : World} {base : Nat} {v : Value} {l : List UInt8}
theorem RowB.nil (w : World) (base : Nat) : RowB w base (.slice none 0 0) [] := Row.nil w base 1
theorem RowB.alloc (h : RowB w base v l) (o : Obj) : RowB (w.alloc o) base v l := Row.alloc h o
theorem RowB.drew (h : RowB w base v l) : RowB w.drew base v l := h
theorem RowB.drewN (h : RowB w base v l) (n : Nat) : RowB (w.drewN n) base v l := h
theorem RowB.keep (h : RowB w base v l) (hb : Below w.heap.size w w') : RowB w' base v l := Row.keep h hb
theorem RowB.below {B : Nat} (h : RowB w base v l) (hb : Below B w w') (hB : ∀ k, v.ownBlock = some k → k < B) : RowB w' base v l := Row.below h hb hB
theorem RowB.lt (h : RowB w base v l) (k : Nat) (hk : v.ownBlock = some k) : base ≤ k ∧ k < w.heap.size := Row.lt h k hk
theorem RowB.slice (h : RowB w base v l) : ∃ a cap, v = .slice a l.length cap := Row.slice h
theorem RowB.mono {base' : Nat} (h : RowB w base v l) (hb : base' ≤ base) : RowB w base' v l := Row.mono h hb
theorem RowB.form (h : RowB w base v l) : (v = .slice none 0 0 ∧ l = []) ∨ ∃ g cap, v = .slice (some ⟨g, 0, none⟩) l.length cap ∧ base ≤ g ∧ g < w.heap.size ∧ l.length ≤ cap ∧
    ∀ j (hj : j < l.length), w.cell? ⟨g, j, none⟩ = some (.int .u8 l[j].toNat) := by
  rcases Row.form h with ⟨rfl, h0, hx⟩ | ⟨g, cap, rfl, hb, hg, hc, hm, hx, _⟩
  · exact .inl ⟨rfl, List.eq_nil_of_length_eq_zero h0⟩
  · exact .inr ⟨g, cap, rfl, hb, hg, hc, fun j hj => hx j _ (bC_at l j hj)⟩
/-- The row as a string. -/
theorem RowB.str (h : RowB w base v l) : (convert 112 9 v).run Tryz.prog w = .ok (.string ⟨l.toArray⟩) w := by
  rcases h.form with ⟨rfl, rfl⟩ | ⟨g, cap, rfl, _, _, _, ho⟩
  · exact run_convert_bytes_nil (P := Tryz.prog) (w := w) 112 5 Tryz.underlying112 Tryz.underlying5 0 0 9 Tryz.underlying9
  · refine run_convert_bytes_back (P := Tryz.prog) w 112 9 5 ⟨g, 0, none⟩ cap l Tryz.underlying112 Tryz.underlying5 Tryz.underlying9 (fun j hj => ?_)
    rw [show (⟨g, 0, none⟩ : Addr).add j = ⟨g, j, none⟩ by simp [Addr.add]; omega]
    exact ho j hj
theorem RowB.src (h : RowB w base v l) : Src Tryz.prog 1 112 v l.length (bC l) w := Row.src h Tryz.underlying112 (bC_one l)
end
theorem lit_row (w : World) (x : UInt8) : RowB (w.alloc (.cells #[.int .u8 (x.toNat : Int)] 5)) w.heap.size (.slice (some ⟨w.heap.size, 0, none⟩) 1 1) [x] :=
  row_lit w #[.int .u8 (x.toNat : Int)] 5 1 1 (by unfold maxLen; omega) rfl
/-- A row of the call's own grows by a source of bytes. -/
theorem wpList_bytes {ops : Array Oper} {rest : List Oper} {o : Oper} {a : Act} {Q : Exit → Act → World → Prop} (w : World) (hgd : o.guard = none) (s x : Operand) (tx : TypeId)
    (ho : o.op = .call { callee := .builtin .append, args := #[s, x], argTypes := #[112, tx] }) (base : Nat) (v : Value) (l : List UInt8) (hs : a.eval s = v)
    (xv : Value) (m : List UInt8) (hx : a.eval x = xv) (hsrc : Src Tryz.prog 1 tx xv m.length (bC m) w) (hrow : RowB w base v l) (hlen : l.length + m.length ≤ 140737488355328) (hbase : base ≤ w.heap.size)
    (h : ∀ v' w', RowB w' base v' (l ++ m) → Below base w w' → (v'.ownBlock = v.ownBlock ∨ v'.ownBlock = some w.heap.size) → w.grownBy w' v.ownBlock → wpList Tryz.prog ops Q rest (a.put o.dst v') w') : wpList Tryz.prog ops Q (o :: rest) a w := by
  obtain ⟨i0, hi, hz0, hz1, hz2⟩ := info_parts infoU8
  refine wpList_append_row w hgd s x 112 tx ho base 5 i0 (.int .u8 0) 1 1 Tryz.underlying112 hi hz0 hz1 hz2 rfl v _ _ hs hrow xv _ _ hx hsrc (by unfold maxLen; omega) (by omega) hbase ?_
  intro v' w1 h1 hg hat
  exact h v' w1 (by unfold RowB; rw [bC_app, List.length_append]; exact h1) (Row.low hrow hg (Below.refl _ _) hbase) hat hg
/-- One byte appended. -/
theorem wpList_byte {ops : Array Oper} {rest : List Oper} {o : Oper} {a : Act} {Q : Exit → Act → World → Prop} (w : World) (u : Int) (hgd : o.guard = none) (s x : Operand)
    (ho : o.op = .call { callee := .builtin .append, args := #[s, x], argTypes := #[112, 112] }) (base : Nat) (v : Value) (l : List UInt8) (hs : a.eval s = v)
    (hx : a.eval x = .slice (some ⟨w.heap.size, 0, none⟩) 1 1) (y : UInt8) (hy : u = (y.toNat : Int)) (hrow : RowB w base v l) (hlen : l.length < 140737488355328) (hbase : base ≤ w.heap.size)
    (h : ∀ v' w', RowB w' base v' (l ++ [y]) → Below base w w' → (v'.ownBlock = v.ownBlock ∨ (∃ k, v'.ownBlock = some k ∧ w.heap.size ≤ k)) → w.grownBy w' v.ownBlock → wpList Tryz.prog ops Q rest (a.put o.dst v') w') : wpList Tryz.prog ops Q (o :: rest) a (w.alloc (.cells #[.int .u8 u] 5)) := by
  subst hy
  refine wpList_bytes _ hgd s x 112 ho base v l hs _ [y] hx (lit_row w y).src (hrow.alloc _) (by simp; omega) (Nat.le_trans hbase (by simp)) ?_
  intro v' w1 h1 hb hat hg
  have hg' : w.grownBy w1 v.ownBlock := ⟨hg.os, hg.tape, hg.output, Nat.le_trans (by simp) hg.size, fun i hi hne => (hg.block i (by simp; omega) hne).trans (Below.heap_alloc w _ i hi)⟩
  refine h v' w1 h1 (((Below.refl base w).alloc hbase _).trans hb) ?_ hg'
  rcases hat with e | e
  · exact .inl e
  · exact .inr ⟨_, e, by simp⟩
/-- '[]byte(s)'. -/
theorem bytes_row (w : World) (s : ByteArray) (hs : s.size ≤ maxLen) : ∃ cap w', (convert 9 112 (.string s)).run Tryz.prog w = .ok (.slice (some ⟨w.heap.size, 0, none⟩) s.size cap) w' ∧ RowB w' w.heap.size (.slice (some ⟨w.heap.size, 0, none⟩) s.size cap) s.data.toList ∧ Below w.heap.size w w' := by
  have hsz := Lib.bytesWorld_size w 5 s
  have hge := grownCap_ge w s.size 0 5
  have hl : s.data.toList.length = s.size := by simp
  have hcs : (Lib.bytesCells w 5 s).size = grownCap w s.size 0 5 := by
    unfold Lib.bytesCells; rw [Array.size_append, Array.size_map, Array.size_replicate]
    have : s.data.size = s.size := rfl
    omega
  refine ⟨_, _, Lib.run_convert_string_bytes w 9 112 5 s (u := .string) Tryz.underlying9 Tryz.underlying112 Tryz.underlying5, ?_, ?_⟩
  · unfold RowB
    rw [hl]
    refine ⟨by rw [bC_len, hl]; omega, .inr ⟨w.heap.size, _, rfl, Nat.le_refl _, by omega, hge, grownCap_le_maxLen w _ _ _ hs, fun j u hu => ?_, fun j hj => ?_⟩⟩
    · have hj : j < s.size := by have := (List.getElem?_eq_some_iff.1 hu).1; rw [bC_len, hl] at this; exact this
      rw [Lib.bytesWorld_cell w 5 s j hj, ← hu, bC_at _ j (by omega), List.getD_eq_getElem?_getD, List.getElem?_eq_getElem (by omega)]; rfl
    · have hj' : j < (Lib.bytesCells w 5 s).size := by rw [hcs]; omega
      refine ⟨?_, ?_⟩
      · simp only [World.cell?, Lib.bytesWorld_at_new]
        simp [hj']
      · simp only [World.frozen?, Lib.bytesWorld_at_new]
        simp; omega
  · exact ⟨rfl, rfl, rfl, by omega, fun k hk => Lib.bytesWorld_at_old w 5 s k hk⟩
end Go.Proofs.YtegplajddhiejaaGreat

set_option linter.unusedVariables false
namespace Go.Proofs.YtegplajddhiejaaGreat
open Go.RowKit Go.WideMaps Go.Maps Go.MapKept
/-- Bytes of the call's own, with a record boxed beside them. -/
structure Apt (B : Nat) (w : World) (v : Value) (l : List UInt8) (bx : Nat) (a b : Value) : Prop where
  row : RowB w B v l
  ne : v.ownBlock ≠ some bx
  lt : bx < w.heap.size
  c0 : w.cell? ⟨bx, 0, none⟩ = some a
  c1 : w.cell? ⟨bx, 1, none⟩ = some b
theorem Apt.alloc {B : Nat} {w : World} {v : Value} {l : List UInt8} {bx : Nat} {a b : Value} (h : Apt B w v l bx a b) (o : Obj) : Apt B (w.alloc o) v l bx a b :=
  have hb : Below w.heap.size w (w.alloc o) := (Below.refl _ _).alloc (Nat.le_refl _) o
  ⟨h.row.alloc o, h.ne, Nat.lt_of_lt_of_le h.lt hb.size, (hb.cell (p := ⟨bx, 0, none⟩) h.lt).trans h.c0, (hb.cell (p := ⟨bx, 1, none⟩) h.lt).trans h.c1⟩
theorem wpList_apt {ops : Array Oper} {rest : List Oper} {o : Oper} {a : Act} {Q : Exit → Act → World → Prop} (w : World) (hgd : o.guard = none) (s x : Operand) (tx : TypeId)
    (ho : o.op = .call { callee := .builtin .append, args := #[s, x], argTypes := #[112, tx] }) (B : Nat) (v : Value) (l : List UInt8) (hs : a.eval s = v)
    (xv : Value) (m : List UInt8) (hx : a.eval x = xv) (hsrc : Src Tryz.prog 1 tx xv m.length (bC m) w) (bx : Nat) (u1 u2 : Value) (hap : Apt B w v l bx u1 u2) (hlen : l.length + m.length ≤ 140737488355328) (hB : B ≤ w.heap.size)
    (h : ∀ v' w', Apt B w' v' (l ++ m) bx u1 u2 → Below B w w' → wpList Tryz.prog ops Q rest (a.put o.dst v') w') : wpList Tryz.prog ops Q (o :: rest) a w := by
  refine wpList_bytes w hgd s x tx ho B v l hs xv m hx hsrc hap.row hlen hB ?_
  intro v' w1 hr hb hat hg
  have hc : w1.heap[bx]? = w.heap[bx]? := hg.block bx hap.lt (fun e => hap.ne e.symm)
  refine h v' w1 ⟨hr, ?_, Nat.lt_of_lt_of_le hap.lt hb.size, (World.cell?_of_block (a := ⟨bx, 0, none⟩) hc).trans hap.c0, (World.cell?_of_block (a := ⟨bx, 1, none⟩) hc).trans hap.c1⟩ hb
  intro e
  rcases hat with e2 | e2
  · exact hap.ne (e2 ▸ e)
  · rw [e] at e2; injection e2 with e2; have := hap.lt; omega
theorem wpList_apt1 {ops : Array Oper} {rest : List Oper} {o : Oper} {a : Act} {Q : Exit → Act → World → Prop} (w : World) (u : Int) (hgd : o.guard = none) (s x : Operand)
    (ho : o.op = .call { callee := .builtin .append, args := #[s, x], argTypes := #[112, 112] }) (B : Nat) (v : Value) (l : List UInt8) (hs : a.eval s = v)
    (Hz : Nat) (hx : a.eval x = .slice (some ⟨Hz, 0, none⟩) 1 1) (hH : w.heap.size = Hz) (y : UInt8) (hy : u = (y.toNat : Int)) (bx : Nat) (u1 u2 : Value) (hap : Apt B w v l bx u1 u2) (hlen : l.length + 1 ≤ 140737488355328) (hB : B ≤ w.heap.size)
    (h : ∀ v' w', Apt B w' v' (l ++ [y]) bx u1 u2 → Below B w w' → wpList Tryz.prog ops Q rest (a.put o.dst v') w') : wpList Tryz.prog ops Q (o :: rest) a (w.alloc (.cells #[.int .u8 u] 5)) := by
  subst hy hH
  refine wpList_apt _ hgd s x 112 ho B v l hs _ [y] hx (lit_row w y).src bx u1 u2 (hap.alloc _) hlen (Nat.le_trans hB (by simp)) ?_
  exact fun v' w' h1 h2 => h v' w' h1 (((Below.refl B w).alloc hB _).trans h2)
theorem wpList_apt4 {ops : Array Oper} {rest : List Oper} {o : Oper} {a : Act} {Q : Exit → Act → World → Prop} (w : World) (z0 z1 z2 z3 : Int) (hgd : o.guard = none) (s x : Operand)
    (ho : o.op = .call { callee := .builtin .append, args := #[s, x], argTypes := #[112, 112] }) (B : Nat) (v : Value) (l : List UInt8) (hs : a.eval s = v)
    (Hz : Nat) (hx : a.eval x = .slice (some ⟨Hz, 0, none⟩) 4 4) (hH : w.heap.size = Hz) (n : Nat) (h0 : z0 = ((n / 16777216 % 256 : Nat) : Int)) (h1 : z1 = ((n / 65536 % 256 : Nat) : Int)) (h2 : z2 = ((n / 256 % 256 : Nat) : Int)) (h3 : z3 = ((n % 256 : Nat) : Int))
    (bx : Nat) (u1 u2 : Value) (hap : Apt B w v l bx u1 u2) (hlen : l.length + 4 ≤ 140737488355328) (hB : B ≤ w.heap.size)
    (h : ∀ v' w', Apt B w' v' (l ++ be4L n) bx u1 u2 → Below B w w' → wpList Tryz.prog ops Q rest (a.put o.dst v') w') : wpList Tryz.prog ops Q (o :: rest) a (w.alloc (.cells #[.int .u8 z0, .int .u8 z1, .int .u8 z2, .int .u8 z3] 5)) := by
  have hc : (#[.int .u8 z0, .int .u8 z1, .int .u8 z2, .int .u8 z3] : Array Value).toList = bC (be4L n) := by
    subst h0 h1 h2 h3
    simp [bC, be4L]
  subst hH
  have hrow := row_lit w #[.int .u8 z0, .int .u8 z1, .int .u8 z2, .int .u8 z3] 5 4 1 (by unfold maxLen; omega) rfl
  rw [hc] at hrow
  refine wpList_apt _ hgd s x 112 ho B v l hs _ (be4L n) hx (Row.src hrow Tryz.underlying112 (bC_one _)) bx u1 u2 (hap.alloc _) hlen (Nat.le_trans hB (by simp)) ?_
  exact fun v' w' h1 h2 => h v' w' h1 (((Below.refl B w).alloc hB _).trans h2)
end Go.Proofs.YtegplajddhiejaaGreat

set_option linter.unusedVariables false
namespace Go.Proofs.YtegplajddhiejaaGreat
open Go.RowKit Go.WideMaps Go.Maps Go.MapKept
/-- A store that was just laid. -/
theorem rsf_new (w : World) (c : Int) : RSF (w.alloc (.cells #[.int .i64 c, .slice none 0 0, .slice none 0 0, .bool false, .int .i64 0, .int .i64 0, .slice none 0 0] 46)) w.heap.size (.slice none 0 0) (.slice none 0 0) (.slice none 0 0) (newF c) := by
  have hc : ∀ j, (w.alloc (.cells #[.int .i64 c, .slice none 0 0, .slice none 0 0, .bool false, .int .i64 0, .int .i64 0, .slice none 0 0] 46)).cell? ⟨w.heap.size, j, none⟩ = _ := fun j => World.cell?_alloc_new w _ _ j
  exact ⟨hc 0, hc 1, hc 2, hc 3, hc 4, hc 5, hc 6, fun j => World.frozen?_alloc_new w _ _ j, RecL.nil _, RecL.nil _, Row.nil _ 0 3, fun e => (by cases e), fun e => (by cases e), fun k hk => (by cases hk), by simp⟩
theorem rnew_no (c : Int) (hc : goesB c = false) (w : World) : Calls Tryz.prog 5 #[.int .i64 c] w fun e w' => e = .returned (.pointer none) ∧ w = w' := by
  have hcc : c < 0 ∨ (0 ≤ c ∧ 1073741824 < c) := by
    unfold goesB at hc
    simp only [decide_eq_false_iff_not] at hc
    omega
  clear hc
  rcases hcc with h | ⟨h0, h⟩
  · go_enter Tryz.func5, Tryz.ntmps5
    go_wp2
    go_ret
    exact ⟨rfl, rfl⟩
  · go_enter Tryz.func5, Tryz.ntmps5
    go_wp2
    go_ret
    exact ⟨rfl, rfl⟩
theorem rnew_yes (c : Int) (hc : goesB c = true) (w : World) : Calls Tryz.prog 5 #[.int .i64 c] w fun e w' => e = .returned (.pointer (some ⟨w.heap.size, 0, none⟩)) ∧ RSF w' w.heap.size (.slice none 0 0) (.slice none 0 0) (.slice none 0 0) (newF c) ∧ Below w.heap.size w w' := by
  have hcc : 0 ≤ c ∧ c ≤ 1073741824 := of_decide_eq_true hc
  have HN := Lib.hid (rsf_new w c)
  obtain ⟨h0, h1⟩ := hcc
  clear hc
  go_enter Tryz.func5, Tryz.ntmps5
  go_wp2
  go_ret
  exact ⟨rfl, HN.out, (Below.refl _ _).alloc (Nat.le_refl _) _⟩
end Go.Proofs.YtegplajddhiejaaGreat
