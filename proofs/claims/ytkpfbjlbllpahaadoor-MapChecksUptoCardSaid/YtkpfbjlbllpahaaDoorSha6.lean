import Derived.Test.YtkpfbjlbllpahaaDoorSha5
set_option linter.unusedVariables false
namespace Go.Proofs.YtkpfbjlbllpahaaDoor
open Go.RowKit
/-- The rounds' constants. -/
def tabZ : List Int := [1116352408, 1899447441, 3049323471, 3921009573, 961987163, 1508970993, 2453635748, 2870763221, 3624381080, 310598401, 607225278, 1426881987, 1925078388, 2162078206, 2614888103, 3248222580, 3835390401, 4022224774, 264347078, 604807628, 770255983, 1249150122, 1555081692, 1996064986, 2554220882, 2821834349, 2952996808, 3210313671, 3336571891, 3584528711, 113926993, 338241895, 666307205, 773529912, 1294757372, 1396182291, 1695183700, 1986661051, 2177026350, 2456956037, 2730485921, 2820302411, 3259730800, 3345764771, 3516065817, 3600352804, 4094571909, 275423344, 430227734, 506948616, 659060556, 883997877, 958139571, 1322822218, 1537002063, 1747873779, 1955562222, 2024104815, 2227730452, 2361852424, 2428436474, 2756734187, 3204031479, 3329325298]
/-- The state of no block. -/
def beginZ : List Int := [1779033703, 3144134277, 1013904242, 2773480762, 1359893119, 2600822924, 528734635, 1541459225]
def big0 (a : Int) : Int := bits BinOp.xor IntKind.u32 (bits BinOp.xor IntKind.u32 (rotI a 2) (rotI a 13)) (rotI a 22)
def big1 (e : Int) : Int := bits BinOp.xor IntKind.u32 (bits BinOp.xor IntKind.u32 (rotI e 6) (rotI e 11)) (rotI e 25)
def majZ (a b c : Int) : Int := bits BinOp.xor IntKind.u32 (bits BinOp.xor IntKind.u32 (bits BinOp.and IntKind.u32 a b) (bits BinOp.and IntKind.u32 a c)) (bits BinOp.and IntKind.u32 b c)
def chZ (e f g : Int) : Int := bits BinOp.xor IntKind.u32 (bits BinOp.and IntKind.u32 e f) (bits BinOp.and IntKind.u32 (bits BinOp.xor IntKind.u32 4294967295 e) g)
def oneZ (e f g h kt wt : Int) : Int := IntKind.u32.wrap (h + big1 e + chZ e f g + kt + wt)
def twoZ (a b c : Int) : Int := IntKind.u32.wrap (big0 a + majZ a b c)
/-- One round. -/
def roundZ (v : List Int) (kt wt : Int) : List Int :=
  [IntKind.u32.wrap (oneZ (v.getD 4 0) (v.getD 5 0) (v.getD 6 0) (v.getD 7 0) kt wt + twoZ (v.getD 0 0) (v.getD 1 0) (v.getD 2 0)), v.getD 0 0, v.getD 1 0, v.getD 2 0,
    IntKind.u32.wrap (v.getD 3 0 + oneZ (v.getD 4 0) (v.getD 5 0) (v.getD 6 0) (v.getD 7 0) kt wt), v.getD 4 0, v.getD 5 0, v.getD 6 0]
/-- So many rounds. -/
def roundsZ (W st : List Int) : Nat → List Int
  | 0 => st
  | k + 1 => roundZ (roundsZ W st k) (tabZ.getD k 0) (W.getD k 0)
/-- The first k words added. -/
def addZ (st x : List Int) (k : Nat) : List Int := (List.range 8).map fun j => if j < k then IntKind.u32.wrap (st.getD j 0 + x.getD j 0) else st.getD j 0
/-- The state behind a block. -/
def takeZ (st : List Int) (blk : List UInt8) : List Int := addZ st (roundsZ (wordsZ blk) st 64) 8
/-- Eight words of an array. -/
def a8 (l : List Int) : Array Value := ((List.range 8).map fun j => Value.int .u32 (l.getD j 0)).toArray
theorem a8_size (l : List Int) : (a8 l).size = 8 := by simp [a8]
theorem a8_at (l : List Int) (j : Nat) (h : j < 8) : (a8 l)[j]? = some (.int .u32 (l.getD j 0)) := by
  simp only [a8, List.getElem?_toArray, List.getElem?_map, List.getElem?_range h, Option.map_some]
theorem a8_one (l : List Int) : (a8 l).all (·.oneCell') = true := by
  rw [Array.all_eq_true_iff_forall_mem]
  intro x hx
  simp [a8] at hx
  obtain ⟨j, _, rfl⟩ := hx
  rfl
theorem a8_info (l : List Int) : (Tryd.prog.info? 144).map (·.size) = some (a8 l).size := by rw [a8_size]; kernel_rfl
def stOk (v : List Int) : Prop := v.length = 8 ∧ ∀ x ∈ v, wOk x
theorem stOk.at {v : List Int} (h : stOk v) (j : Nat) : wOk (v.getD j 0) := getD_ok v h.2 j
theorem wrap_ok (x : Int) : wOk (IntKind.u32.wrap x) := wrap32_rng x
theorem roundZ_ok {v : List Int} (h : stOk v) (kt wt : Int) : stOk (roundZ v kt wt) := by
  refine ⟨rfl, fun x hx => ?_⟩
  unfold roundZ at hx
  simp only [List.mem_cons, List.not_mem_nil, or_false] at hx
  rcases hx with rfl | rfl | rfl | rfl | rfl | rfl | rfl | rfl
  · exact wrap_ok _
  · exact h.at 0
  · exact h.at 1
  · exact h.at 2
  · exact wrap_ok _
  · exact h.at 4
  · exact h.at 5
  · exact h.at 6
theorem roundsZ_ok (W : List Int) {st : List Int} (h : stOk st) (k : Nat) : stOk (roundsZ W st k) := by
  induction k with
  | zero => exact h
  | succ k ih => exact roundZ_ok ih _ _
theorem addZ_ok {st x : List Int} (h : stOk st) (k : Nat) : stOk (addZ st x k) := by
  refine ⟨by simp [addZ], fun y hy => ?_⟩
  simp only [addZ, List.mem_map] at hy
  obtain ⟨j, _, rfl⟩ := hy
  split
  · exact wrap_ok _
  · exact h.at j
theorem takeZ_ok {st : List Int} (h : stOk st) (blk : List UInt8) : stOk (takeZ st blk) := addZ_ok h 8
theorem begin_ok : stOk beginZ := ⟨rfl, by intro x hx; simp only [beginZ, List.mem_cons, List.not_mem_nil, or_false] at hx; rcases hx with rfl | rfl | rfl | rfl | rfl | rfl | rfl | rfl <;> exact ⟨by omega, by omega⟩⟩
theorem addZ_getD (st x : List Int) (k j : Nat) (hj : j < 8) : (addZ st x k).getD j 0 = if j < k then IntKind.u32.wrap (st.getD j 0 + x.getD j 0) else st.getD j 0 := by
  simp only [addZ, List.getD_eq_getElem?_getD, List.getElem?_map, List.getElem?_range hj, Option.map_some, Option.getD_some]
theorem a8_congr {l m : List Int} (h : ∀ j, j < 8 → l.getD j 0 = m.getD j 0) : a8 l = a8 m := by
  unfold a8
  congr 1
  refine List.map_congr_left fun j hj => ?_
  rw [h j (List.mem_range.1 hj)]
theorem a8_zero (st x : List Int) : a8 (addZ st x 0) = a8 st := a8_congr fun j hj => by rw [addZ_getD _ _ _ _ hj, if_neg (by omega)]
theorem a8_set (st x : List Int) (k : Nat) (hk : k < 8) : (a8 (addZ st x k)).setIfInBounds k (.int .u32 (IntKind.u32.wrap (st.getD k 0 + x.getD k 0))) = a8 (addZ st x (k + 1)) := by
  apply Array.ext_getElem?
  intro i
  rw [Array.getElem?_setIfInBounds, a8_size]
  by_cases hi : i < 8
  · rw [a8_at _ _ hi, a8_at _ _ hi, addZ_getD _ _ _ _ hi, addZ_getD _ _ _ _ hi]
    by_cases e : k = i
    · subst e; rw [if_pos rfl, if_pos hk, if_pos (by omega)]
    · rw [if_neg e]
      by_cases h : i < k
      · rw [if_pos h, if_pos (by omega)]
      · rw [if_neg h, if_neg (by omega)]
  · rw [Array.getElem?_eq_none (by rw [a8_size]; omega), Array.getElem?_eq_none (by rw [a8_size]; omega)]
    by_cases e : k = i
    · omega
    · rw [if_neg e]
/-- The package's tables, as they are laid. -/
structure Laid (w : World) : Prop where
  size : 4 ≤ w.heap.size
  first : ∀ j, j < 8 → w.cell? ⟨0, j, none⟩ = some (.int .u32 (beginZ.getD j 0))
  begin : ∀ j, j < 8 → w.cell? ⟨1, j, none⟩ = some (.int .u32 (beginZ.getD j 0))
  rtable : ∀ j, j < 64 → w.cell? ⟨2, j, none⟩ = some (.int .u32 (tabZ.getD j 0))
  table : ∀ j, j < 64 → w.cell? ⟨3, j, none⟩ = some (.int .u32 (tabZ.getD j 0))
theorem Laid.grown {w w' : World} (h : Laid w) (hs : w.heap.size ≤ w'.heap.size) (hb : ∀ p : Addr, p.block < 4 → w'.cell? p = w.cell? p) : Laid w' :=
  ⟨by have := h.size; omega, fun j hj => (hb _ (by simp)).trans (h.first j hj), fun j hj => (hb _ (by simp)).trans (h.begin j hj), fun j hj => (hb _ (by simp)).trans (h.rtable j hj), fun j hj => (hb _ (by simp)).trans (h.table j hj)⟩
theorem Laid.below {w w' : World} {B : Nat} (h : Laid w) (hb : Below B w w') (hB : 4 ≤ B) : Laid w' := h.grown hb.size fun p hp => hb.cell (by omega)
theorem quiet_left {P : Program} {f : FuncId} {args : Array Value} {w : World} {n : Nat} {v : Value}
    (h : Calls P f args (w.drewN n) fun e w' => e = .returned v ∧ w.drewN n = w') : Calls P f args (w.drewN n) fun e w'' => e = .returned v ∧ ∃ m, w'' = w.drewN m :=
  h.mono fun _ _ ⟨he, hm⟩ => ⟨he, n, hm.symm⟩
theorem quiet_add_left {P : Program} {f : FuncId} {args : Array Value} {w : World} {a n : Nat} {v : Value}
    (h : Calls P f args (w.drewN (a + n)) fun e w' => e = .returned v ∧ w.drewN (a + n) = w') :
    Calls P f args (w.drewN (a + n)) fun e w'' => e = .returned v ∧ ∃ m, w'' = w.drewN (a + m) :=
  h.mono fun _ _ ⟨he, hm⟩ => ⟨he, n, hm.symm⟩
theorem new64 (w1 : World) : (w1.alloc (.cells (a64 []) 163)).heap[w1.heap.size]? = some (.cells (a64 []) 163 (0, 0)) := by
  show (w1.heap.push _)[w1.heap.size]? = _
  simp
theorem heap_push_old (h : Array Obj) (o : Obj) (k : Nat) (hk : k < h.size) : (h.push o)[k]? = h[k]? := by
  rw [Array.getElem?_push, if_neg (by omega)]
/-- The state that came in, when the words are there. -/
theorem first_row (w w1 : World) (st : List Int) (o : Obj) (W : List Int) (hb1 : Below ((w.alloc (.cells (a8 st) 144)).alloc o).heap.size ((w.alloc (.cells (a8 st) 144)).alloc o) w1) :
    ((w1.alloc (.cells (a64 []) 163)).setRow w1.heap.size (a64 W)).heap[w.heap.size]? = some (.cells (a8 st) 144 (0, 0)) := by
  have hs : ((w.alloc (.cells (a8 st) 144)).alloc o).heap.size = w.heap.size + 2 := by show ((w.heap.push _).push _).size = _; simp
  have hle := hb1.size
  rw [hs] at hle
  simp only [World.setRow]
  rw [Array.getElem?_modify, if_neg (by omega)]
  show (w1.heap.push _)[w.heap.size]? = _
  rw [heap_push_old _ _ _ (by omega), hb1.block w.heap.size (by rw [hs]; omega)]
  show ((w.heap.push _).push _)[w.heap.size]? = _
  rw [heap_push_old _ _ _ (by simp)]
  simp
theorem new8 (w1 : World) (W : List Int) : (((w1.alloc (.cells (a64 []) 163)).setRow w1.heap.size (a64 W)).alloc (.cells (a8 []) 144)).heap[w1.heap.size + 1]? = some (.cells (a8 []) 144 (0, 0)) := by
  have hs : ((w1.alloc (.cells (a64 []) 163)).setRow w1.heap.size (a64 W)).heap.size = w1.heap.size + 1 := by
    simp only [World.setRow, Array.size_modify]; show (w1.heap.push _).size = _; simp
  show (((w1.alloc (.cells (a64 []) 163)).setRow w1.heap.size (a64 W)).heap.push _)[w1.heap.size + 1]? = _
  rw [Array.getElem?_push, if_pos hs.symm]
end Go.Proofs.YtkpfbjlbllpahaaDoor
