import Derived.Test.YtcicdgajhheipaaGreatSt1
import Derived.Test.YtcicdgajhheipaaGreatMgBookFresh19
import Derived.Test.YtcicdgajhheipaaGreatShelf
import Derived.Lib.Builder
import Derived.Lib.UnsafeStr
import Derived.Shelf.Strings.Builder1
import Derived.Laws.Externs
set_option linter.unusedVariables false
namespace Go.Proofs.YtcicdgajhheipaaGreat
open Go.RowKit
theorem bldInfo : (Tryz.prog.info? 5).map (fun i => (i.zero, i.size, i.bytes)) = some (some (.int .u8 0), 1, 1) := by kernel_rfl
theorem bldSize : (Tryz.prog.info? 91).map (·.size) = some 2 := by kernel_rfl
theorem bldLies : liesAt Tryz.prog Tryz.prog.depth 91 (2 / Tryz.prog.cellsOf 91) 0 91 1 = true := by kernel_rfl
/-- The builder at block b holds these bytes; v: its buffer. -/
def BldV (w : World) (b : Nat) (v : Value) (l : List UInt8) : Prop :=
  v.ownBlock ≠ some b ∧ w.ownsRow 0 5 1 v l.length (Lib.byteCells l) ∧ ∃ p, (p = .pointer none ∨ p = .pointer (some ⟨b, 0, none⟩)) ∧ w.heap[b]? = some (.cells #[p, v] 91 (0, 0))
def bfoot (b : Nat) (v : Value) : List Nat := b :: v.ownBlock.toList
theorem mem_bfoot {b k : Nat} {v : Value} : k ∈ bfoot b v ↔ k = b ∨ v.ownBlock = some k := by
  unfold bfoot
  cases h : v.ownBlock <;> simp [eq_comm]
theorem BldV.lib {w : World} {b : Nat} {v : Value} {l : List UInt8} (h : BldV w b v l) : Lib.IsBuilder 91 5 0 b (Lib.byteCells l) w := by
  obtain ⟨h1, h2, p, hp, hb⟩ := h
  have h2' : w.ownsRow 0 5 1 v (Lib.byteCells l).length (Lib.byteCells l) := by rw [Lib.byteCells_length]; exact h2
  rcases hp with rfl | rfl
  · exact .inl ⟨Nat.zero_le _, v, hb, h2', h1⟩
  · exact .inr ⟨Nat.zero_le _, v, hb, h2', h1⟩
theorem BldV.lt {w : World} {b : Nat} {v : Value} {l : List UInt8} (h : BldV w b v l) : ∀ k ∈ bfoot b v, k < w.heap.size := by
  obtain ⟨h1, h2, p, hp, hb⟩ := h
  intro k hk
  rcases mem_bfoot.1 hk with rfl | hk
  · exact (Array.getElem?_eq_some_iff.1 hb).1
  · exact (h2.lt k hk).2
theorem BldV.touch {F : List Nat} {w w' : World} {b : Nat} {v : Value} {l : List UInt8} (h : BldV w b v l) (ht : Touch F w w') (hn : ∀ k ∈ bfoot b v, k ∉ F) : BldV w' b v l := by
  have hlt := h.lt
  obtain ⟨h1, h2, p, hp, hb⟩ := h
  refine ⟨h1, ?_, p, hp, (ht.block b (hlt b (mem_bfoot.2 (.inl rfl))) (hn b (mem_bfoot.2 (.inl rfl)))).trans hb⟩
  refine ⟨h2.1, ?_⟩
  rcases h2.2 with hv | ⟨g, cap, cur, rfl, h3, h4, h5⟩
  · exact .inl hv
  · have hm : g ∈ bfoot b (.slice (some ⟨g, 0, none⟩) l.length cap) := mem_bfoot.2 (.inr rfl)
    exact .inr ⟨g, cap, cur, rfl, h3, (ht.block g (hlt g hm) (hn g hm)).trans h4, h5⟩
theorem BldV.keep {w w' : World} {b : Nat} {v : Value} {l : List UInt8} (h : BldV w b v l) (hb : Below w.heap.size w w') : BldV w' b v l := h.touch (Touch.below hb []) (fun _ _ => by simp)
theorem BldV.alloc {w : World} {b : Nat} {v : Value} {l : List UInt8} (h : BldV w b v l) (o : Obj) : BldV (w.alloc o) b v l := h.keep ((Below.refl _ _).alloc (Nat.le_refl _) o)
theorem BldV.drewN {w : World} {b : Nat} {v : Value} {l : List UInt8} (h : BldV w b v l) (n : Nat) : BldV (w.drewN n) b v l := h.keep ⟨rfl, rfl, rfl, Nat.le_refl _, fun _ _ => rfl⟩
theorem BldV.fresh (w : World) : BldV (w.alloc (.cells #[.pointer none, .slice none 0 0] 91)) w.heap.size (.slice none 0 0) [] :=
  ⟨by simp [Value.ownBlock], ⟨rfl, .inl ⟨rfl, rfl⟩⟩, _, .inl rfl, (MapKept.heap_alloc w _).1⟩
set_option maxHeartbeats 1000000 in
set_option maxRecDepth 100000 in
theorem bldcheck_used (b : Nat) (w : World) (h0 : w.cell? ⟨b, 0, none⟩ = some (.pointer (some ⟨b, 0, none⟩))) :
    Calls Tryz.prog 85 #[.pointer (some ⟨b, 0, none⟩)] w fun e w' => e = .returned (.tuple #[]) ∧ w' = w := by
  obtain ⟨j, hj, _⟩ := Option.map_eq_some_iff.1 bldSize
  go_enter Tryz.func85, Tryz.ntmps85
  go_wp2
  rw [Lib.run_neq_ptr_same w _ Tryz.underlying89 hj]
  go_wp2
  go_end0
  exact ⟨rfl, rfl⟩
set_option maxHeartbeats 1000000 in
set_option maxRecDepth 100000 in
theorem bldcheck_fresh (b : Nat) (w : World) (h0 : w.cell? ⟨b, 0, none⟩ = some (.pointer none)) (hsh : w.shape? b = some (91, 2)) (hfz : w.frozen? ⟨b, 0, none⟩ = false) :
    Calls Tryz.prog 85 #[.pointer (some ⟨b, 0, none⟩)] w fun e w' => e = .returned (.tuple #[]) ∧ w' = w.setCell ⟨b, 0, none⟩ (.pointer (some ⟨b, 0, none⟩)) := by
  obtain ⟨j, hj, hjs⟩ := Option.map_eq_some_iff.1 bldSize
  go_enter Tryz.func85, Tryz.ntmps85
  go_wp2
  rw [Lib.run_to_unsafe w ⟨b, 0, none⟩ Tryz.underlying89 Tryz.underlying149 hj (by rw [hjs]; decide) hsh (Nat.zero_lt_succ 1)]
  simp only [Result.andThen]
  rw [Oper.upon_value]
  go_wp2
  rw [run_callFunc_extern Tryz.func99 (by kernel_rfl) (by kernel_rfl) (by kernel_rfl) (e := Extern.AbiNoEscape.same) (by kernel_rfl)]
  rw [Lib.run_noEscape]
  simp only [Result.andThen]
  rw [Oper.upon_value]
  go_wp2
  rw [Lib.run_from_unsafe w ⟨b, 0, none⟩ Tryz.underlying149 Tryz.underlying89 hj hsh bldLies]
  simp only [Result.andThen]
  rw [Oper.upon_value]
  go_wp2
  go_end0
  exact ⟨rfl, rfl⟩
/-- A builder that was written. -/
theorem bldcheck_calls (b : Nat) (v : Value) (l : List UInt8) (w : World) (h : BldV w b v l) :
    Calls Tryz.prog 85 #[.pointer (some ⟨b, 0, none⟩)] w fun e w' => e = .returned (.tuple #[]) ∧ v.ownBlock ≠ some b ∧ w'.ownsRow 0 5 1 v l.length (Lib.byteCells l) ∧ w'.heap[b]? = some (.cells #[.pointer (some ⟨b, 0, none⟩), v] 91 (0, 0)) ∧ Touch [b] w w' ∧ w'.heap.size = w.heap.size := by
  have hl := h.lib
  obtain ⟨h1, h2, p, hp, hb⟩ := h
  rcases hl with h | h
  · refine (bldcheck_fresh b w h.cell0 h.shape h.frozen0).mono ?_
    rintro e w' ⟨rfl, rfl⟩
    obtain ⟨_, v', hb', ho', hne'⟩ := h.used (.pointer (some ⟨b, 0, none⟩))
    obtain ⟨_, v2, hb2, _⟩ := h
    have hv : v2 = v := by
      rw [hb] at hb2
      injection hb2 with e1; injection e1 with e1 e2 e3; simp at e1; exact e1.2.symm
    have hv' : v' = v := by
      have h3 := (show (w.setCell ⟨b, 0, none⟩ (.pointer (some ⟨b, 0, none⟩))).cell? ⟨b, 1, none⟩ = w.cell? ⟨b, 1, none⟩ from World.cell?_setCell_other (h := fun e => by injection e with _ e2; omega) ..)
      rw [Lib.cell_of_heap hb', Lib.cell_of_heap hb] at h3
      simpa using h3
    subst hv'
    rw [Lib.byteCells_length] at ho'
    exact ⟨rfl, h1, ho', hb', (Touch.refl _ _).setCell (.inl (by simp)) _, by simp [World.setCell]⟩
  · refine (bldcheck_used b w h.cell0).mono ?_
    rintro e w' ⟨rfl, rfl⟩
    obtain ⟨_, v2, hb2, ho2, hn2⟩ := h
    have hv : v2 = v := by
      rw [hb] at hb2
      injection hb2 with e1; injection e1 with e1 e2 e3; simp at e1; exact e1.2.symm
    subst hv
    exact ⟨rfl, h1, h2, hb2, Touch.refl _ _, rfl⟩
theorem cell_setX {w : World} {g i : Nat} {u0 : Value} (h : w.cell? ⟨g, i, none⟩ = some u0) (u : Value) : (w.setCell ⟨g, i, none⟩ u).cell? ⟨g, i, none⟩ = some u := World.cell?_setCell_same (h := h) ..
set_option maxHeartbeats 2000000 in
set_option maxRecDepth 100000 in
theorem bldstr_calls (b : Nat) (v : Value) (l : List UInt8) (s : ByteArray) (w : World) (h : BldV w b v l) (hlen : l.length + s.size ≤ 140737488355328) :
    Calls Tryz.prog 54 #[.pointer (some ⟨b, 0, none⟩), .string s] w fun e w' => e = .returned (.tuple #[.int .i64 s.size, .nilIface]) ∧ ∃ v', BldV w' b v' (l ++ s.data.toList) ∧ Touch (bfoot b v) w w' ∧ (v'.ownBlock = v.ownBlock ∨ ∃ m, v'.ownBlock = some m ∧ w.heap.size ≤ m) := by
  obtain ⟨i0, hi, hz0, hz1, hz2⟩ := info_parts bldInfo
  go_enter Tryz.func54, Tryz.ntmps54
  go_wp2_with (go_at_call 85; refine (bldcheck_calls b v l _ h).mono ?_)
  rintro e w1 ⟨rfl, hne, hown, hbk, ht1, hsz1⟩
  have HS1 := Lib.hid hsz1
  clear hsz1
  have c0 : w1.cell? ⟨b, 0, none⟩ = some (.pointer (some ⟨b, 0, none⟩)) := by rw [Lib.cell_of_heap hbk]; rfl
  have c1 : w1.cell? ⟨b, 1, none⟩ = some v := by rw [Lib.cell_of_heap hbk]; rfl
  go_wp2_with (at_builtin; refine wpList_append_string_at _ rfl _ _ 87 9 rfl 0 5 i0 Tryz.underlying87 Tryz.underlying9 hi hz0 hz1 hz2 _ _ _ rfl hown s rfl ?c3 ?c4 ?c5 ?_)
  case c3 => unfold maxLen; omega
  case c4 => omega
  case c5 => omega
  intro v' w2 hown' hgrow hloc
  have hlt : b < w1.heap.size := (Array.getElem?_eq_some_iff.1 hbk).1
  have hb2 : w2.heap[b]? = some (.cells #[.pointer (some ⟨b, 0, none⟩), v] 91 (0, 0)) := by
    rw [hgrow.block b hlt (fun e => hne e.symm)]
    exact hbk
  have d0 : w2.cell? ⟨b, 0, none⟩ = some (.pointer (some ⟨b, 0, none⟩)) := by rw [Lib.cell_of_heap hb2]; rfl
  have d1 : w2.cell? ⟨b, 1, none⟩ = some v := by rw [Lib.cell_of_heap hb2]; rfl
  have f1 : w2.frozen? ⟨b, 1, none⟩ = false := Lib.frozen_of_heap hb2 1
  obtain ⟨ao, n', cap', rfl⟩ : ∃ ao n' cap, v' = .slice ao n' cap := by
    rcases hown'.2 with ⟨hv, _⟩ | ⟨g, cap, cur, hv, _⟩
    · exact ⟨_, _, _, hv⟩
    · exact ⟨_, _, _, hv⟩
  have HLOC := Lib.hid hloc
  have HGR := Lib.hid hgrow
  have HT1 := Lib.hid ht1
  clear hloc hgrow ht1
  go_wp2
  go_ret2
  refine ⟨rfl, .slice ao n' cap', ?_, ?_, ?_⟩
  · have hq := Lib.BuilderAt.put (T := 91) (e := 5) (Nat.zero_le b) hb2 (bs' := Lib.byteCells l ++ Lib.strCells s) (by rw [List.length_append, Lib.strCells_length, Lib.byteCells_length]; exact hown') (by decide)
    rw [Lib.strCells_eq, ← Lib.byteCells_append] at hq
    obtain ⟨_, v3, hb3, ho3, hn3⟩ := hq
    have hv3 : v3 = .slice ao n' cap' := by
      have h3 := cell_setX d1 (.slice ao n' cap')
      rw [Lib.cell_of_heap hb3] at h3
      simpa using h3
    subst hv3
    rw [Lib.byteCells_length] at ho3
    exact ⟨hn3, ho3, _, .inr rfl, hb3⟩
  · refine Touch.setCell (Touch.grown ((HT1.out.mono (F1 := bfoot b v) (fun x hx => by simp at hx; subst hx; exact .inl (mem_bfoot.2 (.inl rfl))))) HGR.out (fun k hk => .inl (mem_bfoot.2 (.inr hk)))) (p := ⟨b, 1, none⟩) (.inl (mem_bfoot.2 (.inl rfl))) _
  · rcases HLOC.out with e | e
    · exact .inl e
    · exact .inr ⟨_, e, by have := HS1.out; first | omega | (simp; omega)⟩
set_option maxHeartbeats 2000000 in
set_option maxRecDepth 100000 in
theorem bldbyte_calls (b : Nat) (v : Value) (l : List UInt8) (c : UInt8) (w : World) (h : BldV w b v l) (hlen : l.length + 1 ≤ 140737488355328) :
    Calls Tryz.prog 56 #[.pointer (some ⟨b, 0, none⟩), .int .u8 (c.toNat : Int)] w fun e w' => e = .returned .nilIface ∧ ∃ v', BldV w' b v' (l ++ [c]) ∧ Touch (bfoot b v) w w' ∧ (v'.ownBlock = v.ownBlock ∨ ∃ m, v'.ownBlock = some m ∧ w.heap.size ≤ m) := by
  obtain ⟨i0, hi, hz0, hz1, hz2⟩ := info_parts bldInfo
  go_enter Tryz.func56, Tryz.ntmps56
  go_wp2_with (go_at_call 85; refine (bldcheck_calls b v l _ h).mono ?_)
  rintro e w1 ⟨rfl, hne, hown, hbk, ht1, hsz1⟩
  have HS1 := Lib.hid hsz1
  clear hsz1
  have c0 : w1.cell? ⟨b, 0, none⟩ = some (.pointer (some ⟨b, 0, none⟩)) := by rw [Lib.cell_of_heap hbk]; rfl
  have c1 : w1.cell? ⟨b, 1, none⟩ = some v := by rw [Lib.cell_of_heap hbk]; rfl
  go_wp2_with (at_builtin; refine wpList_append_own_at _ rfl _ _ 87 rfl 0 5 i0 (.int .u8 0) 1 1 Tryz.underlying87 hi hz0 hz1 hz2 rfl (by decide) _ _ _ rfl (hown.alloc _) ⟨w1.heap.size, 0, none⟩ 1 1 [.int .u8 (c.toNat : Int)] (by rfl) rfl ?c1 ?c2 ?c3 ?c4 ?c5 ?_)
  case c1 => exact cell_one_new _ _ _
  case c2 => intro u hu; simp at hu; subst hu; rfl
  case c3 => unfold maxLen; omega
  case c4 => omega
  case c5 => omega
  intro v' w2 hown' hgrow _ hloc
  have hlt : b < w1.heap.size := (Array.getElem?_eq_some_iff.1 hbk).1
  have hb2 : w2.heap[b]? = some (.cells #[.pointer (some ⟨b, 0, none⟩), v] 91 (0, 0)) := by
    rw [hgrow.block b (by simp; omega) (fun e => hne e.symm), Below.heap_alloc w1 _ b hlt]
    exact hbk
  have d0 : w2.cell? ⟨b, 0, none⟩ = some (.pointer (some ⟨b, 0, none⟩)) := by rw [Lib.cell_of_heap hb2]; rfl
  have d1 : w2.cell? ⟨b, 1, none⟩ = some v := by rw [Lib.cell_of_heap hb2]; rfl
  have f1 : w2.frozen? ⟨b, 1, none⟩ = false := Lib.frozen_of_heap hb2 1
  obtain ⟨ao, n', cap', rfl⟩ : ∃ ao n' cap, v' = .slice ao n' cap := by
    rcases hown'.2 with ⟨hv, _⟩ | ⟨g, cap, cur, hv, _⟩
    · exact ⟨_, _, _, hv⟩
    · exact ⟨_, _, _, hv⟩
  have HLOC := Lib.hid hloc
  have HGR := Lib.hid hgrow
  have HT1 := Lib.hid ht1
  clear hloc hgrow ht1
  go_wp2
  go_ret
  refine ⟨rfl, .slice ao n' cap', ?_, ?_, ?_⟩
  · have hq := Lib.BuilderAt.put (T := 91) (e := 5) (Nat.zero_le b) hb2 (bs' := Lib.byteCells l ++ Lib.byteCells [c]) (by rw [List.length_append, show (Lib.byteCells [c]).length = 1 from rfl, Lib.byteCells_length]; exact hown') (by decide)
    rw [← Lib.byteCells_append] at hq
    obtain ⟨_, v3, hb3, ho3, hn3⟩ := hq
    have hv3 : v3 = .slice ao n' cap' := by
      have h3 := cell_setX d1 (.slice ao n' cap')
      rw [Lib.cell_of_heap hb3] at h3
      simpa using h3
    subst hv3
    rw [Lib.byteCells_length] at ho3
    exact ⟨hn3, ho3, _, .inr rfl, hb3⟩
  · refine Touch.setCell (Touch.grown (Touch.alloc ((HT1.out.mono (F1 := bfoot b v) (fun x hx => by simp at hx; subst hx; exact .inl (mem_bfoot.2 (.inl rfl))))) _) HGR.out (fun k hk => .inl (mem_bfoot.2 (.inr hk)))) (p := ⟨b, 1, none⟩) (.inl (mem_bfoot.2 (.inl rfl))) _
  · rcases HLOC.out with e | e
    · exact .inl e
    · exact .inr ⟨_, e, by have := HS1.out; first | omega | (simp; omega)⟩
set_option maxHeartbeats 2000000 in
set_option maxRecDepth 100000 in
theorem bldwrite_calls (b : Nat) (v : Value) (l : List UInt8) (g cap : Nat) (news : List UInt8) (w : World) (h : BldV w b v l) (hn : ∀ j (hj : j < news.length), w.cell? ⟨g, j, none⟩ = some (.int .u8 (news[j].toNat : Int))) (hg : g < w.heap.size) (hgb : g ≠ b) (hlen : l.length + news.length ≤ 140737488355328) :
    Calls Tryz.prog 57 #[.pointer (some ⟨b, 0, none⟩), .slice (some ⟨g, 0, none⟩) news.length cap] w fun e w' => e = .returned (.tuple #[.int .i64 news.length, .nilIface]) ∧ ∃ v', BldV w' b v' (l ++ news) ∧ Touch (bfoot b v) w w' ∧ (v'.ownBlock = v.ownBlock ∨ ∃ m, v'.ownBlock = some m ∧ w.heap.size ≤ m) := by
  obtain ⟨i0, hi, hz0, hz1, hz2⟩ := info_parts bldInfo
  have hnl := Lib.byteCells_length news
  have HN := Lib.hid hn
  clear hn
  go_enter Tryz.func57, Tryz.ntmps57
  go_wp2_with (go_at_call 85; refine (bldcheck_calls b v l _ h).mono ?_)
  rintro e w1 ⟨rfl, hne, hown, hbk, ht1, hsz1⟩
  have HS1 := Lib.hid hsz1
  clear hsz1
  have c0 : w1.cell? ⟨b, 0, none⟩ = some (.pointer (some ⟨b, 0, none⟩)) := by rw [Lib.cell_of_heap hbk]; rfl
  have c1 : w1.cell? ⟨b, 1, none⟩ = some v := by rw [Lib.cell_of_heap hbk]; rfl
  have HK := Lib.hid (fun j => ht1.cell (p := ⟨g, j, none⟩) hg (by simpa using hgb))
  go_wp2_with (at_builtin; refine wpList_append_own_at _ rfl _ _ 87 rfl 0 5 i0 (.int .u8 0) 1 1 Tryz.underlying87 hi hz0 hz1 hz2 rfl (by decide) _ _ _ rfl hown ⟨g, 0, none⟩ news.length cap (Lib.byteCells news) rfl (hnl.trans (Nat.mul_one _).symm) ?c1 ?c2 ?c3 ?c4 ?c5 ?_)
  case c1 =>
    intro j u hj
    obtain ⟨hj', rfl⟩ := List.getElem?_eq_some_iff.1 hj
    rw [hnl] at hj'
    rw [show (⟨g, 0, none⟩ : Addr).add j = ⟨g, j, none⟩ by simp [Addr.add]; omega]
    rw [HK.out j, HN.out j hj']
    simp [Lib.byteCells]
  case c2 => intro u hu; simp only [Lib.byteCells, List.mem_map] at hu; obtain ⟨x, _, rfl⟩ := hu; rfl
  case c3 => unfold maxLen; omega
  case c4 => omega
  case c5 => omega
  intro v' w2 hown' hgrow _ hloc
  have hlt : b < w1.heap.size := (Array.getElem?_eq_some_iff.1 hbk).1
  have hb2 : w2.heap[b]? = some (.cells #[.pointer (some ⟨b, 0, none⟩), v] 91 (0, 0)) := by
    rw [hgrow.block b hlt (fun e => hne e.symm)]
    exact hbk
  have d0 : w2.cell? ⟨b, 0, none⟩ = some (.pointer (some ⟨b, 0, none⟩)) := by rw [Lib.cell_of_heap hb2]; rfl
  have d1 : w2.cell? ⟨b, 1, none⟩ = some v := by rw [Lib.cell_of_heap hb2]; rfl
  have f1 : w2.frozen? ⟨b, 1, none⟩ = false := Lib.frozen_of_heap hb2 1
  obtain ⟨ao, n', cap', rfl⟩ : ∃ ao n' cap, v' = .slice ao n' cap := by
    rcases hown'.2 with ⟨hv, _⟩ | ⟨g, cap, cur, hv, _⟩
    · exact ⟨_, _, _, hv⟩
    · exact ⟨_, _, _, hv⟩
  have HLOC := Lib.hid hloc
  have HGR := Lib.hid hgrow
  have HT1 := Lib.hid ht1
  clear hloc hgrow ht1
  go_wp2
  go_ret2
  refine ⟨rfl, .slice ao n' cap', ?_, ?_, ?_⟩
  · have hq := Lib.BuilderAt.put (T := 91) (e := 5) (Nat.zero_le b) hb2 (bs' := Lib.byteCells l ++ Lib.byteCells news) (by rw [List.length_append, hnl, Lib.byteCells_length]; exact hown') (by decide)
    rw [← Lib.byteCells_append] at hq
    obtain ⟨_, v3, hb3, ho3, hn3⟩ := hq
    have hv3 : v3 = .slice ao n' cap' := by
      have h3 := cell_setX d1 (.slice ao n' cap')
      rw [Lib.cell_of_heap hb3] at h3
      simpa using h3
    subst hv3
    rw [Lib.byteCells_length] at ho3
    exact ⟨hn3, ho3, _, .inr rfl, hb3⟩
  · refine Touch.setCell (Touch.grown ((HT1.out.mono (F1 := bfoot b v) (fun x hx => by simp at hx; subst hx; exact .inl (mem_bfoot.2 (.inl rfl))))) HGR.out (fun k hk => .inl (mem_bfoot.2 (.inr hk)))) (p := ⟨b, 1, none⟩) (.inl (mem_bfoot.2 (.inl rfl))) _
  · rcases HLOC.out with e | e
    · exact .inl e
    · exact .inr ⟨_, e, by have := HS1.out; first | omega | (simp; omega)⟩
theorem bldtext_calls (b : Nat) (v : Value) (l : List UInt8) (w : World) (h : BldV w b v l) : Calls Tryz.prog 58 #[.pointer (some ⟨b, 0, none⟩)] w fun e w' => e = .returned (.string ⟨l.toArray⟩) ∧ Below 0 w w' :=
  Tryz.Builder_String_any 0 b l w h.lib (Nat.zero_le _)
theorem bldtext_callsLow (b : Nat) (v : Value) (l : List UInt8) (w : World) (h : BldV w b v l) (B : Nat) (hB : ∀ m ∈ bfoot b v, B ≤ m) (hs : B ≤ w.heap.size) : Calls Tryz.prog 58 #[.pointer (some ⟨b, 0, none⟩)] w fun e w' => e = .returned (.string ⟨l.toArray⟩) ∧ Below B w w' := by
  obtain ⟨h1, h2, p, hp, hb⟩ := h
  have h2' : w.ownsRow B 5 1 v (Lib.byteCells l).length (Lib.byteCells l) := by
    rw [Lib.byteCells_length]
    refine ⟨h2.1, ?_⟩
    rcases h2.2 with hv | ⟨g, cap, cur, rfl, h3, r⟩
    · exact .inl hv
    · exact .inr ⟨g, cap, cur, rfl, hB g (mem_bfoot.2 (.inr rfl)), r⟩
  have hl : Lib.IsBuilder 91 5 B b (Lib.byteCells l) w := by
    rcases hp with rfl | rfl
    · exact .inl ⟨hB b (mem_bfoot.2 (.inl rfl)), v, hb, h2', h1⟩
    · exact .inr ⟨hB b (mem_bfoot.2 (.inl rfl)), v, hb, h2', h1⟩
  exact Tryz.Builder_String_any B b l w hl hs
end Go.Proofs.YtcicdgajhheipaaGreat
