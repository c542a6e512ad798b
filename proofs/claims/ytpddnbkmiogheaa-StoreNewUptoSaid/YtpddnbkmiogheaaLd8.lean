import Derived.Test.YtpddnbkmiogheaaLd6
import Derived.Test.YtpddnbkmiogheaaSp9
set_option linter.unusedVariables false
namespace Go.Proofs.Ytpddnbkmiogheaa
open Go.RowKit Go.WideMaps Go.Maps Go.MapKept
theorem lkept_calls (o : OpZ) (w : World) : Calls Try.prog 18 #[opV o] w fun e w' => e = .returned (.string (leftZ o).2) ∧ Below w.heap.size w w' := by
  obtain ⟨k, key, data, n⟩ := o
  unfold leftZ opV
  simp only
  by_cases h1 : k = 1
  · subst h1
    go_enter Try.func18, Try.ntmps18
    go_wp2
    go_ret
    exact ⟨rfl, (Below.refl _ _).alloc (Nat.le_refl _) _⟩
  · have hq := intNe h1
    rw [if_neg h1]
    clear h1
    go_enter Try.func18, Try.ntmps18
    go_wp2
    go_ret
    exact ⟨rfl, (Below.refl _ _).alloc (Nat.le_refl _) _⟩
def seensV (l : List (Bool × ByteArray)) : List Value := l.flatMap fun s => [.bool s.1, .string s.2]
theorem seensV_snoc (l : List (Bool × ByteArray)) (s : Bool × ByteArray) : seensV (l ++ [s]) = seensV l ++ [.bool s.1, .string s.2] := by simp [seensV]
theorem infoSeen : (Try.prog.info? 27).map (fun i => (i.zero, i.size, i.bytes)) = some (some (.agg #[.bool false, .string ⟨#[]⟩]), 2, 24) := by kernel_rfl
/-- A store and a list of Seen beside it. -/
def Apart (B : Nat) (w : World) (g : Nat) (x : Fld) (v : Value) (l : List (Bool × ByteArray)) : Prop :=
  ∃ bn bd u, PSF w g bn bd u x ∧ (∀ m ∈ foot g bn bd u, B ≤ m) ∧ Row w B 2 v l.length (seensV l) ∧ ∀ k, v.ownBlock = some k → k ∉ foot g bn bd u
theorem Apart.keep {B g : Nat} {w w' : World} {x : Fld} {v : Value} {l : List (Bool × ByteArray)} (h : Apart B w g x v l) (hb : Below w.heap.size w w') : Apart B w' g x v l := by
  obtain ⟨bn, bd, u, p, q, r, s⟩ := h
  exact ⟨bn, bd, u, p.keep hb, q, r.keep hb, s⟩
theorem Apart.lives {B g : Nat} {w : World} {x : Fld} {v : Value} {l : List (Bool × ByteArray)} (h : Apart B w g x v l) : Lives B w g x := by
  obtain ⟨bn, bd, u, p, q, r, s⟩ := h
  exact ⟨bn, bd, u, p, q⟩
theorem Apart.nil {B g : Nat} {w : World} {x : Fld} (h : Lives B w g x) : Apart B w g x (.slice none 0 0) [] := by
  obtain ⟨bn, bd, u, p, q⟩ := h
  exact ⟨bn, bd, u, p, q, Row.nil _ B 2, fun k hk => by cases hk⟩
/-- A call that turns the store leaves the list. -/
theorem Apart.kept {B g bn bd : Nat} {w w' : World} {x' : Fld} {u v : Value} {l : List (Bool × ByteArray)} (hB : B ≤ w.heap.size) (q : ∀ m ∈ foot g bn bd u, B ≤ m) (r : Row w B 2 v l.length (seensV l)) (s : ∀ k, v.ownBlock = some k → k ∉ foot g bn bd u)
    (hk : Kept w g bn bd u x' w') : Apart B w' g x' v l := by
  obtain ⟨bn', u', p, t, f⟩ := hk
  refine ⟨bn', bd, u', p, fun m hm => ?_, r.touch t s, fun k hk hm => ?_⟩
  · rcases f m hm with e | e
    · exact q m e
    · omega
  · rcases f k hm with e | e
    · exact s k hk e
    · have := (r.lt k hk).2; omega
theorem apart_do {B K g : Nat} (hK : K ≤ 2097151) (o : OpZ) (ho : o.Ok) (w : World) (x : Fld) (v : Value) (l : List (Bool × ByteArray)) (hB : B ≤ w.heap.size) (h : Apart B w g x v l) (hf : Fine K x) :
    Calls Try.prog 16 #[.pointer (some ⟨g, 0, none⟩), opV o] w fun e w' => ∃ nv, e = .returned (gotV (doZ x o).1 nv) ∧ Row w' w.heap.size 1 nv (doZ x o).1.names.length (strV (doZ x o).1.names) ∧ Apart B w' g (doZ x o).2 v l ∧ Below B w w' := by
  obtain ⟨bn, bd, u, p, q, r, s⟩ := h
  exact (ldo_calls K hK o ho w g bn bd u x p hf).mono fun e w' ⟨nv, he, hr, hk⟩ => ⟨nv, he, hr, Apart.kept hB q r s hk, (hk.lives q hB).2⟩
theorem apart_crash {B K g : Nat} (hK : K ≤ 2097151) (keep : ByteArray) (hkeep : keep.size ≤ 4194304) (w : World) (x : Fld) (v : Value) (l : List (Bool × ByteArray)) (hB : B ≤ w.heap.size) (h : Apart B w g x v l) (hf : Fine K x) :
    Calls Try.prog 19 #[.pointer (some ⟨g, 0, none⟩), .string keep] w fun e w' => e = .returned (.tuple #[]) ∧ Apart B w' g (crashZ x keep) v l ∧ Below B w w' := by
  obtain ⟨bn, bd, u, p, q, r, s⟩ := h
  exact (scrash_calls K hK keep hkeep w g bn bd u x p hf).mono fun e w' ⟨he, hk⟩ => ⟨he, Apart.kept hB q r s hk, (hk.lives q hB).2⟩
theorem seensV_at : ∀ (l : List (Bool × ByteArray)) (j : Nat) (h : j < l.length), (seensV l)[j * 2]? = some (.bool l[j].1) ∧ (seensV l)[j * 2 + 1]? = some (.string l[j].2)
  | s :: r, 0, _ => ⟨rfl, rfl⟩
  | s :: r, j + 1, h => by
    have ih := seensV_at r j (by simpa using h)
    have e : seensV (s :: r) = [.bool s.1, .string s.2] ++ seensV r := by simp [seensV]
    have h2 : ([.bool s.1, .string s.2] : List Value).length = 2 := rfl
    rw [e, List.getElem?_append_right (by simp; omega), List.getElem?_append_right (by simp; omega), h2, show (j + 1) * 2 - 2 = j * 2 by omega, show (j + 1) * 2 + 1 - 2 = j * 2 + 1 by omega]
    simpa using ih
theorem Apart.at {B g : Nat} {w : World} {x : Fld} {v : Value} {l : List (Bool × ByteArray)} (h : Apart B w g x v l) (j : Nat) (hj : j < l.length) :
    ∃ cg c, v = .slice (some ⟨cg, 0, none⟩) l.length c ∧ w.cell? ⟨cg, j * 2, none⟩ = some (.bool l[j].1) ∧ w.cell? ⟨cg, j * 2 + 1, none⟩ = some (.string l[j].2) := by
  obtain ⟨bn, bd, u, p, q, hr, s⟩ := h
  obtain ⟨q1, q2⟩ := seensV_at l j hj
  rcases Row.form hr with ⟨_, h0, _⟩ | ⟨cg, cap, rfl, _, hg, _, _, hx, _⟩
  · omega
  · exact ⟨cg, cap, rfl, hx _ _ q1, hx _ _ q2⟩
/-- One Seen appended. -/
theorem wpList_seen {ops : Array Oper} {rest : List Oper} {o : Oper} {a : Act} {Q : Exit → Act → World → Prop} (wr : World) (B g : Nat) (y : Fld) (b : Bool) (d : ByteArray) (hgd : o.guard = none) (s x : Operand)
    (ho : o.op = .call { callee := .builtin .append, args := #[s, x], argTypes := #[29, 29] }) (v : Value) (l : List (Bool × ByteArray)) (hs : a.eval s = v) (hx : a.eval x = .slice (some ⟨wr.heap.size, 0, none⟩) 1 1)
    (hap : Apart B wr g y v l) (hlen : l.length ≤ 4194304) (hB : B ≤ wr.heap.size)
    (h : ∀ v' w', Apart B w' g y v' (l ++ [(b, d)]) → Below B wr w' → wpList Try.prog ops Q rest (a.put o.dst v') w') : wpList Try.prog ops Q (o :: rest) a (wr.alloc (.cells #[.bool b, .string d] 27)) := by
  obtain ⟨i0, hi, hz0, hz1, hz2⟩ := info_parts infoSeen
  obtain ⟨bn, bd, u, p, q, hrow, hne⟩ := hap
  refine wpList_append_row _ hgd s x 29 29 ho B 27 i0 (.agg #[.bool false, .string ⟨#[]⟩]) 2 24 Try.underlying29 hi hz0 hz1 hz2 rfl v _ _ hs (hrow.alloc _) _ 1 _ hx (Row.src (row_lit wr #[.bool b, .string d] 27 1 2 (by unfold maxLen; omega) rfl) Try.underlying29 (by intro z hz; simp at hz; rcases hz with rfl | rfl <;> rfl)) (by unfold maxLen; omega) (by omega) (Nat.le_trans hB (by simp)) ?_
  intro v' w1 h1 hg hat
  have hz : (wr.alloc (.cells #[.bool b, .string d] 27)).heap.size = wr.heap.size + 1 := by simp
  have ht : Touch v.ownBlock.toList wr w1 := ((Touch.refl _ wr).alloc _).grown hg (fun k hk => by simp [hk])
  have p1 : PSF w1 g bn bd u y := p.touch ht (fun k hk hm => hne k (by simpa using hm) hk)
  refine h v' w1 ⟨bn, bd, u, p1, q, ?_, fun k hk hm => ?_⟩ ?_
  · rw [seensV_snoc, List.length_append]; exact h1
  · rcases hat with e | e
    · exact hne k (by rw [← e]; exact hk) hm
    · rw [e] at hk
      injection hk with hk
      have := p.foot_lt k hm
      omega
  · exact ((Below.refl B wr).alloc hB _).grown hg (Nat.le_trans hB (by simp)) (fun j hj => (hrow.lt j hj).1)
/-- The same as a step of a region that draws. -/
theorem step_seen {ops : Array Oper} {o : Oper} {a : Act} {K : Act → World → Prop} {Q : Exit → Act → World → Prop} {E : Prop} (wr : World) (B g : Nat) (y : Fld) (b : Bool) (d : ByteArray) (hgd : o.guard = none) (s x : Operand)
    (ho : o.op = .call { callee := .builtin .append, args := #[s, x], argTypes := #[29, 29] }) (v : Value) (l : List (Bool × ByteArray)) (hs : a.eval s = v) (hx : a.eval x = .slice (some ⟨wr.heap.size, 0, none⟩) 1 1)
    (hap : Apart B wr g y v l) (hlen : l.length ≤ 4194304) (hB : B ≤ wr.heap.size)
    (h : ∀ v' w', Apart B w' g y v' (l ++ [(b, d)]) → Below B wr w' → (∀ k, k < wr.heap.size → v.ownBlock ≠ some k → w'.heap[k]? = wr.heap[k]?) → K (a.put o.dst v') w') : if Region.wanted o (yielded ops a.tmps) = true then Oper.wp Try.prog o a (wr.alloc (.cells #[.bool b, .string d] 27)) K Q else E := by
  obtain ⟨i0, hi, hz0, hz1, hz2⟩ := info_parts infoSeen
  obtain ⟨bn, bd, u, p, q, hrow, hne⟩ := hap
  refine step_append_row _ hgd s x 29 29 ho B 27 i0 (.agg #[.bool false, .string ⟨#[]⟩]) 2 24 Try.underlying29 hi hz0 hz1 hz2 rfl v _ _ hs (hrow.alloc _) _ 1 _ hx (Row.src (row_lit wr #[.bool b, .string d] 27 1 2 (by unfold maxLen; omega) rfl) Try.underlying29 (by intro z hz; simp at hz; rcases hz with rfl | rfl <;> rfl)) (by unfold maxLen; omega) (by omega) (Nat.le_trans hB (by simp)) ?_
  intro v' w1 h1 hg hat
  have hz : (wr.alloc (.cells #[.bool b, .string d] 27)).heap.size = wr.heap.size + 1 := by simp
  have ht : Touch v.ownBlock.toList wr w1 := ((Touch.refl _ wr).alloc _).grown hg (fun k hk => by simp [hk])
  have p1 : PSF w1 g bn bd u y := p.touch ht (fun k hk hm => hne k (by simpa using hm) hk)
  refine h v' w1 ⟨bn, bd, u, p1, q, ?_, fun k hk hm => ?_⟩ ?_ (fun k hk hn => ?_)
  · rw [seensV_snoc, List.length_append]; exact h1
  · rcases hat with e | e
    · exact hne k (by rw [← e]; exact hk) hm
    · rw [e] at hk
      injection hk with hk
      have := p.foot_lt k hm
      omega
  · exact ((Below.refl B wr).alloc hB _).grown hg (Nat.le_trans hB (by simp)) (fun j hj => (hrow.lt j hj).1)
  · rw [hg.block k (by simp; omega) (fun e => hn e.symm)]
    exact heap_alloc_old _ _ _ hk
/-- The same call behind boxes that lie above the store and the list: they stay. -/
theorem apart_do2 {B K g : Nat} {w0 w : World} {x : Fld} {v : Value} {l : List (Bool × ByteArray)} (hK : K ≤ 2097151) (o : OpZ) (ho : o.Ok) (hB : B ≤ w0.heap.size) (h : Apart B w0 g x v l) (hb : Below w0.heap.size w0 w) (hf : Fine K x) :
    Calls Try.prog 16 #[.pointer (some ⟨g, 0, none⟩), opV o] w fun e w' => ∃ nv, e = .returned (gotV (doZ x o).1 nv) ∧ Row w' w.heap.size 1 nv (doZ x o).1.names.length (strV (doZ x o).1.names) ∧ Apart B w' g (doZ x o).2 v l ∧ Below B w w' ∧
      ∀ k, w0.heap.size ≤ k → k < w.heap.size → w'.heap[k]? = w.heap[k]? := by
  obtain ⟨bn, bd, u, p, q, r, s⟩ := h
  have hz := hb.size
  refine (ldo_calls K hK o ho w g bn bd u x (p.keep hb) hf).mono fun e w' ⟨nv, he, hr, hk⟩ => ⟨nv, he, hr, Apart.kept (by omega) q (r.keep hb) s hk, (hk.lives q (by omega)).2, ?_⟩
  obtain ⟨bn', u', p', t, f⟩ := hk
  exact fun k h1 h2 => t.block k h2 (fun hm => by have := p.foot_lt k hm; omega)
theorem apart_crash2 {B K g : Nat} {w0 w : World} {x : Fld} {v : Value} {l : List (Bool × ByteArray)} (hK : K ≤ 2097151) (keep : ByteArray) (hkeep : keep.size ≤ 4194304) (hB : B ≤ w0.heap.size) (h : Apart B w0 g x v l) (hb : Below w0.heap.size w0 w) (hf : Fine K x) :
    Calls Try.prog 19 #[.pointer (some ⟨g, 0, none⟩), .string keep] w fun e w' => e = .returned (.tuple #[]) ∧ Apart B w' g (crashZ x keep) v l ∧ Below B w w' ∧ ∀ k, w0.heap.size ≤ k → k < w.heap.size → w'.heap[k]? = w.heap[k]? := by
  obtain ⟨bn, bd, u, p, q, r, s⟩ := h
  have hz := hb.size
  refine (scrash_calls K hK keep hkeep w g bn bd u x (p.keep hb) hf).mono fun e w' ⟨he, hk⟩ => ⟨he, Apart.kept (by omega) q (r.keep hb) s hk, (hk.lives q (by omega)).2, ?_⟩
  obtain ⟨bn', u', p', t, f⟩ := hk
  exact fun k h1 h2 => t.block k h2 (fun hm => by have := p.foot_lt k hm; omega)
theorem Apart.alloc {B g : Nat} {w : World} {x : Fld} {v : Value} {l : List (Bool × ByteArray)} (h : Apart B w g x v l) (o : Obj) : Apart B (w.alloc o) g x v l := h.keep ((Below.refl _ _).alloc (Nat.le_refl _) o)
theorem Apart.drew {B g : Nat} {w : World} {x : Fld} {v : Value} {l : List (Bool × ByteArray)} (h : Apart B w g x v l) : Apart B w.drew g x v l := by
  obtain ⟨bn, bd, u, p, q, r, s⟩ := h
  exact ⟨bn, bd, u, p.drew, q, r.drew, s⟩
theorem Apart.drewN {B g : Nat} {w : World} {x : Fld} {v : Value} {l : List (Bool × ByteArray)} (h : Apart B w g x v l) (n : Nat) : Apart B (w.drewN n) g x v l := by
  obtain ⟨bn, bd, u, p, q, r, s⟩ := h
  exact ⟨bn, bd, u, p.drewN n, q, r.drewN n, s⟩
theorem Apart.own {B g : Nat} {w : World} {x : Fld} {v : Value} {l : List (Bool × ByteArray)} (h : Apart B w g x v l) : v.ownBlock ≠ some w.heap.size := by
  obtain ⟨bn, bd, u, p, q, r, s⟩ := h
  intro e
  have := (r.lt _ e).2
  omega
theorem Apart.cells {B g : Nat} {w : World} {x : Fld} {cg n c : Nat} {l : List (Bool × ByteArray)} (h : Apart B w g x (.slice (some ⟨cg, 0, none⟩) n c) l) (j : Nat) (hj : j < l.length) :
    w.cell? ⟨cg, j * 2, none⟩ = some (.bool l[j].1) ∧ w.cell? ⟨cg, j * 2 + 1, none⟩ = some (.string l[j].2) := by
  obtain ⟨cg', c', e, h1, h2⟩ := h.at j hj
  injection e with e1
  injection e1 with e1
  injection e1 with e1
  subst e1
  exact ⟨h1, h2⟩
theorem Apart.none_of {B g : Nat} {w : World} {x : Fld} {v : Value} {l : List (Bool × ByteArray)} (h : Apart B w g x v l) : Apart B w g x (.slice none 0 0) [] := Apart.nil h.lives
theorem Apart.form {B g : Nat} {w : World} {x : Fld} {v : Value} {l : List (Bool × ByteArray)} (h : Apart B w g x v l) : ∃ a c, v = .slice a l.length c := by
  obtain ⟨bn, bd, u, p, q, r, s⟩ := h
  exact r.slice
theorem opBox2 {wr w2 : World} {ok on : Int} {okey odata : ByteArray} (hp : ∀ k, wr.heap.size ≤ k → k < (wr.alloc (.cells #[.int .i64 ok, .string okey, .string odata, .int .i64 on] 31)).heap.size → w2.heap[k]? = (wr.alloc (.cells #[.int .i64 ok, .string okey, .string odata, .int .i64 on] 31)).heap[k]?) :
    w2.cell? ⟨wr.heap.size, 0, none⟩ = some (.int .i64 ok) ∧ w2.cell? ⟨wr.heap.size, 1, none⟩ = some (.string okey) ∧ w2.cell? ⟨wr.heap.size, 2, none⟩ = some (.string odata) ∧ w2.cell? ⟨wr.heap.size, 3, none⟩ = some (.int .i64 on) ∧ wr.heap.size < w2.heap.size := by
  have hob : w2.heap[wr.heap.size]? = some (.cells #[.int .i64 ok, .string okey, .string odata, .int .i64 on] 31) := by
    rw [hp wr.heap.size (Nat.le_refl _) (by simp)]
    exact heap_alloc_new _ _
  have b0 : w2.cell? ⟨wr.heap.size, 0, none⟩ = some (.int .i64 ok) := by rw [cell_of_row _ _ _ _ _ _ hob]; rfl
  exact ⟨b0, by rw [cell_of_row _ _ _ _ _ _ hob]; rfl, by rw [cell_of_row _ _ _ _ _ _ hob]; rfl, by rw [cell_of_row _ _ _ _ _ _ hob]; rfl, World.block_lt_of_cell? w2 _ b0⟩
end Go.Proofs.Ytpddnbkmiogheaa
