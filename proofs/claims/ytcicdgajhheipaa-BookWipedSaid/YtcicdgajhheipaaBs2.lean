import Derived.Test.YtcicdgajhheipaaBs1
import Derived.Test.YtcicdgajhheipaaSq1
import Derived.Test.YtcicdgajhheipaaBk0
set_option linter.unusedVariables false
namespace Go.Proofs.Ytcicdgajhheipaa
open Go.RowKit Go.WideMaps Go.Maps Go.MapKept
theorem sync_can {x : Fld} {K : Nat} (hf : Fine K x) (ho : x.off = false) (hl : x.left = 0) : (syncZ x).1 = 0 ∧ (syncZ x).2.off = false ∧ (syncZ x).2.left = 0 ∧ (syncZ x).2.room = x.room ∧ (syncZ x).2.now = x.now ∧ ∀ key, canZ key (syncZ x).2 = [seenL key x.now] := by
  have hst : x.struck = x := by unfold Fld.struck; rw [if_pos hl]
  have hz : syncZ x = (0, { x with dur := x.pend.foldl doW x.dur, pend := [] }) := by
    unfold syncZ strikesB
    rw [if_neg (by rw [ho]; simp), if_neg (by rw [hl]; simp), hst]
  rw [hz]
  refine ⟨rfl, ho, hl, rfl, rfl, fun key => ?_⟩
  show [seenL key (x.pend.foldl doW x.dur)] = _
  rw [hf.now]
theorem get_seen {K : Nat} {x : Fld} (hf : Fine K x) (ho : x.off = false) {key d : ByteArray} (h : seenL key x.now = (true, d)) : getZ x key = (d, 0) := by
  have h1 := see_now hf ho key
  rw [h] at h1
  injection h1 with h1 h2
  have h3 : (getZ x key).2 = 0 := of_decide_eq_true h1
  exact Prod.ext h2 h3
/-- A store and a list of strings beside it. -/
def AprtS (B : Nat) (w : World) (g : Nat) (x : Fld) (v : Value) (l : List ByteArray) : Prop :=
  ∃ bn bd u, PSF w g bn bd u x ∧ (∀ m ∈ foot g bn bd u, B ≤ m) ∧ Row w B 1 v l.length (strV l) ∧ ∀ k, v.ownBlock = some k → k ∉ foot g bn bd u
section
variable {B g : Nat} {w w' : World} {x : Fld} {v : Value} {l : List ByteArray}
theorem AprtS.keep (h : AprtS B w g x v l) (hb : Below w.heap.size w w') : AprtS B w' g x v l := by
  obtain ⟨bn, bd, u, p, q, r, s⟩ := h
  exact ⟨bn, bd, u, p.keep hb, q, r.keep hb, s⟩
theorem AprtS.lives (h : AprtS B w g x v l) : Lives B w g x := by
  obtain ⟨bn, bd, u, p, q, r, s⟩ := h
  exact ⟨bn, bd, u, p, q⟩
theorem AprtS.kept {bn bd : Nat} {x' : Fld} {u : Value} (hB : B ≤ w.heap.size) (q : ∀ m ∈ foot g bn bd u, B ≤ m) (r : Row w B 1 v l.length (strV l)) (s : ∀ k, v.ownBlock = some k → k ∉ foot g bn bd u)
    (hk : Kept w g bn bd u x' w') : AprtS B w' g x' v l := by
  obtain ⟨bn', u', p, t, f⟩ := hk
  refine ⟨bn', bd, u', p, fun m hm => ?_, r.touch t s, fun k hk hm => ?_⟩
  · rcases f m hm with e | e
    · exact q m e
    · omega
  · rcases f k hm with e | e
    · exact s k hk e
    · have := (r.lt k hk).2; omega
theorem aprt_put {K : Nat} (hK : K ≤ 2097152) (k d : ByteArray) (hk : k.size ≤ 4194304) (hd : d.size ≤ 4194304) (hB : B ≤ w.heap.size) (h : AprtS B w g x v l) (hf : Fine K x) :
    Calls Try.prog 38 #[.pointer (some ⟨g, 0, none⟩), .string k, .string d] w fun e w' => e = .returned (.int .i64 (putZ x k d).1) ∧ AprtS B w' g (putZ x k d).2 v l ∧ Below B w w' := by
  obtain ⟨bn, bd, u, p, q, r, s⟩ := h
  exact (sput_calls K hK k d hk hd w g bn bd u x p hf).mono fun e w' ⟨he, hk⟩ => ⟨he, AprtS.kept hB q r s hk, (hk.lives q hB).2⟩
theorem aprt_crash {K : Nat} (hK : K ≤ 2097151) (keep : ByteArray) (hkeep : keep.size ≤ 4611686018427387904) (hB : B ≤ w.heap.size) (h : AprtS B w g x v l) (hf : Fine K x) :
    Calls Try.prog 24 #[.pointer (some ⟨g, 0, none⟩), .string keep] w fun e w' => e = .returned (.tuple #[]) ∧ AprtS B w' g (crashZ x keep) v l ∧ Below B w w' := by
  obtain ⟨bn, bd, u, p, q, r, s⟩ := h
  exact (scrash_calls K hK keep hkeep w g bn bd u x p hf).mono fun e w' ⟨he, hk⟩ => ⟨he, AprtS.kept hB q r s hk, (hk.lives q hB).2⟩
theorem AprtS.at (h : AprtS B w g x v l) (j : Nat) (hj : j < l.length) : ∃ cg c, v = .slice (some ⟨cg, 0, none⟩) l.length c ∧ cg < w.heap.size ∧ w.cell? ⟨cg, j, none⟩ = some (.string l[j]) := by
  obtain ⟨bn, bd, u, p, q, hr, s⟩ := h
  rcases Row.form hr with ⟨_, h0, _⟩ | ⟨cg, cap, rfl, _, hg, _, _, hx, _⟩
  · omega
  · exact ⟨cg, cap, rfl, hg, hx _ _ (by simp [strV, hj])⟩
theorem AprtS.first (h : Lives B w g x) (s : ByteArray) (hB : B ≤ w.heap.size) : AprtS B (w.alloc (.cells #[.string s] 9)) g x (.slice (some ⟨w.heap.size, 0, none⟩) 1 1) [s] := by
  obtain ⟨bn, bd, u, p, q⟩ := h
  refine ⟨bn, bd, u, p.alloc _, q, (row_lit w #[.string s] 9 1 1 (by unfold maxLen; omega) rfl).mono hB, fun k hk hm => ?_⟩
  have h1 := p.foot_lt k hm
  injection hk with hk
  have : w.heap.size = k := hk
  omega
theorem strV_snoc2 (l : List ByteArray) (s : ByteArray) : strV (l ++ [s]) = strV l ++ [.string s] := by simp [strV]
/-- One string appended. -/
theorem wpList_aprt {ops : Array Oper} {rest : List Oper} {o : Oper} {a : Act} {Q : Exit → Act → World → Prop} (w : World) (d : ByteArray) (hgd : o.guard = none) (s y : Operand)
    (ho : o.op = .call { callee := .builtin .append, args := #[s, y], argTypes := #[43, 43] }) (v : Value) (l : List ByteArray) (hs : a.eval s = v) (hy : a.eval y = .slice (some ⟨w.heap.size, 0, none⟩) 1 1)
    (hap : AprtS B w g x v l) (hlen : l.length ≤ 4194304) (hB : B ≤ w.heap.size)
    (h : ∀ v' w', AprtS B w' g x v' (l ++ [d]) → Below B w w' → wpList Try.prog ops Q rest (a.put o.dst v') w') : wpList Try.prog ops Q (o :: rest) a (w.alloc (.cells #[.string d] 9)) := by
  obtain ⟨i0, hi, hz0, hz1, hz2⟩ := info_parts infoStrK
  obtain ⟨bn, bd, u, p, q, hrow, hne⟩ := hap
  refine wpList_append_row _ hgd s y 43 43 ho B 9 i0 (.string ⟨#[]⟩) 1 16 Try.underlying43 hi hz0 hz1 hz2 rfl v _ _ hs (hrow.alloc _) _ 1 _ hy (Row.src (row_lit w #[.string d] 9 1 1 (by unfold maxLen; omega) rfl) Try.underlying43 (by intro z hz; simp at hz; subst hz; rfl)) (by unfold maxLen; omega) (by omega) (Nat.le_trans hB (by simp)) ?_
  intro v' w1 h1 hg hat
  have hz : (w.alloc (.cells #[.string d] 9)).heap.size = w.heap.size + 1 := by simp
  have ht : Touch v.ownBlock.toList w w1 := ((Touch.refl _ w).alloc _).grown hg (fun k hk => by simp [hk])
  have p1 : PSF w1 g bn bd u x := p.touch ht (fun k hk hm => hne k (by simpa using hm) hk)
  refine h v' w1 ⟨bn, bd, u, p1, q, ?_, fun k hk hm => ?_⟩ ?_
  · rw [strV_snoc2, List.length_append]; exact h1
  · rcases hat with e | e
    · exact hne k (by rw [← e]; exact hk) hm
    · rw [e] at hk
      injection hk with hk
      have := p.foot_lt k hm
      omega
  · exact ((Below.refl B w).alloc hB _).grown hg (Nat.le_trans hB (by simp)) (fun j hj => (hrow.lt j hj).1)
end
end Go.Proofs.Ytcicdgajhheipaa
