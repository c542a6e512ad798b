import Derived.Test.YtcicdgajhheipaaBs3
import Derived.Test.YtcicdgajhheipaaHld
set_option linter.unusedVariables false
namespace Go.Proofs.Ytcicdgajhheipaa
open Go.RowKit Go.WideMaps Go.Maps Go.MapKept
/-! Payloads in turns under one key, and a record beside it. -/
def besideT : ByteArray := ⟨#[98, 101, 115, 105, 100, 101]⟩
/-- The store: under the key one of m may be behind a cut, beside it stands the other record; the list l stands in v. -/
def OutAt (B K g : Nat) (w : World) (v : Value) (s k n : Int) (l m : List ByteArray) : Prop :=
  ∃ x, AprtS B w g x v l ∧ Fine K x ∧ x.off = false ∧ x.left = 0 ∧ x.room = 536870912 ∧ canZ (keyZ s k n) x = m.map (fun p => (true, frameZ k n p)) ∧ canZ (keyZ s k (besideZ n)) x = [(true, frameZ k (besideZ n) besideT)]
theorem beside_b {n : Int} (h0 : 0 ≤ n) (h1 : n ≤ 9223372036854775807) : 0 ≤ besideZ n ∧ besideZ n ≤ 9223372036854775807 ∧ besideZ n ≠ n := by
  unfold besideZ; split <;> omega
theorem InB.beside {s k n : Int} (h : InB s k n) : InB s k (besideZ n) := ⟨h.s0, h.s1, h.k0, h.k1, (beside_b h.n0 h.n1).1, (beside_b h.n0 h.n1).2.1⟩
theorem InB.ne {s k n : Int} (h : InB s k n) : keyZ s k n ≠ keyZ s k (besideZ n) := key_ne h h.beside (beside_b h.n0 h.n1).2.2.symm
section
variable {B K g : Nat} {w w' : World} {v : Value} {s k n : Int} {l m : List ByteArray}
theorem OutAt.keep (h : OutAt B K g w v s k n l m) (hb : Below w.heap.size w w') : OutAt B K g w' v s k n l m := by
  obtain ⟨x, h1, h2⟩ := h
  exact ⟨x, h1.keep hb, h2⟩
theorem out_put (hK : K ≤ 60) (p : ByteArray) (hb : InB s k n) (hp : p.size ≤ 524288) (w : World) (hB : B ≤ w.heap.size) (h : OutAt B K g w v s k n l m) :
    Calls Try.prog 20 #[.pointer (some ⟨g, 0, none⟩), .int .i64 s, .int .i64 k, .int .i64 n, .string p] w fun e w' => e = .returned (.int .i64 0) ∧ OutAt B (K + 1) g w' v s k n l (m ++ [p]) ∧ Below B w w' := by
  obtain ⟨x, ha, hf, ho, hl, hr, hc1, hc2⟩ := h
  have hs := frame_size k n p
  obtain ⟨q1, q2, q3, q4, q5, q6⟩ := put_room (d := frameZ k n p) hf ho hl (keyz_keyed s k n) (by omega) (by rw [hr]; omega)
  refine (bput_aprt (by omega) s k n p hb hp w x hB ha hf).mono fun e w' ⟨he, ha', hb'⟩ => ?_
  rw [q1] at he
  refine ⟨he, ⟨_, ha', put_fine hf _ _, q2, q3, q4.trans hr, ?_, ?_⟩, hb'⟩
  · rw [q5, if_pos rfl, hc1, List.map_append]; rfl
  · rw [q5, if_neg hb.ne, hc2]
theorem out_get (p : ByteArray) (hb : InB s k n) (hp : p.size ≤ 524288) (w : World) (h : OutAt B K g w v s k n l (m ++ [p])) :
    Calls Try.prog 23 #[.pointer (some ⟨g, 0, none⟩), .int .i64 s, .int .i64 k, .int .i64 n] w fun e w' => e = .returned (.tuple #[.string p, .int .i64 0]) ∧ OutAt B K g w' v s k n l (m ++ [p]) ∧ Below w.heap.size w w' := by
  have H := h
  obtain ⟨x, ha, hf, ho, hl, hr, hc1, hc2⟩ := h
  have hg : getZ x (keyZ s k n) = (frameZ k n p, 0) := by
    refine get_seen hf ho ?_
    rw [← can_last hf]
    simp [hc1]
  exact (bget_frame (K := 0) s k n p hb hp w x ha.lives hg).mono fun e w' ⟨he, hb'⟩ => ⟨he, H.keep hb', hb'⟩
/-- Behind the cut: p is there. -/
def AftO (B g : Nat) (w : World) (v : Value) (s k n : Int) (l : List ByteArray) (p : ByteArray) : Prop :=
  ∃ x, AprtS B w g x v l ∧ getZ x (keyZ s k n) = (frameZ k n p, 0) ∧ getZ x (keyZ s k (besideZ n)) = (frameZ k (besideZ n) besideT, 0)
theorem AftO.keep {p : ByteArray} (h : AftO B g w v s k n l p) (hb : Below w.heap.size w w') : AftO B g w' v s k n l p := by
  obtain ⟨x, h1, h2⟩ := h
  exact ⟨x, h1.keep hb, h2⟩
theorem out_crash (hK : K ≤ 60) (keep : ByteArray) (hkeep : keep.size ≤ 4611686018427387904) (w : World) (hB : B ≤ w.heap.size) (h : OutAt B K g w v s k n l m) :
    Calls Try.prog 24 #[.pointer (some ⟨g, 0, none⟩), .string keep] w fun e w' => e = .returned (.tuple #[]) ∧ (∃ p ∈ m, AftO B g w' v s k n l p) ∧ Below B w w' := by
  obtain ⟨x, ha, hf, ho, hl, hr, hc1, hc2⟩ := h
  have hfc := crash_fine hf keep
  have h1 := seen_crash (key := keyZ s k n) keep x.pend 0 hf.sd
  have h2 := seen_crash (key := keyZ s k (besideZ n)) keep x.pend 0 hf.sd
  change _ ∈ canZ (keyZ s k n) x at h1
  change _ ∈ canZ (keyZ s k (besideZ n)) x at h2
  rw [hc1] at h1
  rw [hc2] at h2
  obtain ⟨p, hp, he⟩ := List.mem_map.1 h1
  have h3 : seenL (keyZ s k (besideZ n)) (crashL keep x.pend 0 x.dur) = (true, frameZ k (besideZ n) besideT) := by simpa using h2
  exact (aprt_crash (by omega) keep hkeep hB ha hf).mono fun e w' ⟨he', ha', hb'⟩ => ⟨he', ⟨p, hp, _, ha', get_seen hfc rfl he.symm, get_seen hfc rfl h3⟩, hb'⟩
theorem aft_get (p : ByteArray) (hb : InB s k n) (hp : p.size ≤ 524288) (w : World) (h : AftO B g w v s k n l p) :
    Calls Try.prog 23 #[.pointer (some ⟨g, 0, none⟩), .int .i64 s, .int .i64 k, .int .i64 n] w fun e w' => e = .returned (.tuple #[.string p, .int .i64 0]) ∧ AftO B g w' v s k n l p ∧ Below w.heap.size w w' := by
  have H := h
  obtain ⟨x, ha, h1, h2⟩ := h
  exact (bget_frame (K := 0) s k n p hb hp w x ha.lives h1).mono fun e w' ⟨he, hb'⟩ => ⟨he, H.keep hb', hb'⟩
theorem aft_near (p : ByteArray) (hb : InB s k n) (w : World) (h : AftO B g w v s k n l p) :
    Calls Try.prog 23 #[.pointer (some ⟨g, 0, none⟩), .int .i64 s, .int .i64 k, .int .i64 (besideZ n)] w fun e w' => e = .returned (.tuple #[.string besideT, .int .i64 0]) ∧ AftO B g w' v s k n l p ∧ Below w.heap.size w w' := by
  have H := h
  obtain ⟨x, ha, h1, h2⟩ := h
  exact (bget_frame (K := 0) s k (besideZ n) besideT hb.beside (by decide) w x ha.lives h2).mono fun e w' ⟨he, hb'⟩ => ⟨he, H.keep hb', hb'⟩
theorem AftO.at {p : ByteArray} (h : AftO B g w v s k n l p) (j : Nat) (hj : j < l.length) : ∃ cg c, v = .slice (some ⟨cg, 0, none⟩) l.length c ∧ cg < w.heap.size ∧ w.cell? ⟨cg, j, none⟩ = some (.string l[j]) := by
  obtain ⟨x, ha, _⟩ := h
  exact ha.at j hj
theorem AftO.len {p : ByteArray} (h : AftO B g w v s k n l p) : ∃ a c, v = .slice a l.length c := by
  obtain ⟨x, ha, _⟩ := h
  obtain ⟨bn, bd, u, p, q, r, s⟩ := ha
  exact r.slice
/-- One payload more in the list. -/
theorem wpList_out {ops : Array Oper} {rest : List Oper} {o : Oper} {a : Act} {Q : Exit → Act → World → Prop} (w : World) (d : ByteArray) (hgd : o.guard = none) (i y : Operand)
    (ho : o.op = .call { callee := .builtin .append, args := #[i, y], argTypes := #[43, 43] }) (v : Value) (hs : a.eval i = v) (hy : a.eval y = .slice (some ⟨w.heap.size, 0, none⟩) 1 1)
    (hap : OutAt B K g w v s k n l m) (hlen : l.length ≤ 4194304) (hB : B ≤ w.heap.size)
    (h : ∀ v' w', OutAt B K g w' v' s k n (l ++ [d]) m → Below B w w' → wpList Try.prog ops Q rest (a.put o.dst v') w') : wpList Try.prog ops Q (o :: rest) a (w.alloc (.cells #[.string d] 9)) := by
  obtain ⟨x, ha, hr⟩ := hap
  exact wpList_aprt w d hgd i y ho v l hs hy ha hlen hB fun v' w' h1 h2 => h v' w' ⟨x, h1, hr⟩ h2
end
/-- Where the rounds begin. -/
theorem out_begin {s k n : Int} (p : ByteArray) (hb : InB s k n) (hp : p.size ≤ 524288) : ∃ x1 x2 x3, putZ (newF 536870912) (keyZ s k n) (frameZ k n p) = (0, x1) ∧ putZ x1 (keyZ s k (besideZ n)) (frameZ k (besideZ n) besideT) = (0, x2) ∧ syncZ x2 = (0, x3) ∧
    Fine 0 (newF 536870912) ∧ Fine 1 x1 ∧ Fine 2 x2 ∧ ∀ (B g : Nat) (w : World), B ≤ w.heap.size → Lives B w g x3 → OutAt B 3 g (w.alloc (.cells #[.string p] 9)) (.slice (some ⟨w.heap.size, 0, none⟩) 1 1) s k n [p] [p] := by
  have hf0 := newF_fine (c := 536870912) (by decide)
  have hs1 := frame_size k n p
  have hs2 := frame_size k (besideZ n) besideT
  have hbt : besideT.size = 6 := rfl
  obtain ⟨q1, q2, q3, q4, q5, q6⟩ := put_room (k := keyZ s k n) (d := frameZ k n p) hf0 rfl rfl (keyz_keyed s k n) (by omega) (by show _ ≤ (536870912 : Int); omega)
  have hf1 := put_fine hf0 (keyZ s k n) (frameZ k n p)
  obtain ⟨y1, hy1⟩ : ∃ y, putZ (newF 536870912) (keyZ s k n) (frameZ k n p) = y := ⟨_, rfl⟩
  rw [hy1] at q1 q2 q3 q4 q6 hf1
  obtain ⟨e1, x1⟩ := y1
  simp only at q1 q2 q3 q4 q6 hf1
  subst q1
  have hr1 : x1.room = 536870912 := q4
  obtain ⟨r1, r2, r3, r4, r5, r6⟩ := put_room (k := keyZ s k (besideZ n)) (d := frameZ k (besideZ n) besideT) hf1 q2 q3 (keyz_keyed s k _) (by omega) (by rw [hr1]; omega)
  have hf2 := put_fine hf1 (keyZ s k (besideZ n)) (frameZ k (besideZ n) besideT)
  obtain ⟨y2, hy2⟩ : ∃ y, putZ x1 (keyZ s k (besideZ n)) (frameZ k (besideZ n) besideT) = y := ⟨_, rfl⟩
  rw [hy2] at r1 r2 r3 r4 r6 hf2
  obtain ⟨e2, x2⟩ := y2
  simp only at r1 r2 r3 r4 r6 hf2
  subst r1
  obtain ⟨t1, t2, t3, t4, t5, t6⟩ := sync_can hf2 r2 r3
  have hf3 := sync_fine hf2
  obtain ⟨y3, hy3⟩ : ∃ y, syncZ x2 = y := ⟨_, rfl⟩
  rw [hy3] at t1 t2 t3 t4 t5 t6 hf3
  obtain ⟨e3, x3⟩ := y3
  simp only at t1 t2 t3 t4 t5 t6 hf3
  subst t1
  refine ⟨x1, x2, x3, hy1, hy2, hy3, hf0, hf1, hf2, fun B g w hB hl => ⟨_, AprtS.first hl p hB, hf3, t2, t3, t4.trans (r4.trans hr1), ?_, ?_⟩⟩
  · rw [t6, r6, seen_do hf1.sn, if_neg hb.ne.symm, q6, seen_do hf0.sn, if_pos rfl]; rfl
  · rw [t6, r6, seen_do hf1.sn, if_pos rfl]; rfl
end Go.Proofs.Ytcicdgajhheipaa
