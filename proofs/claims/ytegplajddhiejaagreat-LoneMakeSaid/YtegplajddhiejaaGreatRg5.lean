import Derived.Test.YtegplajddhiejaaGreatMgLoneMake18
import Derived.Test.YtegplajddhiejaaGreatBk20
import Derived.Test.YtegplajddhiejaaGreatSt6c
import Derived.Test.YtegplajddhiejaaGreatMgLoneMake19
set_option linter.unusedVariables false
set_option linter.unusedSimpArgs false
namespace Go.Proofs.YtegplajddhiejaaGreat
open Go.RowKit Go.WideMaps Go.Maps Go.MapKept
/-! Both stores side by side: what the calls of a book do to them. -/
def numsP (x : Fld) (s k : Int) : List Int := if 0 ≤ s ∧ 1 ≤ k ∧ k ≤ 255 then numsZ (keysZ x (prefZ s ++ oneZ k)) else []
theorem inG_key {s k t l n : Int} (h : InB t l n) : inG s k (keyZ t l n) = decide (t = s ∧ l = k) := by
  obtain ⟨h1, h2, h3, h4⟩ := okN_key h
  unfold inG
  rw [h1, h3, h4, Bool.true_and, ← Bool.decide_and]
theorem nums_same (x : Fld) (s k : Int) (s1 : s ≤ 9223372036854775807) : numsP x s k = numsG (keysZ x letB) s k := by
  unfold numsP
  split
  · rename_i h
    obtain ⟨s0, k0, k1⟩ := h
    unfold keysZ
    split
    · rfl
    · unfold numsZ numsG
      congr 1
      rw [List.filter_filter, List.filter_filter]
      refine List.filter_congr fun b _ => ?_
      cases hok : okN b
      · unfold inG; rw [hok]; rfl
      · obtain ⟨t, l, n, hb, rfl⟩ := okN_form hok
        rw [inG_key hb, show isPre letB (keyZ t l n) = true from pre_letter, pre_both s0 s1 k0 k1 hb, Bool.and_true, Bool.true_and]
        refine decide_eq_decide.2 ⟨fun h => ⟨h.1.symm, h.2.symm⟩, fun h => ⟨h.1.symm, h.2.symm⟩⟩
  · rename_i h
    symm
    unfold numsG
    rw [List.map_eq_nil_iff, List.filter_eq_nil_iff]
    intro b _
    cases hok : okN b
    · unfold inG; rw [hok]; simp
    · obtain ⟨t, l, n, hb, rfl⟩ := okN_form hok
      rw [inG_key hb, decide_eq_true_eq]
      rintro ⟨rfl, rfl⟩
      exact h ⟨hb.s0, hb.k0, hb.k1⟩
def wipeG (x : Fld) (s : Int) : Int × Int × Fld := if s < 0 then (0, 10, x) else wipeZ x s
theorem wipeG_fine {K : Nat} {x : Fld} (h : Fine K x) (s : Int) : Fine (K + K) (wipeG x s).2.2 := by
  have h1 := wipe_fine (K := 0) (keysZ x (prefZ s)) h
  have h2 := keys_len2 h (prefZ s)
  unfold wipeG wipeZ
  split
  · exact h.mono (by omega)
  · split
    · exact h.mono (by omega)
    · split
      · exact h1.mono (by omega)
      · exact h1.mono (by omega)
theorem pnums_any {B K g : Nat} (hK : K ≤ 2097152) (s k : Int) (s1 : s ≤ 9223372036854775807) (w : World) (x : Fld) (h : Lives B w g x) (hf : Fine K x) :
    Calls Tryz.prog 45 #[.pointer (some ⟨g, 0, none⟩), .int .i64 s, .int .i64 k] w fun e w' => ∃ v, e = .returned v ∧ Row w' w.heap.size 1 v (numsP x s k).length (iV (numsP x s k)) ∧ Below w.heap.size w w' := by
  by_cases hc : 0 ≤ s ∧ 1 ≤ k ∧ k ≤ 255
  · have e : numsP x s k = numsZ (keysZ x (prefZ s ++ oneZ k)) := if_pos hc
    rw [e]
    exact bnums_calls hK s k hc.1 s1 hc.2.1 hc.2.2 w x h hf
  · have e : numsP x s k = [] := if_neg hc
    rw [e]
    clear e h hf
    have a : s < 0 ∨ (0 ≤ s ∧ k < 1) ∨ (0 ≤ s ∧ 1 ≤ k ∧ 255 < k) := by omega
    clear hc
    rcases a with a | ⟨a, b⟩ | ⟨a, b, c⟩
    all_goals
      go_enter Tryz.func45, Tryz.ntmps45
      go_wp2
      go_ret
      exact ⟨_, rfl, Row.nil _ _ 1, Below.refl _ _⟩
theorem pwipe_any {K g bn bd : Nat} {v : Value} (hK : K ≤ 1048575) (s : Int) (s1 : s ≤ 9223372036854775807) (w : World) (x : Fld) (h : PSF w g bn bd v x) (hf : Fine K x) :
    Calls Tryz.prog 26 #[.pointer (some ⟨g, 0, none⟩), .int .i64 s] w fun e w' => e = .returned (.tuple #[.int .i64 (wipeG x s).1, .int .i64 (wipeG x s).2.1]) ∧ Kept w g bn bd v (wipeG x s).2.2 w' := by
  by_cases hc : s < 0
  · have e : wipeG x s = (0, 10, x) := if_pos hc
    rw [e]
    have HK := Lib.hid (Kept.same h)
    clear e h hf
    go_enter Tryz.func26, Tryz.ntmps26
    go_wp2
    go_ret2
    exact ⟨rfl, HK.out⟩
  · have e : wipeG x s = wipeZ x s := if_neg hc
    rw [e]
    exact bwipe_calls (by omega) s (by omega) s1 w x h hf
theorem rwipe_any {K g : Nat} {vd vw vv : Value} (hK : K ≤ 1048575) (s : Int) (s1 : s ≤ 9223372036854775807) (w : World) (x : Fld) (h : RSF w g vd vw vv x) (hf : Fine K x) :
    Calls Tryz.prog 29 #[.pointer (some ⟨g, 0, none⟩), .int .i64 s] w fun e w' => e = .returned (.tuple #[.int .i64 (wipeG x s).1, .int .i64 (wipeG x s).2.1]) ∧ RKept w g vd vw vv (wipeG x s).2.2 w' := by
  by_cases hc : s < 0
  · have e : wipeG x s = (0, 10, x) := if_pos hc
    rw [e]
    have HK := Lib.hid (RKept.same h)
    clear e h hf
    go_enter Tryz.func29, Tryz.ntmps29
    go_wp2
    go_ret2
    exact ⟨rfl, HK.out⟩
  · have e : wipeG x s = wipeZ x s := if_neg hc
    rw [e]
    exact rbwipe_calls (by omega) s (by omega) s1 w x h hf
/-- The program's store tells x, the reference's tells y; block b is none of theirs and holds o. -/
def TwoX (B : Nat) (w : World) (g h : Nat) (x y : Fld) (b : Nat) (o : Obj) : Prop :=
  ∃ bn bd v vd vw vv, PSF w g bn bd v x ∧ RSF w h vd vw vv y ∧ (∀ m ∈ foot g bn bd v, B ≤ m ∧ m ∉ rfoot h vd vw vv ∧ m ≠ b) ∧ (∀ m ∈ rfoot h vd vw vv, B ≤ m ∧ m ≠ b) ∧ w.heap[b]? = some o
/-- Without such a block. -/
def TwoG (B : Nat) (w : World) (g h : Nat) (x y : Fld) : Prop :=
  ∃ bn bd v vd vw vv, PSF w g bn bd v x ∧ RSF w h vd vw vv y ∧ (∀ m ∈ foot g bn bd v, B ≤ m ∧ m ∉ rfoot h vd vw vv) ∧ ∀ m ∈ rfoot h vd vw vv, B ≤ m
section
variable {B : Nat} {w w' : World} {g h b : Nat} {x y x' y' : Fld} {o : Obj}
theorem TwoX.lt (t : TwoX B w g h x y b o) : b < w.heap.size := by
  obtain ⟨_, _, _, _, _, _, _, _, _, _, hb⟩ := t
  exact (Array.getElem?_eq_some_iff.1 hb).1
theorem TwoX.drop (t : TwoX B w g h x y b o) : TwoG B w g h x y := by
  obtain ⟨bn, bd, v, vd, vw, vv, p, r, f1, f2, hb⟩ := t
  exact ⟨bn, bd, v, vd, vw, vv, p, r, fun m hm => ⟨(f1 m hm).1, (f1 m hm).2.1⟩, fun m hm => (f2 m hm).1⟩
theorem TwoG.keep (t : TwoG B w g h x y) (hb : Below w.heap.size w w') : TwoG B w' g h x y := by
  obtain ⟨bn, bd, v, vd, vw, vv, p, r, f1, f2⟩ := t
  exact ⟨bn, bd, v, vd, vw, vv, p.keep hb, r.keep hb, f1, f2⟩
theorem TwoX.keep (t : TwoX B w g h x y b o) (hb : Below w.heap.size w w') : TwoX B w' g h x y b o := by
  have hl := t.lt
  obtain ⟨bn, bd, v, vd, vw, vv, p, r, f1, f2, hbb⟩ := t
  exact ⟨bn, bd, v, vd, vw, vv, p.keep hb, r.keep hb, f1, f2, (hb.block b hl).trans hbb⟩
theorem TwoG.box (t : TwoG B w g h x y) (o : Obj) : TwoX B (w.alloc o) g h x y w.heap.size o := by
  obtain ⟨bn, bd, v, vd, vw, vv, p, r, f1, f2⟩ := t
  exact ⟨bn, bd, v, vd, vw, vv, p.alloc o, r.alloc o, fun m hm => ⟨(f1 m hm).1, (f1 m hm).2, by have := p.foot_lt m hm; omega⟩, fun m hm => ⟨f2 m hm, by have := r.foot_lt m hm; omega⟩, Array.getElem?_push_size⟩
theorem TwoG.lives (t : TwoG B w g h x y) : Lives B w g x := by
  obtain ⟨bn, bd, v, vd, vw, vv, p, r, f1, f2⟩ := t
  exact ⟨bn, bd, v, p, fun m hm => (f1 m hm).1⟩
/-- A call of the program's store. -/
theorem two_p {f : FuncId} {args : Array Value} {R : Ending → Prop} (hB : B ≤ w.heap.size) (t : TwoX B w g h x y b o)
    (c : ∀ bn bd v, PSF w g bn bd v x → Calls Tryz.prog f args w fun e w' => R e ∧ Kept w g bn bd v x' w') : Calls Tryz.prog f args w fun e w' => R e ∧ TwoX B w' g h x' y b o ∧ Below B w w' := by
  have hl := t.lt
  obtain ⟨bn, bd, v, vd, vw, vv, p, r, f1, f2, hb⟩ := t
  refine (c bn bd v p).mono fun e w' ⟨he, hk⟩ => ⟨he, ?_⟩
  obtain ⟨bn', v', p', t', f'⟩ := hk
  have nf : ∀ m ∈ rfoot h vd vw vv, m ∉ foot g bn bd v := fun m hm e => (f1 m e).2.1 hm
  refine ⟨⟨bn', bd, v', vd, vw, vv, p', r.touch t' nf, fun m hm => ?_, f2, (t'.block b hl (fun e => (f1 b e).2.2 rfl)).trans hb⟩, t'.toBelow hB (fun m hm => (f1 m hm).1)⟩
  rcases f' m hm with e | e
  · exact f1 m e
  · exact ⟨by omega, fun e2 => by have := r.foot_lt m e2; omega, by omega⟩
/-- A call of the reference's store. -/
theorem two_r {f : FuncId} {args : Array Value} {R : Ending → Prop} (hB : B ≤ w.heap.size) (t : TwoX B w g h x y b o)
    (c : ∀ vd vw vv, RSF w h vd vw vv y → Calls Tryz.prog f args w fun e w' => R e ∧ RKept w h vd vw vv y' w') : Calls Tryz.prog f args w fun e w' => R e ∧ TwoX B w' g h x y' b o ∧ Below B w w' := by
  have hl := t.lt
  obtain ⟨bn, bd, v, vd, vw, vv, p, r, f1, f2, hb⟩ := t
  refine (c vd vw vv r).mono fun e w' ⟨he, hk⟩ => ⟨he, ?_⟩
  obtain ⟨a, b', c', r', t', f'⟩ := hk
  have nf : ∀ m ∈ foot g bn bd v, m ∉ rfoot h vd vw vv := fun m hm => (f1 m hm).2.1
  refine ⟨⟨bn, bd, v, a, b', c', p.touch t' nf, r', fun m hm => ⟨(f1 m hm).1, fun e2 => ?_, (f1 m hm).2.2⟩, fun m hm => ?_, (t'.block b hl (fun e => (f2 b e).2 rfl)).trans hb⟩, t'.toBelow hB (fun m hm => (f2 m hm).1)⟩
  · rcases f' m e2 with e3 | e3
    · exact (f1 m hm).2.1 e3
    · have := p.foot_lt m hm; omega
  · rcases f' m hm with e | e
    · exact f2 m e
    · exact ⟨by omega, by omega⟩
/-- A call that makes new memory only. -/
theorem two_pn {f : FuncId} {args : Array Value} {R : Ending → World → Prop} (t : TwoX B w g h x y b o) (c : Lives B w g x → Calls Tryz.prog f args w fun e w' => R e w' ∧ Below w.heap.size w w') :
    Calls Tryz.prog f args w fun e w' => R e w' ∧ TwoX B w' g h x y b o ∧ Below w.heap.size w w' :=
  (c t.drop.lives).mono fun e w' ⟨h1, h2⟩ => ⟨h1, t.keep h2, h2⟩
theorem two_rn {f : FuncId} {args : Array Value} {R : Ending → World → Prop} (t : TwoX B w g h x y b o) (c : ∀ vd vw vv, RSF w h vd vw vv y → Calls Tryz.prog f args w fun e w' => R e w' ∧ Below w.heap.size w w') :
    Calls Tryz.prog f args w fun e w' => R e w' ∧ TwoX B w' g h x y b o ∧ Below w.heap.size w w' := by
  have t0 := t
  obtain ⟨bn, bd, v, vd, vw, vv, p, r, f1, f2, hb⟩ := t
  exact (c vd vw vv r).mono fun e w' ⟨h1, h2⟩ => ⟨h1, t0.keep h2, h2⟩
end
/-- One step of a script. -/
structure StepZ where
  what : Int
  sp : Int
  kd : Int
  nm : Int
  n : Int
  key : ByteArray
  text : ByteArray
def StepZ.cells (s : StepZ) : Array Value := #[.int .i64 s.what, .int .i64 s.sp, .int .i64 s.kd, .int .i64 s.nm, .int .i64 s.n, .string s.key, .string s.text]
structure StepZ.Ok (s : StepZ) : Prop where
  s1 : s.sp ≤ 9223372036854775807
  n1 : s.nm ≤ 9223372036854775807
  n2 : s.n ≤ 9223372036854775807
  key : s.key.size ≤ 1048576
  text : s.text.size ≤ 1048576
theorem TwoX.at {B : Nat} {w : World} {g h b : Nat} {x y : Fld} {s : StepZ} {t : TypeId} {q : Nat × Nat} (hh : TwoX B w g h x y b (.cells s.cells t q)) :
    w.cell? ⟨b, 0, none⟩ = some (.int .i64 s.what) ∧ w.cell? ⟨b, 1, none⟩ = some (.int .i64 s.sp) ∧ w.cell? ⟨b, 2, none⟩ = some (.int .i64 s.kd) ∧ w.cell? ⟨b, 3, none⟩ = some (.int .i64 s.nm) ∧ w.cell? ⟨b, 4, none⟩ = some (.int .i64 s.n) ∧
      w.cell? ⟨b, 5, none⟩ = some (.string s.key) ∧ w.cell? ⟨b, 6, none⟩ = some (.string s.text) := by
  obtain ⟨bn, bd, v, vd, vw, vv, p, r, f1, f2, hb⟩ := hh
  refine ⟨?_, ?_, ?_, ?_, ?_, ?_, ?_⟩ <;> simp [World.cell?, hb, StepZ.cells]
end Go.Proofs.YtegplajddhiejaaGreat
