import Derived.Test.YtegplajddhiejaaGreatSt7
import Derived.Maps.RangeWalk
import Derived.Shelf.SlMaps.Clone
set_option linter.unusedVariables false
namespace Go.Proofs.YtegplajddhiejaaGreat
open Go.RowKit Go.WideMaps Go.Maps Go.MapKept
/-! A range over a map of strings by strings. -/
/-- Block r goes through the map at block b, which holds l; rest: what is still to come. -/
def RangeAt (w : World) (b r : Nat) (l rest : List Rec) : Prop :=
  ∃ left cnt, w.ranges Tryz.prog 9 (plainElem (H := Unit) Tryz.prog 9) b r l.length (toD l) left cnt ∧ rest = l.filter fun y => left (litK y.1)
theorem RangeAt.kept {w w' : World} {b r : Nat} {l rest : List Rec} {row : Option Nat} (h : RangeAt w b r l rest) (hg : w.grownBy w' row) (hb : some b ≠ row) (hr : some r ≠ row) : RangeAt w' b r l rest := by
  obtain ⟨left, cnt, h1, h2⟩ := h
  exact ⟨left, cnt, h1.kept hg hb hr, h2⟩
theorem RangeAt.alloc {w : World} {b r : Nat} {l rest : List Rec} (h : RangeAt w b r l rest) (o : Obj) : RangeAt (w.alloc o) b r l rest := by
  obtain ⟨left, cnt, h1, h2⟩ := h
  exact ⟨left, cnt, h1.alloc o, h2⟩
theorem RangeAt.owns {w : World} {b r : Nat} {l rest : List Rec} (h : RangeAt w b r l rest) : SMap w b l := by
  obtain ⟨left, cnt, h1, h2⟩ := h
  exact h1.owns
theorem RangeAt.lt {w : World} {b r : Nat} {l rest : List Rec} (h : RangeAt w b r l rest) : b < w.heap.size ∧ r < w.heap.size ∧ b ≠ r := by
  obtain ⟨left, cnt, h1, h2⟩ := h
  exact ⟨h1.owns.lt, h1.lt, h1.ne.symm⟩
theorem rangeLeft_kept {w w' : World} {b r : Nat} {l rest : List Rec} {row : Option Nat} (h : RangeAt w b r l rest) (hg : w.grownBy w' row) (hb : some b ≠ row) (hr : some r ≠ row) : w'.rangeLeft b r = w.rangeLeft b r := by
  obtain ⟨left, cnt, h1, h2⟩ := h
  rw [(h1.kept hg hb hr).left_eq, h1.left_eq]
section
variable (w : World) {ops : Array Oper} {rest' : List Oper} {o : Oper} {a : Act} {Q : Exit → Act → World → Prop}
theorem wpList_range_rec (hg : o.guard = none) (m : Operand) (hop : o.op = Op.range 42 m) (b : Nat) (l : List Rec) (hm : a.eval m = .map (some b)) (hown : SMap w b l)
    (hK : ∀ w', RangeAt w' b w.heap.size l l → w.grownBy w' none → w'.heap.size = w.heap.size + 1 → wpList Tryz.prog ops Q rest' (a.put o.dst (.pointer (some ⟨w.heap.size, 0, none⟩))) w') : wpList Tryz.prog ops Q (o :: rest') a w :=
  wpList_range_own w hg m 42 hop 9 9 recLaw Tryz.underlying42 _ b _ _ hm hown fun w' h1 h2 h3 =>
    hK w' ⟨_, _, h1, (List.filter_eq_self.2 (fun y hy => by
      rw [toD_has]
      cases hf : findL y.1 l with
      | none => exact absurd rfl (find_none hf y hy)
      | some r => rfl)).symm⟩ h2 h3
theorem wpList_next_rec (hg : o.guard = none) (it : Operand) (hop : o.op = Op.next it false) (b r : Nat) (l rest : List Rec) (hit : a.eval it = .pointer (some ⟨r, 0, none⟩)) (h : RangeAt w b r l rest) (hs : Sorted l)
    (hDone : rest = [] → wpList Tryz.prog ops Q rest' (a.put o.dst (.tuple #[.bool false])) w)
    (hMore : ∀ (k d : ByteArray) (w' : World), (k, d) ∈ rest → RangeAt w' b r l (cutL k rest) → w'.rangeLeft b r < w.rangeLeft b r → w.grownBy w' (some r) → w'.heap.size = w.heap.size →
      (Instr.entry (.pointer (some ⟨r, 0, none⟩))).run Tryz.prog w' = .ok (.tuple #[.string k, .string d]) w' → wpList Tryz.prog ops Q rest' (a.put o.dst (.tuple #[.bool true, .string k, .string d])) w') :
    wpList Tryz.prog ops Q (o :: rest') a w := by
  obtain ⟨left, cnt, h1, h2⟩ := h
  refine wpList_next_ranges w hg it hop 9 recLaw (plainElem (H := Unit) Tryz.prog 9) Value.string Value.string (fun key kl hkey => ?_) (fun v y hv => ?_) b r _ _ left cnt hit h1 (fun h0 hl => hDone ?_) (fun x c kl y w' cnt' hkey hlk hv hat hrg hlt hgr hsz hen => ?_)
  · cases key <;> simp [keyOf, Tryz.underlying9, mapKey] at hkey
    exact ⟨_, rfl⟩
  · obtain ⟨c, rfl, _⟩ := plainElem_string_inv Tryz.underlying9 hv
    exact ⟨c, rfl⟩
  · rw [h2]
    refine List.filter_eq_nil_iff.2 (fun y hy => by rw [hl]; simp)
  · obtain rfl : kl = litK x := by
      simp [keyOf, Tryz.underlying9, mapKey] at hkey
      exact hkey.2.symm
    obtain ⟨c', ec, rfl, hwc⟩ := plainElem_string_inv Tryz.underlying9 hv
    injection ec with ec
    subst ec
    have hfi : ∃ r0, findL x l = some r0 ∧ r0.2 = c := by
      cases hf : findL x l with
      | none =>
        exfalso
        have e1 := toD_at x l (.map [])
        have e2 := hat (.map [])
        rw [hf] at e1
        rw [e1] at e2
        cases e2
      | some r0 =>
        have e1 := toD_at x l (.map [])
        have e2 := hat (.map [])
        rw [hf] at e1
        rw [e1] at e2
        simp only [DataW.lit.injEq, Lit.string.injEq] at e2
        exact ⟨r0, rfl, ByteArray.ext (Array.toList_inj.1 e2)⟩
    obtain ⟨r0, hf, hd⟩ := hfi
    obtain ⟨hm, hk⟩ := find_some hf
    have hr0 : r0 = (x, c) := by rw [← hk, ← hd]
    refine hMore x c w' ?_ ⟨_, cnt', hrg, ?_⟩ ?_ hgr hsz hen
    · rw [h2, List.mem_filter]
      exact ⟨hr0 ▸ hm, hlk⟩
    · rw [h2]
      unfold cutL
      rw [List.filter_filter]
      refine List.filter_congr (fun y hy => ?_)
      rw [litK_same, Bool.and_comm]
    · rw [hrg.left_eq, h1.left_eq]; exact hlt
end
set_option maxRecDepth 100000 in
theorem clone_calls (w : World) (b : Nat) (l : List Rec) (h : SMap w b l) : Calls Tryz.prog 22 #[.map (some b)] w fun e w' => e = .returned (.map (some w.heap.size)) ∧ SMap w' w.heap.size l ∧ Below w.heap.size w w' ∧ w'.heap.size = w.heap.size + 1 := by
  obtain ⟨es, clock, hb, F, hs, hD⟩ := h
  have hq := fun w => run_eql_map_nil_sl (P := Tryz.prog) w 42 _ _ (some b) Tryz.underlying42
  have H1 : Hid (SMap (w.alloc (.map es clock)) w.heap.size l) := Lib.hid ⟨es, clock, (MapKept.heap_alloc w _).1, F, hs, hD⟩
  have H2 : Hid (Below w.heap.size w (w.alloc (.map es clock))) := Lib.hid ((Below.refl _ w).alloc (Nat.le_refl _) _)
  have HB := Lib.hid hb
  clear F hs hD hb
  go_enter Tryz.func22, Tryz.ntmps22
  go_wp2
  rw [run_callFunc_extern Tryz.func35 (by kernel_rfl) (by kernel_rfl) (by kernel_rfl) (e := Extern.MapsClone.clone) (by kernel_rfl), run_maps_clone_sl w 42 HB.out]
  simp only [Result.andThen]
  rw [Oper.upon_value]
  go_wp2
  rw [run_typeAssert_map_sl _ 42 20 _ _ _ Tryz.underlying42]
  simp only [Result.andThen]
  rw [Oper.upon_value]
  go_wp2
  go_ret
  exact ⟨rfl, H1.out, H2.out, by simp⟩
end Go.Proofs.YtegplajddhiejaaGreat

set_option linter.unusedVariables false
namespace Go.Proofs.YtegplajddhiejaaGreat
open Go.RowKit Go.WideMaps Go.Maps Go.MapKept
theorem foot_nil {g bn bd : Nat} {v : Value} {B : Nat} : ∀ m ∈ foot g bn bd (.slice none 0 0), m ∈ foot g bn bd v ∨ B ≤ m := foot_row (fun m hm => by cases hm)
theorem sync_1 {x : Fld} (h : x.off = true) : syncZ x = (124, x) := by unfold syncZ; rw [if_pos h]
theorem sync_2 {x : Fld} (h : x.off = false) (h2 : strikesB x.left = true) : syncZ x = (124, x.struck) := by unfold syncZ; rw [if_neg (by rw [h]; simp), if_pos h2]
theorem sync_3 {x : Fld} (h : x.off = false) (h2 : strikesB x.left = false) : syncZ x = (0, { x.struck with dur := x.pend.foldl doW x.dur, pend := [] }) := by unfold syncZ; rw [if_neg (by rw [h]; simp), if_neg (by rw [h2]; simp)]
theorem struck_same (x : Fld) : x.struck.pend = x.pend ∧ x.struck.dur = x.dur ∧ x.struck.now = x.now := by unfold Fld.struck; split <;> exact ⟨rfl, rfl, rfl⟩
set_option maxRecDepth 100000 in
set_option maxHeartbeats 2000000 in
theorem ssync_calls (K : Nat) (hK : K ≤ 2097152) (w : World) (g bn bd : Nat) (v : Value) (x : Fld) (h : PSF w g bn bd v x) (hf : Fine K x) :
    Calls Tryz.prog 8 #[.pointer (some ⟨g, 0, none⟩)] w fun e w' => e = .returned (.int .i64 (syncZ x).1) ∧ Kept w g bn bd v (syncZ x).2 w' := by
  have c5 := h.c5
  have hl := hf.left
  have H := Lib.hid h
  have HF := Lib.hid hf
  have CS := Lib.hid (fun w x h h0 h1 => sstrikes_calls w g bn bd v x h h0 h1)
  have CT := Lib.hid (fun w x h hf => ssettle_sync K hK w g bn bd v x h hf)
  by_cases ho : x.off = true
  · rw [sync_1 ho]
    rw [ho] at c5
    clear h hf
    go_enter Tryz.func8, Tryz.ntmps8
    go_wp2
    go_ret
    exact ⟨rfl, Kept.same H.out⟩
  · have ho' : x.off = false := by simpa using ho
    rw [ho'] at c5
    have C1 := Lib.hid (CS.out w x H.out hl.1 hl.2)
    cases hsb : strikesB x.left
    · rw [sync_3 ho' hsb]
      rw [hsb] at C1
      have hst := struck_same x
      have HX : Hid ({ x.struck with dur := x.struck.pend.foldl doW x.struck.dur, pend := [] } = ({ x.struck with dur := x.pend.foldl doW x.dur, pend := [] } : Fld)) := Lib.hid (by rw [hst.1, hst.2.1])
      have HFS := Lib.hid HF.out.struck
      clear h hf ho ho' hsb hst
      go_enter Tryz.func8, Tryz.ntmps8
      go_wp2_with (first
        | (go_at_call 14; (with_reducible refine C1.out.mono ?_); rintro e w1 ⟨rfl, hp1, ht1, hz1⟩
           have HP1 := Lib.hid hp1
           have HT1 := Lib.hid ht1
           clear hp1 ht1)
        | (go_at_call 15; (with_reducible refine (CT.out _ _ HP1.out HFS.out).mono ?_); rintro e w2 ⟨rfl, hp2, ht2⟩
           have HP2 := Lib.hid hp2
           have HT2 := Lib.hid ((HT1.out.mono (F1 := foot g bn bd v) (fun x hx => by simp at hx; subst hx; exact .inl (mem_foot.2 (.inl rfl)))).trans ht2 (fun x hx => .inl hx))
           clear hp2 ht2))
      go_ret
      exact ⟨rfl, bn, _, HX.out ▸ HP2.out, HT2.out, foot_nil⟩
    · rw [sync_2 ho' hsb]
      rw [hsb] at C1
      clear h hf ho ho' hsb
      go_enter Tryz.func8, Tryz.ntmps8
      go_wp2_with (go_at_call 14; (with_reducible refine C1.out.mono ?_); rintro e w1 ⟨rfl, hp1, ht1, hz1⟩; have HP1 := Lib.hid hp1; have HT1 := Lib.hid ht1; clear hp1 ht1)
      go_ret
      exact ⟨rfl, bn, v, HP1.out, HT1.out.mono (fun x hx => by simp at hx; subst hx; exact .inl (mem_foot.2 (.inl rfl))), fun m hm => .inl hm⟩
end Go.Proofs.YtegplajddhiejaaGreat
