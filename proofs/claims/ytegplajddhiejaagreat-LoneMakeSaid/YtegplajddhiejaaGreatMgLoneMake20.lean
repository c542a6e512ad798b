import Derived.Test.YtegplajddhiejaaGreatAs1
import Derived.Test.YtegplajddhiejaaGreatRg5
import Derived.Test.YtegplajddhiejaaGreatLn1
import Derived.Test.YtegplajddhiejaaGreatMgLoneMake15
set_option linter.unusedVariables false
set_option linter.unusedSimpArgs false
namespace Go.Proofs.YtegplajddhiejaaGreat
open Go.RowKit Go.WideMaps Go.Maps Go.MapKept
/-! The stores as things that stand in memory. -/
def PSA (g : Nat) (x : Fld) : Asr where
  holds w F := ∃ bn bd v, PSF w g bn bd v x ∧ ∀ m, m ∈ F ↔ m ∈ foot g bn bd v
  lt := by
    rintro w F ⟨bn, bd, v, p, e⟩ m hm
    exact p.foot_lt m ((e m).1 hm)
  of := by
    rintro w w' F G ⟨bn, bd, v, p, e⟩ t n
    exact ⟨bn, bd, v, p.touch t fun m hm => n m ((e m).2 hm), e⟩
def RSA (g : Nat) (x : Fld) : Asr where
  holds w F := ∃ vd vw vv, RSF w g vd vw vv x ∧ ∀ m, m ∈ F ↔ m ∈ rfoot g vd vw vv
  lt := by
    rintro w F ⟨vd, vw, vv, p, e⟩ m hm
    exact p.foot_lt m ((e m).1 hm)
  of := by
    rintro w w' F G ⟨vd, vw, vv, p, e⟩ t n
    exact ⟨vd, vw, vv, p.touch t fun m hm => n m ((e m).2 hm), e⟩
section
variable {w w' w0 : World} {F : List Nat} {g : Nat} {x x' : Fld} {R : Asr} {f : FuncId} {args : Array Value} {E : Ending → Prop}
theorem tri_p (c : ∀ bn bd v, PSF w g bn bd v x → Calls Tryz.prog f args w fun e w' => E e ∧ Kept w g bn bd v x' w') : Tri (PSA g x) f args w fun e => Asr.when (E e) (PSA g x') := by
  rintro F ⟨bn, bd, v, p, e⟩
  refine (c bn bd v p).mono fun e' w' => ?_
  rintro ⟨h1, bn', v', p', t, n⟩
  refine ⟨foot g bn' bd v', ⟨h1, bn', bd, v', p', fun m => Iff.rfl⟩, t.mono fun m hm => .inl ((e m).2 hm), fun m hm => ?_⟩
  rcases n m hm with h2 | h2
  · exact .inl ((e m).2 h2)
  · exact .inr h2
theorem tri_r (c : ∀ vd vw vv, RSF w g vd vw vv x → Calls Tryz.prog f args w fun e w' => E e ∧ RKept w g vd vw vv x' w') : Tri (RSA g x) f args w fun e => Asr.when (E e) (RSA g x') := by
  rintro F ⟨vd, vw, vv, p, e⟩
  refine (c vd vw vv p).mono fun e' w' => ?_
  rintro ⟨h1, vd', vw', vv', p', t, n⟩
  refine ⟨rfoot g vd' vw' vv', ⟨h1, vd', vw', vv', p', fun m => Iff.rfl⟩, t.mono fun m hm => .inl ((e m).2 hm), fun m hm => ?_⟩
  rcases n m hm with h2 | h2
  · exact .inl ((e m).2 h2)
  · exact .inr h2
theorem Here.when {p : Prop} {P : Asr} (h : Here w0 F ((Asr.when p P).b R) w) : p ∧ Here w0 F (P.b R) w := by
  obtain ⟨F', ⟨F1, F2, ⟨hp, q⟩, r, d, e⟩, t⟩ := h
  exact ⟨hp, F', ⟨F1, F2, q, r, d, e⟩, t⟩
/-- A call of the program's store, beside R. -/
theorem Here.callP (h : Here w0 F ((PSA g x).b R) w) (c : ∀ bn bd v, PSF w g bn bd v x → Calls Tryz.prog f args w fun e w' => E e ∧ Kept w g bn bd v x' w') : Calls Tryz.prog f args w fun e w' => E e ∧ Here w0 F ((PSA g x').b R) w' :=
  (h.call ((tri_p c).frame R)).mono fun e w' h => h.when
theorem Here.callR (h : Here w0 F ((RSA g x).b R) w) (c : ∀ vd vw vv, RSF w g vd vw vv x → Calls Tryz.prog f args w fun e w' => E e ∧ RKept w g vd vw vv x' w') : Calls Tryz.prog f args w fun e w' => E e ∧ Here w0 F ((RSA g x').b R) w' :=
  (h.call ((tri_r c).frame R)).mono fun e w' h => h.when
theorem Here.lives (h : Here w0 F ((PSA g x).b R) w) : Lives 0 w g x := by
  obtain ⟨F', ⟨F1, F2, ⟨bn, bd, v, p, e⟩, _⟩, _⟩ := h
  exact ⟨bn, bd, v, p, fun m _ => Nat.zero_le m⟩
theorem Here.rsf (h : Here w0 F ((RSA g x).b R) w) : ∃ vd vw vv, RSF w g vd vw vv x := by
  obtain ⟨F', ⟨F1, F2, ⟨vd, vw, vv, p, e⟩, _⟩, _⟩ := h
  exact ⟨vd, vw, vv, p⟩
theorem Here.psf (h : Here w0 F ((PSA g x).b R) w) : ∃ bn bd v, PSF w g bn bd v x := by
  obtain ⟨F', ⟨F1, F2, ⟨bn, bd, v, p, e⟩, _⟩, _⟩ := h
  exact ⟨bn, bd, v, p⟩
end
end Go.Proofs.YtegplajddhiejaaGreat

set_option linter.unusedVariables false
set_option linter.unusedSimpArgs false
namespace Go.Proofs.YtegplajddhiejaaGreat
open Go.RowKit Go.WideMaps Go.Maps Go.MapKept
/-! An engine of one record a leaf: whether it starts, what stands. -/
structure OptZ where
  engine : Int
  width : Int
  bundle : Int
  height : Int
  cache : Int
  bits : Int
def OptZ.agg (o : OptZ) : Value := .agg #[.int .i64 o.engine, .int .i64 o.width, .int .i64 o.bundle, .int .i64 o.height, .int .i64 o.cache, .int .i64 o.bits]
/-- Why no engine can stand there; 0: one can. -/
def strtZ (o : OptZ) (s : Int) (off : Bool) : Int := if o.engine ≠ 1 ∨ o.width < 1 ∨ 32 < o.width then 150 else if s < 0 then 10 else if off then 124 else 0
theorem strt_cases (o : OptZ) (s : Int) (off : Bool) : (o.engine ≠ 1 ∧ strtZ o s off = 150) ∨ (o.engine = 1 ∧ o.width < 1 ∧ strtZ o s off = 150) ∨ (o.engine = 1 ∧ 1 ≤ o.width ∧ 32 < o.width ∧ strtZ o s off = 150) ∨
    (o.engine = 1 ∧ 1 ≤ o.width ∧ o.width ≤ 32 ∧ s < 0 ∧ strtZ o s off = 10) ∨ (o.engine = 1 ∧ 1 ≤ o.width ∧ o.width ≤ 32 ∧ 0 ≤ s ∧ off = true ∧ strtZ o s off = 124) ∨ (o.engine = 1 ∧ 1 ≤ o.width ∧ o.width ≤ 32 ∧ 0 ≤ s ∧ off = false ∧ strtZ o s off = 0) := by
  unfold strtZ
  by_cases h1 : o.engine = 1
  · by_cases h2 : o.width < 1
    · exact .inr (.inl ⟨h1, h2, by rw [if_pos (.inr (.inl h2))]⟩)
    · by_cases h3 : 32 < o.width
      · exact .inr (.inr (.inl ⟨h1, by omega, h3, by rw [if_pos (.inr (.inr h3))]⟩))
      · rw [if_neg (by omega)]
        by_cases h4 : s < 0
        · exact .inr (.inr (.inr (.inl ⟨h1, by omega, by omega, h4, by rw [if_pos h4]⟩)))
        · rw [if_neg h4]
          cases off
          · exact .inr (.inr (.inr (.inr (.inr ⟨h1, by omega, by omega, by omega, rfl, rfl⟩))))
          · exact .inr (.inr (.inr (.inr (.inl ⟨h1, by omega, by omega, by omega, rfl, rfl⟩))))
  · exact .inl ⟨h1, by rw [if_pos (.inl h1)]⟩
end Go.Proofs.YtegplajddhiejaaGreat

set_option linter.unusedVariables false
set_option linter.unusedSimpArgs false
namespace Go.Proofs.YtegplajddhiejaaGreat
open Go.RowKit Go.WideMaps Go.Maps Go.MapKept
theorem Lives.keep0 {w w' : World} {g : Nat} {x : Fld} (h : Lives 0 w g x) (hb : Below w.heap.size w w') : Lives 0 w' g x := by
  obtain ⟨bn, bd, v, p, f⟩ := h
  exact ⟨bn, bd, v, p.keep hb, f⟩
theorem Lives.alloc0 {w : World} {g : Nat} {x : Fld} (h : Lives 0 w g x) (o : Obj) : Lives 0 (w.alloc o) g x := h.keep0 ((Below.refl _ _).alloc (Nat.le_refl _) o)
set_option maxRecDepth 100000 in
set_option maxHeartbeats 2000000 in
theorem lstart_calls (o : OptZ) (s : Int) (w : World) (g : Nat) (x : Fld) (h : Lives 0 w g x) :
    Calls Tryz.prog 25 #[.pointer (some ⟨g, 0, none⟩), o.agg, .int .i64 s] w fun e w' => e = .returned (.int .i64 (strtZ o s x.off)) ∧ Below w.heap.size w w' := by
  have CD := Lib.hid (fun (w : World) (h : Lives 0 w g x) => (show Calls Tryz.prog 36 #[.pointer (some ⟨g, 0, none⟩)] w fun e w' => e = .returned (.bool x.off) ∧ w = w' from by
    obtain ⟨bn, bd, v, p, _⟩ := h
    exact sdown_calls w g bn bd v x p))
  have HA := Lib.hid (h.alloc0 (.cells #[.int .i64 o.engine, .int .i64 o.width, .int .i64 o.bundle, .int .i64 o.height, .int .i64 o.cache, .int .i64 o.bits] 23))
  have HB := Lib.hid ((Below.refl w.heap.size w).alloc (Nat.le_refl _) (.cells #[.int .i64 o.engine, .int .i64 o.width, .int .i64 o.bundle, .int .i64 o.height, .int .i64 o.cache, .int .i64 o.bits] 23))
  obtain ⟨off, ho⟩ : ∃ b, x.off = b := ⟨_, rfl⟩
  simp only [ho] at CD ⊢
  clear ho h
  obtain ⟨oe, ow, ob, oh, oc, obt⟩ := o
  simp only [OptZ.agg] at HA HB ⊢
  rcases strt_cases ⟨oe, ow, ob, oh, oc, obt⟩ s off with ⟨h1, h2⟩ | ⟨h1, h3, h2⟩ | ⟨h1, h3, h4, h2⟩ | ⟨h1, h3, h4, h5, h2⟩ | ⟨h1, h3, h4, h5, h6, h2⟩ | ⟨h1, h3, h4, h5, h6, h2⟩
  all_goals rw [h2]; clear h2
  · have h1' : (oe == 1) = false := by rw [beq_eq_false_iff_ne]; exact h1
    have h1'' : decide (oe = 1) = false := decide_eq_false h1
    go_enter Tryz.func25, Tryz.ntmps25
    go_wp2
    go_ret
    exact ⟨rfl, HB.out⟩
  all_goals
    simp only at h1 h3
    subst h1
    (try simp only at h4)
    (try subst h6)
    have d1 : decide (ow < 1) = decide (ow < 1) := rfl
    (try have d2 : decide (ow < 1) = true := decide_eq_true h3)
    (try have d2 : decide (ow < 1) = false := decide_eq_false (by omega))
    (try have d3 : decide (32 < ow) = true := decide_eq_true h4)
    (try have d3 : decide (32 < ow) = false := decide_eq_false (by omega))
    clear d1
    go_enter Tryz.func25, Tryz.ntmps25
    go_wp2_with (go_at_call 36; (with_reducible refine (CD.out _ HA.out).mono ?_); rintro e w1 ⟨rfl, rfl⟩)
    go_ret
    exact ⟨rfl, HB.out⟩
/-- How many elements a slice has. -/
def lenV : Value → Nat
  | .slice _ n _ => n
  | _ => 0
set_option maxRecDepth 100000 in
set_option maxHeartbeats 2000000 in
theorem lstand_calls {K : Nat} (hK : K ≤ 2097151) (s : Int) (s1 : s ≤ 9223372036854775807) (w : World) (g : Nat) (x : Fld) (h : Lives 0 w g x) (hf : Fine K x) :
    Calls Tryz.prog 31 #[.pointer (some ⟨g, 0, none⟩), .int .i64 s] w fun e w' => ∃ v, e = .returned v ∧ Row w' w.heap.size 1 v (standN x s) (strV (standZ x s)) ∧ Below w.heap.size w w' := by
  have CG := Lib.hid (fun (i : Nat) (hi : (i : Int) ≤ 9223372036854775807) (w : World) (h : Lives 0 w g x) => (show Calls Tryz.prog 44 #[.pointer (some ⟨g, 0, none⟩), .int .i64 s, .int .i64 1, .int .i64 i] w fun e w' => e = .returned (.tuple #[.string (bgetG x s 1 i).1, .int .i64 (bgetG x s 1 i).2]) ∧ Below w.heap.size w w' from by
    obtain ⟨bn, bd, v, p, _⟩ := h
    exact pget_any K hK s 1 i s1 hi w g bn bd v x p hf))
  have HL := Lib.hid h
  have hn : standN x s ≤ 2097151 := Nat.le_trans (stand_le x s) (Nat.le_trans (numsP_le hf s 1) hK)
  have SG := Lib.hid (fun (i : Nat) (hi : i ≤ standN x s) (ho : okAt x s i = true) => stand_go hi ho hf (by omega) s1)
  obtain ⟨n, hnn⟩ : ∃ n, standN x s = n := ⟨_, rfl⟩
  have HNN := Lib.hid hnn
  have HE : Hid (standZ x s = standL x s n) := Lib.hid (by rw [← hnn]; rfl)
  rw [hnn] at hn SG ⊢
  clear h hf hnn
  go_enter Tryz.func31, Tryz.ntmps31
  go_wp2_with fail
  go_loopw [5] (fun lv wr => ∃ (i : Nat) (v : Value), i ≤ n ∧ v = lv ∧ Hid (Row wr w.heap.size 1 v i (strV (standL x s i))) ∧ Hid (Below w.heap.size w wr)) (fun lv _ => n - lenV lv)
  case atStart => exact ⟨0, _, by omega, rfl, Lib.hid (Row.nil _ _ 1), Lib.hid (Below.refl _ _)⟩
  case round =>
    obtain ⟨i, v, hi, hv, HR, HB⟩ := hrel
    subst hv
    obtain ⟨la, lc, hv⟩ := HR.out.slice
    subst hv
    cases hok : okAt x s i
    · have hin : i = n := by rw [← HNN.out]; exact stand_stop (by rw [HNN.out]; exact hi) hok
      subst hin
      have hno : (bgetG x s 1 i).2 ≠ 0 ∨ ((bgetG x s 1 i).2 = 0 ∧ 4096 < (bgetG x s 1 i).1.size) := by
        have := of_decide_eq_false hok
        by_cases e : (bgetG x s 1 i).2 = 0
        · exact .inr ⟨e, by omega⟩
        · exact .inl e
      have CGi := Lib.hid (CG.out i (by omega))
      generalize bgetG x s 1 i = y at *
      obtain ⟨yt, ye⟩ := y
      simp only at hno CGi
      clear hok SG CG
      rcases hno with hno | ⟨hno, hbig⟩
      · have hno' : (ye == 0) = false := by rw [beq_eq_false_iff_ne]; exact hno
        have hno2 : decide (ye = 0) = false := decide_eq_false hno
        go_wp2_with (go_at_call 44; (with_reducible refine (CGi.out _ (HL.out.keep0 HB.out)).mono ?_); rintro e w2 ⟨rfl, hb⟩; have HR2 := Lib.hid (HR.out.keep hb); have HB2 := Lib.hid (HB.out.trans (hb.mono HB.out.size)); clear hb)
        go_ret
        exact ⟨_, rfl, by rw [HE.out]; exact HR2.out, HB2.out⟩
      · subst hno
        have hb4 : (4096 : Int) < yt.size := by omega
        have hb5 : decide ((4096 : Int) < yt.size) = true := decide_eq_true hb4
        go_wp2_with (go_at_call 44; (with_reducible refine (CGi.out _ (HL.out.keep0 HB.out)).mono ?_); rintro e w2 ⟨rfl, hb⟩; have HR2 := Lib.hid (HR.out.keep hb); have HB2 := Lib.hid (HB.out.trans (hb.mono HB.out.size)); clear hb)
        go_ret
        exact ⟨_, rfl, by rw [HE.out]; exact HR2.out, HB2.out⟩
    · have hlt := SG.out i hi hok
      have hy := of_decide_eq_true hok
      have CGi := Lib.hid (CG.out i (by omega))
      have HS := Lib.hid (standL_snoc x s i)
      have HSL := Lib.hid (standL_len x s i)
      unfold leafAt at HS
      generalize bgetG x s 1 i = y at *
      obtain ⟨yt, ye⟩ := y
      simp only at hy CGi HS
      obtain ⟨rfl, hsz⟩ := hy
      have hsi : (yt.size : Int) ≤ 4096 := by omega
      have hsj : decide ((4096 : Int) < yt.size) = false := decide_eq_false (by omega)
      have HRR : Hid (Row wr w.heap.size 1 (.slice la i lc) (standL x s i).length (strV (standL x s i))) := Lib.hid (by rw [HSL.out]; exact HR.out)
      have hib : (standL x s i).length ≤ 4194304 := by rw [HSL.out]; omega
      have HIB := Lib.hid hib
      clear hok SG CG hib
      go_wp2_with (first
        | (go_at_call 44; (with_reducible refine (CGi.out _ (HL.out.keep0 HB.out)).mono ?_); rintro e w2 ⟨rfl, hb⟩; have HR2 := Lib.hid (HRR.out.keep hb); have HB2 := Lib.hid (HB.out.trans (hb.mono HB.out.size)); clear hb)
        | ((refine wpList_strA w2 w.heap.size yt rfl (.tmp 24) (.tmp 26) rfl (.slice la i lc) (standL x s i) rfl rfl HR2.out HIB.out HB2.out.size ?_; intro v6 w6 hr6 hb6; have HR6 := Lib.hid hr6; have HB6 := Lib.hid (HB2.out.trans hb6); clear hr6 hb6)))
      go_roundw
      case rel => exact ⟨i + 1, v6, by omega, rfl, Lib.hid (by have := HR6.out; rw [← HS.out, standL_len] at this; exact this), HB6⟩
      case measure =>
        obtain ⟨a6, c6, e6⟩ := HR6.out.slice
        rw [List.length_append, HSL.out] at e6
        subst e6
        simp [lenV]; omega
end Go.Proofs.YtegplajddhiejaaGreat
