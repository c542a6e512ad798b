import Derived.Test.YtpddnbkmiogheaaLd4
set_option linter.unusedVariables false
namespace Go.Proofs.Ytpddnbkmiogheaa
open Go.RowKit Go.WideMaps Go.Maps Go.MapKept
def kB : ByteArray := ⟨#[107]⟩
def vB : ByteArray := ⟨#[118]⟩
def begun1 : Fld := ⟨100, [(kB, vB)], [], [⟨kB, vB, false⟩], 18, false, 0, 0⟩
def begun2 : Fld := ⟨100, [(kB, vB)], [(kB, vB)], [], 18, false, 0, 0⟩
theorem begun_1 : putZ (newF 100) ⟨#[107]⟩ ⟨#[118]⟩ = (0, begun1) := by rfl
theorem begun_2 : syncZ begun1 = (0, begun2) := by rfl
theorem begun_3 : getZ begun2 ⟨#[107]⟩ = (⟨#[118]⟩, 0) := by rfl
theorem begun_4 : (⟨(imageL begun2.dur).toArray⟩ : ByteArray) = ⟨#[83, 1, 107, 0, 0, 0, 1, 118]⟩ := by rfl
/-- Scripts that came in: the blocks lie below B. -/
structure OpsIn (B : Nat) (w : World) (v : Value) (l : List OpZ) : Prop where
  form : ∃ a c, v = .slice a l.length c
  ok : ∀ o ∈ l, o.Ok
  cells : ∀ i (h : i < l.length), ∃ g off c, v = .slice (some ⟨g, off, none⟩) l.length c ∧ g < B ∧ w.cell? ⟨g, off + i * 4, none⟩ = some (.int .i64 l[i].kind) ∧
    w.cell? ⟨g, off + i * 4 + 1, none⟩ = some (.string l[i].key) ∧ w.cell? ⟨g, off + i * 4 + 2, none⟩ = some (.string l[i].data) ∧ w.cell? ⟨g, off + i * 4 + 3, none⟩ = some (.int .i64 l[i].n)
theorem OpsIn.below {B : Nat} {w w' : World} {v : Value} {l : List OpZ} (h : OpsIn B w v l) (hb : Below B w w') : OpsIn B w' v l := by
  refine ⟨h.form, h.ok, fun i hi => ?_⟩
  obtain ⟨g, off, c, e, hg, c0, c1, c2, c3⟩ := h.cells i hi
  have hh : ∀ j, w'.cell? ⟨g, j, none⟩ = w.cell? ⟨g, j, none⟩ := fun j => hb.cell (p := ⟨g, j, none⟩) hg
  exact ⟨g, off, c, e, hg, (hh _).trans c0, (hh _).trans c1, (hh _).trans c2, (hh _).trans c3⟩
/-- A store of the call's own, at block g: its fields, and every block of it is at B or above. -/
def Lives (B : Nat) (w : World) (g : Nat) (x : Fld) : Prop := ∃ bn bd v, PSF w g bn bd v x ∧ ∀ m ∈ foot g bn bd v, B ≤ m
theorem Lives.keep {B : Nat} {w w' : World} {g : Nat} {x : Fld} (h : Lives B w g x) (hb : Below w.heap.size w w') : Lives B w' g x := by
  obtain ⟨bn, bd, v, hp, hf⟩ := h
  exact ⟨bn, bd, v, hp.keep hb, hf⟩
theorem Kept.lives {B : Nat} {w w' : World} {g bn bd : Nat} {v : Value} {x : Fld} (h : Kept w g bn bd v x w') (hf : ∀ m ∈ foot g bn bd v, B ≤ m) (hB : B ≤ w.heap.size) : Lives B w' g x ∧ Below B w w' := by
  obtain ⟨bn', v', hp, ht, hn⟩ := h
  exact ⟨⟨bn', bd, v', hp, fun m hm => by rcases hn m hm with e | e; exact hf m e; omega⟩, ht.toBelow hB hf⟩
theorem do_lives {B K : Nat} (hK : K ≤ 2097151) (o : OpZ) (ho : o.Ok) (w : World) (g : Nat) (x : Fld) (hB : B ≤ w.heap.size) (h : Lives B w g x) (hf : Fine K x) :
    Calls Try.prog 16 #[.pointer (some ⟨g, 0, none⟩), opV o] w fun e w' => ∃ nv, e = .returned (gotV (doZ x o).1 nv) ∧ Row w' w.heap.size 1 nv (doZ x o).1.names.length (strV (doZ x o).1.names) ∧ Lives B w' g (doZ x o).2 ∧ Below B w w' := by
  obtain ⟨bn, bd, v, hp, hn⟩ := h
  exact (ldo_calls K hK o ho w g bn bd v x hp hf).mono fun e w' ⟨nv, he, hr, hk⟩ => ⟨nv, he, hr, hk.lives hn hB⟩
def playZ (x : Fld) (l : List OpZ) : Fld := l.foldl (fun x o => (doZ x o).2) x
theorem play_fine : ∀ (l : List OpZ) {K : Nat} {x : Fld}, Fine K x → (∀ o ∈ l, o.Ok) → Fine (K + l.length) (playZ x l)
  | [], K, x, h, _ => h
  | o :: l, K, x, h, ho => by
    have h1 := play_fine l (do_fine h (ho o (by simp))) (fun q hq => ho q (by simp [hq]))
    have e : K + (o :: l).length = K + 1 + l.length := by simp; omega
    rw [e]; exact h1
theorem play_snoc (x : Fld) (l : List OpZ) (i : Nat) (h : i < l.length) : playZ x (l.take (i + 1)) = (doZ (playZ x (l.take i)) l[i]).2 := by
  unfold playZ
  rw [List.take_succ_eq_append_getElem h, List.foldl_append, List.foldl_cons, List.foldl_nil]
set_option maxRecDepth 100000 in
set_option maxHeartbeats 2000000 in
theorem lbegun_calls (w : World) : Calls Try.prog 12 #[] w fun e w' => e = .returned (.bool true) ∧ Below w.heap.size w w' := by
  have hf0 : Fine 0 (newF 100) := newF_fine rfl
  have hf1 : Fine 1 begun1 := by have h := put_fine hf0 ⟨#[107]⟩ ⟨#[118]⟩; rw [begun_1] at h; exact h
  have hf2 : Fine 2 begun2 := by have h := sync_fine hf1; rw [begun_2] at h; exact h
  have C1 := Lib.hid (fun w g bn bd v h => (show Calls Try.prog 27 #[.pointer (some ⟨g, 0, none⟩), .string ⟨#[107]⟩, .string ⟨#[118]⟩] w fun e w' => e = .returned (.int .i64 0) ∧ Kept w g bn bd v begun1 w' by
    have h := sput_calls 0 (by omega) ⟨#[107]⟩ ⟨#[118]⟩ (by decide) (by decide) w g bn bd v (newF 100) h hf0
    rw [begun_1] at h; exact h))
  have C2 := Lib.hid (fun w g bn bd v h => (show Calls Try.prog 28 #[.pointer (some ⟨g, 0, none⟩)] w fun e w' => e = .returned (.int .i64 0) ∧ Kept w g bn bd v begun2 w' by
    have h := ssync_calls 1 (by omega) w g bn bd v begun1 h hf1
    rw [begun_2] at h; exact h))
  have C3 := Lib.hid (fun w g bn bd v h => (show Calls Try.prog 29 #[.pointer (some ⟨g, 0, none⟩), .string ⟨#[107]⟩] w fun e w' => e = .returned (.tuple #[.string ⟨#[118]⟩, .int .i64 0]) ∧ w = w' by
    have h := sget_calls 2 ⟨#[107]⟩ (by decide) w g bn bd v begun2 h
    rw [begun_3] at h; exact h))
  have C4 := Lib.hid (fun w g bn bd v h => (show Calls Try.prog 22 #[.pointer (some ⟨g, 0, none⟩)] w fun e w' => e = .returned (.string ⟨#[83, 1, 107, 0, 0, 0, 1, 118]⟩) ∧ Below w.heap.size w w' by
    have h := simage_calls 2 (by omega) w g bn bd v begun2 h hf2
    rw [begun_4] at h; exact h))
  have C5 := Lib.hid (fun w g bn bd v h => (show Calls Try.prog 24 #[.pointer (some ⟨g, 0, none⟩)] w fun e w' => e = .returned (.int .i64 18) ∧ w = w' from sused_calls w g bn bd v begun2 h))
  clear hf0 hf1 hf2
  go_enter Try.func12, Try.ntmps12
  go_wp2_with fail
  (with_reducible refine (snew_yes 100 rfl _).mono ?_); rintro e w1 ⟨g, bn, bd, rfl, hp1, hn1, hb1⟩
  have HP1 := Lib.hid hp1
  have HN1 := Lib.hid hn1
  have HB1 := Lib.hid hb1
  have hz1 := hb1.size
  clear hp1 hn1 hb1
  go_wp2_with fail
  (with_reducible refine (C1.out _ _ _ _ _ HP1.out).mono ?_); rintro e w2 ⟨rfl, hk2⟩
  have q2 := hk2.lives HN1.out hz1
  obtain ⟨⟨bn2, bd2, v2, hp2, hn2⟩, hb2⟩ := q2
  have HP2 := Lib.hid hp2
  have HN2 := Lib.hid hn2
  have HB2 := Lib.hid (HB1.out.trans hb2)
  have hz2 := HB2.out.size
  clear hk2 hp2 hn2 hb2
  go_wp2_with fail
  (with_reducible refine (C2.out _ _ _ _ _ HP2.out).mono ?_); rintro e w3 ⟨rfl, hk3⟩
  have q3 := hk3.lives HN2.out hz2
  obtain ⟨⟨bn3, bd3, v3, hp3, hn3⟩, hb3⟩ := q3
  have HP3 := Lib.hid hp3
  have HB3 := Lib.hid (HB2.out.trans hb3)
  clear hk3 hp3 hn3 hb3
  go_wp2_with (first
    | (go_at_call 29; (with_reducible refine (C3.out _ _ _ _ _ HP3.out).mono ?_); rintro e w4 ⟨rfl, rfl⟩)
    | (go_at_call 24; (with_reducible refine (C5.out _ _ _ _ _ HP3.out).mono ?_); rintro e w4 ⟨rfl, rfl⟩)
    | (go_at_call 22; (with_reducible refine (C4.out _ _ _ _ _ HP3.out).mono ?_); rintro e w5 ⟨rfl, hb5⟩; have HB5 := Lib.hid (HB3.out.trans (hb5.mono HB3.out.size)); clear hb5))
  go_ret
  exact ⟨rfl, HB5.out⟩
set_option maxRecDepth 100000 in
set_option maxHeartbeats 2000000 in
theorem lplay_calls (B K : Nat) (l : List OpZ) (hK : K + l.length ≤ 2097151) (sv : Value) (w : World) (g : Nat) (x : Fld) (hB : B ≤ w.heap.size) (ho : OpsIn B w sv l) (h : Lives B w g x) (hf : Fine K x) :
    Calls Try.prog 21 #[.pointer (some ⟨g, 0, none⟩), sv] w fun e w' => e = .returned (.tuple #[]) ∧ Lives B w' g (playZ x l) ∧ Below B w w' := by
  obtain ⟨pa, pc, rfl⟩ := ho.form
  have HO := Lib.hid ho
  have H := Lib.hid h
  have HF := Lib.hid hf
  obtain ⟨n, hn⟩ : ∃ n, l.length = n := ⟨_, rfl⟩
  rw [hn] at hK
  rw [hn]
  have HN := Lib.hid hn
  clear ho h hf hn
  go_enter Try.func21, Try.ntmps21
  go_wp2
  go_loopw [4] (fun iv wr => ∃ k : Nat, k ≤ n ∧ iv = .int .i64 k ∧ Hid (Lives B wr g (playZ x (l.take k))) ∧ Hid (Below B w wr)) (fun iv _ => n - (intOf iv).toNat)
  case atStart => exact ⟨0, by omega, rfl, H, Lib.hid (Below.refl _ _)⟩
  case round =>
    obtain ⟨k, hk, rfl, HL, HB⟩ := hrel
    by_cases hlt : k < n
    · have hkl : k < l.length := by rw [HN.out]; exact hlt
      obtain ⟨gg, off, cc, hv, hg, r0, r1, r2, r3⟩ := (HO.out.below HB.out).cells k hkl
      injection hv with e1 e2 e3
      subst e1
      have hbk : (k : Int) < n := by omega
      have hfk : Fine (K + k) (playZ x (l.take k)) := by
        have h := play_fine (l.take k) HF.out (fun o ho => HO.out.ok o (List.mem_of_mem_take ho))
        rwa [List.length_take_of_le (by omega)] at h
      have CD := Lib.hid (do_lives (B := B) (K := K + k) (by omega) l[k] (HO.out.ok _ (List.getElem_mem hkl)) _ g _ (Nat.le_trans hB HB.out.size) HL.out hfk)
      have HS := Lib.hid (play_snoc x l k hkl)
      obtain ⟨o, hoo⟩ : ∃ o, l[k] = o := ⟨_, rfl⟩
      rw [hoo] at r0 r1 r2 r3
      simp only [hoo] at CD HS
      obtain ⟨ok, okey, odata, on⟩ := o
      simp only at r0 r1 r2 r3
      simp only [opV] at CD
      clear e2 e3 hoo hfk hg
      go_wp2_with (go_at_call 16; (with_reducible refine CD.out.mono ?_); rintro e w2 ⟨nv, rfl, hr2, hl2, hb2⟩; have HL2 := Lib.hid hl2; have HB2 := Lib.hid (HB.out.trans hb2); clear hr2 hl2 hb2)
      exact ⟨⟨k + 1, by omega, by go_num, Lib.hid (by rw [HS.out]; exact HL2.out), HB2⟩, by simp [intOf]; omega⟩
    · obtain rfl : k = n := by omega
      have HE : Hid (Lives B wr g (playZ x l)) := Lib.hid (by have h := HL.out; rwa [← HN.out, List.take_length] at h)
      clear hlt hk
      go_wp2
      go_end0
      exact ⟨rfl, HE.out, HB.out⟩
end Go.Proofs.Ytpddnbkmiogheaa
