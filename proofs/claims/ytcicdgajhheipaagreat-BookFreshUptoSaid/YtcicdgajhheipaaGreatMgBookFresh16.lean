import Derived.Test.YtcicdgajhheipaaGreatMgBookFresh15
import Derived.Test.YtcicdgajhheipaaGreatMgBookFresh10
set_option linter.unusedVariables false
namespace Go.Proofs.YtcicdgajhheipaaGreat
open Go.RowKit Go.WideMaps Go.Maps Go.MapKept
/-- Bytes of the call's own, with a record boxed beside them. -/
structure Apt (B : Nat) (w : World) (v : Value) (l : List UInt8) (bx : Nat) (a b : Value) : Prop where
  row : RowB w B v l
  ne : v.ownBlock ≠ some bx
  lt : bx < w.heap.size
  c0 : w.cell? ⟨bx, 0, none⟩ = some a
  c1 : w.cell? ⟨bx, 1, none⟩ = some b
theorem Apt.alloc {B : Nat} {w : World} {v : Value} {l : List UInt8} {bx : Nat} {a b : Value} (h : Apt B w v l bx a b) (o : Obj) : Apt B (w.alloc o) v l bx a b :=
  have hb : Below w.heap.size w (w.alloc o) := (Below.refl _ _).alloc (Nat.le_refl _) o
  ⟨h.row.alloc o, h.ne, Nat.lt_of_lt_of_le h.lt hb.size, (hb.cell (p := ⟨bx, 0, none⟩) h.lt).trans h.c0, (hb.cell (p := ⟨bx, 1, none⟩) h.lt).trans h.c1⟩
theorem wpList_apt {ops : Array Oper} {rest : List Oper} {o : Oper} {a : Act} {Q : Exit → Act → World → Prop} (w : World) (hgd : o.guard = none) (s x : Operand) (tx : TypeId)
    (ho : o.op = .call { callee := .builtin .append, args := #[s, x], argTypes := #[87, tx] }) (B : Nat) (v : Value) (l : List UInt8) (hs : a.eval s = v)
    (xv : Value) (m : List UInt8) (hx : a.eval x = xv) (hsrc : Src Tryz.prog 1 tx xv m.length (bC m) w) (bx : Nat) (u1 u2 : Value) (hap : Apt B w v l bx u1 u2) (hlen : l.length + m.length ≤ 140737488355328) (hB : B ≤ w.heap.size)
    (h : ∀ v' w', Apt B w' v' (l ++ m) bx u1 u2 → Below B w w' → wpList Tryz.prog ops Q rest (a.put o.dst v') w') : wpList Tryz.prog ops Q (o :: rest) a w := by
  refine wpList_bytes w hgd s x tx ho B v l hs xv m hx hsrc hap.row hlen hB ?_
  intro v' w1 hr hb hat hg
  have hc : w1.heap[bx]? = w.heap[bx]? := hg.block bx hap.lt (fun e => hap.ne e.symm)
  refine h v' w1 ⟨hr, ?_, Nat.lt_of_lt_of_le hap.lt hb.size, (World.cell?_of_block (a := ⟨bx, 0, none⟩) hc).trans hap.c0, (World.cell?_of_block (a := ⟨bx, 1, none⟩) hc).trans hap.c1⟩ hb
  intro e
  rcases hat with e2 | e2
  · exact hap.ne (e2 ▸ e)
  · rw [e] at e2; injection e2 with e2; have := hap.lt; omega
theorem wpList_apt1 {ops : Array Oper} {rest : List Oper} {o : Oper} {a : Act} {Q : Exit → Act → World → Prop} (w : World) (u : Int) (hgd : o.guard = none) (s x : Operand)
    (ho : o.op = .call { callee := .builtin .append, args := #[s, x], argTypes := #[87, 87] }) (B : Nat) (v : Value) (l : List UInt8) (hs : a.eval s = v)
    (Hz : Nat) (hx : a.eval x = .slice (some ⟨Hz, 0, none⟩) 1 1) (hH : w.heap.size = Hz) (y : UInt8) (hy : u = (y.toNat : Int)) (bx : Nat) (u1 u2 : Value) (hap : Apt B w v l bx u1 u2) (hlen : l.length + 1 ≤ 140737488355328) (hB : B ≤ w.heap.size)
    (h : ∀ v' w', Apt B w' v' (l ++ [y]) bx u1 u2 → Below B w w' → wpList Tryz.prog ops Q rest (a.put o.dst v') w') : wpList Tryz.prog ops Q (o :: rest) a (w.alloc (.cells #[.int .u8 u] 5)) := by
  subst hy hH
  refine wpList_apt _ hgd s x 87 ho B v l hs _ [y] hx (lit_row w y).src bx u1 u2 (hap.alloc _) hlen (Nat.le_trans hB (by simp)) ?_
  exact fun v' w' h1 h2 => h v' w' h1 (((Below.refl B w).alloc hB _).trans h2)
theorem wpList_apt4 {ops : Array Oper} {rest : List Oper} {o : Oper} {a : Act} {Q : Exit → Act → World → Prop} (w : World) (z0 z1 z2 z3 : Int) (hgd : o.guard = none) (s x : Operand)
    (ho : o.op = .call { callee := .builtin .append, args := #[s, x], argTypes := #[87, 87] }) (B : Nat) (v : Value) (l : List UInt8) (hs : a.eval s = v)
    (Hz : Nat) (hx : a.eval x = .slice (some ⟨Hz, 0, none⟩) 4 4) (hH : w.heap.size = Hz) (n : Nat) (h0 : z0 = ((n / 16777216 % 256 : Nat) : Int)) (h1 : z1 = ((n / 65536 % 256 : Nat) : Int)) (h2 : z2 = ((n / 256 % 256 : Nat) : Int)) (h3 : z3 = ((n % 256 : Nat) : Int))
    (bx : Nat) (u1 u2 : Value) (hap : Apt B w v l bx u1 u2) (hlen : l.length + 4 ≤ 140737488355328) (hB : B ≤ w.heap.size)
    (h : ∀ v' w', Apt B w' v' (l ++ be4L n) bx u1 u2 → Below B w w' → wpList Tryz.prog ops Q rest (a.put o.dst v') w') : wpList Tryz.prog ops Q (o :: rest) a (w.alloc (.cells #[.int .u8 z0, .int .u8 z1, .int .u8 z2, .int .u8 z3] 5)) := by
  have hc : (#[.int .u8 z0, .int .u8 z1, .int .u8 z2, .int .u8 z3] : Array Value).toList = bC (be4L n) := by
    subst h0 h1 h2 h3
    simp [bC, be4L]
  subst hH
  have hrow := row_lit w #[.int .u8 z0, .int .u8 z1, .int .u8 z2, .int .u8 z3] 5 4 1 (by unfold maxLen; omega) rfl
  rw [hc] at hrow
  refine wpList_apt _ hgd s x 87 ho B v l hs _ (be4L n) hx (Row.src hrow Tryz.underlying87 (bC_one _)) bx u1 u2 (hap.alloc _) hlen (Nat.le_trans hB (by simp)) ?_
  exact fun v' w' h1 h2 => h v' w' h1 (((Below.refl B w).alloc hB _).trans h2)
set_option maxRecDepth 100000 in
set_option maxHeartbeats 8000000 in
theorem rimage_calls (K : Nat) (hK : K ≤ 2097152) (w : World) (g : Nat) (vd vw vv : Value) (x : Fld) (h : RSF w g vd vw vv x) (hf : Fine K x) :
    Calls Tryz.prog 24 #[.pointer (some ⟨g, 0, none⟩)] w fun e w' => e = .returned (.string ⟨(imageL x.dur).toArray⟩) ∧ Below w.heap.size w w' := by
  have hln : x.dur.length ≤ 2097152 := by have := hf.len; omega
  have HFD := Lib.hid hf.fd
  have H := Lib.hid h
  have hlt := h.lt
  have c1 := h.c1
  obtain ⟨va, vc, hvv⟩ := h.dur.slice
  subst hvv
  obtain ⟨n, hn⟩ : ∃ n, x.dur.length = n := ⟨_, rfl⟩
  rw [hn] at c1 hln
  have HN := Lib.hid hn
  have HNL := Lib.hid (RowB.nil w w.heap.size)
  clear h hf hn
  go_enter Tryz.func24, Tryz.ntmps24
  go_wp2_with (at_builtin; refine wpList_byte w _ rfl _ _ rfl w.heap.size _ [] rfl rfl 83 (by rfl) HNL.out (by simp) (Nat.le_refl _) ?_; intro v0 w0 hr0 hb0 _ _; have HR0 := Lib.hid hr0; have HB0 := Lib.hid hb0; clear hr0 hb0)
  go_loopw [3, 4, 5, 6] (fun ov iv _ _ wr => ∃ (k : Nat), k ≤ n ∧ iv = .int .i64 k ∧ Hid (RowB wr w.heap.size ov (imageL (x.dur.take k))) ∧ Hid (Below w.heap.size w wr)) (fun _ iv _ _ _ => n - (intOf iv).toNat)
  case atStart => exact ⟨0, by omega, rfl, HR0, HB0⟩
  case round =>
    obtain ⟨k, hk, rfl, HR, HB⟩ := hrel
    have hr := H.out.keep HB.out
    have s1 := hr.c1
    rw [HN.out] at s1
    by_cases hlt2 : k < n
    · have hkl : k < x.dur.length := by rw [HN.out]; exact hlt2
      obtain ⟨pg, pc, hv, hpg, r0, r1⟩ := hr.dur.at k hkl
      injection hv with e1 e2 e3
      subst e1
      have hbk : (k : Int) < n := by omega
      have hkb : k ≤ 2097152 := by omega
      have hfit := HFD.out _ (List.getElem_mem hkl)
      have hst := imageL_snoc (x.dur.take k) x.dur[k]
      rw [← take_rec hkl] at hst
      have hil : (imageL (x.dur.take k)).length ≤ 2199167959041 := by
        have h1 := imageL_len (l := x.dur.take k) (fun r hr => HFD.out r (List.mem_of_mem_take hr))
        have h2 := List.length_take_le k x.dur
        omega
      obtain ⟨y, hy⟩ : ∃ y, x.dur[k] = y := ⟨_, rfl⟩
      rw [hy] at r0 r1 hfit hst
      obtain ⟨yk, yd⟩ := y
      obtain ⟨L, hL⟩ : ∃ L, imageL (x.dur.take k) = L := ⟨_, rfl⟩
      rw [hL] at HR hst hil
      have hyk : yk.size ≤ 64 := hfit.2.1
      have hyd : yd.size ≤ 1048576 := hfit.2.2
      have hst2 : imageL (x.dur.take (k + 1)) = ((L ++ [UInt8.ofNat yk.size] ++ yk.data.toList) ++ be4L yd.size) ++ yd.data.toList := by
        rw [hst]; simp [recL]
      have HST := Lib.hid hst2
      have hkl1 : yk.data.toList.length = yk.size := by simp
      have hdl1 : yd.data.toList.length = yd.size := by simp
      have HKD := Lib.hid (And.intro hkl1 hdl1)
      have HIL := Lib.hid hil
      simp only at r0 r1
      have HAP := Lib.hid (show Apt w.heap.size (wr.alloc (.cells #[.string yk, .string yd] 79)) _ L wr.heap.size (.string yk) (.string yd) from
        ⟨HR.out.alloc _, fun e => by have := (HR.out.lt _ e).2; omega, by simp, World.cell?_alloc_new wr _ _ 0, World.cell?_alloc_new wr _ _ 1⟩)
      have HBX := Lib.hid (HB.out.alloc HB.out.size (.cells #[.string yk, .string yd] 79))
      have hwk : IntKind.u8.wrap (yk.size : Int) = yk.size := by rw [IntKind.wrap_u8]; omega
      have hzz := HB.out.size
      clear e2 e3 hr hfit hy hL hst hst2 hkl1 hdl1 hil
      go_wp2_with (first
        | (at_builtin; refine wpList_apt1 _ _ rfl _ _ rfl w.heap.size _ L rfl _ rfl (by simp) (UInt8.ofNat yk.size) (by simp; omega) wr.heap.size (.string yk) (.string yd) HAP.out (by have := HIL.out; omega) HBX.out.size ?_; intro v1 w1 ha1 hb1; have HA1 := Lib.hid ha1; have HB1 := Lib.hid (HBX.out.trans hb1); have q0 := ha1.c0; have q1 := ha1.c1; clear ha1 hb1)
        | (at_builtin; refine wpList_apt _ rfl _ _ 9 rfl w.heap.size _ (L ++ [UInt8.ofNat yk.size]) rfl _ yk.data.toList rfl (by rw [HKD.out.1]; exact Src.ofString _ Tryz.underlying9 yk) wr.heap.size (.string yk) (.string yd) HA1.out (by rw [HKD.out.1, List.length_append]; have := HIL.out; simp; omega) HB1.out.size ?_; intro v2 w2 ha2 hb2; have HA2 := Lib.hid ha2; have HB2 := Lib.hid (HB1.out.trans hb2); have q2 := ha2.c0; have q3 := ha2.c1; clear ha2 hb2)
        | (at_builtin; refine wpList_apt4 _ _ _ _ _ rfl _ _ rfl w.heap.size _ (L ++ [UInt8.ofNat yk.size] ++ yk.data.toList) rfl _ rfl (by simp) yd.size (by omega) (by omega) (by omega) (by omega) wr.heap.size (.string yk) (.string yd) HA2.out (by rw [List.length_append, List.length_append, HKD.out.1]; have := HIL.out; simp; omega) HB2.out.size ?_; intro v3 w3 ha3 hb3; have HA3 := Lib.hid ha3; have HB3 := Lib.hid (HB2.out.trans hb3); have q4 := ha3.c0; have q5 := ha3.c1; clear ha3 hb3)
        | (at_builtin; refine wpList_apt _ rfl _ _ 9 rfl w.heap.size _ (L ++ [UInt8.ofNat yk.size] ++ yk.data.toList ++ be4L yd.size) rfl _ yd.data.toList rfl (by rw [HKD.out.2]; exact Src.ofString _ Tryz.underlying9 yd) wr.heap.size (.string yk) (.string yd) HA3.out (by rw [HKD.out.2, List.length_append, List.length_append, List.length_append, HKD.out.1]; have := HIL.out; simp [be4L]; omega) HB3.out.size ?_; intro v4 w4 ha4 hb4; have HA4 := Lib.hid ha4; have HB4 := Lib.hid (HB3.out.trans hb4); clear ha4 hb4))
      exact ⟨⟨k + 1, by omega, by go_num, Lib.hid (by rw [HST.out]; exact HA4.out.row), HB4⟩, by simp [intOf]; omega⟩
    · obtain rfl : k = n := by omega
      have hfull : x.dur.take k = x.dur := by rw [← HN.out]; exact List.take_length
      rw [hfull] at HR
      have hcv := HR.out.str
      clear hr hfull hk hlt2
      go_wp2
      go_ret
      exact ⟨rfl, HB.out⟩
end Go.Proofs.YtcicdgajhheipaaGreat

set_option linter.unusedVariables false
namespace Go.Proofs.YtcicdgajhheipaaGreat
open Go.RowKit Go.WideMaps Go.Maps Go.MapKept
/-- A store that was just laid. -/
theorem rsf_new (w : World) (c : Int) : RSF (w.alloc (.cells #[.int .i64 c, .slice none 0 0, .slice none 0 0, .bool false, .int .i64 0, .int .i64 0, .slice none 0 0] 52)) w.heap.size (.slice none 0 0) (.slice none 0 0) (.slice none 0 0) (newF c) := by
  have hc : ∀ j, (w.alloc (.cells #[.int .i64 c, .slice none 0 0, .slice none 0 0, .bool false, .int .i64 0, .int .i64 0, .slice none 0 0] 52)).cell? ⟨w.heap.size, j, none⟩ = _ := fun j => World.cell?_alloc_new w _ _ j
  exact ⟨hc 0, hc 1, hc 2, hc 3, hc 4, hc 5, hc 6, fun j => World.frozen?_alloc_new w _ _ j, RecL.nil _, RecL.nil _, Row.nil _ 0 3, fun e => (by cases e), fun e => (by cases e), fun k hk => (by cases hk), by simp⟩
theorem rnew_no (c : Int) (hc : goesB c = false) (w : World) : Calls Tryz.prog 6 #[.int .i64 c] w fun e w' => e = .returned (.pointer none) ∧ w = w' := by
  have hcc : c < 0 ∨ (0 ≤ c ∧ 1073741824 < c) := by
    unfold goesB at hc
    simp only [decide_eq_false_iff_not] at hc
    omega
  clear hc
  rcases hcc with h | ⟨h0, h⟩
  · go_enter Tryz.func6, Tryz.ntmps6
    go_wp2
    go_ret
    exact ⟨rfl, rfl⟩
  · go_enter Tryz.func6, Tryz.ntmps6
    go_wp2
    go_ret
    exact ⟨rfl, rfl⟩
theorem rnew_yes (c : Int) (hc : goesB c = true) (w : World) : Calls Tryz.prog 6 #[.int .i64 c] w fun e w' => e = .returned (.pointer (some ⟨w.heap.size, 0, none⟩)) ∧ RSF w' w.heap.size (.slice none 0 0) (.slice none 0 0) (.slice none 0 0) (newF c) ∧ Below w.heap.size w w' := by
  have hcc : 0 ≤ c ∧ c ≤ 1073741824 := of_decide_eq_true hc
  have HN := Lib.hid (rsf_new w c)
  obtain ⟨h0, h1⟩ := hcc
  clear hc
  go_enter Tryz.func6, Tryz.ntmps6
  go_wp2
  go_ret
  exact ⟨rfl, HN.out, (Below.refl _ _).alloc (Nat.le_refl _) _⟩
end Go.Proofs.YtcicdgajhheipaaGreat
