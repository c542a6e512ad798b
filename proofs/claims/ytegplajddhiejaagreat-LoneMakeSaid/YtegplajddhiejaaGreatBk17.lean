import Derived.Test.YtegplajddhiejaaGreatMgLoneMake5
import Derived.Test.YtegplajddhiejaaGreatMgLoneMake11
set_option linter.unusedVariables false
namespace Go.Proofs.YtegplajddhiejaaGreat
open Go.RowKit Go.WideMaps Go.Maps Go.MapKept
/-! The numbers of the records that are there. -/
theorem infoIntK : (Tryz.prog.info? 3).map (fun i => (i.zero, i.size, i.bytes)) = some (some (.int .i64 0), 1, 8) := by kernel_rfl
theorem iV_snoc (l : List Int) (z : Int) : iV (l ++ [z]) = iV l ++ [.int .i64 z] := by simp [iV]
/-- An int appended to a list of the call's own. -/
theorem wpList_intA {ops : Array Oper} {rest : List Oper} {o : Oper} {a : Act} {Q : Exit → Act → World → Prop} (wr : World) (B : Nat) (d : Int) (hgd : o.guard = none) (s x : Operand)
    (ho : o.op = .call { callee := .builtin .append, args := #[s, x], argTypes := #[87, 87] }) (v : Value) (l : List Int) (hs : a.eval s = v) (z : Nat) (hx : a.eval x = .slice (some ⟨z, 0, none⟩) 1 1) (hzz : z = wr.heap.size)
    (hrow : Row wr B 1 v l.length (iV l)) (hlen : l.length ≤ 4194304) (hB : B ≤ wr.heap.size)
    (h : ∀ v' w', Row w' B 1 v' (l ++ [d]).length (iV (l ++ [d])) → Below B wr w' → wpList Tryz.prog ops Q rest (a.put o.dst v') w') : wpList Tryz.prog ops Q (o :: rest) a (wr.alloc (.cells #[.int .i64 d] 3)) := by
  subst hzz
  obtain ⟨i0, hi, hz0, hz1, hz2⟩ := info_parts infoIntK
  refine wpList_append_row _ hgd s x 87 87 ho B 3 i0 (.int .i64 0) 1 8 Tryz.underlying87 hi hz0 hz1 hz2 rfl v _ _ hs (hrow.alloc _) _ 1 _ hx (Row.src (row_lit wr #[.int .i64 d] 3 1 1 (by unfold maxLen; omega) rfl) Tryz.underlying87 (by intro z hz; simp at hz; subst hz; rfl)) (by unfold maxLen; omega) (by omega) (Nat.le_trans hB (by simp)) ?_
  intro v' w1 h1 hg hat
  refine h v' w1 ?_ ?_
  · rw [iV_snoc, List.length_append]; exact h1
  · exact ((Below.refl B wr).alloc hB _).grown hg (Nat.le_trans hB (by simp)) (fun j hj => (hrow.lt j hj).1)
def numsZ (ks : List ByteArray) : List Int := (ks.filter okN).map nmN
theorem nums_take {ks : List ByteArray} {j : Nat} (h : j < ks.length) : numsZ (ks.take (j + 1)) = numsZ (ks.take j) ++ (if okN ks[j] then [nmN ks[j]] else []) := by
  unfold numsZ
  rw [List.take_succ_eq_append_getElem h, List.filter_append, List.map_append]
  simp only [List.filter_cons, List.filter_nil]
  cases okN ks[j] <;> rfl
theorem nums_len (ks : List ByteArray) : (numsZ ks).length ≤ ks.length := by
  unfold numsZ
  rw [List.length_map]
  exact List.length_filter_le _ _
theorem keys_fit {K : Nat} {x : Fld} (hf : Fine K x) (p : ByteArray) : ∀ k ∈ keysZ x p, 1 ≤ k.size ∧ k.size ≤ 64 := by
  intro k hk
  unfold keysZ at hk
  split at hk
  · cases hk
  · obtain ⟨hk, _⟩ := List.mem_filter.1 hk
    obtain ⟨r, hr, rfl⟩ := List.mem_map.1 hk
    exact ⟨(hf.fn r hr).1, (hf.fn r hr).2.1⟩
theorem keys_len2 {K : Nat} {x : Fld} (h : Fine K x) (p : ByteArray) : (keysZ x p).length ≤ K := by
  unfold keysZ
  split
  · exact Nat.zero_le _
  · exact Nat.le_trans (List.length_filter_le _ _) (by rw [List.length_map]; exact h.ln)
theorem row_str {w : World} {B : Nat} {v : Value} {l : List ByteArray} (h : Row w B 1 v l.length (strV l)) (j : Nat) (hj : j < l.length) : ∃ g c, v = .slice (some ⟨g, 0, none⟩) l.length c ∧ g < w.heap.size ∧ w.cell? ⟨g, j, none⟩ = some (.string l[j]) := by
  rcases Row.form h with ⟨_, h0, _⟩ | ⟨cg, cap, rfl, _, hg, _, _, hx, _⟩
  · omega
  · exact ⟨cg, cap, rfl, hg, hx _ _ (by simp [strV, hj])⟩
theorem row_int {w : World} {B : Nat} {v : Value} {l : List Int} (h : Row w B 1 v l.length (iV l)) (j : Nat) (hj : j < l.length) : ∃ g c, v = .slice (some ⟨g, 0, none⟩) l.length c ∧ g < w.heap.size ∧ w.cell? ⟨g, j, none⟩ = some (.int .i64 l[j]) := by
  rcases Row.form h with ⟨_, h0, _⟩ | ⟨cg, cap, rfl, _, hg, _, _, hx, _⟩
  · omega
  · exact ⟨cg, cap, rfl, hg, hx _ _ (by simp [iV, hj])⟩
set_option maxRecDepth 100000 in
set_option maxHeartbeats 4000000 in
theorem bnums_calls {B K g : Nat} (hK : K ≤ 2097152) (s k : Int) (s0 : 0 ≤ s) (s1 : s ≤ 9223372036854775807) (k1 : 1 ≤ k) (k2 : k ≤ 255) (w : World) (x : Fld) (h : Lives B w g x) (hf : Fine K x) :
    Calls Tryz.prog 45 #[.pointer (some ⟨g, 0, none⟩), .int .i64 s, .int .i64 k] w fun e w' => ∃ v, e = .returned v ∧ Row w' w.heap.size 1 v (numsZ (keysZ x (prefZ s ++ oneZ k))).length (iV (numsZ (keysZ x (prefZ s ++ oneZ k)))) ∧ Below w.heap.size w w' := by
  have CP := Lib.hid (fun w => prefix_calls s s0 s1 w)
  have hp := pref_size s
  have ho := one_size k
  have hk : IntKind.u8.wrap k = k := by rw [IntKind.wrap_u8]; omega
  have hcv : ∀ (w : World) (b : Nat), w.cell? ⟨b, 0, none⟩ = some (.int .u8 k) → (convert 112 9 (.slice (some ⟨b, 0, none⟩) 1 1)).run Tryz.prog w = .ok (.string (oneZ k)) w :=
    fun w b hc => run_convert_bytes_arg w 112 5 Tryz.underlying112 Tryz.underlying5 b 0 1 1 [k] rfl (fun i hi => by
      obtain rfl : i = 0 := by omega
      exact hc) 9 Tryz.underlying9
  have HL := Lib.hid h
  have CK := Lib.hid (fun w (h : Lives B w g x) => keys_lives hK (prefZ s ++ oneZ k) h hf)
  have hkl := keys_len2 hf (prefZ s ++ oneZ k)
  have HFT := Lib.hid (keys_fit hf (prefZ s ++ oneZ k))
  obtain ⟨ks, hks⟩ : ∃ ks, keysZ x (prefZ s ++ oneZ k) = ks := ⟨_, rfl⟩
  rw [hks] at hkl HFT ⊢
  simp only [hks] at CK
  obtain ⟨n, hn⟩ : ∃ n, ks.length = n := ⟨_, rfl⟩
  have HN := Lib.hid hn
  rw [hn] at hkl
  simp only [hn] at CK
  have hd1 : decide (s < 0) = false := decide_eq_false (by omega)
  have hd2 : decide (k < 1) = false := decide_eq_false (by omega)
  have hd3 : decide (255 < k) = false := decide_eq_false (by omega)
  clear h hf hks hn
  go_enter Tryz.func45, Tryz.ntmps45
  go_wp2_with fail
  go_region_with (first
    | (go_at_call 38; refine (CP.out _).mono ?_; rintro e w2 ⟨rfl, hb2⟩; obtain ⟨hc2, hf2⟩ := bcell hb2)
    | (go_at_call 37; refine (CK.out _ (HL.out.keep (by first
        | exact (((Below.refl _ w).drew.trans hb2).alloc hb2.size _)
        | exact ((((Below.refl _ w).drew.alloc (Nat.le_refl _) _)).trans (hb2.mono (by simp)))
        | exact ((((Below.refl _ w).alloc (Nat.le_refl _) _).drew).trans (hb2.mono (by simp)))))).mono ?_; rintro e w3 ⟨kv, rfl, hr3, hb3⟩; obtain ⟨ka, kc, hkv⟩ := hr3.slice; subst hkv))
  all_goals
    have hbx : Below w.heap.size w w3 := by
      first
        | exact (((Below.refl _ w).drew.trans hb2).alloc hb2.size _).trans (hb3.mono (by have := hb2.size; simp at this ⊢; omega))
        | exact (((((Below.refl _ w).drew.alloc (Nat.le_refl _) _)).trans (hb2.mono (by simp)))).trans (hb3.mono (by have := hb2.size; simp at this ⊢; omega))
        | exact (((((Below.refl _ w).alloc (Nat.le_refl _) _).drew).trans (hb2.mono (by simp)))).trans (hb3.mono (by have := hb2.size; simp at this ⊢; omega))
    have HB3 := Lib.hid hbx
    have HR3 := Lib.hid hr3
    clear hr3 hb3 hbx hc2 hf2 hb2
    go_wp2
    go_simp
    go_loopw [7, 34] (fun ov iv wr => ∃ (j : Nat) (ov2 : Value), j ≤ n ∧ ov2 = ov ∧ iv = .int .i64 j ∧ Hid (Row wr w3.heap.size 1 ov2 (numsZ (ks.take j)).length (iV (numsZ (ks.take j)))) ∧ Hid (Below w3.heap.size w3 wr)) (fun _ iv _ => n - (intOf iv).toNat)
    case atStart => exact ⟨0, _, by omega, rfl, rfl, Lib.hid (Row.nil _ _ 1), Lib.hid (Below.refl _ _)⟩
    case round =>
      obtain ⟨j, ov2, hj, hov, rfl, HO, HB⟩ := hrel
      subst hov
      have HBW := Lib.hid (HB3.out.trans (HB.out.mono HB3.out.size))
      by_cases hlt : j < n
      · have hjl : j < ks.length := by rw [HN.out]; exact hlt
        obtain ⟨cg, cc, hv, hcg, hcl⟩ := row_str (l := ks) (by rw [HN.out]; exact HR3.out) j hjl
        injection hv with hv e2 e3
        subst hv
        clear e2 e3
        have hc1 : wr.cell? ⟨cg, j, none⟩ = some (.string ks[j]) := (HB.out.cell (p := ⟨cg, j, none⟩) hcg).trans hcl
        have hfit := HFT.out _ (List.getElem_mem hjl)
        have HST := Lib.hid (nums_take hjl)
        have hcnt : (numsZ (ks.take j)).length ≤ 4194304 := by
          have h1 := nums_len (ks.take j)
          have h2 := List.length_take_le j ks
          omega
        have HCN := Lib.hid hcnt
        have CN := Lib.hid (fun w => named_calls ks[j] (by omega) w)
        obtain ⟨key, hkey⟩ : ∃ key, ks[j] = key := ⟨_, rfl⟩
        rw [hkey] at hc1 CN HST
        unfold namedV at CN
        have hji : (j : Int) < n := by omega
        clear hcl hkey hfit hcnt
        cases hok : okN key
        · rw [hok] at HST CN
          simp only [Bool.false_eq_true, if_false, List.append_nil] at HST
          clear hok
          go_wp2_with (go_at_call 63; (with_reducible refine (CN.out _).mono ?_); rintro e w4 ⟨rfl, q, rfl⟩)
          go_roundw
          case rel => exact ⟨j + 1, ov2, by omega, rfl, by go_num, Lib.hid (by rw [HST.out]; exact HO.out), Lib.hid (belowDrewN HB.out _)⟩
          case measure => simp [intOf]; omega
        · rw [hok] at HST CN
          simp only [if_true] at HST
          clear hok
          go_wp2_with (first
            | (go_at_call 63; (with_reducible refine (CN.out _).mono ?_); rintro e w4 ⟨rfl, q, rfl⟩)
            | (refine wpList_intA (wr.drewN q) w3.heap.size (nmN key) rfl (.tmp 46) (.tmp 48) rfl ov2 (numsZ (ks.take j)) rfl wr.heap.size rfl rfl (HO.out.drewN q) HCN.out HB.out.size ?_; intro v5 w5 hr5 hb5; have HR5 := Lib.hid hr5; have HB5 := Lib.hid ((belowDrewN HB.out q).trans hb5); clear hr5 hb5))
          go_roundw
          case rel => exact ⟨j + 1, v5, by omega, rfl, by go_num, Lib.hid (by rw [HST.out]; exact HR5.out), HB5⟩
          case measure => simp [intOf]; omega
      · obtain rfl : j = n := by omega
        have hfull : ks.take j = ks := by rw [← HN.out]; exact List.take_length
        rw [hfull] at HO
        clear hfull
        go_wp2
        go_ret
        exact ⟨_, rfl, HO.out.mono HB3.out.size, HBW.out⟩
end Go.Proofs.YtegplajddhiejaaGreat
