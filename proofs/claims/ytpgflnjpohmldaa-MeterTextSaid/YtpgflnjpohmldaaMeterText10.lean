import Derived.Test.YtpgflnjpohmldaaMeterText9
set_option linter.unusedVariables false
namespace Go.Proofs.Ytpgflnjpohmldaa
open Go.RowKit FloatMath
theorem padTo_snoc (l : List Nat) (k : Nat) (h : l.length < k) : padTo (l ++ [0]) k = padTo l k := by
  unfold padTo
  obtain ⟨j, hj⟩ : ∃ j, k = l.length + 1 + j := ⟨k - (l.length + 1), by omega⟩
  rw [List.length_append, List.append_assoc, show k - l.length = j + 1 by omega, show k - (l.length + [0].length) = j by simp; omega]
  rfl
theorem padTo_ge (l : List Nat) (k : Nat) (h : k ≤ l.length) : padTo l k = l := by
  unfold padTo; rw [show k - l.length = 0 by omega]; simp
theorem pad_canon (l : List Nat) (k : Nat) (hd : allDig l) (h : l.length ≤ k ∨ l.getLast? ≠ some 0) : padTo l k = padTo (digs (vald l)) k := by
  obtain ⟨z, hz⟩ := digs_of l hd
  rcases h with h | h
  · conv => lhs; rw [hz]
    have hlen := congrArg List.length hz
    rw [List.length_append, List.length_replicate] at hlen
    unfold padTo
    rw [List.append_assoc, List.length_append, List.length_replicate, List.replicate_append_replicate]
    congr 2; omega
  · have : z = 0 := by
      rcases Nat.eq_zero_or_pos z with h0 | h0
      · exact h0
      · exfalso; apply h
        obtain ⟨y, rfl⟩ : ∃ y, z = y + 1 := ⟨z - 1, by omega⟩
        rw [hz, List.replicate_succ', ← List.append_assoc, List.getLast?_append]; rfl
    subst this
    rw [List.replicate_zero, List.append_nil] at hz
    conv => lhs; rw [hz]
theorem vald_dropLast (l : List Nat) (h : l.getLast? = some 0) : vald l.dropLast = vald l ∧ (allDig l → allDig l.dropLast) := by
  have hne : l ≠ [] := by intro e; rw [e] at h; cases h
  have e := List.dropLast_concat_getLast hne
  rw [List.getLast?_eq_some_getLast hne] at h
  rw [Option.some.inj h] at e
  constructor
  · conv => rhs; rw [← e]
    generalize l.dropLast = t
    induction t with
    | nil => rfl
    | cons d t ih => rw [List.cons_append, vald_cons, vald_cons, ← ih]
  · intro hd d hd'
    exact hd d (List.dropLast_subset l hd')
/-- The text so far, from the top down to place k. -/
def sT (F : List Nat) (n k : Nat) : List UInt8 := if n = 0 ∨ n < k then digT (F.drop k) else digT (F.drop n) ++ 46 :: digT ((F.take n).drop k)
theorem digT_drop (F : List Nat) (i : Nat) (h : i < F.length) : digT (F.drop i) = digT (F.drop (i + 1)) ++ [UInt8.ofNat (48 + F[i])] := by
  rw [List.drop_eq_getElem_cons h]; unfold digT; rw [List.reverse_cons, List.map_append]; rfl
theorem sT_step (F : List Nat) (n i : Nat) (h : i < F.length) : sT F n i = sT F n (i + 1) ++ (UInt8.ofNat (48 + F[i]) :: (if i = n ∧ 0 < n then [46] else [])) := by
  unfold sT
  rcases Nat.eq_zero_or_pos n with h0 | h0
  · subst h0
    rw [if_pos (.inl rfl), if_pos (.inl rfl), if_neg (by omega), digT_drop F i h]
  · rcases Nat.lt_trichotomy i n with h1 | h1 | h1
    · rw [if_neg (by omega), if_neg (by omega), if_neg (by omega), digT_drop (F.take n) i (by rw [List.length_take]; omega), List.getElem_take, List.append_assoc]; rfl
    · subst h1
      rw [if_neg (by omega), if_pos (by omega), if_pos ⟨rfl, h0⟩, List.drop_of_length_le (l := F.take i) (by rw [List.length_take]; omega), digT_drop F i h, List.append_assoc]; rfl
    · rw [if_pos (by omega), if_pos (by omega), if_neg (by omega), digT_drop F i h]
theorem sT_len (F : List Nat) (n k : Nat) : (sT F n k).length ≤ F.length + 1 := by
  unfold sT
  split
  · rw [digT_len, List.length_drop]; omega
  · rw [List.length_append, List.length_cons, digT_len, digT_len, List.length_drop, List.length_drop, List.length_take]; omega
theorem sT_top (F : List Nat) (n : Nat) (h : n < F.length) : sT F n F.length = [] := by
  unfold sT; rw [if_pos (by omega), List.drop_length]; rfl
theorem sT_end (Q n : Nat) : sT (padTo (digs Q) (n + 1)) n 0 = txtR Q n := by
  unfold sT txtR
  rcases Nat.eq_zero_or_pos n with h0 | h0
  · subst h0; rw [if_pos (.inl rfl), if_pos rfl, List.append_nil]
  · rw [if_neg (by omega), if_neg (by omega), List.drop_zero]
theorem own_shrink {w : World} {base g n cap : Nat} {xs : List Value} (h : w.ownsRow base 3 1 (.slice (some ⟨g, 0, none⟩) (n + 1) cap) (n + 1) xs) : w.ownsRow base 3 1 (.slice (some ⟨g, 0, none⟩) n cap) n xs.dropLast := by
  have hx := h.1
  refine ⟨by rw [List.length_dropLast, hx]; omega, ?_⟩
  rcases h.2 with ⟨h', _⟩ | ⟨g', cap', cur, h', hb, hg, hnc, hcm, hcs, htake⟩
  · simp at h'
  · simp only [Value.slice.injEq, Option.some.injEq, Addr.mk.injEq, and_true, true_and] at h'
    obtain ⟨rfl, rfl⟩ := h'
    refine .inr ⟨g, cap, cur, rfl, hb, hg, by omega, hcm, hcs, ?_⟩
    rw [← htake, List.dropLast_eq_take, List.length_take, List.take_take]
    congr 1
    have : cur.toList.length = cur.size := Array.length_toList
    omega
theorem one_str (d : Nat) (h : d < 200) (w : World) : (convert 77 9 (.slice (some ⟨w.heap.size, 0, none⟩) 1 1)).run Try.prog (w.alloc (.cells #[.int .u8 (48 + (d : Int))] 5)) = .ok (.string ⟨#[UInt8.ofNat (48 + d)]⟩) (w.alloc (.cells #[.int .u8 (48 + (d : Int))] 5)) := by
  have ho := World.ownsRow_lit (base := 0) (e := 5) (size := 1) w #[.int .u8 (48 + (d : Int))] 1 (by omega) (by unfold maxLen; omega) rfl
  have e : (#[.int .u8 (48 + (d : Int))] : Array Value).toList = byteC [48 + d] := by
    show [Value.int .u8 (48 + (d : Int))] = [Value.int .u8 ((48 + d : Nat) : Int)]
    rw [show ((48 + d : Nat) : Int) = 48 + (d : Int) by omega]
  rw [e] at ho
  exact row_str 0 w.heap.size 1 1 [48 + d] _ ho (by intro x hx; simp at hx; omega)
set_option maxRecDepth 100000 in
set_option maxHeartbeats 2000000 in
theorem rfixed_calls (b n : Nat) (hb : b < 18446744073709551616) (hf : oE b < 2047) (hn : n ≤ 9) (w : World) :
    Calls Try.prog 23 #[.int .u64 b, .int .i64 n] w fun x w' => x = .returned (.tuple #[.string (fixZ b n), .int .i64 0]) ∧ Below w.heap.size w w' := by
  obtain ⟨i0, hi, hz0, hz1, hz2⟩ := info_parts infoInt
  have cf := fun w => rfinite_calls b hb w
  have co := fun w => ropen_calls b hb w
  have hfin : finB b = true := by unfold finB; simp; omega
  rw [hfin] at cf
  have hM := oMan_lt b
  have he1 : -1074 ≤ oExp b := by unfold oExp; split <;> omega
  have he2 := oExp_le b hf
  have csc := fun w => scaled_one (oNeg b) (oMan b) (oExp b) n hM he1 he2 hn w
  have hfz : fixZ b n = ⟨((if oNeg b then [45] else []) ++ txtR (fixQ (oMan b) (oExp b) n) n).toArray⟩ := rfl
  generalize hQ : fixQ (oMan b) (oExp b) n = Q at *
  generalize oMan b = M at *
  generalize oExp b = ex at *
  generalize oNeg b = ng at *
  have HFZ := Lib.hid hfz
  have HB := Lib.hid (And.intro hb (And.intro hf hM))
  clear hfz hb hf hM hQ
  go_enter Try.func23, Try.ntmps23
  go_wp2_with (first
    | (go_at_call 42; refine (cf _).mono ?_; rintro e w1 ⟨rfl, rfl⟩)
    | (go_at_call 38; refine (co _).mono ?_; rintro e w2 ⟨rfl, hb2⟩)
    | (go_at_call 48; refine (csc _).mono ?_; rintro x w3 ⟨v3, l0, rfl, hd3, hv3, hl3, hr3, hb3⟩; have H3 := Lib.hid (And.intro hd3 (And.intro hv3 (And.intro hl3 (And.intro hr3 hb3)))); clear hd3 hv3 hl3 hr3 hb3))
  obtain ⟨X, hX⟩ : ∃ X, X = w2.alloc (Obj.cells #[Value.bool ng, Value.int IntKind.u64 M, Value.int IntKind.i64 ex] 61) := ⟨_, rfl⟩
  have h3 := H3.out
  rw [← hX] at h3
  have hcellX : X.cell? ⟨w2.heap.size, 0, none⟩ = some (.bool ng) := by rw [hX]; simp
  have hszX : w2.heap.size < X.heap.size := by rw [hX]; simp
  have hbX : Below w.heap.size w X := by rw [hX]; exact belowAlloc hb2 _
  have HX := Lib.hid (And.intro hcellX (And.intro hszX hbX))
  have H33 := Lib.hid h3
  clear H3 h3 hX hcellX hszX hbX hb2
  go_loopw [8] (fun lv wr => ∃ (l : List Nat) (a : Option Addr) (cap : Nat), lv = .slice a l.length cap ∧ l.length ≤ 3000 ∧ Hid (allDig l ∧ vald l = Q) ∧ Hid (wr.ownsRow X.heap.size 3 1 (.slice a l.length cap) l.length (intC l)) ∧ Hid (Below X.heap.size X wr)) (fun lv _ => sliceLen lv)
  case atStart =>
    obtain ⟨a, cap, rfl, ho⟩ := H33.out.2.2.2.1
    exact ⟨l0, a, cap, rfl, H33.out.2.2.1, Lib.hid ⟨H33.out.1, H33.out.2.1⟩, Lib.hid ho, Lib.hid H33.out.2.2.2.2⟩
  case round =>
    obtain ⟨l, a, cap, rfl, hl, HD, HO, HBB⟩ := hrel
    clear H33
    obtain ⟨L, hL⟩ : ∃ L, L = l.length := ⟨_, rfl⟩
    rw [← hL] at hl HO
    rw [← hL]
    by_cases hc : n + 1 < L ∧ l.getLast? = some 0
    · obtain ⟨hlt, hlast⟩ := hc
      obtain ⟨m, hm⟩ : ∃ m, L = m + 1 := ⟨L - 1, by omega⟩
      rcases own_cases HO.out with ⟨_, h0, _⟩ | ⟨g, rfl, hg⟩
      · omega
      · obtain ⟨hvd, hdd⟩ := vald_dropLast l hlast
        have hcell : wr.cell? ⟨g, m, none⟩ = some (.int .i64 0) := by
          rw [HO.out.cellAt m (by omega), intC_at l m (by omega)]
          rw [List.getLast?_eq_getElem?, ← hL, hm, Nat.add_sub_cancel, List.getElem?_eq_getElem (by omega)] at hlast
          rw [Option.some.inj hlast]; rfl
        have hcap : L ≤ cap := by
          rcases HO.out.2 with ⟨h', _⟩ | ⟨g', cap', cur, h', _, _, hnc, _⟩
          · simp at h'
          · simp only [Value.slice.injEq, Option.some.injEq, Addr.mk.injEq, and_true, true_and] at h'
            omega
        have hsh := HO.out
        rw [hm] at hsh
        have hown := own_shrink hsh
        have hdl : l.dropLast.length = m := by rw [List.length_dropLast]; omega
        have HN := Lib.hid (And.intro hown (And.intro hdl (And.intro hvd hdd)))
        have hm1 : ((L : Int) - 1) = (m : Int) := by omega
        have hb1 : (m : Int) < L := by omega
        have hb2 : (m : Int) ≤ cap := by omega
        have hb3 : (n : Int) + 1 < L := by omega
        have HL := Lib.hid (And.intro hL hm)
        clear hsh hown hdl hvd hdd hlast hL hm
        go_wp2
        go_roundw
        case rel =>
          refine ⟨l.dropLast, some ⟨g, 0, none⟩, cap, by rw [HN.out.2.1], by rw [HN.out.2.1]; omega, Lib.hid ⟨HN.out.2.2.2 HD.out.1, HN.out.2.2.1.trans HD.out.2⟩, Lib.hid ?_, HBB⟩
          rw [HN.out.2.1]
          have : intC l.dropLast = (intC l).dropLast := by unfold intC; rw [List.map_dropLast]
          rw [this]; exact HN.out.1
        case measure => simp [sliceLen]; have := HL.out.2; omega
    · have hF : padTo l (n + 1) = padTo (digs Q) (n + 1) := by
        rw [← HD.out.2]
        refine pad_canon l (n + 1) HD.out.1 ?_
        rw [← hL]
        by_cases h : L ≤ n + 1
        · exact .inl h
        · exact .inr (fun h2 => hc ⟨by omega, h2⟩)
      obtain ⟨F, hFF⟩ : ∃ F, F = padTo (digs Q) (n + 1) := ⟨_, rfl⟩
      rw [← hFF] at hF
      have htx : sT F n 0 = txtR Q n := by rw [hFF]; exact sT_end Q n
      have hFd : allDig F := by rw [hFF]; exact padTo_dig _ _
      have hFn : n < F.length := by rw [hFF, padTo_len]; omega
      have HF := Lib.hid (And.intro hF (And.intro htx (And.intro hFd hFn)))
      have hkind : L ≤ n + 1 ∨ ∃ m d g, L = m + 1 ∧ n + 1 < L ∧ a = some ⟨g, 0, none⟩ ∧ wr.cell? ⟨g, m, none⟩ = some (.int .i64 (d : Nat)) ∧ ((d : Int) == 0) = false := by
        by_cases h : L ≤ n + 1
        · exact .inl h
        · right
          obtain ⟨m, hm⟩ : ∃ m, L = m + 1 := ⟨L - 1, by omega⟩
          rcases own_cases HO.out with ⟨_, h0, _⟩ | ⟨g, rfl, hg⟩
          · omega
          · refine ⟨m, l.getD m 0, g, hm, by omega, rfl, ?_, ?_⟩
            · rw [HO.out.cellAt m (by omega), intC_at l m (by omega), List.getD_eq_getElem?_getD, List.getElem?_eq_getElem (by omega)]; rfl
            · rw [beq_eq_false_iff_ne]
              intro h0
              apply hc
              refine ⟨by omega, ?_⟩
              rw [List.getLast?_eq_getElem?, ← hL, hm, Nat.add_sub_cancel, List.getElem?_eq_getElem (by omega)]
              rw [List.getD_eq_getElem?_getD, List.getElem?_eq_getElem (by omega), Option.getD_some] at h0
              congr 1; omega
      have HLL := Lib.hid hL
      clear hc hF hFF htx hFd hFn hL
      rcases hkind with hk | ⟨m, d, g, hm, hk, rfl, hcell, hd0⟩
      · have hki : (L : Int) ≤ n + 1 := by omega
        clear hk
        go_wp2
        clear hki
        go_loopw [8] (fun lv wy => ∃ (cur : List Nat) (a : Option Addr) (cap : Nat), lv = .slice a cur.length cap ∧ cur.length ≤ 3000 ∧ Hid (padTo cur (n + 1) = F) ∧ Hid (wy.ownsRow X.heap.size 3 1 (.slice a cur.length cap) cur.length (intC cur)) ∧ Hid (Below X.heap.size X wy)) (fun lv _ => n + 1 - sliceLen lv)
        case atStart => exact ⟨l, _, cap, by rw [← HLL.out], by rw [← HLL.out]; exact hl, Lib.hid HF.out.1, Lib.hid (by rw [← HLL.out]; exact HO.out), HBB⟩
        case round =>
          clear HO HBB
          obtain ⟨cur, a2, cap2, rfl, hcl, HP, HO, HBB⟩ := hrel
          by_cases hlt : cur.length < n + 1
          · have hW := HO.out.alloc (.cells #[Value.int .i64 0] 3)
            have HW := Lib.hid hW
            have hsz : X.heap.size ≤ (wr.alloc (.cells #[Value.int .i64 0] 3)).heap.size := Nat.le_trans HBB.out.size (by simp)
            have HS := Lib.hid hsz
            have hlti : (cur.length : Int) < n + 1 := by omega
            clear hsz hW
            go_wp2_with (at_builtin; refine wpList_append_own _ rfl _ _ 48 rfl X.heap.size 3 i0 (.int .i64 0) 1 8 Try.underlying48 hi hz0 hz1 hz2 rfl (by decide) _ _ _ rfl HW.out ⟨wr.heap.size, 0, none⟩ 1 1 [.int .i64 0] rfl rfl (one_news _ _ _) (one_cell _ rfl) (by unfold maxLen; omega) (by omega) HS.out ?_; intro v' w1 hown1 hgrow1 _; obtain ⟨a1, cap1, rfl, _⟩ := own_form hown1; have HO1 := Lib.hid hown1; have HG1 := Lib.hid hgrow1; clear hown1 hgrow1)
            go_roundw
            case rel =>
              refine ⟨cur ++ [0], a1, cap1, by rw [List.length_append]; rfl, by rw [List.length_append]; simp; omega, Lib.hid ?_, Lib.hid ?_, Lib.hid (grown_own3 HBB.out HO.out HG1.out)⟩
              · rw [padTo_snoc _ _ hlt]; exact HP.out
              · rw [intC_append, List.length_append]; exact HO1.out
            case measure => simp [sliceLen]; omega
          · have hcF : cur = F := by
              have := HP.out
              rw [padTo_ge _ _ (by omega)] at this
              exact this
            subst hcF
            obtain ⟨K, hK⟩ : ∃ K, K = cur.length := ⟨_, rfl⟩
            rw [← hK] at hcl HO
            rw [← hK]
            have hgx : ∃ g, a2 = some ⟨g, 0, none⟩ ∧ ∀ k (h : k < cur.length), wr.cell? ⟨g, k, none⟩ = some (.int .i64 (cur[k] : Nat)) := by
              rcases own_cases HO.out with ⟨_, h0, _⟩ | ⟨g, rfl, hg⟩
              · have := HF.out.2.2.2; omega
              · exact ⟨g, rfl, fun k h => by rw [HO.out.cellAt k (by omega), intC_at cur k h]⟩
            obtain ⟨g, rfl, hcells⟩ := hgx
            have hgl : g < wr.heap.size := (HO.out.lt g rfl).2
            have HC := Lib.hid (And.intro hcells hgl)
            have HK := Lib.hid hK
            have hneg : ¬ (K : Int) < n + 1 := by omega
            clear hcells hgl hK hlt
            obtain ⟨wo, rfl⟩ : ∃ wo : World, wo = wr := ⟨_, rfl⟩
            go_wp2
            go_loopw [9, 10] (fun sv iv wy => ∃ (k : Nat) (x : ByteArray), k ≤ K ∧ iv = .int .i64 ((k : Int) - 1) ∧ sv = .string x ∧ x.size ≤ 4000 ∧ Hid (x.data.toList = sT cur n k) ∧ Hid (Below wo.heap.size wo wy)) (fun _ iv _ => (intOf iv + 1).toNat)
            case atStart => exact ⟨K, ⟨#[]⟩, by omega, rfl, rfl, by show 0 ≤ 4000; omega, Lib.hid (by rw [HK.out, sT_top _ _ HF.out.2.2.2]), Lib.hid (Below.refl _ _)⟩
            case round =>
              obtain ⟨k, x, hk, rfl, rfl, hx, HXT, HBY⟩ := hrel
              by_cases hk0 : 0 < k
              · obtain ⟨j, rfl⟩ : ∃ j, k = j + 1 := ⟨k - 1, by omega⟩
                have hjc : j < cur.length := by rw [← HK.out]; omega
                have hcell : wr.cell? ⟨g, j, none⟩ = some (.int .i64 (cur[j] : Nat)) := (HBY.out.cell (p := ⟨g, j, none⟩) HC.out.2).trans (HC.out.1 j hjc)
                have hd10 : cur[j] < 10 := HF.out.2.2.1 _ (List.getElem_mem _)
                have hstep := sT_step cur n j hjc
                rw [← HXT.out] at hstep
                have hxl := sT_len cur n (j + 1)
                rw [← HXT.out, ← HK.out] at hxl
                have hxs : x.size ≤ 3001 := by rw [show x.size = x.data.toList.length by simp]; omega
                generalize hd : cur[j] = d at *
                have hcv := one_str d (by omega)
                have HST := Lib.hid hstep
                clear hstep hd hxl hx
                have hj1 : (((j + 1 : Nat) : Int) - 1) = (j : Int) := by omega
                rw [hj1]
                have hjk : (j : Int) < K := by omega
                clear hj1
                by_cases hjn : j = n
                · subst hjn
                  by_cases hn0 : 0 < j
                  · have hn0i : (0 : Int) < j := by omega
                    have HN0 := Lib.hid hn0
                    clear hn0
                    go_wp2
                    go_roundw
                    case rel =>
                      refine ⟨j, x ++ ⟨#[UInt8.ofNat (48 + d)]⟩ ++ ⟨#[46]⟩, by omega, by go_num, by simp, ?_, Lib.hid ?_, Lib.hid (HBY.out.alloc HBY.out.size _)⟩
                      · rw [ByteArray.size_append, ByteArray.size_append]; show x.size + 1 + 1 ≤ 4000; omega
                      · rw [ba_app, ba_app, HST.out, if_pos ⟨rfl, HN0.out⟩]; simp
                    case measure => simp [intOf]
                  · have hn0i : (j : Int) ≤ 0 := by omega
                    have HN0 := Lib.hid hn0
                    clear hn0
                    go_wp2
                    go_roundw
                    case rel =>
                      refine ⟨j, x ++ ⟨#[UInt8.ofNat (48 + d)]⟩, by omega, by go_num, by simp, ?_, Lib.hid ?_, Lib.hid (HBY.out.alloc HBY.out.size _)⟩
                      · rw [ByteArray.size_append]; show x.size + 1 ≤ 4000; omega
                      · rw [ba_app, HST.out, if_neg (fun h => HN0.out h.2)]
                    case measure => simp [intOf]
                · have hjne : ((j : Int) == (n : Int)) = false := by rw [beq_eq_false_iff_ne]; omega
                  have HJN := Lib.hid hjn
                  clear hjn
                  go_wp2
                  go_roundw
                  case rel =>
                    refine ⟨j, x ++ ⟨#[UInt8.ofNat (48 + d)]⟩, by omega, by go_num, by simp, ?_, Lib.hid ?_, Lib.hid (HBY.out.alloc HBY.out.size _)⟩
                    · rw [ByteArray.size_append]; show x.size + 1 ≤ 4000; omega
                    · rw [ba_app, HST.out, if_neg (fun h => HJN.out h.1)]
                  case measure => simp [intOf]
              · obtain rfl : k = 0 := by omega
                have hm1 : ((0 : Nat) : Int) - 1 = -1 := by omega
                rw [hm1]
                have hcn : wr.cell? ⟨w2.heap.size, 0, none⟩ = some (.bool ng) := by
                  have h1 := HBB.out.cell (p := ⟨w2.heap.size, 0, none⟩) HX.out.2.1
                  have h2 := HBY.out.cell (p := ⟨w2.heap.size, 0, none⟩) (Nat.lt_of_lt_of_le HX.out.2.1 HBB.out.size)
                  exact h2.trans (h1.trans HX.out.1)
                have hfin : Below w.heap.size w wr := belowThen HX.out.2.2 (belowThen HBB.out HBY.out)
                have hxt := HXT.out
                rw [HF.out.2.1] at hxt
                have HFIN := Lib.hid (And.intro hfin hxt)
                clear hfin hxt hm1
                cases ng
                all_goals
                  go_wp2
                  go_ret2
                  refine ⟨?_, HFIN.out.1⟩
                · have : fixZ b n = x := ba_ext _ _ (by rw [HFZ.out, HFIN.out.2]; rfl)
                  rw [this]; rfl
                · have : fixZ b n = (⟨#[45]⟩ : ByteArray) ++ x := ba_ext _ _ (by rw [HFZ.out, ba_app, HFIN.out.2]; rfl)
                  rw [this]; rfl
      · have hm1 : ((L : Int) - 1) = (m : Int) := by omega
        have hb1 : (m : Int) < L := by omega
        have hb3 : (n : Int) + 1 < L := by omega
        have HM := Lib.hid hm
        clear hm hk
        go_wp2
        clear hm1 hb1 hb3 hcell hd0
        go_loopw [8] (fun lv wy => ∃ (cur : List Nat) (a : Option Addr) (cap : Nat), lv = .slice a cur.length cap ∧ cur.length ≤ 3000 ∧ Hid (padTo cur (n + 1) = F) ∧ Hid (wy.ownsRow X.heap.size 3 1 (.slice a cur.length cap) cur.length (intC cur)) ∧ Hid (Below X.heap.size X wy)) (fun lv _ => n + 1 - sliceLen lv)
        case atStart => exact ⟨l, _, cap, by rw [← HLL.out], by rw [← HLL.out]; exact hl, Lib.hid HF.out.1, Lib.hid (by rw [← HLL.out]; exact HO.out), HBB⟩
        case round =>
          clear HO HBB
          obtain ⟨cur, a2, cap2, rfl, hcl, HP, HO, HBB⟩ := hrel
          by_cases hlt : cur.length < n + 1
          · have hW := HO.out.alloc (.cells #[Value.int .i64 0] 3)
            have HW := Lib.hid hW
            have hsz : X.heap.size ≤ (wr.alloc (.cells #[Value.int .i64 0] 3)).heap.size := Nat.le_trans HBB.out.size (by simp)
            have HS := Lib.hid hsz
            have hlti : (cur.length : Int) < n + 1 := by omega
            clear hsz hW
            go_wp2_with (at_builtin; refine wpList_append_own _ rfl _ _ 48 rfl X.heap.size 3 i0 (.int .i64 0) 1 8 Try.underlying48 hi hz0 hz1 hz2 rfl (by decide) _ _ _ rfl HW.out ⟨wr.heap.size, 0, none⟩ 1 1 [.int .i64 0] rfl rfl (one_news _ _ _) (one_cell _ rfl) (by unfold maxLen; omega) (by omega) HS.out ?_; intro v' w1 hown1 hgrow1 _; obtain ⟨a1, cap1, rfl, _⟩ := own_form hown1; have HO1 := Lib.hid hown1; have HG1 := Lib.hid hgrow1; clear hown1 hgrow1)
            go_roundw
            case rel =>
              refine ⟨cur ++ [0], a1, cap1, by rw [List.length_append]; rfl, by rw [List.length_append]; simp; omega, Lib.hid ?_, Lib.hid ?_, Lib.hid (grown_own3 HBB.out HO.out HG1.out)⟩
              · rw [padTo_snoc _ _ hlt]; exact HP.out
              · rw [intC_append, List.length_append]; exact HO1.out
            case measure => simp [sliceLen]; omega
          · have hcF : cur = F := by
              have := HP.out
              rw [padTo_ge _ _ (by omega)] at this
              exact this
            subst hcF
            obtain ⟨K, hK⟩ : ∃ K, K = cur.length := ⟨_, rfl⟩
            rw [← hK] at hcl HO
            rw [← hK]
            have hgx : ∃ g, a2 = some ⟨g, 0, none⟩ ∧ ∀ k (h : k < cur.length), wr.cell? ⟨g, k, none⟩ = some (.int .i64 (cur[k] : Nat)) := by
              rcases own_cases HO.out with ⟨_, h0, _⟩ | ⟨g, rfl, hg⟩
              · have := HF.out.2.2.2; omega
              · exact ⟨g, rfl, fun k h => by rw [HO.out.cellAt k (by omega), intC_at cur k h]⟩
            obtain ⟨g, rfl, hcells⟩ := hgx
            have hgl : g < wr.heap.size := (HO.out.lt g rfl).2
            have HC := Lib.hid (And.intro hcells hgl)
            have HK := Lib.hid hK
            have hneg : ¬ (K : Int) < n + 1 := by omega
            clear hcells hgl hK hlt
            obtain ⟨wo, rfl⟩ : ∃ wo : World, wo = wr := ⟨_, rfl⟩
            go_wp2
            go_loopw [9, 10] (fun sv iv wy => ∃ (k : Nat) (x : ByteArray), k ≤ K ∧ iv = .int .i64 ((k : Int) - 1) ∧ sv = .string x ∧ x.size ≤ 4000 ∧ Hid (x.data.toList = sT cur n k) ∧ Hid (Below wo.heap.size wo wy)) (fun _ iv _ => (intOf iv + 1).toNat)
            case atStart => exact ⟨K, ⟨#[]⟩, by omega, rfl, rfl, by show 0 ≤ 4000; omega, Lib.hid (by rw [HK.out, sT_top _ _ HF.out.2.2.2]), Lib.hid (Below.refl _ _)⟩
            case round =>
              obtain ⟨k, x, hk, rfl, rfl, hx, HXT, HBY⟩ := hrel
              by_cases hk0 : 0 < k
              · obtain ⟨j, rfl⟩ : ∃ j, k = j + 1 := ⟨k - 1, by omega⟩
                have hjc : j < cur.length := by rw [← HK.out]; omega
                have hcell : wr.cell? ⟨g, j, none⟩ = some (.int .i64 (cur[j] : Nat)) := (HBY.out.cell (p := ⟨g, j, none⟩) HC.out.2).trans (HC.out.1 j hjc)
                have hd10 : cur[j] < 10 := HF.out.2.2.1 _ (List.getElem_mem _)
                have hstep := sT_step cur n j hjc
                rw [← HXT.out] at hstep
                have hxl := sT_len cur n (j + 1)
                rw [← HXT.out, ← HK.out] at hxl
                have hxs : x.size ≤ 3001 := by rw [show x.size = x.data.toList.length by simp]; omega
                generalize hd : cur[j] = d at *
                have hcv := one_str d (by omega)
                have HST := Lib.hid hstep
                clear hstep hd hxl hx
                have hj1 : (((j + 1 : Nat) : Int) - 1) = (j : Int) := by omega
                rw [hj1]
                have hjk : (j : Int) < K := by omega
                clear hj1
                by_cases hjn : j = n
                · subst hjn
                  by_cases hn0 : 0 < j
                  · have hn0i : (0 : Int) < j := by omega
                    have HN0 := Lib.hid hn0
                    clear hn0
                    go_wp2
                    go_roundw
                    case rel =>
                      refine ⟨j, x ++ ⟨#[UInt8.ofNat (48 + d)]⟩ ++ ⟨#[46]⟩, by omega, by go_num, by simp, ?_, Lib.hid ?_, Lib.hid (HBY.out.alloc HBY.out.size _)⟩
                      · rw [ByteArray.size_append, ByteArray.size_append]; show x.size + 1 + 1 ≤ 4000; omega
                      · rw [ba_app, ba_app, HST.out, if_pos ⟨rfl, HN0.out⟩]; simp
                    case measure => simp [intOf]
                  · have hn0i : (j : Int) ≤ 0 := by omega
                    have HN0 := Lib.hid hn0
                    clear hn0
                    go_wp2
                    go_roundw
                    case rel =>
                      refine ⟨j, x ++ ⟨#[UInt8.ofNat (48 + d)]⟩, by omega, by go_num, by simp, ?_, Lib.hid ?_, Lib.hid (HBY.out.alloc HBY.out.size _)⟩
                      · rw [ByteArray.size_append]; show x.size + 1 ≤ 4000; omega
                      · rw [ba_app, HST.out, if_neg (fun h => HN0.out h.2)]
                    case measure => simp [intOf]
                · have hjne : ((j : Int) == (n : Int)) = false := by rw [beq_eq_false_iff_ne]; omega
                  have HJN := Lib.hid hjn
                  clear hjn
                  go_wp2
                  go_roundw
                  case rel =>
                    refine ⟨j, x ++ ⟨#[UInt8.ofNat (48 + d)]⟩, by omega, by go_num, by simp, ?_, Lib.hid ?_, Lib.hid (HBY.out.alloc HBY.out.size _)⟩
                    · rw [ByteArray.size_append]; show x.size + 1 ≤ 4000; omega
                    · rw [ba_app, HST.out, if_neg (fun h => HJN.out h.1)]
                  case measure => simp [intOf]
              · obtain rfl : k = 0 := by omega
                have hm1 : ((0 : Nat) : Int) - 1 = -1 := by omega
                rw [hm1]
                have hcn : wr.cell? ⟨w2.heap.size, 0, none⟩ = some (.bool ng) := by
                  have h1 := HBB.out.cell (p := ⟨w2.heap.size, 0, none⟩) HX.out.2.1
                  have h2 := HBY.out.cell (p := ⟨w2.heap.size, 0, none⟩) (Nat.lt_of_lt_of_le HX.out.2.1 HBB.out.size)
                  exact h2.trans (h1.trans HX.out.1)
                have hfin : Below w.heap.size w wr := belowThen HX.out.2.2 (belowThen HBB.out HBY.out)
                have hxt := HXT.out
                rw [HF.out.2.1] at hxt
                have HFIN := Lib.hid (And.intro hfin hxt)
                clear hfin hxt hm1
                cases ng
                all_goals
                  go_wp2
                  go_ret2
                  refine ⟨?_, HFIN.out.1⟩
                · have : fixZ b n = x := ba_ext _ _ (by rw [HFZ.out, HFIN.out.2]; rfl)
                  rw [this]; rfl
                · have : fixZ b n = (⟨#[45]⟩ : ByteArray) ++ x := ba_ext _ _ (by rw [HFZ.out, ba_app, HFIN.out.2]; rfl)
                  rw [this]; rfl
end Go.Proofs.Ytpgflnjpohmldaa
