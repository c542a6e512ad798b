import Derived.Test.YtegplajddhiejaaGreatBk17
import Derived.Test.YtegplajddhiejaaGreatRg2
import Derived.Test.YtegplajddhiejaaGreatRg1
set_option linter.unusedVariables false
set_option linter.unusedSimpArgs false
namespace Go.Proofs.YtegplajddhiejaaGreat
open Go.RowKit Go.WideMaps Go.Maps Go.MapKept
/-! The spaces in which records are. -/
def spStep (out : List Int) (k : ByteArray) : List Int := if okN k = true ∧ out.getLast? ≠ some (spN k) then out ++ [spN k] else out
def spacesZ (ks : List ByteArray) : List Int := ks.foldl spStep []
theorem spaces_take {ks : List ByteArray} {j : Nat} (h : j < ks.length) : spacesZ (ks.take (j + 1)) = spStep (spacesZ (ks.take j)) ks[j] := by
  unfold spacesZ
  rw [List.take_succ_eq_append_getElem h, List.foldl_append]
  rfl
theorem step_len (out : List Int) (k : ByteArray) : (spStep out k).length ≤ out.length + 1 := by
  unfold spStep
  split
  · simp
  · omega
theorem fold_step_len : ∀ (ks : List ByteArray) (out : List Int), (ks.foldl spStep out).length ≤ out.length + ks.length
  | [], out => by simp
  | k :: ks, out => by
    have h1 := fold_step_len ks (spStep out k)
    have h2 := step_len out k
    simp only [List.foldl_cons, List.length_cons]; omega
theorem spaces_len (ks : List ByteArray) : (spacesZ ks).length ≤ ks.length := by
  have := fold_step_len ks []
  simpa [spacesZ] using this
def letB : ByteArray := ⟨#[66]⟩
/-- A step of the list, as the code tells it. -/
theorem step_cases (out : List Int) (k : ByteArray) : (okN k = false ∧ spStep out k = out) ∨ (okN k = true ∧ out = [] ∧ spStep out k = [spN k]) ∨
    (okN k = true ∧ ∃ (n : Nat) (h : n < out.length), out.length = n + 1 ∧ ((out[n] = spN k ∧ spStep out k = out) ∨ (out[n] ≠ spN k ∧ spStep out k = out ++ [spN k]))) := by
  cases hk : okN k
  · left
    refine ⟨rfl, ?_⟩
    unfold spStep
    rw [if_neg (by rw [hk]; simp)]
  · right
    by_cases h0 : out = []
    · left
      refine ⟨rfl, h0, ?_⟩
      subst h0
      unfold spStep
      rw [if_pos ⟨hk, by simp⟩]; rfl
    · right
      have hpos := List.length_pos_iff.mpr h0
      refine ⟨rfl, out.length - 1, by omega, by omega, ?_⟩
      have hl : out.getLast? = some (out[out.length - 1]'(by omega)) := by rw [List.getLast?_eq_getElem?, List.getElem?_eq_getElem (by omega)]
      by_cases he : out[out.length - 1]'(by omega) = spN k
      · left
        refine ⟨he, ?_⟩
        unfold spStep
        rw [if_neg (by rw [hl, he]; simp)]
      · right
        refine ⟨he, ?_⟩
        unfold spStep
        rw [if_pos ⟨hk, by rw [hl]; simpa using he⟩]
end Go.Proofs.YtegplajddhiejaaGreat

set_option linter.unusedVariables false
set_option linter.unusedSimpArgs false
namespace Go.Proofs.YtegplajddhiejaaGreat
open Go.RowKit Go.WideMaps Go.Maps Go.MapKept
/-! The reference's Numbers, Spaces and Wipe. -/
def inG (s k : Int) (b : ByteArray) : Bool := okN b && (decide (spN b = s) && decide (kdN b = k))
def numsG (ks : List ByteArray) (s k : Int) : List Int := (ks.filter (inG s k)).map nmN
theorem numsG_take {ks : List ByteArray} {s k : Int} {j : Nat} (h : j < ks.length) : numsG (ks.take (j + 1)) s k = numsG (ks.take j) s k ++ (if inG s k ks[j] then [nmN ks[j]] else []) := by
  unfold numsG
  rw [List.take_succ_eq_append_getElem h, List.filter_append, List.map_append]
  simp only [List.filter_cons, List.filter_nil]
  cases inG s k ks[j] <;> rfl
theorem numsG_len (ks : List ByteArray) (s k : Int) : (numsG ks s k).length ≤ ks.length := by
  unfold numsG
  rw [List.length_map]
  exact List.length_filter_le _ _
theorem parts_no {b : ByteArray} (h : okN b = false) : partsV b = .tuple #[.int .i64 0, .int .i64 0, .int .i64 0, .bool false] := by unfold partsV; rw [if_neg (by rw [h]; simp)]
theorem parts_yes {b : ByteArray} (h : okN b = true) : partsV b = .tuple #[.int .i64 (spN b), .int .i64 (kdN b), .int .i64 (nmN b), .bool true] := by unfold partsV; rw [if_pos h]
set_option maxRecDepth 100000 in
set_option maxHeartbeats 4000000 in
theorem rbnums_calls (K : Nat) (hK : K ≤ 2097151) (s k : Int) (w : World) (g : Nat) (vd vw vv : Value) (x : Fld) (h : RSF w g vd vw vv x) (hf : Fine K x) :
    Calls Tryz.prog 47 #[.pointer (some ⟨g, 0, none⟩), .int .i64 s, .int .i64 k] w fun e w' => ∃ v, e = .returned v ∧ Row w' w.heap.size 1 v (numsG (keysZ x letB) s k).length (iV (numsG (keysZ x letB) s k)) ∧ Below w.heap.size w w' := by
  have CK : Hid (∀ w, RSF w g vd vw vv x → Calls Tryz.prog 41 #[.pointer (some ⟨g, 0, none⟩), .string ⟨#[66]⟩] w fun e w' => ∃ ks, e = .returned ks ∧ Row w' w.heap.size 1 ks (keysZ x letB).length (strV (keysZ x letB)) ∧ Below w.heap.size w w') := Lib.hid (fun w h => rkeys_calls K (by omega) letB (by decide) w g vd vw vv x h hf)
  have HL := Lib.hid h
  have hkl := keys_len2 hf letB
  have HFT := Lib.hid (keys_fit hf letB)
  obtain ⟨ks, hks⟩ : ∃ ks, keysZ x letB = ks := ⟨_, rfl⟩
  rw [hks] at hkl HFT ⊢
  simp only [hks] at CK
  obtain ⟨n, hn⟩ : ∃ n, ks.length = n := ⟨_, rfl⟩
  have HN := Lib.hid hn
  rw [hn] at hkl
  simp only [hn] at CK
  clear h hf hks hn
  go_enter Tryz.func47, Tryz.ntmps47
  go_wp2_with (go_at_call 41; (with_reducible refine (CK.out _ HL.out).mono ?_); rintro e w3 ⟨kv, rfl, hr3, hb3⟩; obtain ⟨ka, kc, hkv⟩ := hr3.slice; subst hkv; have HB3 := Lib.hid hb3; have HR3 := Lib.hid hr3; clear hr3 hb3)
  go_loopw [8, 9] (fun ov iv wr => ∃ (j : Nat) (ov2 : Value), j ≤ n ∧ ov2 = ov ∧ iv = .int .i64 j ∧ Hid (Row wr w3.heap.size 1 ov2 (numsG (ks.take j) s k).length (iV (numsG (ks.take j) s k))) ∧ Hid (Below w3.heap.size w3 wr)) (fun _ iv _ => n - (intOf iv).toNat)
  case atStart => exact ⟨0, _, by omega, rfl, rfl, Lib.hid (Row.nil _ _ 1), Lib.hid (Below.refl _ _)⟩
  case round =>
    obtain ⟨j, ov2, hj, hov, rfl, HO, HB⟩ := hrel
    subst hov
    have HBW := Lib.hid (HB3.out.trans (HB.out.mono HB3.out.size))
    by_cases hlt : j < n
    · have hjl : j < ks.length := by rw [HN.out]; exact hlt
      obtain ⟨cg, cc, hv, hcg, hcl⟩ := row_str (l := ks) (by rw [HN.out]; exact HR3.out) j hjl
      injection hv with hv e2 e3
      subst hv
      clear e2 e3
      have hc1 : wr.cell? ⟨cg, j, none⟩ = some (.string ks[j]) := (HB.out.cell (p := ⟨cg, j, none⟩) hcg).trans hcl
      have hfit := HFT.out _ (List.getElem_mem hjl)
      have hst := numsG_take (s := s) (k := k) hjl
      have hcnt : (numsG (ks.take j) s k).length ≤ 4194304 := by
        have h1 := numsG_len (ks.take j) s k
        have h2 := List.length_take_le j ks
        omega
      have CN := Lib.hid (fun w => parts_calls ks[j] (by omega) w)
      obtain ⟨key, hkey⟩ : ∃ key, ks[j] = key := ⟨_, rfl⟩
      rw [hkey] at hc1 CN hst
      obtain ⟨L, hL⟩ : ∃ L, numsG (ks.take j) s k = L := ⟨_, rfl⟩
      rw [hL] at hst hcnt HO
      have hji : (j : Int) < n := by omega
      have HCN := Lib.hid hcnt
      clear hcl hkey hfit hL hcnt
      cases hok : okN key
      · simp only [parts_no hok] at CN
        rw [show inG s k key = false by unfold inG; rw [hok]; rfl] at hst
        simp only [Bool.false_eq_true, if_false, List.append_nil] at hst
        have HST := Lib.hid hst
        clear hok hst
        go_wp2_with (go_at_call 64; (with_reducible refine (CN.out _).mono ?_); rintro e w4 ⟨rfl, q, rfl⟩)
        go_roundw
        case rel => exact ⟨j + 1, ov2, by omega, rfl, by go_num, Lib.hid (by rw [HST.out]; exact HO.out), Lib.hid (belowDrewN HB.out _)⟩
        case measure => simp [intOf]; omega
      · simp only [parts_yes hok] at CN
        have hin : inG s k key = (decide (spN key = s) && decide (kdN key = k)) := by unfold inG; rw [hok]; rfl
        obtain ⟨sp, hsp⟩ : ∃ z, spN key = z := ⟨_, rfl⟩
        obtain ⟨kd, hkd⟩ : ∃ z, kdN key = z := ⟨_, rfl⟩
        obtain ⟨nm, hnm⟩ : ∃ z, nmN key = z := ⟨_, rfl⟩
        rw [hsp, hkd] at hin
        simp only [hsp, hkd, hnm] at CN hst
        clear hok hsp hkd hnm
        by_cases e1 : sp = s
        · by_cases e2 : kd = k
          · rw [hin, decide_eq_true e1, decide_eq_true e2] at hst
            simp only [Bool.and_self, if_true] at hst
            have HST := Lib.hid hst
            subst e1 e2
            clear hst hin
            go_wp2_with (first
              | (go_at_call 64; (with_reducible refine (CN.out _).mono ?_); rintro e w4 ⟨rfl, q, rfl⟩)
              | (refine wpList_intA (wr.drewN q) w3.heap.size nm rfl (.tmp 43) (.tmp 45) rfl ov2 L rfl wr.heap.size rfl rfl (HO.out.drewN q) HCN.out HB.out.size ?_; intro v5 w5 hr5 hb5; have HR5 := Lib.hid hr5; have HB5 := Lib.hid ((belowDrewN HB.out q).trans hb5); clear hr5 hb5))
            go_roundw
            case rel => exact ⟨j + 1, v5, by omega, rfl, by go_num, Lib.hid (by rw [HST.out]; exact HR5.out), HB5⟩
            case measure => simp [intOf]; omega
          · rw [hin, decide_eq_true e1, decide_eq_false e2] at hst
            simp only [Bool.and_false, Bool.false_eq_true, if_false, List.append_nil] at hst
            have HST := Lib.hid hst
            subst e1
            have hne : (kd == k) = false := by rw [beq_eq_false_iff_ne]; exact e2
            clear hst hin e2
            go_wp2_with (go_at_call 64; (with_reducible refine (CN.out _).mono ?_); rintro e w4 ⟨rfl, q, rfl⟩)
            go_roundw
            case rel => exact ⟨j + 1, ov2, by omega, rfl, by go_num, Lib.hid (by rw [HST.out]; exact HO.out), Lib.hid (belowDrewN HB.out _)⟩
            case measure => simp [intOf]; omega
        · rw [hin, decide_eq_false e1] at hst
          simp only [Bool.false_and, Bool.false_eq_true, if_false, List.append_nil] at hst
          have HST := Lib.hid hst
          have hne : (sp == s) = false := by rw [beq_eq_false_iff_ne]; exact e1
          clear hst hin e1
          go_wp2_with (go_at_call 64; (with_reducible refine (CN.out _).mono ?_); rintro e w4 ⟨rfl, q, rfl⟩)
          go_roundw
          case rel => exact ⟨j + 1, ov2, by omega, rfl, by go_num, Lib.hid (by rw [HST.out]; exact HO.out), Lib.hid (belowDrewN HB.out _)⟩
          case measure => simp [intOf]; omega
    · obtain rfl : j = n := by omega
      have hfull : ks.take j = ks := by rw [← HN.out]; exact List.take_length
      rw [hfull] at HO
      clear hfull
      go_wp2
      go_ret
      exact ⟨_, rfl, HO.out.mono HB3.out.size, HBW.out⟩
end Go.Proofs.YtegplajddhiejaaGreat
