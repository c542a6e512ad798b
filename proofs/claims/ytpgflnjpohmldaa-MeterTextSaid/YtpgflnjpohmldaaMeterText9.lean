import Derived.Test.YtpgflnjpohmldaaMeterText8
import Derived.Laws.AppendOwnNone
set_option linter.unusedVariables false
namespace Go.Proofs.Ytpgflnjpohmldaa
open Go.RowKit
theorem rep_val (j : Nat) (l : List Nat) : vald (List.replicate j 0 ++ l) = vald l * 10 ^ j := by
  induction j with
  | zero => simp
  | succ j ih => rw [List.replicate_succ, List.cons_append, vald_cons, ih, Nat.pow_succ, Nat.zero_add, Nat.mul_comm 10, Nat.mul_assoc]
theorem rep_dig (j : Nat) (l : List Nat) (h : allDig l) : allDig (List.replicate j 0 ++ l) := by
  intro d hd
  rcases List.mem_append.mp hd with h1 | h1
  · rw [List.mem_replicate] at h1; omega
  · exact h d h1
theorem bcell1 {W w1 : World} (hb : Below W.heap.size W w1) : (∀ b o, b < W.heap.size → w1.cell? ⟨b, o, none⟩ = W.cell? ⟨b, o, none⟩) ∧ (∀ b o, b < W.heap.size → w1.frozen? ⟨b, o, none⟩ = W.frozen? ⟨b, o, none⟩) :=
  ⟨fun b o h => hb.cell (p := ⟨b, o, none⟩) h, fun b o h => hb.frozen (p := ⟨b, o, none⟩) h⟩
def Scaled (Q : Nat) (w : World) (x : Ending) (w' : World) : Prop := ∃ v l, x = .returned v ∧ allDig l ∧ vald l = Q ∧ l.length ≤ 3000 ∧ RowI w' w.heap.size v l ∧ Below w.heap.size w w'
theorem vald_odd (l : List Nat) (h : l ≠ []) : vald l % 2 = l.getD 0 0 % 2 := by
  cases l with
  | nil => exact absurd rfl h
  | cons d t => rw [vald_cons]; simp; omega
theorem nxtR_len (l : List Nat) : ∀ c, (nxtR l c).length ≤ l.length + 1 := by
  induction l with
  | nil => intro c; rw [nxtR]; split <;> simp
  | cons d t ih => intro c; rw [nxtR, List.length_cons, List.length_cons]; have := ih ((d + c) / 10); omega
set_option maxRecDepth 100000 in
set_option maxHeartbeats 2000000 in
theorem scaled_one (neg : Bool) (M : Nat) (e : Int) (n : Nat) (hM : M < 9007199254740992) (he1 : -1074 ≤ e) (he2 : e ≤ 971) (hn : n ≤ 9) (w : World) :
    Calls Try.prog 48 #[.agg #[.bool neg, .int .u64 M, .int .i64 e], .int .i64 n] w (Scaled (fixQ M e n) w) := by
  obtain ⟨i0, hi, hz0, hz1, hz2⟩ := info_parts infoInt
  have cdig := fun w => rdigits_calls M hM w
  have hdl := digs_pow_len 0 M hM
  rw [Nat.pow_zero, Nat.mul_one] at hdl
  have HM := Lib.hid hM
  clear hM
  go_enter Try.func48, Try.ntmps48
  go_wp2_with (go_at_call 64; refine (cdig _).mono ?_; rintro x w1 ⟨v1, rfl, hr1, hb1⟩; obtain ⟨hc1, hf1⟩ := bcell1 hb1; have H1 := Lib.hid (And.intro hr1 hb1); clear hr1 hb1)
  obtain ⟨w0, hw0⟩ : ∃ w0, w0 = w.alloc (Obj.cells #[Value.bool neg, Value.int IntKind.u64 M, Value.int IntKind.i64 e] 61) := ⟨_, rfl⟩
  have hcell0 : w0.cell? ⟨w.heap.size, 2, none⟩ = some (.int .i64 e) := by rw [hw0]; simp
  have hsz0 : w0.heap.size = w.heap.size + 1 := by rw [hw0]; simp
  have hbel0 : Below w.heap.size w w0 := by rw [hw0]; exact (Below.refl _ _).alloc (Nat.le_refl _) _
  have h1 := H1.out
  rw [← hw0] at h1
  have H0 := Lib.hid (And.intro hcell0 (And.intro hsz0 hbel0))
  have H11 := Lib.hid h1
  clear hc1 hf1 H1 hw0 hcell0 hsz0 hbel0 h1
  go_loopw [5, 6, 7] (fun lv iv _ wr => ∃ (j : Nat) (l : List Nat) (a : Option Addr) (cap : Nat), j ≤ n ∧ iv = .int .i64 j ∧ lv = .slice a l.length cap ∧ l.length ≤ 16 + j ∧ Hid (l = List.replicate j 0 ++ digs M) ∧ Hid (wr.ownsRow w0.heap.size 3 1 (.slice a l.length cap) l.length (intC l)) ∧ Hid (Below w0.heap.size w0 wr)) (fun _ i _ _ => n - (intOf i).toNat)
  case atStart =>
    obtain ⟨a, cap, rfl, ho⟩ := H11.out.1
    exact ⟨0, digs M, a, cap, by omega, rfl, rfl, by omega, Lib.hid rfl, Lib.hid ho, Lib.hid H11.out.2⟩
  case round =>
    obtain ⟨j, l, a, cap, hj, rfl, rfl, hl, HL, HO, HB⟩ := hrel
    clear H11
    by_cases hlt : j < n
    · have hsz : w0.heap.size ≤ wr.heap.size := HB.out.size
      have hsh := World.ownsRow_lit (base := w0.heap.size) (e := 3) (size := 1) wr #[.int .i64 0] 1 hsz (by unfold maxLen; omega) rfl
      have HSH := Lib.hid hsh
      have HSZ := Lib.hid hsz
      clear hsh hsz
      have hrep : List.replicate (j + 1) 0 ++ digs M = 0 :: l := by rw [HL.out]; rfl
      have HR := Lib.hid hrep
      clear hrep
      rcases own_cases HO.out with ⟨rfl, h0, rfl⟩ | ⟨g, rfl, hg⟩
      · have hl0 : l = [] := List.eq_nil_of_length_eq_zero h0
        subst hl0
        go_wp2_with (at_builtin; refine wpList_append_own_none rfl _ _ 48 rfl w0.heap.size 3 i0 1 Try.underlying48 hi _ 1 _ rfl HSH.out rfl ?_)
        go_roundw
        case rel =>
          exact ⟨j + 1, [0], some ⟨wr.heap.size, 0, none⟩, 1, by omega, by go_num, rfl, by simp; omega, Lib.hid HR.out.symm, Lib.hid HSH.out, Lib.hid (HB.out.alloc HSZ.out _)⟩
        case measure => simp [intOf]; omega
      · have hcs : ∀ k u, (intC l)[k]? = some u → (wr.alloc (.cells #[.int .i64 0] 3)).cell? ((⟨g, 0, none⟩ : Addr).add k) = some u := fun k u hu => (HO.out.alloc _).cells rfl k u hu
        have hone : ∀ u ∈ intC l, u.oneCell' = true := by
          intro u hu
          unfold intC at hu
          rw [List.mem_map] at hu
          obtain ⟨x, _, rfl⟩ := hu
          rfl
        have hS2 : w0.heap.size ≤ (wr.alloc (.cells #[Value.int .i64 0] 3)).heap.size := Nat.le_trans HB.out.size (by simp)
        have HA := Lib.hid (And.intro hcs (And.intro hone hS2))
        clear hcs hone hS2
        go_wp2_with (at_builtin; refine wpList_append_own _ rfl _ _ 48 rfl w0.heap.size 3 i0 (.int .i64 0) 1 8 Try.underlying48 hi hz0 hz1 hz2 rfl (by decide) _ 1 _ rfl HSH.out ⟨g, 0, none⟩ l.length cap (intC l) rfl (by rw [intC_len, Nat.mul_one]) HA.out.1 HA.out.2.1 (by unfold maxLen; omega) (by omega) HA.out.2.2 ?_; intro v' w1 hown1 hgrow1 _; obtain ⟨a1, cap1, rfl, _⟩ := own_form hown1; have HO1 := Lib.hid hown1; have HG1 := Lib.hid hgrow1; clear hown1 hgrow1)
        go_roundw
        case rel =>
          refine ⟨j + 1, 0 :: l, a1, cap1, by omega, by go_num, by rw [List.length_cons, Nat.add_comm], by rw [List.length_cons]; omega, Lib.hid HR.out.symm, Lib.hid ?_, Lib.hid ?_⟩
          · have := HO1.out
            rw [Nat.add_comm] at this
            exact this
          · exact (HB.out.alloc HSZ.out _).grown HG1.out HA.out.2.2 (fun k hk => by
              have : wr.heap.size = k := Option.some.inj hk
              subst this; exact HSZ.out)
        case measure => simp [intOf]; omega
    · obtain rfl : j = n := by omega
      have hval : allDig l ∧ vald l = M * 10 ^ j := by
        rw [HL.out]
        exact ⟨rep_dig _ _ (digs_dig M), by rw [rep_val, vald_digs]⟩
      have hrow : RowI wr w0.heap.size (.slice a l.length cap) l := ⟨a, cap, rfl, HO.out⟩
      have HV := Lib.hid (And.intro hval (And.intro hrow HB.out))
      clear hval hrow HO HL
      have hce : wr.cell? ⟨w.heap.size, 2, none⟩ = some (.int .i64 e) := (HB.out.cell (p := ⟨w.heap.size, 2, none⟩) (by rw [H0.out.2.1]; exact Nat.lt_succ_self _)).trans H0.out.1
      have hl26 : l.length ≤ 25 := by omega
      generalize hv0 : Value.slice a l.length cap = v0 at *
      clear hv0 hl
      go_wp2
      go_loopw [5, 8] (fun lv ev wx => ∃ (i : Nat) (l : List Nat), (i : Int) ≤ 971 ∧ ((i : Int) ≤ e ∨ i = 0) ∧ ev = .int .i64 (e - i) ∧ l.length ≤ 25 + i ∧ Hid (allDig l ∧ vald l = M * 10 ^ j * 2 ^ i) ∧ Hid (RowI wx w0.heap.size lv l) ∧ Hid (Below w0.heap.size w0 wx)) (fun _ ev _ => (intOf ev).toNat)
      case atStart => exact ⟨0, l, by omega, .inr rfl, by go_num, by omega, Lib.hid ⟨HV.out.1.1, by rw [HV.out.1.2, Nat.pow_zero, Nat.mul_one]⟩, Lib.hid HV.out.2.1, Lib.hid HV.out.2.2⟩
      case round =>
        obtain ⟨i, l2, hi971, hi0, rfl, hl2, HD, HR2, HB2⟩ := hrel
        clear HV hce
        by_cases hpos : 0 < e - i
        · have hcd := fun wx h => rdoubled_calls l2 HD.out.1 (by omega) u5 wx h
          go_wp2_with (go_at_call 65; refine (hcd _ HR2.out.reads).mono ?_; rintro x w2 ⟨v2, rfl, hr2, hb2⟩; have H2 := Lib.hid (And.intro hr2 hb2); clear hr2 hb2)
          go_roundw
          case rel =>
            obtain ⟨h1, h2⟩ := dblR_val l2 0 (by omega) HD.out.1
            have h3 := dblR_len l2 0
            refine ⟨i + 1, dblR l2 0, by omega, .inl (by omega), by go_num, by omega, Lib.hid ⟨h2, ?_⟩, Lib.hid (H2.out.1.mono HB2.out.size), Lib.hid (HB2.out.trans (H2.out.2.mono HB2.out.size))⟩
            rw [h1, HD.out.2, Nat.pow_succ, Nat.add_zero, Nat.mul_comm 2, Nat.mul_assoc]
          case measure => simp [intOf]; omega
        · have hce : wr.cell? ⟨w.heap.size, 2, none⟩ = some (.int .i64 e) := (HB2.out.cell (p := ⟨w.heap.size, 2, none⟩) (by rw [H0.out.2.1]; exact Nat.lt_succ_self _)).trans H0.out.1
          have hNE : ∃ N, N = M * 10 ^ j * 2 ^ i := ⟨_, rfl⟩
          obtain ⟨N, hN⟩ := hNE
          have hQ : fixQ M e j = if 0 ≤ e then N else rhe N (-e).toNat := by
            unfold fixQ
            by_cases h0 : 0 ≤ e
            · rw [if_pos h0, if_pos h0, hN, Nat.mul_right_comm]
              congr 2; omega
            · rw [if_neg h0, if_neg h0, hN]
              have : i = 0 := by omega
              subst this
              simp
          have hi26 : l2.length ≤ 996 := by omega
          have hDN := HD.out
          rw [← hN] at hDN
          have HQ := Lib.hid hQ
          have HDN := Lib.hid hDN
          clear hQ hDN hN HD hl2 hi0 hi971
          go_wp2
          clear hce
          go_loopw [5, 9, 10, 11, 12, 13] (fun lv hv rv ev _ _ wx => ∃ (i : Nat) (l : List Nat) (hf rs : Bool), ((i : Int) ≤ -e ∨ i = 0) ∧ ev = .int .i64 (e + i) ∧ hv = .bool hf ∧ rv = .bool rs ∧ l.length ≤ 996 ∧ Hid (hf = true ↔ 0 < i ∧ N / 2 ^ (i - 1) % 2 = 1) ∧ Hid (rs = true ↔ 0 < i ∧ N % 2 ^ (i - 1) ≠ 0) ∧ Hid (allDig l ∧ vald l = N / 2 ^ i) ∧ Hid (RowI wx w0.heap.size lv l) ∧ Hid (Below w0.heap.size w0 wx)) (fun _ _ _ ev _ _ _ => (- intOf ev).toNat)
          case atStart => exact ⟨0, l2, false, false, .inr rfl, by go_num, rfl, rfl, hi26, Lib.hid (by simp), Lib.hid (by simp), Lib.hid ⟨HDN.out.1, by rw [HDN.out.2, Nat.pow_zero, Nat.div_one]⟩, HR2, HB2⟩
          case round =>
            obtain ⟨k, l3, hf, rs, hk, rfl, rfl, rfl, hl3, HH, HRS, HD3, HR3, HB3⟩ := hrel
            clear HR2 HB2
            by_cases hneg : e + k < 0
            · have hch := fun wx h => rhalved_calls l3 HD3.out.1 (by omega) u5 wx h
              have hst : (2 : Nat) ^ (k + 1) = 2 ^ k * 2 := Nat.pow_succ 2 k
              have hhf : (decide (vald l3 % 2 = 1) = true) ↔ 0 < k + 1 ∧ N / 2 ^ (k + 1 - 1) % 2 = 1 := by
                rw [decide_eq_true_iff, HD3.out.2, Nat.add_sub_cancel]; simp
              have hrs2 : ((rs || hf) = true) ↔ 0 < k + 1 ∧ N % 2 ^ (k + 1 - 1) ≠ 0 := by
                rw [Bool.or_eq_true, HRS.out, HH.out, Nat.add_sub_cancel]
                rcases Nat.eq_zero_or_pos k with h0 | h0
                · subst h0; simp [Nat.mod_one]
                · obtain ⟨i, rfl⟩ : ∃ i, k = i + 1 := ⟨k - 1, by omega⟩
                  rw [Nat.add_sub_cancel, Nat.pow_succ, Nat.mod_mul]
                  have hp : 0 < 2 ^ i := Nat.two_pow_pos i
                  constructor
                  · rintro (⟨_, h⟩ | ⟨_, h⟩)
                    · exact ⟨by omega, by omega⟩
                    · rw [h, Nat.mul_one]; exact ⟨by omega, by omega⟩
                  · rintro ⟨_, h⟩
                    by_cases hz : N % 2 ^ i = 0
                    · right
                      refine ⟨by omega, ?_⟩
                      rcases Nat.mod_two_eq_zero_or_one (N / 2 ^ i) with h2 | h2
                      · rw [hz, h2, Nat.mul_zero] at h; exact absurd rfl h
                      · exact h2
                    · exact .inl ⟨by omega, hz⟩
              have HX := Lib.hid (And.intro hhf hrs2)
              clear hhf hrs2
              cases hf <;> cases rs
              all_goals
                go_wp2_with (go_at_call 66; refine (hch _ HR3.out.reads).mono ?_; rintro x w2 ⟨v2, rfl, hr2, hb2⟩; have H2 := Lib.hid (And.intro hr2 hb2); clear hr2 hb2)
                go_roundw
                case rel =>
                  obtain ⟨h1, h2, h3, h4⟩ := hlvR_val l3 HD3.out.1
                  refine ⟨k + 1, (hlvR l3).1, _, _, .inl (by omega), by go_num, rfl, rfl, by omega, Lib.hid HX.out.1, Lib.hid HX.out.2, Lib.hid ⟨h4, ?_⟩, Lib.hid (H2.out.1.mono HB3.out.size), Lib.hid (HB3.out.trans (H2.out.2.mono HB3.out.size))⟩
                  rw [h2, HD3.out.2, Nat.div_div_eq_div_mul, hst]
                case measure => simp [intOf]; omega
            · have hQ2 : fixQ M e j = if hf = true ∧ (rs = true ∨ vald l3 % 2 = 1) then vald l3 + 1 else vald l3 := by
                rw [HQ.out, HD3.out.2]
                by_cases h0 : 0 ≤ e
                · have : k = 0 := by omega
                  subst this
                  rw [if_pos h0, if_neg (by rw [HH.out]; simp)]; simp
                · have hke : (-e).toNat = k := by omega
                  rw [if_neg h0, hke, rhe]
                  have hk0 : 0 < k := by omega
                  by_cases hc : 0 < k ∧ N / 2 ^ (k - 1) % 2 = 1 ∧ (N % 2 ^ (k - 1) ≠ 0 ∨ N / 2 ^ k % 2 = 1)
                  · rw [if_pos hc, if_pos]
                    refine ⟨HH.out.mpr ⟨hk0, hc.2.1⟩, ?_⟩
                    rcases hc.2.2 with h | h
                    · exact .inl (HRS.out.mpr ⟨hk0, h⟩)
                    · exact .inr h
                  · rw [if_neg hc, if_neg]
                    rintro ⟨h1, h2⟩
                    refine hc ⟨hk0, (HH.out.mp h1).2, ?_⟩
                    rcases h2 with h | h
                    · exact .inl (HRS.out.mp h).2
                    · exact .inr h
              have HQ2 := Lib.hid hQ2
              clear hQ2 HQ HH HRS
              have hfin : Below w.heap.size w wr := belowThen H0.out.2.2 HB3.out
              have HFIN := Lib.hid hfin
              clear hfin
              have hcn := fun wx h => rnext_calls l3 HD3.out.1 (by omega) u5 wx h
              have hw00 : w.heap.size ≤ w0.heap.size := H0.out.2.2.size
              have HW0 := Lib.hid hw00
              clear hw00
              cases hf
              · go_wp2
                go_ret
                exact ⟨_, l3, rfl, HD3.out.1, by rw [HQ2.out]; simp, by omega, HR3.out.mono HW0.out, HFIN.out⟩
              · cases rs
                · have hcs := HR3.out.cases
                  have hodd : l3 ≠ [] → vald l3 % 2 = l3.getD 0 0 % 2 := vald_odd l3
                  have HODD := Lib.hid hodd
                  clear hodd
                  by_cases hnil : l3 = []
                  · subst hnil
                    have hval : fixQ M e j = vald [] := by rw [HQ2.out]; simp [vald]
                    have HVAL := Lib.hid hval
                    clear hval
                    have hsl : ∃ a cap, u5 = .slice a 0 cap := by
                      rcases hcs with ⟨rfl, _⟩ | ⟨g, cap, rfl, _⟩
                      · exact ⟨_, _, rfl⟩
                      · exact ⟨_, _, rfl⟩
                    obtain ⟨a5, cap5, hu⟩ := hsl
                    clear hcs hcn
                    subst hu
                    go_wp2
                    go_ret
                    exact ⟨_, [], rfl, HD3.out.1, HVAL.out.symm, by simp, HR3.out.mono HW0.out, HFIN.out⟩
                  · have hpos : 0 < l3.length := List.length_pos_iff.mpr hnil
                    have hex : ∃ g cap, u5 = .slice (some ⟨g, 0, none⟩) l3.length cap ∧ wr.cell? ⟨g, 0, none⟩ = some (.int .i64 (l3.getD 0 0 : Nat)) := by
                      rcases hcs with ⟨_, h⟩ | ⟨g, cap, rfl, _, ho⟩
                      · exact absurd h hnil
                      · refine ⟨g, cap, rfl, (ho.cellAt 0 (by omega)).trans ?_⟩
                        rw [intC_at l3 0 hpos, List.getD_eq_getElem?_getD, List.getElem?_eq_getElem hpos]; rfl
                    obtain ⟨g, cap, hu, hcell⟩ := hex
                    have ho2 := HODD.out hnil
                    generalize hd0 : l3.getD 0 0 = d0 at *
                    have HO2 := Lib.hid ho2
                    have HNN := Lib.hid hnil
                    clear hcs ho2 hnil hd0
                    subst hu
                    by_cases hpar : d0 % 2 = 1
                    · have htst : ((d0 : Int) % 2 == 1) = true := by rw [beq_iff_eq]; omega
                      have hpi : (0 : Int) < l3.length := by omega
                      have HP2 := Lib.hid hpar
                      clear hpar
                      go_wp2_with (go_at_call 67; refine (hcn _ HR3.out.reads).mono ?_; rintro x w2 ⟨v2, rfl, hr2, hb2⟩; have H2 := Lib.hid (And.intro hr2 hb2); clear hr2 hb2)
                      go_ret
                      obtain ⟨h1, h2⟩ := nxtR_val l3 1 (by omega) HD3.out.1
                      have h3 := nxtR_len l3 1
                      exact ⟨_, nxtR l3 1, rfl, h2, by rw [h1, HQ2.out]; simp [HO2.out, HP2.out], by omega, H2.out.1.mono HFIN.out.size, belowThen HFIN.out H2.out.2⟩
                    · have htst : ((d0 : Int) % 2 == 1) = false := by rw [beq_eq_false_iff_ne]; omega
                      have hpi : (0 : Int) < l3.length := by omega
                      have HP2 := Lib.hid hpar
                      clear hpar
                      go_wp2
                      go_ret
                      exact ⟨_, l3, rfl, HD3.out.1, by rw [HQ2.out]; simp [HO2.out, HP2.out], by omega, HR3.out.mono HW0.out, HFIN.out⟩
                · go_wp2_with (go_at_call 67; refine (hcn _ HR3.out.reads).mono ?_; rintro x w2 ⟨v2, rfl, hr2, hb2⟩; have H2 := Lib.hid (And.intro hr2 hb2); clear hr2 hb2)
                  go_ret
                  obtain ⟨h1, h2⟩ := nxtR_val l3 1 (by omega) HD3.out.1
                  have h3 := nxtR_len l3 1
                  exact ⟨_, nxtR l3 1, rfl, h2, by rw [h1, HQ2.out]; simp, by omega, H2.out.1.mono HFIN.out.size, belowThen HFIN.out H2.out.2⟩
end Go.Proofs.Ytpgflnjpohmldaa
