import Derived.Test.YtpgflnjpohmldaaMeterText1
set_option linter.unusedVariables false
namespace Go.Proofs.Ytpgflnjpohmldaa
open Go.RowKit
theorem own_form {w : World} {base e size : Nat} {v : Value} {n : Nat} {xs : List Value} (h : w.ownsRow base e size v n xs) : ∃ a cap, v = .slice a n cap ∧ ((a = none ∧ n = 0 ∧ cap = 0) ∨ ∃ g, a = some ⟨g, 0, none⟩ ∧ base ≤ g) := by
  rcases h.2 with ⟨rfl, rfl⟩ | ⟨g, cap, cur, h, hb, _⟩
  · exact ⟨none, 0, rfl, .inl ⟨rfl, rfl, rfl⟩⟩
  · exact ⟨_, cap, h, .inr ⟨g, rfl, hb⟩⟩
theorem own_cases {w : World} {base e size n cap : Nat} {a : Option Addr} {xs : List Value} (h : w.ownsRow base e size (.slice a n cap) n xs) : (a = none ∧ n = 0 ∧ cap = 0) ∨ ∃ g, a = some ⟨g, 0, none⟩ ∧ base ≤ g := by
  obtain ⟨a', cap', he, h⟩ := own_form h
  simp only [Value.slice.injEq, true_and] at he
  obtain ⟨rfl, rfl⟩ := he
  exact h
def sliceLen : Value → Nat
  | .slice _ n _ => n
  | _ => 0
theorem padTo_len (l : List Nat) (k : Nat) : (padTo l k).length = max l.length k := by
  unfold padTo; rw [List.length_append, List.length_replicate]; omega
theorem digs_len (k : Nat) : ∀ n, n < 10 ^ k → (digs n).length ≤ k := by
  induction k with
  | zero => intro n h; have : n = 0 := by simpa using h
            subst this; rw [digs_zero]; simp
  | succ k ih =>
    intro n h
    rcases Nat.eq_zero_or_pos n with h0 | h0
    · subst h0; rw [digs_zero]; simp
    · rw [digs_pos n h0, List.length_cons]
      have := ih (n / 10) (by rw [Nat.pow_succ] at h; omega)
      omega
/-- Digits, the highest first, as a text. -/
theorem digT_bytes (l : List Nat) : ((l.map (48 + ·)).reverse.map UInt8.ofNat) = digT l := by
  unfold digT; rw [← List.map_reverse, List.map_map]; rfl
theorem padTo_dig (n k : Nat) : allDig (padTo (digs n) k) := by
  intro d hd
  unfold padTo at hd
  rcases List.mem_append.mp hd with h | h
  · exact digs_dig n d h
  · rw [List.mem_replicate] at h; omega
theorem dec_round (N long : Nat) (out : List Nat) (y : Int) (hN : N < 18446744073709551616) (hl : long ≤ 1000) (y0 : 0 ≤ y) (h : padTo (digs N) long = out ++ padTo (digs y.toNat) (long - out.length)) (hc : 0 < y ∨ out.length < long) :
    out.length ≤ 1000 ∧ padTo (digs N) long = (out ++ [(y % 10).toNat]) ++ padTo (digs (y / 10).toNat) (long - (out ++ [(y % 10).toNat]).length) := by
  have e1 := congrArg List.length h
  have e2 := digs_len 20 N (by have : (10 : Nat) ^ 20 = 100000000000000000000 := by decide
                               omega)
  rw [padTo_step y.toNat _ (by omega)] at h e1
  rw [padTo_len, List.length_append, List.length_cons] at e1
  refine ⟨by omega, ?_⟩
  rw [h, List.append_assoc, List.length_append]
  congr 1
  show _ :: _ = _ :: _
  rw [show (y % 10).toNat = y.toNat % 10 by omega, show (y / 10).toNat = y.toNat / 10 by omega]
  rfl
theorem one_news (w : World) (x : Value) (e : TypeId) : ∀ j u, [x][j]? = some u → (w.alloc (.cells #[x] e)).cell? ((⟨w.heap.size, 0, none⟩ : Addr).add j) = some u := by
  intro j u h
  have hj : j = 0 := by
    rcases Nat.eq_zero_or_pos j with h0 | h0
    · exact h0
    · rw [List.getElem?_eq_none (by simp; omega)] at h; cases h
  subst hj
  simp at h
  subst h
  simp [Addr.add]
theorem one_cell (x : Value) (h : x.oneCell' = true) : ∀ u ∈ [x], u.oneCell' = true := by
  intro u hu; simp at hu; subst hu; exact h
theorem grown_own {w wr w1 : World} {a : Option Addr} {k cap : Nat} {xs : List Value} {base e : Nat} {o : Obj} (hb : Below w.heap.size w wr) (ho : wr.ownsRow w.heap.size e 1 (.slice a k cap) k xs) (hg : (wr.alloc o).grownBy w1 (Value.slice a k cap).ownBlock) : Below w.heap.size w w1 :=
  (belowAlloc hb o).grown hg (Nat.le_trans hb.size (by simp)) (fun g h => (ho.lt g h).1)
set_option maxRecDepth 100000 in
set_option maxHeartbeats 1000000 in
theorem decimal_calls (N long : Nat) (hN : N < 18446744073709551616) (hl : long ≤ 1000) (w : World) : Calls Try.prog 62 #[.int .u64 N, .int .i64 long] w fun e w' => e = .returned (.string ⟨(digT (padTo (digs N) long)).toArray⟩) ∧ Below w.heap.size w w' := by
  obtain ⟨i0, hi, hz0, hz1, hz2⟩ := info_parts infoByte
  obtain ⟨Y, hY⟩ : ∃ Y : Int, (N : Int) = Y := ⟨_, rfl⟩
  have hY0 : 0 ≤ Y := by omega
  have hY1 : Y ≤ 18446744073709551615 := by omega
  have hYN : Y.toNat = N := by omega
  rw [hY]
  have HN := Lib.hid (And.intro hYN hN)
  clear hY hYN hN
  go_enter Try.func62, Try.ntmps62
  go_wp2
  go_loopw [0, 5] (fun n l wr => ∃ (y : Int) (out : List Nat) (a : Option Addr) (cap : Nat), n = .int .u64 y ∧ 0 ≤ y ∧ y ≤ 18446744073709551615 ∧ l = .slice a out.length cap ∧ Hid (wr.ownsRow w.heap.size 5 1 (.slice a out.length cap) out.length (byteC (out.map (48 + ·)))) ∧
      Hid (padTo (digs N) long = out ++ padTo (digs y.toNat) (long - out.length)) ∧ Hid (Below w.heap.size w wr)) (fun n l _ => (intOf n).toNat + (long - sliceLen l))
  case atStart => 
    refine ⟨Y, [], none, 0, rfl, hY0, hY1, rfl, Lib.hid (World.ownsRow_nil _ _ _ _), Lib.hid ?_, Lib.hid (Below.refl _ _)⟩
    rw [HN.out.1]; simp
  case round =>
    obtain ⟨y, out, a, cap, rfl, y0, y1, rfl, HO, HP, HB⟩ := hrel
    by_cases hc : 0 < y ∨ out.length < long
    · obtain ⟨h1000, hnext⟩ := dec_round N long out y HN.out.2 hl y0 HP.out hc
      have HX := Lib.hid hnext
      clear hnext
      have hown := HO.out.alloc (.cells #[Value.int .u8 (48 + y % 10)] 5)
      have HW := Lib.hid hown
      clear hown
      have hsz : w.heap.size ≤ (wr.alloc (.cells #[Value.int .u8 (48 + y % 10)] 5)).heap.size := Nat.le_trans HB.out.size (by simp)
      have HS := Lib.hid hsz
      clear hsz
      have hc2 : 0 < y ∨ (y ≤ 0 ∧ out.length < long) := by omega
      clear hc
      rcases hc2 with hc | ⟨hc0, hc⟩
      all_goals
        go_wp2_with (at_builtin; refine wpList_append_own _ rfl _ _ 77 rfl w.heap.size 5 i0 (.int .u8 0) 1 1 Try.underlying77 hi hz0 hz1 hz2 rfl (by decide) _ _ _ rfl HW.out ⟨wr.heap.size, 0, none⟩ 1 1 [.int .u8 (48 + y % 10)] rfl rfl (one_news _ _ _) (one_cell _ rfl) (by unfold maxLen; omega) (by omega) HS.out ?_; intro v' w1 hown1 hgrow1 _; obtain ⟨a1, cap1, rfl, _⟩ := own_form hown1; have HO1 := Lib.hid hown1; have HG1 := Lib.hid hgrow1; clear hown1 hgrow1)
        all_goals go_roundw
        case rel =>
          refine ⟨y / 10, out ++ [(y % 10).toNat], a1, cap1, by go_num, by omega, by omega, by simp, Lib.hid ?_, HX, Lib.hid (grown_own (base := 0) HB.out HO.out HG1.out)⟩
          have e : byteC ((out ++ [(y % 10).toNat]).map (48 + ·)) = byteC (out.map (48 + ·)) ++ [Value.int .u8 (48 + y % 10)] := by
            rw [List.map_append, byteC_append]
            show _ ++ [Value.int .u8 (((48 + (y % 10).toNat : Nat)) : Int)] = _
            rw [show (((48 + (y % 10).toNat : Nat)) : Int) = 48 + y % 10 by omega]
          rw [e, List.length_append]; exact HO1.out
        case measure => simp [intOf, sliceLen]; omega
    · have : y = 0 := by omega
      subst this
      have hlen : long - out.length = 0 := by omega
      have hend := HP.out
      rw [hlen, show Int.toNat 0 = 0 from rfl, padTo_end, List.append_nil] at hend
      have hdig : ∀ d ∈ (out.map (48 + ·)), d < 256 := by
        intro d hd
        rw [List.mem_map] at hd
        obtain ⟨x, hx, rfl⟩ := hd
        have := padTo_dig N long x (by rw [hend]; exact hx)
        omega
      have hcase := own_cases HO.out
      have h2000 : out.length ≤ 140737488355328 := by
        have e1 := congrArg List.length hend
        have e2 := digs_len 20 N (by have : (10 : Nat) ^ 20 = 100000000000000000000 := by decide
                                     have := HN.out.2
                                     omega)
        rw [padTo_len] at e1
        omega
      have HE := Lib.hid hend
      have HD := Lib.hid hdig
      clear hend hdig
      rcases hcase with ⟨rfl, h0, rfl⟩ | ⟨g, rfl, hg⟩
      · have ho : out = [] := List.eq_nil_of_length_eq_zero h0
        subst ho
        have hnil := fun w => run_convert_bytes_nil (P := Try.prog) (w := w) 77 5 Try.underlying77 Try.underlying5 0 0 9 Try.underlying9
        go_wp2_with (go_at_call 75; refine (reverse_none _).mono ?_; rintro e w1 ⟨rfl, rfl⟩)
        go_ret
        refine ⟨?_, HB.out⟩
        rw [HE.out]; rfl
      · have hrev := fun w' h => reverse_own w.heap.size g cap out.length (out.map (48 + ·)) (by simp) h2000 w' h
        have hown := HO.out
        clear hc
        go_wp2_with (go_at_call 75; refine (hrev _ HO.out).mono ?_; rintro e w1 ⟨rfl, hown1, hgr1⟩; have hcv := row_str _ _ _ _ _ _ hown1 (fun d hd => HD.out d (by simpa using hd)); have HB1 := Lib.hid (And.intro hown1 hgr1); clear hown1 hgr1)
        go_ret
        refine ⟨?_, HB.out.grown HB1.out.2 HB.out.size (fun k hk => by cases hk; exact hg)⟩
        rw [HE.out, ← digT_bytes]; simp
end Go.Proofs.Ytpgflnjpohmldaa
