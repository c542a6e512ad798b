import Derived.Test.YtegplajddhiejaaGreatMgLoneMake2
import Derived.Deep.RegionHeld3
import Derived.Laws.EntriesVeiled
set_option linter.unusedVariables false
namespace Go.Proofs.YtegplajddhiejaaGreat
open Go.RowKit
/-- What a frame's head says. -/
def kF (b : ByteArray) : Nat := if b.size < 14 then 0 else (b.data.toList.getD 1 0).toNat
def nF (b : ByteArray) : Nat := if b.size < 14 then 0 else rdN b 2 8
def lF (b : ByteArray) : Nat := if b.size < 14 then 0 else rdN b 10 4
def headZ (b : ByteArray) : Value := .agg #[.string b, .int .i64 (kF b), .int .u64 (nF b), .int .u32 (lF b)]
theorem kF_lt (b : ByteArray) : kF b < 256 := by
  unfold kF; split
  · omega
  · exact (b.data.toList.getD 1 0).toNat_lt
theorem nF_lt (b : ByteArray) : nF b < 18446744073709551616 := by
  unfold nF; split
  · omega
  · have := rdN_lt b 2 8; rwa [show (256 : Nat) ^ 8 = 18446744073709551616 by decide] at this
theorem lF_lt (b : ByteArray) : lF b < 4294967296 := by
  unfold lF; split
  · omega
  · have := rdN_lt b 10 4; rwa [show (256 : Nat) ^ 4 = 4294967296 by decide] at this
set_option maxRecDepth 100000 in
set_option maxHeartbeats 1000000 in
theorem headed_calls (b : ByteArray) (hbs : b.size < 9223372036854775807) (w : World) : Calls Tryz.prog 73 #[.string b] w fun e w' => e = .returned (headZ b) ∧ Below w.heap.size w w' := by
  by_cases h14 : b.size < 14
  · have h1 : headZ b = .agg #[.string b, .int .i64 0, .int .u64 0, .int .u32 0] := by unfold headZ kF nF lF; rw [if_pos h14, if_pos h14, if_pos h14]; rfl
    rw [h1]
    go_enter Tryz.func73, Tryz.ntmps73
    go_wp2
    exact bodyPost_ret (v := .agg #[.string b, .int .i64 0, .int .u64 0, .int .u32 0]) (by simp [results, Tryz.results73, go_sem]) rfl ⟨rfl, ((Below.refl _ _).alloc (Nat.le_refl _) _).alloc (by simp) _⟩
  · have hi : 1 < b.size := by omega
    have h1 : headZ b = .agg #[.string b, .int .i64 b[1].toNat, .int .u64 (rdN b 2 8 : Nat), .int .u32 (rdN b 10 4 : Nat)] := by
      unfold headZ kF nF lF; rw [if_neg h14, if_neg h14, if_neg h14, List.getD_eq_getElem?_getD, List.getElem?_eq_getElem (by simpa using hi)]; rfl
    rw [h1]
    clear h1
    have hw : IntKind.i64.wrap (b[1].toNat : Int) = b[1].toNat := by have := b[1].toNat_lt; exact IntWalk.i64_in _ (by omega)
    have hw2 : wrap64 (b[1].toNat : Int) = b[1].toNat := by have := b[1].toNat_lt; exact IntWalk.wrap64_in _ (by omega)
    go_enter Tryz.func73, Tryz.ntmps73
    go_wp2_with fail
    go_region_with (first | (go_at_call 75; refine (big64_calls b 2 ?_ hbs _).mono ?_ <;> first | omega | (rintro e w1 ⟨rfl, rfl⟩)) | (go_at_call 89; refine (big32_calls b 10 ?_ hbs _).mono ?_ <;> first | omega | (rintro e w1 ⟨rfl, rfl⟩)))
    all_goals go_wp2
    all_goals exact bodyPost_ret (v := .agg #[.string b, .int .i64 b[1].toNat, .int .u64 (rdN b 2 8 : Nat), .int .u32 (rdN b 10 4 : Nat)]) (by simp [results, Tryz.results73, go_sem]) rfl ⟨rfl, (((Below.refl _ _).alloc (Nat.le_refl _) _).alloc (by simp) _).drew⟩
/-- What a frame may be wrong in. -/
def wrongZ (b : ByteArray) : Nat → Bool
  | 0 => ((b.size : Int) == 0)
  | 1 => (((b.data.toList.getD 0 0).toNat : Int) != 165)
  | 2 => decide ((b.size : Int) < 14)
  | 3 => ((kF b : Int) == 0)
  | 4 => ((nF b : Int) / 9223372036854775808 != 0)
  | 5 => decide (524288 < (lF b : Int))
  | 6 => decide ((b.size : Int) < 14 + lF b + 4)
  | 7 => decide (14 + (lF b : Int) + 4 < b.size)
  | 8 => ((rdN b (b.size - 4) 4 : Int) != (crcZ (b.extract 0 (b.size - 4)) : Int))
  | _ => false
def codeZ : Nat → Int
  | 0 => 12 | 1 => 130 | 2 => 12 | 3 => 110 | 4 => 10 | 5 => 121 | 6 => 12 | 7 => 111 | _ => 131
def doubtCells : Array Value := #[.func (.func 90) #[] #[], .int .i64 12, .func (.func 91) #[] #[], .int .i64 130, .func (.func 92) #[] #[], .int .i64 12, .func (.func 93) #[] #[], .int .i64 110, .func (.func 94) #[] #[], .int .i64 10, .func (.func 95) #[] #[], .int .i64 121, .func (.func 96) #[] #[], .int .i64 12, .func (.func 97) #[] #[], .int .i64 111, .func (.func 98) #[] #[], .int .i64 131]
theorem doubts_calls (w : World) : Calls Tryz.prog 74 #[] w fun e w' => e = .returned (.slice (some ⟨w.heap.size, 0, none⟩) 9 9) ∧ w' = w.alloc (.cells doubtCells 132) := by
  go_enter Tryz.func74, Tryz.ntmps74
  go_wp2
  go_ret
  exact ⟨rfl, rfl⟩
end Go.Proofs.YtegplajddhiejaaGreat

set_option linter.unusedVariables false
namespace Go.Proofs.YtegplajddhiejaaGreat
open Go.RowKit
set_option maxRecDepth 100000 in
set_option maxHeartbeats 1000000 in
theorem doubt9_calls (b : ByteArray) (hbs : b.size < 9223372036854775807) (h4 : 18 ≤ b.size) (w : World) : Calls Tryz.prog 98 #[headZ b] w fun e w' => e = .returned (.bool (wrongZ b 8)) ∧ Below w.heap.size w w' := by
  have k1 := kF_lt b
  have n1 := nF_lt b
  have l1 := lF_lt b
  unfold headZ
  obtain ⟨o, ho⟩ : ∃ o, b.size = o + 4 := ⟨b.size - 4, by omega⟩
  have hw : IntKind.i64.wrap (o : Int) = (o : Int) := IntWalk.i64_in _ (by omega)
  have hw2 : ((b.size : Int) - 4) = (o : Int) := by omega
  have he : (b.extract 0 o).size < 9223372036854775807 := by rw [ByteArray.size_extract]; omega
  have ho4 : o + 4 ≤ b.size := by omega
  have ho5 : (o : Int) ≤ b.size := by omega
  have ho6 : o ≤ b.size := by omega
  have hoN : (o : Int).toNat = o := by omega
  have hg : wrongZ b 8 = ((rdN b o 4 : Int) != (crcZ (b.extract 0 o) : Int)) := by rw [wrongZ, show b.size - 4 = o by omega]
  have HG := Lib.hid hg
  clear hg
  rw [HG.out]
  clear ho h4 HG
  go_enter Tryz.func98, Tryz.ntmps98
  go_wp2_with fail
  go_region_held3 (fun w' => w'.cell? ⟨w.heap.size, 0, none⟩ = some (.string b) ∧ w.heap.size < w'.heap.size ∧ Below w.heap.size w w')
    (first
      | (refine ⟨?_, ?_, ((Below.refl _ _).alloc (Nat.le_refl _) _).drew⟩ <;> simp)
      | (go_split_ands; refine ⟨(Below.cell (p := ⟨w.heap.size, 0, none⟩) hb1 ?_).trans ?_, Nat.lt_of_lt_of_le ?_ hb1.size, belowThen ?_ hb1⟩ <;> assumption)
      | go_keep)
    (first | (go_at_call 89; refine (big32_calls b o ho4 hbs _).mono ?_; rintro e w1 ⟨rfl, rfl⟩) | (go_at_call 99; refine (crc_calls _ he _).mono ?_; rintro e w1 ⟨rfl, hb1⟩))
  go_wp2
  go_ret
  go_split_ands
  exact ⟨rfl, by assumption⟩
set_option maxHeartbeats 1000000 in
theorem doubt_calls (b : ByteArray) (hbs : b.size < 9223372036854775807) (j : Nat) (hj : j < 9) (hbe : ∀ i, i < j → wrongZ b i = false) (w : World) : Calls Tryz.prog (90 + j) #[headZ b] w fun e w' => e = .returned (.bool (wrongZ b j)) ∧ Below w.heap.size w w' := by
  have k1 := kF_lt b
  have n1 := nF_lt b
  have l1 := lF_lt b
  unfold headZ
  have hc : j = 0 ∨ j = 1 ∨ j = 2 ∨ j = 3 ∨ j = 4 ∨ j = 5 ∨ j = 6 ∨ j = 7 ∨ j = 8 := by omega
  rcases hc with rfl | rfl | rfl | rfl | rfl | rfl | rfl | rfl | rfl
  · clear hbe
    go_enter Tryz.func90, Tryz.ntmps90
    go_wp2
    go_ret
    exact ⟨rfl, (Below.refl _ _).alloc (Nat.le_refl _) _⟩
  · have h0 : 0 < b.size := by
      have := hbe 0 (by omega)
      simp only [wrongZ, beq_eq_false_iff_ne] at this
      omega
    have he : b.data.toList.getD 0 0 = b[0] := by
      rw [List.getD_eq_getElem?_getD, List.getElem?_eq_getElem (by simpa using h0)]; rfl
    have hg : wrongZ b 1 = ((b[0].toNat : Int) != 165) := by rw [wrongZ, he]
    have HG := Lib.hid hg
    clear hbe he hg
    go_enter Tryz.func91, Tryz.ntmps91
    go_wp2
    go_ret
    rw [HG.out]
    exact ⟨rfl, (Below.refl _ _).alloc (Nat.le_refl _) _⟩
  · clear hbe
    go_enter Tryz.func92, Tryz.ntmps92
    go_wp2
    go_ret
    exact ⟨rfl, (Below.refl _ _).alloc (Nat.le_refl _) _⟩
  · clear hbe
    go_enter Tryz.func93, Tryz.ntmps93
    go_wp2
    go_ret
    exact ⟨rfl, (Below.refl _ _).alloc (Nat.le_refl _) _⟩
  · clear hbe
    go_enter Tryz.func94, Tryz.ntmps94
    go_wp2
    go_ret
    exact ⟨rfl, (Below.refl _ _).alloc (Nat.le_refl _) _⟩
  · clear hbe
    go_enter Tryz.func95, Tryz.ntmps95
    go_wp2
    go_ret
    exact ⟨rfl, (Below.refl _ _).alloc (Nat.le_refl _) _⟩
  · clear hbe
    go_enter Tryz.func96, Tryz.ntmps96
    go_wp2
    go_ret
    exact ⟨rfl, (Below.refl _ _).alloc (Nat.le_refl _) _⟩
  · clear hbe
    go_enter Tryz.func97, Tryz.ntmps97
    go_wp2
    go_ret
    exact ⟨rfl, (Below.refl _ _).alloc (Nat.le_refl _) _⟩
  · have h4 : 18 ≤ b.size := by
      have := hbe 6 (by omega)
      simp only [wrongZ, decide_eq_false_iff_not] at this
      omega
    clear hbe
    exact doubt9_calls b hbs h4 w
end Go.Proofs.YtegplajddhiejaaGreat

set_option linter.unusedVariables false
namespace Go.Proofs.YtegplajddhiejaaGreat
open Go.RowKit
theorem doubt_cell (k : Nat) (h : k < 9) : doubtCells[k * 2]? = some (.func (.func (90 + k)) #[] #[]) ∧ doubtCells[k * 2 + 1]? = some (.int .i64 (codeZ k)) := by
  have hc : k = 0 ∨ k = 1 ∨ k = 2 ∨ k = 3 ∨ k = 4 ∨ k = 5 ∨ k = 6 ∨ k = 7 ∨ k = 8 := by omega
  rcases hc with rfl | rfl | rfl | rfl | rfl | rfl | rfl | rfl | rfl <;> exact ⟨rfl, rfl⟩
theorem doubt_enter0 (w : World) (args : Array Value) : (callFunc 90 args).run Tryz.prog w = .ok (.enter 90 args) w := by kernel_rfl
theorem doubt_enter1 (w : World) (args : Array Value) : (callFunc 91 args).run Tryz.prog w = .ok (.enter 91 args) w := by kernel_rfl
theorem doubt_enter2 (w : World) (args : Array Value) : (callFunc 92 args).run Tryz.prog w = .ok (.enter 92 args) w := by kernel_rfl
theorem doubt_enter3 (w : World) (args : Array Value) : (callFunc 93 args).run Tryz.prog w = .ok (.enter 93 args) w := by kernel_rfl
theorem doubt_enter4 (w : World) (args : Array Value) : (callFunc 94 args).run Tryz.prog w = .ok (.enter 94 args) w := by kernel_rfl
theorem doubt_enter5 (w : World) (args : Array Value) : (callFunc 95 args).run Tryz.prog w = .ok (.enter 95 args) w := by kernel_rfl
theorem doubt_enter6 (w : World) (args : Array Value) : (callFunc 96 args).run Tryz.prog w = .ok (.enter 96 args) w := by kernel_rfl
theorem doubt_enter7 (w : World) (args : Array Value) : (callFunc 97 args).run Tryz.prog w = .ok (.enter 97 args) w := by kernel_rfl
theorem doubt_enter8 (w : World) (args : Array Value) : (callFunc 98 args).run Tryz.prog w = .ok (.enter 98 args) w := by kernel_rfl
theorem doubt_enter (w : World) (args : Array Value) : ∀ k, k < 9 → (callFunc (90 + k) args).run Tryz.prog w = .ok (.enter (90 + k) args) w
  | 0, _ => doubt_enter0 w args
  | 1, _ => doubt_enter1 w args
  | 2, _ => doubt_enter2 w args
  | 3, _ => doubt_enter3 w args
  | 4, _ => doubt_enter4 w args
  | 5, _ => doubt_enter5 w args
  | 6, _ => doubt_enter6 w args
  | 7, _ => doubt_enter7 w args
  | 8, _ => doubt_enter8 w args
  | n+9, h => absurd h (Nat.not_lt.mpr (Nat.le_add_left 9 n))
/-- What is read of bytes: kind, number, payload, error. -/
def parseZ (b : ByteArray) : Value :=
  match (List.range 9).find? (wrongZ b) with
  | some k => .tuple #[.int .i64 0, .int .i64 0, .string ⟨#[]⟩, .int .i64 (codeZ k)]
  | none => .tuple #[.int .i64 (kF b), .int .i64 (nF b), .string (b.extract 14 (b.size - 4)), .int .i64 0]
theorem parse_wrong (b : ByteArray) (k : Nat) (hk : k < 9) (hw : wrongZ b k = true) (hb : ∀ j, j < k → wrongZ b j = false) : parseZ b = .tuple #[.int .i64 0, .int .i64 0, .string ⟨#[]⟩, .int .i64 (codeZ k)] := by
  have h : (List.range 9).find? (wrongZ b) = some k := by
    rw [List.find?_range_eq_some]
    exact ⟨hw, by simpa using hk, fun j hj => by simp [hb j hj]⟩
  unfold parseZ; rw [h]
theorem parse_right (b : ByteArray) (hb : ∀ j, j < 9 → wrongZ b j = false) : parseZ b = .tuple #[.int .i64 (kF b), .int .i64 (nF b), .string (b.extract 14 (b.size - 4)), .int .i64 0] := by
  have h : (List.range 9).find? (wrongZ b) = none := by
    rw [List.find?_range_eq_none]
    exact fun j hj => by simp [hb j hj]
  unfold parseZ; rw [h]
set_option maxRecDepth 100000 in
set_option maxHeartbeats 1000000 in
theorem parse_calls (b : ByteArray) (hbs : b.size < 9223372036854775807) (w : World) : Calls Tryz.prog 62 #[.string b] w fun e w' => e = .returned (parseZ b) ∧ Below w.heap.size w w' := by
  go_enter Tryz.func62, Tryz.ntmps62
  have hh := fun w => headed_calls b hbs w
  unfold headZ at hh
  go_wp2_with (first
    | (go_at_call 73; refine (hh _).mono ?_; rintro e w1 ⟨rfl, hb1⟩)
    | (go_at_call 74; refine (doubts_calls _).mono ?_; rintro e w2 ⟨rfl, rfl⟩))
  go_loopw [8, 13] (fun _ i wr => ∃ k : Nat, k ≤ 9 ∧ i = .int .i64 k ∧ Hid (∀ j, j < k → wrongZ b j = false) ∧ Hid (Below w.heap.size w wr) ∧ Hid (∀ j v, doubtCells[j]? = some v → wr.cell? ⟨w1.heap.size + 1, j, none⟩ = some v) ∧
      wr.cell? ⟨w1.heap.size, 0, none⟩ = some (.string b) ∧ wr.cell? ⟨w1.heap.size, 1, none⟩ = some (.int .i64 (kF b)) ∧ wr.cell? ⟨w1.heap.size, 2, none⟩ = some (.int .u64 (nF b)) ∧ wr.cell? ⟨w1.heap.size, 3, none⟩ = some (.int .u32 (lF b)) ∧ w1.heap.size + 1 < wr.heap.size) (fun _ i _ => 9 - (intOf i).toNat)
  case atStart =>
    refine ⟨0, by omega, rfl, Lib.hid (fun j hj => by omega), Lib.hid ((hb1.alloc hb1.size _).alloc (by have := hb1.size; simp; omega) _), Lib.hid (fun j v hv => ?_), by simp, by simp, by simp, by simp, by simp⟩
    simp [hv]
  case round =>
    obtain ⟨k, hk, rfl, HW, HB, HD, f0, f1, f2, f3, hsz⟩ := hrel
    by_cases hlt : k < 9
    · obtain ⟨d0, d1⟩ := doubt_cell k hlt
      have g0 := HD.out _ _ d0
      have g1 := HD.out _ _ d1
      clear d0 d1
      have hs2 : w1.heap.size < wr.heap.size := by omega
      have hdc := fun w => doubt_calls b hbs k hlt HW.out w
      unfold headZ at hdc
      have hen := fun w args => doubt_enter w args k hlt
      go_wp2_with (refine (hdc _).mono ?_; rintro e w3 ⟨rfl, hb3⟩; obtain ⟨hc3, hf3⟩ := bcell hb3)
      · have HP := Lib.hid (parse_wrong b k hlt (by assumption) HW.out)
        go_region
        go_wp2
        exact bodyPost_ret (v := .tuple #[.int .i64 0, .int .i64 0, .string ⟨#[]⟩, .int .i64 (codeZ k)]) (by simp [results, Tryz.results62, go_sem]) rfl ⟨congrArg Ending.returned HP.out.symm, (belowThen (HB.out.alloc HB.out.size _) hb3).drew⟩
      · have hbb := belowThen ((Below.refl _ wr).alloc (Nat.le_refl _) _) hb3
        have hwk : wrongZ b k = false := by assumption
        go_roundw
        case rel =>
          refine ⟨k + 1, by omega, by go_num, Lib.hid (fun j hj => ?_), Lib.hid (belowThen HB.out hbb), Lib.hid (fun j v hv => ?_), ?_, ?_, ?_, ?_, ?_⟩
          · rcases Nat.lt_or_ge j k with h | h
            · exact HW.out j h
            · rw [show j = k by omega]; exact hwk
          · exact (hbb.cell (p := ⟨w1.heap.size + 1, j, none⟩) hsz).trans (HD.out j v hv)
          · exact (hbb.cell (p := ⟨w1.heap.size, 0, none⟩) hs2).trans f0
          · exact (hbb.cell (p := ⟨w1.heap.size, 1, none⟩) hs2).trans f1
          · exact (hbb.cell (p := ⟨w1.heap.size, 2, none⟩) hs2).trans f2
          · exact (hbb.cell (p := ⟨w1.heap.size, 3, none⟩) hs2).trans f3
          · exact Nat.lt_of_lt_of_le hsz hbb.size
        case measure => simp [intOf]; omega
    · obtain rfl : k = 9 := by omega
      have HP := Lib.hid (parse_right b HW.out)
      have k1 := kF_lt b
      have n1 : nF b < 9223372036854775808 := by
        have := HW.out 4 (by omega)
        simp only [wrongZ, bne_eq_false_iff_eq] at this
        omega
      have s18 : 18 ≤ b.size := by
        have := HW.out 6 (by omega)
        simp only [wrongZ, decide_eq_false_iff_not] at this
        omega
      obtain ⟨o, ho⟩ : ∃ o, b.size = o + 4 := ⟨b.size - 4, by omega⟩
      have hw2 : ((b.size : Int) - 4) = (o : Int) := by omega
      have hw : IntKind.i64.wrap (o : Int) = (o : Int) := IntWalk.i64_in _ (by omega)
      have hwn : IntKind.i64.wrap (nF b : Int) = (nF b : Int) := IntWalk.i64_in _ (by omega)
      have ho5 : (o : Int) ≤ b.size := by omega
      have ho6 : o ≤ b.size := by omega
      have ho14 : (14 : Int) ≤ o := by omega
      have ho14' : 14 ≤ o := by omega
      have hoN : (o : Int).toNat = o := by omega
      rw [show b.size - 4 = o by omega] at HP
      clear ho
      go_wp2_with fail
      go_region
      go_wp2
      exact bodyPost_ret (v := .tuple #[.int .i64 (kF b), .int .i64 (nF b), .string (b.extract 14 o), .int .i64 0]) (by simp [results, Tryz.results62, go_sem]) rfl ⟨congrArg Ending.returned HP.out.symm, HB.out.drew⟩
end Go.Proofs.YtegplajddhiejaaGreat
