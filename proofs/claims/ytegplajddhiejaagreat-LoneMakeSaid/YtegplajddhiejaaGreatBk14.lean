import Derived.Test.YtegplajddhiejaaGreatBk12
set_option linter.unusedVariables false
namespace Go.Proofs.YtegplajddhiejaaGreat
open Go.RowKit
attribute [local irreducible] parseZ kF nF lF crcZ rdN
theorem refParse_wrong0 (w : World) : Calls Tryz.prog 67 #[.string ⟨#[]⟩] w fun e w' => e = .returned (.tuple #[.int .i64 0, .int .i64 0, .string ⟨#[]⟩, .int .i64 12]) ∧ Below w.heap.size w w' := by
  go_enter Tryz.func67, Tryz.ntmps67
  go_wp2_with fail
  exact bodyPost_ret (v := .tuple #[.int .i64 0, .int .i64 0, .string ⟨#[]⟩, .int .i64 12]) (by simp [results, Tryz.results67, go_sem]) rfl ⟨rfl, Below.refl _ _⟩
theorem refBE8 (b : ByteArray) (N : Int) (hN : ((rdN b 2 8 : Nat) : Int) = N) (h : 14 ≤ b.size) (hbs : b.size < 9223372036854775807) (w : World) : Calls Tryz.prog 76 #[.string b, .int .i64 2, .int .i64 8] w fun e w' => e = .returned (.tuple #[.int .u64 N, .int .i64 0]) ∧ w = w' := by
  subst hN; exact refBE_calls b 2 8 (by omega) (by omega) (by omega) hbs w
theorem refBE4 (b : ByteArray) (N : Int) (hN : ((rdN b 10 4 : Nat) : Int) = N) (h : 14 ≤ b.size) (hbs : b.size < 9223372036854775807) (w : World) : Calls Tryz.prog 76 #[.string b, .int .i64 10, .int .i64 4] w fun e w' => e = .returned (.tuple #[.int .u64 N, .int .i64 0]) ∧ w = w' := by
  subst hN; exact refBE_calls b 10 4 (by omega) (by omega) (by omega) hbs w
/-- What is answered of bytes that are refused. -/
def errT (c : Int) : Value := .tuple #[.int .i64 0, .int .i64 0, .string ⟨#[]⟩, .int .i64 c]
theorem getD_at (b : ByteArray) (i : Nat) (h : i < b.size) : b.data.toList.getD i 0 = b[i] := by
  rw [List.getD_eq_getElem?_getD, List.getElem?_eq_getElem (by simpa using h)]; rfl
theorem nF_top (b : ByteArray) (h : 14 ≤ b.size) : nF b = b[2].toNat * 72057594037927936 + nF b % 72057594037927936 := by
  have e : nF b = rdN b 2 8 := by unfold nF; rw [if_neg (by omega)]
  rw [e, rdN_list b 2 8 (by rw [size_list]; omega)]
  have hl : ((b.data.toList.drop 2).take 8) = b[2] :: ((b.data.toList.drop 3).take 7) := by
    rw [List.drop_eq_getElem_cons (by rw [size_list]; omega), List.take_succ_cons]; rfl
  rw [hl, rdL_cons]
  have h7 : ((b.data.toList.drop 3).take 7).length = 7 := by rw [List.length_take, List.length_drop, size_list]; omega
  have := rdL_lt ((b.data.toList.drop 3).take 7)
  rw [h7, show (256 : Nat) ^ 7 = 72057594037927936 by decide] at *
  omega
theorem errs14 (b : ByteArray) (x0 x1 x2 : Nat) (N L : Int) (h14 : 14 ≤ b.size) (h0 : b[0].toNat = x0) (h1 : b[1].toNat = x1) (h2 : b[2].toNat = x2) (hN : ((rdN b 2 8 : Nat) : Int) = N) (hL : ((rdN b 10 4 : Nat) : Int) = L) :
    wrongZ b 0 = false ∧ wrongZ b 1 = ((x0 : Int) != 165) ∧ wrongZ b 2 = false ∧ wrongZ b 3 = ((x1 : Int) == 0) ∧ wrongZ b 4 = decide (128 ≤ (x2 : Int)) ∧ wrongZ b 5 = decide (524288 < L) ∧ wrongZ b 6 = decide ((b.size : Int) < 18 + L) ∧ wrongZ b 7 = decide (18 + L < (b.size : Int)) := by
  have kf : kF b = x1 := by unfold kF; rw [if_neg (by omega), getD_at b 1 (by omega), h1]
  have lf : (lF b : Int) = L := by unfold lF; rw [if_neg (by omega), hL]
  have nt := nF_top b h14
  rw [h2] at nt
  have hz := Nat.mod_lt (nF b) (show 0 < 72057594037927936 by decide)
  refine ⟨?_, ?_, ?_, ?_, ?_, ?_, ?_, ?_⟩
  · simp only [wrongZ, beq_eq_false_iff_ne]; omega
  · simp only [wrongZ]; rw [getD_at b 0 (by omega), h0]
  · simp only [wrongZ, decide_eq_false_iff_not]; omega
  · simp only [wrongZ]; rw [kf]
  · simp only [wrongZ]
    rw [bne, Bool.eq_iff_iff]
    simp only [Bool.not_eq_true', beq_eq_false_iff_ne, decide_eq_true_iff]
    omega
  · simp only [wrongZ]; rw [lf]
  · simp only [wrongZ]; rw [lf, decide_eq_decide]; omega
  · simp only [wrongZ]; rw [lf, decide_eq_decide]; omega
theorem parse_err (b : ByteArray) (k : Nat) (c : Int) (hk : k < 9) (hc : codeZ k = c) (hw : wrongZ b k = true) (hb : ∀ j, j < k → wrongZ b j = false) : parseZ b = errT c := by
  subst hc; exact parse_wrong b k hk hw hb
theorem errs_all (b : ByteArray) (x0 x1 x2 : Nat) (N L : Int) (h14 : 14 ≤ b.size) (h0 : b[0].toNat = x0) (h1 : b[1].toNat = x1) (h2 : b[2].toNat = x2) (hN : ((rdN b 2 8 : Nat) : Int) = N) (hL : ((rdN b 10 4 : Nat) : Int) = L) :
    ((((x0 : Int) != 165) = true) → parseZ b = errT 130) ∧
    ((((x0 : Int) != 165) = false) → (((x1 : Int) == 0) = true) → parseZ b = errT 110) ∧
    ((((x0 : Int) != 165) = false) → (((x1 : Int) == 0) = false) → 128 ≤ (x2 : Int) → parseZ b = errT 10) ∧
    ((((x0 : Int) != 165) = false) → (((x1 : Int) == 0) = false) → (x2 : Int) < 128 → 524288 < L → parseZ b = errT 121) ∧
    ((((x0 : Int) != 165) = false) → (((x1 : Int) == 0) = false) → (x2 : Int) < 128 → L ≤ 524288 → (b.size : Int) < 18 + L → parseZ b = errT 12) ∧
    ((((x0 : Int) != 165) = false) → (((x1 : Int) == 0) = false) → (x2 : Int) < 128 → L ≤ 524288 → 18 + L ≤ (b.size : Int) → 18 + L < (b.size : Int) → parseZ b = errT 111) ∧
    ((((x0 : Int) != 165) = false) → (((x1 : Int) == 0) = false) → (x2 : Int) < 128 → L ≤ 524288 → 18 + L ≤ (b.size : Int) → (b.size : Int) ≤ 18 + L → (wrongZ b 8 = true → parseZ b = errT 131) ∧ (wrongZ b 8 = false → parseZ b = .tuple #[.int .i64 x1, .int .i64 N, .string (b.extract 14 (b.size - 4)), .int .i64 0])) := by
  obtain ⟨e0, e1, e2, e3, e4, e5, e6, e7⟩ := errs14 b x0 x1 x2 N L h14 h0 h1 h2 hN hL
  refine ⟨fun a => ?_, fun a c => ?_, fun a c d => ?_, fun a c d f => ?_, fun a c d f g => ?_, fun a c d f g h => ?_, fun a c d f g h => ⟨fun i => ?_, fun i => ?_⟩⟩
  · refine parse_err b 1 130 (by omega) rfl (by rw [e1]; exact a) (fun j hj => ?_)
    obtain rfl : j = 0 := by omega
    exact e0
  · refine parse_err b 3 110 (by omega) rfl (by rw [e3]; exact c) (fun j hj => ?_)
    have : j = 0 ∨ j = 1 ∨ j = 2 := by omega
    rcases this with rfl | rfl | rfl
    · exact e0
    · rw [e1]; exact a
    · exact e2
  · refine parse_err b 4 10 (by omega) rfl (by rw [e4]; simpa using d) (fun j hj => ?_)
    have : j = 0 ∨ j = 1 ∨ j = 2 ∨ j = 3 := by omega
    rcases this with rfl | rfl | rfl | rfl
    · exact e0
    · rw [e1]; exact a
    · exact e2
    · rw [e3]; exact c
  · have e4' : wrongZ b 4 = false := by rw [e4]; simpa using d
    refine parse_err b 5 121 (by omega) rfl (by rw [e5]; simpa using f) (fun j hj => ?_)
    have : j = 0 ∨ j = 1 ∨ j = 2 ∨ j = 3 ∨ j = 4 := by omega
    rcases this with rfl | rfl | rfl | rfl | rfl
    · exact e0
    · rw [e1]; exact a
    · exact e2
    · rw [e3]; exact c
    · exact e4'
  · have e4' : wrongZ b 4 = false := by rw [e4]; simpa using d
    have e5' : wrongZ b 5 = false := by rw [e5]; simpa using f
    refine parse_err b 6 12 (by omega) rfl (by rw [e6]; simpa using g) (fun j hj => ?_)
    have : j = 0 ∨ j = 1 ∨ j = 2 ∨ j = 3 ∨ j = 4 ∨ j = 5 := by omega
    rcases this with rfl | rfl | rfl | rfl | rfl | rfl
    · exact e0
    · rw [e1]; exact a
    · exact e2
    · rw [e3]; exact c
    · exact e4'
    · exact e5'
  · have e4' : wrongZ b 4 = false := by rw [e4]; simpa using d
    have e5' : wrongZ b 5 = false := by rw [e5]; simpa using f
    have e6' : wrongZ b 6 = false := by rw [e6]; simpa using g
    refine parse_err b 7 111 (by omega) rfl (by rw [e7]; simpa using h) (fun j hj => ?_)
    have : j = 0 ∨ j = 1 ∨ j = 2 ∨ j = 3 ∨ j = 4 ∨ j = 5 ∨ j = 6 := by omega
    rcases this with rfl | rfl | rfl | rfl | rfl | rfl | rfl
    · exact e0
    · rw [e1]; exact a
    · exact e2
    · rw [e3]; exact c
    · exact e4'
    · exact e5'
    · exact e6'
  all_goals
    have e4' : wrongZ b 4 = false := by rw [e4]; simpa using d
    have e5' : wrongZ b 5 = false := by rw [e5]; simpa using f
    have e6' : wrongZ b 6 = false := by rw [e6]; simpa using g
    have e7' : wrongZ b 7 = false := by rw [e7]; simpa using h
  · refine parse_err b 8 131 (by omega) rfl i (fun j hj => ?_)
    have : j = 0 ∨ j = 1 ∨ j = 2 ∨ j = 3 ∨ j = 4 ∨ j = 5 ∨ j = 6 ∨ j = 7 := by omega
    rcases this with rfl | rfl | rfl | rfl | rfl | rfl | rfl | rfl
    · exact e0
    · rw [e1]; exact a
    · exact e2
    · rw [e3]; exact c
    · exact e4'
    · exact e5'
    · exact e6'
    · exact e7'
  · have kf : kF b = x1 := by unfold kF; rw [if_neg (by omega), getD_at b 1 (by omega), h1]
    have nf : (nF b : Int) = N := by unfold nF; rw [if_neg (by omega), hN]
    rw [parse_right b (fun j hj => ?_), kf, nf]
    have : j = 0 ∨ j = 1 ∨ j = 2 ∨ j = 3 ∨ j = 4 ∨ j = 5 ∨ j = 6 ∨ j = 7 ∨ j = 8 := by omega
    rcases this with rfl | rfl | rfl | rfl | rfl | rfl | rfl | rfl | rfl
    · exact e0
    · rw [e1]; exact a
    · exact e2
    · rw [e3]; exact c
    · exact e4'
    · exact e5'
    · exact e6'
    · exact e7'
    · exact i
/-- The four bytes behind, as a text or as a number. -/
theorem sum_test (b : ByteArray) (m : Nat) (h : b.size = 18 + m) : wrongZ b 8 = true ↔ b.extract (14 + m) b.size ≠ beZ 4 (crcZ (b.extract 0 (14 + m)) : Nat) := by
  simp only [wrongZ, bne_iff_ne]
  rw [show b.size - 4 = 14 + m by omega]
  have hl : (b.extract (14 + m) b.size).data.toList = b.data.toList.drop (14 + m) := by
    rw [extract_list, List.take_of_length_le (by rw [size_list]; omega)]
  have hr : rdN b (14 + m) 4 = rdL (b.data.toList.drop (14 + m)) := by
    rw [rdN_list b _ 4 (by rw [size_list]; omega), List.take_of_length_le (by rw [List.length_drop, size_list]; omega)]
  have hc := crcZ_lt (b.extract 0 (14 + m))
  have hd := rdL_dig (crcZ (b.extract 0 (14 + m)) : Nat) 4
  rw [show (256 : Int) ^ 4 = 4294967296 by decide, Int.emod_eq_of_lt (by omega) (by omega)] at hd
  apply not_congr
  constructor
  · intro he
    apply ba_ext
    have q := dig_rdL (b.data.toList.drop (14 + m))
    rw [show (b.data.toList.drop (14 + m)).length = 4 by rw [List.length_drop, size_list]; omega] at q
    rw [hl, be4_list, ← he, hr, q]
  · intro he
    have := congrArg (fun x : ByteArray => rdL x.data.toList) he
    simp only [hl, be4_list] at this
    rw [hr, this]; exact hd
set_option maxRecDepth 100000 in
set_option maxHeartbeats 1000000 in
theorem refParse_14 (b : ByteArray) (hbs : b.size < 9223372036854775807) (x0 x1 x2 : Nat) (N L : Int) (h14 : 14 ≤ b.size) (h0 : b[0].toNat = x0) (h1 : b[1].toNat = x1) (h2 : b[2].toNat = x2) (hN : ((rdN b 2 8 : Nat) : Int) = N) (hL : ((rdN b 10 4 : Nat) : Int) = L) (L0 : 0 ≤ L) (L1 : L < 4294967296) (w : World) : Calls Tryz.prog 67 #[.string b] w fun e w' => e = .returned (parseZ b) ∧ Below w.heap.size w w' := by
  have c1 := fun w => refBE8 b N hN h14 hbs w
  have c2 := fun w => refBE4 b L hL h14 hbs w
  have hp : b.toList.isEmpty = false := by
    rw [ByteArray.toList_eq]
    have := size_list b
    cases hq : b.data.toList with
    | nil => rw [hq] at this; simp at this; omega
    | cons x t => rfl
  have hx0 : x1 < 256 := by rw [← h1]; exact b[1].toNat_lt
  have hNlt : (x2 : Int) < 128 → 0 ≤ N ∧ N ≤ 9223372036854775807 := fun h => by
    have nt := nF_top b h14
    rw [h2] at nt
    have hz := Nat.mod_lt (nF b) (show 0 < 72057594037927936 by decide)
    have e : (nF b : Int) = N := by unfold nF; rw [if_neg (by omega), hN]
    omega
  have HN := Lib.hid hNlt
  clear hNlt
  have HE := Lib.hid (errs_all b x0 x1 x2 N L h14 h0 h1 h2 hN hL)
  have HH := Lib.hid (And.intro hN hL)
  clear hN hL
  go_enter Tryz.func67, Tryz.ntmps67
  go_wp2_with (go_at_call 76; first
    | ((with_reducible refine (c1 _).mono ?_); rintro e w1 ⟨rfl, rfl⟩)
    | ((with_reducible refine (c2 _).mono ?_); rintro e w1 ⟨rfl, rfl⟩))
  · exact bodyPost_ret (v := errT 130) (by simp [results, Tryz.results67, go_sem, errT]) rfl ⟨by rw [HE.out.1 (by assumption)], Below.refl _ _⟩
  · exact bodyPost_ret (v := errT 110) (by simp [results, Tryz.results67, go_sem, errT]) rfl ⟨by rw [HE.out.2.1 (by assumption) (by assumption)], Below.refl _ _⟩
  · exact bodyPost_ret (v := errT 10) (by simp [results, Tryz.results67, go_sem, errT]) rfl ⟨by rw [HE.out.2.2.1 (by assumption) (by assumption) (by assumption)], Below.refl _ _⟩
  · exact bodyPost_ret (v := errT 121) (by simp [results, Tryz.results67, go_sem, errT]) rfl ⟨by rw [HE.out.2.2.2.1 (by assumption) (by assumption) (by assumption) (by assumption)], Below.refl _ _⟩
  · exact bodyPost_ret (v := errT 12) (by simp [results, Tryz.results67, go_sem, errT]) rfl ⟨by rw [HE.out.2.2.2.2.1 (by assumption) (by assumption) (by assumption) (by assumption) (by assumption)], Below.refl _ _⟩
  · exact bodyPost_ret (v := errT 111) (by simp [results, Tryz.results67, go_sem, errT]) rfl ⟨by rw [HE.out.2.2.2.2.2.1 (by assumption) (by assumption) (by assumption) (by assumption) (by assumption) (by assumption)], Below.refl _ _⟩
  · have HF := Lib.hid (HE.out.2.2.2.2.2.2 (by assumption) (by assumption) (by assumption) (by assumption) (by assumption) (by assumption))
    have hsz : (b.size : Int) = 18 + L := by omega
    obtain ⟨m, rfl⟩ : ∃ m : Nat, L = m := ⟨L.toNat, by omega⟩
    have hm : b.size = 18 + m := by omega
    clear L1 HE c1 c2
    have he : (b.extract 0 (14 + m)).size < 9223372036854775807 := by rw [ByteArray.size_extract]; omega
    have HS := Lib.hid (sum_test b m hm)
    have q1 : 14 + m ≤ b.size := by omega
    have q2 : (14 : Int) + m ≤ b.size := by omega
    have q3 : ((14 : Int) + m).toNat = 14 + m := by omega
    have q4 : IntKind.i64.wrap ((14 : Int) + m) = 14 + m := IntWalk.i64_in _ (by omega)
    have q5 : (0 : Int) ≤ 14 + m := by omega
    have HM := Lib.hid hm
    clear hm hsz
    go_region_with (go_at_call 77; refine (refSum_calls _ he _).mono ?_; rintro e w1 ⟨rfl, hb1⟩)
    go_wp2_with fail
    · have htest : (!(b.extract (14 + m) b.size).toList == (beZ 4 (crcZ (b.extract 0 (14 + m)) : Nat)).toList) = true := by assumption
      have hne : b.extract (14 + m) b.size ≠ beZ 4 (crcZ (b.extract 0 (14 + m)) : Nat) := by
        intro he
        rw [he] at htest
        simp at htest
      exact bodyPost_ret (v := errT 131) (by simp [results, Tryz.results67, go_sem, errT]) rfl ⟨by rw [HF.out.1 (HS.out.mpr hne)], belowThen (Below.refl _ _).drew hb1⟩
    · have htest : (!(b.extract (14 + m) b.size).toList == (beZ 4 (crcZ (b.extract 0 (14 + m)) : Nat)).toList) = false := by assumption
      have heq : b.extract (14 + m) b.size = beZ 4 (crcZ (b.extract 0 (14 + m)) : Nat) := by
        apply ba_ext
        rw [← ByteArray.toList_eq, ← ByteArray.toList_eq]
        simpa using htest
      have hfalse : wrongZ b 8 = false := by
        cases hq : wrongZ b 8 with
        | false => rfl
        | true => exact absurd heq (HS.out.mp hq)
      have hv := HF.out.2 hfalse
      rw [show b.size - 4 = 14 + m by have := HM.out; omega] at hv
      have HV := Lib.hid hv
      clear hv heq hfalse htest HF HS he
      obtain ⟨n0, n1⟩ := HN.out (by assumption)
      have hwN : IntKind.i64.wrap N = N := IntWalk.i64_in _ (by omega)
      have hwx : IntKind.i64.wrap (x1 : Int) = x1 := IntWalk.i64_in _ (by omega)
      have q6 : (14 : Int) ≤ 14 + m := by omega
      have q7 : (1 : Int) < b.size := by omega
      go_region
      go_wp2_with fail
      exact bodyPost_ret (v := .tuple #[.int .i64 x1, .int .i64 N, .string (b.extract 14 (14 + m)), .int .i64 0]) (by simp [results, Tryz.results67, go_sem]) rfl ⟨congrArg Ending.returned HV.out.symm, (belowThen (Below.refl _ _).drew hb1).drew⟩
set_option maxHeartbeats 1000000 in
theorem refParse_short (b : ByteArray) (h : b.size < 14) (hp : 0 < b.size) (w : World) : Calls Tryz.prog 67 #[.string b] w fun e w' => e = .returned (parseZ b) ∧ Below w.heap.size w w' := by
  have hpe : b.toList.isEmpty = false := by
    rw [ByteArray.toList_eq]
    have := size_list b
    cases hq : b.data.toList with
    | nil => rw [hq] at this; simp at this; omega
    | cons x t => rfl
  obtain ⟨x0, h0⟩ : ∃ x, b[0].toNat = x := ⟨_, rfl⟩
  have e0 : wrongZ b 0 = false := by simp only [wrongZ, beq_eq_false_iff_ne]; omega
  have e1 : wrongZ b 1 = ((x0 : Int) != 165) := by simp only [wrongZ]; rw [getD_at b 0 hp, h0]
  have e2 : wrongZ b 2 = true := by simp only [wrongZ, decide_eq_true_iff]; omega
  have p1 : ((x0 : Int) != 165) = true → parseZ b = errT 130 := fun a => parse_err b 1 130 (by omega) rfl (by rw [e1]; exact a) (fun j hj => by obtain rfl : j = 0 := (by omega); exact e0)
  have p2 : ((x0 : Int) != 165) = false → parseZ b = errT 12 := fun a => parse_err b 2 12 (by omega) rfl e2 (fun j hj => by
    have : j = 0 ∨ j = 1 := by omega
    rcases this with rfl | rfl
    · exact e0
    · rw [e1]; exact a)
  have HP := Lib.hid (And.intro p1 p2)
  clear p1 p2 e0 e1 e2
  go_enter Tryz.func67, Tryz.ntmps67
  go_wp2_with fail
  · exact bodyPost_ret (v := errT 130) (by simp [results, Tryz.results67, go_sem, errT]) rfl ⟨by rw [HP.out.1 (by assumption)], Below.refl _ _⟩
  · exact bodyPost_ret (v := errT 12) (by simp [results, Tryz.results67, go_sem, errT]) rfl ⟨by rw [HP.out.2 (by assumption)], Below.refl _ _⟩
theorem refParse_calls (b : ByteArray) (hbs : b.size < 9223372036854775807) (w : World) : Calls Tryz.prog 67 #[.string b] w fun e w' => e = .returned (parseZ b) ∧ Below w.heap.size w w' := by
  rcases Nat.eq_zero_or_pos b.size with h | h
  · have hb : b = ⟨#[]⟩ := ba_ext _ _ (List.eq_nil_of_length_eq_zero (by rw [size_list]; exact h))
    have : parseZ b = errT 12 := parse_err b 0 12 (by omega) rfl (by simp only [wrongZ, beq_iff_eq]; omega) (fun j hj => by omega)
    rw [this, hb]
    exact refParse_wrong0 w
  · rcases Nat.lt_or_ge b.size 14 with h14 | h14
    · exact refParse_short b h14 h w
    · have := rdN_lt b 10 4
      rw [show (256 : Nat) ^ 4 = 4294967296 by decide] at this
      exact refParse_14 b hbs _ _ _ _ _ h14 rfl rfl rfl rfl rfl (by omega) (by omega) w
end Go.Proofs.YtegplajddhiejaaGreat
