import Derived.Test.YtcicdgajhheipaaGreatBk11
import Derived.Deep.QuietTactic
import Derived.BigQuiet
import Derived.Test.YtcicdgajhheipaaGreatMgBookFresh2
set_option linter.unusedVariables false
namespace Go.Proofs.YtcicdgajhheipaaGreat
open Go.RowKit
theorem parse_any (s : ByteArray) (v : Value) (hv : parseZ s = v) (hs : s.size < 9223372036854775807) (w : World) : Calls Tryz.prog 62 #[.string s] w fun e w' => e = .returned v ∧ Below w.heap.size w w' := by
  subst hv; exact parse_calls s hs w
/-- What is read of whatever bytes. -/
theorem parse_cases (b : ByteArray) : (∃ c, c ≠ 0 ∧ parseZ b = .tuple #[.int .i64 0, .int .i64 0, .string ⟨#[]⟩, .int .i64 c]) ∨
    ∃ (k n : Int) (p : ByteArray), parseZ b = .tuple #[.int .i64 k, .int .i64 n, .string p, .int .i64 0] ∧ frameZ k n p = b ∧ 1 ≤ k ∧ k ≤ 255 ∧ 0 ≤ n ∧ n ≤ 9223372036854775807 ∧ p.size ≤ 524288 := by
  by_cases h : ∀ j, j < 9 → wrongZ b j = false
  · obtain ⟨hf, h1, h2, h3, h4⟩ := parse_back b h
    exact .inr ⟨_, _, _, parse_right b h, hf, h1, h2, by omega, h3, h4⟩
  · left
    have hx : ∃ n, n < 9 ∧ wrongZ b n = true ∧ ∀ j, j < n → wrongZ b j = false := by
      have : ∃ n, n < 9 ∧ wrongZ b n = true := by
        apply Classical.byContradiction
        intro hn
        exact h fun j hj => by
          cases hw : wrongZ b j with
          | false => rfl
          | true => exact absurd ⟨j, hj, hw⟩ hn
      obtain ⟨n, hn, hw⟩ := this
      induction n using Nat.strongRecOn with
      | _ n ih =>
        by_cases hq : ∃ m, m < n ∧ wrongZ b m = true
        · obtain ⟨m, hm, hwm⟩ := hq
          exact ih m hm (by omega) hwm
        · refine ⟨n, hn, hw, fun j hj => ?_⟩
          cases hwj : wrongZ b j with
          | false => rfl
          | true => exact absurd ⟨j, hj, hwj⟩ hq
    obtain ⟨n, hn, hw, hb⟩ := hx
    refine ⟨codeZ n, ?_, parse_wrong b n hn hw hb⟩
    unfold codeZ; split <;> decide
end Go.Proofs.YtcicdgajhheipaaGreat

set_option linter.unusedVariables false
set_option linter.unusedSimpArgs false
namespace Go.Proofs.YtcicdgajhheipaaGreat
open Go.RowKit
/-! What a key names. -/
theorem results_tmp4 {fn : Func} {t u v x : Tmp} (h : fn.results = #[.tmp t, .tmp u, .tmp v, .tmp x]) (tmps : Array Value) (P : Program) (w : World) :
    (results fn tmps).run P w = .ok (.tuple #[tmps.getD t undef, tmps.getD u undef, tmps.getD v undef, tmps.getD x undef]) w := by
  simp [results, h]
def headN (b : ByteArray) : Bool := decide (b.size = 18 ∧ b.data.toList.getD 0 0 = 66 ∧ b.data.toList.getD 9 0 ≠ 0)
def okN (b : ByteArray) : Bool := headN b && decide (rdN b 1 8 < 9223372036854775808 ∧ rdN b 10 8 < 9223372036854775808)
def spN (b : ByteArray) : Int := if headN b then wrap64 (rdN b 1 8 : Nat) else 0
def kdN (b : ByteArray) : Int := if headN b then ((b.data.toList.getD 9 0).toNat : Nat) else 0
def nmN (b : ByteArray) : Int := if headN b then wrap64 (rdN b 10 8 : Nat) else 0
/-- What named answers. -/
def namedV (b : ByteArray) : Value := .tuple #[.int .i64 (spN b), .int .i64 (kdN b), .int .i64 (nmN b), .bool (okN b)]
theorem named_no {b : ByteArray} (h : headN b = false) : namedV b = .tuple #[.int .i64 0, .int .i64 0, .int .i64 0, .bool false] := by
  unfold namedV spN kdN nmN okN
  rw [h]; rfl
theorem named_yes {b : ByteArray} (h : headN b = true) : namedV b = .tuple #[.int .i64 (wrap64 (rdN b 1 8 : Nat)), .int .i64 ((b.data.toList.getD 9 0).toNat : Nat), .int .i64 (wrap64 (rdN b 10 8 : Nat)), .bool (decide (rdN b 1 8 < 9223372036854775808 ∧ rdN b 10 8 < 9223372036854775808))] := by
  unfold namedV spN kdN nmN okN
  simp only [h, if_true, Bool.true_and]
theorem divz {m P : Nat} (hP : P ≠ 0) : ((m : Int) / (P : Int) = 0 ↔ m < P) := by
  rw [← Int.natCast_ediv, Int.natCast_eq_zero, Nat.div_eq_zero_iff]
  exact ⟨fun h => h.resolve_left hP, fun h => .inr h⟩
theorem ne63 : (9223372036854775808 : Nat) ≠ 0 := by decide
theorem shift63 {m : Nat} : ((m : Int) / 9223372036854775808 = 0 ↔ m < 9223372036854775808) := divz ne63
theorem head1 (b : ByteArray) (h : 0 < b.size) : (b.extract 0 1).data.toList = [b.data.toList.getD 0 0] := by
  rw [extract_list]
  have hl : 0 < b.data.toList.length := by rw [size_list]; exact h
  cases hb : b.data.toList with
  | nil => rw [hb] at hl; simp at hl
  | cons x r => simp
theorem byte9 (b : ByteArray) (h : 9 < b.size) : b[9] = b.data.toList.getD 9 0 := by
  rw [List.getD_eq_getElem?_getD, List.getElem?_eq_getElem (by rw [size_list]; exact h)]
  rfl
set_option maxRecDepth 100000 in
set_option maxHeartbeats 1000000 in
theorem named_calls (b : ByteArray) (hs : b.size < 9223372036854775807) (w : World) : Calls Tryz.prog 52 #[.string b] w fun e w' => e = .returned (namedV b) ∧ ∃ n, w.drewN n = w' := by
  by_cases h18 : b.size = 18
  · have hx := head1 b (by omega)
    have hb9 := byte9 b (by omega)
    have C1 : Hid (∀ w, Calls Tryz.prog 84 #[.string b, .int .i64 1] w fun e w' => e = .returned (.int .u64 (rdN b 1 8 : Nat)) ∧ w = w') := Lib.hid (fun w => big64_calls b 1 (by omega) hs w)
    have C2 : Hid (∀ w, Calls Tryz.prog 84 #[.string b, .int .i64 10] w fun e w' => e = .returned (.int .u64 (rdN b 10 8 : Nat)) ∧ w = w') := Lib.hid (fun w => big64_calls b 10 (by omega) hs w)
    obtain ⟨m1, hm1⟩ : ∃ m, rdN b 1 8 = m := ⟨_, rfl⟩
    obtain ⟨m2, hm2⟩ : ∃ m, rdN b 10 8 = m := ⟨_, rfl⟩
    have s1 := shift63 (m := m1)
    have s2 := shift63 (m := m2)
    by_cases h0 : b.data.toList.getD 0 0 = 66
    · by_cases h9 : b.data.toList.getD 9 0 = 0
      · have hz : headN b = false := decide_eq_false (fun h => h.2.2 h9)
        rw [named_no hz]
        have hq : (b.extract 0 1).toList = [66] := by rw [ByteArray.toList_eq, hx, h0]
        have hq9 : b[9] = 0 := by rw [hb9, h9]
        have h9i : (9 : Int) < b.size := by omega
        clear hz h0 h9 hx C1 C2 hm1 hm2 s1 s2 hb9
        go_enter Tryz.func52, Tryz.ntmps52
        go_wp2
        (try simp only [Exit.inBlock, Exit.then])
        refine bodyPost_ret (results_tmp4 rfl _ _ _) rfl ?_
        exact ⟨rfl, 0, rfl⟩
      · have hz : headN b = true := decide_eq_true ⟨h18, h0, h9⟩
        rw [named_yes hz]
        have hq : (b.extract 0 1).toList = [66] := by rw [ByteArray.toList_eq, hx, h0]
        have hq9 : (b[9].toNat : Int) ≠ 0 := by
          rw [hb9]
          intro e
          exact h9 (UInt8.toNat_inj.1 (by simpa using e))
        have hbq : ((b[9].toNat : Int) == 0) = false := by rw [beq_eq_false_iff_ne]; exact hq9
        rw [hm1] at C1
        rw [hm2] at C2
        rw [hm1, hm2]
        rw [← hb9]
        clear hz h0 h9 hx hm1 hm2 hb9
        go_enter Tryz.func52, Tryz.ntmps52
        go_wp2_with (first
          | (go_at_call 84; (with_reducible refine (C1.out _).mono ?_); rintro e w1 ⟨rfl, rfl⟩)
          | (go_at_call 84; (with_reducible refine (C2.out _).mono ?_); rintro e w1 ⟨rfl, rfl⟩))
        have S1 := Lib.hid s1
        have S2 := Lib.hid s2
        clear s1 s2
        obtain ⟨d1, hd1⟩ : ∃ d, ((m1 : Int) / 9223372036854775808) = d := ⟨_, rfl⟩
        obtain ⟨d2, hd2⟩ : ∃ d, ((m2 : Int) / 9223372036854775808) = d := ⟨_, rfl⟩
        have h9i : (9 : Int) < b.size := by omega
        rw [hd1] at S1
        rw [hd2] at S2
        have u9 : wrap64 (b[9].toNat : Int) = b[9].toNat := IntWalk.wrap64_in _ (by have := b[9].toNat_lt; omega)
        go_wp2_with fail
        by_cases z1 : d1 = 0
        · by_cases z2 : d2 = 0
          · go_quiet (fail)
            go_wp2
            (try simp only [Exit.inBlock, Exit.then])
            refine bodyPost_ret (results_tmp4 rfl _ _ _) rfl ?_
            rw [decide_eq_true ⟨S1.out.1 z1, S2.out.1 z2⟩]
            have u1 : wrap64 (m1 : Int) = m1 := IntWalk.wrap64_in _ (by have := S1.out.1 z1; omega)
            have u2 : wrap64 (m2 : Int) = m2 := IntWalk.wrap64_in _ (by have := S2.out.1 z2; omega)
            refine ⟨?_, _, rfl⟩
            simp [u9, u1, u2]
          · have hq2 : (d2 == 0) = false := by rw [beq_eq_false_iff_ne]; exact z2
            go_quiet (fail)
            go_wp2
            (try simp only [Exit.inBlock, Exit.then])
            refine bodyPost_ret (results_tmp4 rfl _ _ _) rfl ?_
            rw [decide_eq_false (fun h => z2 (S2.out.2 h.2))]
            have u1 : wrap64 (m1 : Int) = m1 := IntWalk.wrap64_in _ (by have := S1.out.1 z1; omega)
            refine ⟨?_, _, rfl⟩
            simp [u9, u1]
        · have hq1 : (d1 == 0) = false := by rw [beq_eq_false_iff_ne]; exact z1
          go_quiet (fail)
          go_wp2
          (try simp only [Exit.inBlock, Exit.then])
          refine bodyPost_ret (results_tmp4 rfl _ _ _) rfl ?_
          rw [decide_eq_false (fun h => z1 (S1.out.2 h.1))]
          refine ⟨?_, _, rfl⟩
          simp [u9]
    · have hz : headN b = false := decide_eq_false (fun h => h0 h.2.1)
      rw [named_no hz]
      have hq : ¬ (b.extract 0 1).toList = [66] := by rw [ByteArray.toList_eq, hx]; simpa using h0
      clear hz h0 hx C1 C2 hm1 hm2 s1 s2 hb9
      go_enter Tryz.func52, Tryz.ntmps52
      go_wp2
      (try simp only [Exit.inBlock, Exit.then])
      refine bodyPost_ret (results_tmp4 rfl _ _ _) rfl ?_
      exact ⟨rfl, 0, rfl⟩
  · rw [named_no (decide_eq_false (fun h => h18 h.1))]
    have hne : ((b.size : Int) != 18) = true := by rw [bne_iff_ne]; omega
    go_enter Tryz.func52, Tryz.ntmps52
    go_wp2
    (try simp only [Exit.inBlock, Exit.then])
    refine bodyPost_ret (results_tmp4 rfl _ _ _) rfl ?_
    exact ⟨rfl, 0, rfl⟩
end Go.Proofs.YtcicdgajhheipaaGreat

set_option linter.unusedVariables false
namespace Go.Proofs.YtcicdgajhheipaaGreat
theorem crcBit_xor (a b : Nat) : crcBit (a ^^^ b) = crcBit a ^^^ crcBit b := by
  have h2 : (a ^^^ b) / 2 = a / 2 ^^^ b / 2 := Nat.xor_div_two
  have hm : (a ^^^ b) % 2 = (a + b) % 2 := by
    have := Nat.xor_mod_two_pow (a := a) (b := b) (n := 1)
    rw [Nat.pow_one] at this
    rw [this]
    rcases Nat.mod_two_eq_zero_or_one a with ha | ha <;> rcases Nat.mod_two_eq_zero_or_one b with hb | hb <;> rw [ha, hb] <;> simp <;> omega
  unfold crcBit
  rw [hm, h2]
  rcases Nat.mod_two_eq_zero_or_one a with ha | ha <;> rcases Nat.mod_two_eq_zero_or_one b with hb | hb
  · rw [if_neg (by omega), if_neg (by omega), if_neg (by omega)]
  · rw [if_pos (by omega), if_neg (by omega), if_pos (by omega), Nat.xor_assoc]
  · rw [if_pos (by omega), if_pos (by omega), if_neg (by omega), Nat.xor_assoc, Nat.xor_assoc, Nat.xor_comm (b / 2)]
  · rw [if_neg (by omega), if_pos (by omega), if_pos (by omega), Nat.xor_assoc, Nat.xor_comm (b / 2), ← Nat.xor_assoc 3988292384, Nat.xor_self, Nat.zero_xor]
theorem crcBits_xor (n : Nat) : ∀ a b : Nat, crcBits n (a ^^^ b) = crcBits n a ^^^ crcBits n b := by
  induction n with
  | zero => intro a b; rfl
  | succ n ih => intro a b; rw [crcBits, crcBits, crcBits, ih, crcBit_xor]
theorem crcBits_zero (n : Nat) : crcBits n 0 = 0 := by
  induction n with
  | zero => rfl
  | succ n ih => rw [crcBits, ih]; rfl
theorem crcBits_pow (k b : Nat) : crcBits k (2 ^ k * b) = b := by
  induction k generalizing b with
  | zero => simp [crcBits]
  | succ k ih => rw [crcBits, Nat.pow_succ, Nat.mul_assoc, ih, crcBit, if_neg (by omega)]; omega
/-- Bits into the register. -/
def feed (s : Nat) (f : Nat → Bool) (o : Nat) : Nat → Nat
  | 0 => s
  | k+1 => crcBit (feed s f o k ^^^ (f (o + k)).toNat)
theorem mod_pow_xor (x k : Nat) : x % 2 ^ (k + 1) = x % 2 ^ k ^^^ 2 ^ k * (x.testBit k).toNat := by
  apply Nat.eq_of_testBit_eq
  intro i
  rw [Nat.testBit_xor, Nat.testBit_mod_two_pow, Nat.testBit_mod_two_pow, Nat.testBit_two_pow_mul]
  rcases Nat.lt_trichotomy i k with h | h | h
  · simp [h, show i < k + 1 by omega, show ¬ k ≤ i by omega]
  · subst h; cases x.testBit i <;> simp
  · have e : (x.testBit k).toNat.testBit (i - k) = false := by
      apply Nat.testBit_lt_two_pow
      have : 2 ^ 1 ≤ 2 ^ (i - k) := Nat.pow_le_pow_right (by omega) (by omega)
      have := Bool.toNat_le (x.testBit k)
      omega
    simp [show ¬ i < k by omega, show ¬ i < k + 1 by omega, e]
theorem feed_bits (s x o : Nat) (f : Nat → Bool) : ∀ k, (∀ j, j < k → f (o + j) = x.testBit j) → feed s f o k = crcBits k (s ^^^ (x % 2 ^ k))
  | 0, _ => by simp [feed, crcBits, Nat.mod_one]
  | k+1, h => by
    have ih := feed_bits s x o f k (fun j hj => h j (by omega))
    rw [feed, ih, h k (by omega), mod_pow_xor, ← Nat.xor_assoc, crcBits, crcBits_xor k (s ^^^ x % 2 ^ k), crcBits_pow]
theorem feed_add (s : Nat) (f : Nat → Bool) (o a : Nat) : ∀ b, feed s f o (a + b) = feed (feed s f o a) f (o + a) b
  | 0 => rfl
  | b+1 => by rw [← Nat.add_assoc, feed, feed, feed_add s f o a b, Nat.add_assoc]
theorem feed_xor (s t : Nat) (f g : Nat → Bool) (o : Nat) : ∀ k, feed (s ^^^ t) (fun i => f i ^^ g i) o k = feed s f o k ^^^ feed t g o k
  | 0 => rfl
  | k+1 => by
    rw [feed, feed, feed, feed_xor s t f g o k, ← crcBit_xor]
    congr 1
    have e : (f (o + k) ^^ g (o + k)).toNat = (f (o + k)).toNat ^^^ (g (o + k)).toNat := by cases f (o + k) <;> cases g (o + k) <;> rfl
    rw [e, Nat.xor_assoc, Nat.xor_assoc, ← Nat.xor_assoc (feed t g o k), Nat.xor_comm (feed t g o k) _, Nat.xor_assoc _ (feed t g o k)]
theorem feed_shift (s : Nat) (f : Nat → Bool) (o c : Nat) : ∀ k, feed s f (o + c) k = feed s (fun i => f (i + c)) o k
  | 0 => rfl
  | k+1 => by rw [feed, feed, feed_shift s f o c k, show o + c + k = o + k + c by omega]
theorem feed_congr (s : Nat) (f g : Nat → Bool) (o : Nat) : ∀ k, (∀ j, j < k → f (o + j) = g (o + j)) → feed s f o k = feed s g o k
  | 0, _ => rfl
  | k+1, h => by rw [feed, feed, feed_congr s f g o k (fun j hj => h j (by omega)), h k (by omega)]
/-- A bit of a text. -/
def bitAt (l : List UInt8) (p : Nat) : Bool := (l.getD (p / 8) 0).toNat.testBit (p % 8)
theorem crcIn_bits (v x : Nat) : crcIn v x = crcBits 8 (v ^^^ x) := by
  have hv : v = v % 256 ^^^ 2 ^ 8 * (v / 256) := by
    have := Nat.two_pow_add_eq_or_of_lt (i := 8) (b := v % 256) (by omega) (v / 256)
    apply Nat.eq_of_testBit_eq
    intro i
    rw [Nat.testBit_xor, Nat.testBit_two_pow_mul, show (256 : Nat) = 2 ^ 8 by decide, Nat.testBit_mod_two_pow, Nat.testBit_div_two_pow]
    by_cases h : i < 8
    · simp [h, show ¬ 8 ≤ i by omega]
    · simp [h, show 8 ≤ i by omega, show i - 8 + 8 = i by omega]
  have e : v ^^^ x = ((v % 256) ^^^ x) ^^^ 2 ^ 8 * (v / 256) := by
    rw [Nat.xor_assoc, Nat.xor_comm x, ← Nat.xor_assoc, ← hv]
  rw [e, crcBits_xor, crcBits_pow, Nat.xor_comm]; rfl
theorem crcRun_feed (l : List UInt8) : ∀ v, crcRun v l = feed v (bitAt l) 0 (8 * l.length) := by
  induction l with
  | nil => intro v; rfl
  | cons x t ih =>
    intro v
    have h1 : feed v (bitAt (x :: t)) 0 8 = crcIn v x.toNat := by
      rw [feed_bits v x.toNat 0 _ 8, crcIn_bits, Nat.mod_eq_of_lt (by have := x.toNat_lt; omega)]
      intro j hj
      rw [bitAt, show (0 + j) / 8 = 0 by omega, show (0 + j) % 8 = j by omega]; rfl
    show crcRun (crcIn v x.toNat) t = _
    rw [ih, List.length_cons, show 8 * (t.length + 1) = 8 + 8 * t.length by omega, feed_add, h1, feed_shift]
    apply feed_congr
    intro j hj
    rw [bitAt, bitAt, show (0 + j + 8) / 8 = (0 + j) / 8 + 1 by omega, show (0 + j + 8) % 8 = (0 + j) % 8 by omega]; rfl
theorem crcBit_ne (v : Nat) (h : v < 4294967296) (h0 : v ≠ 0) : crcBit v ≠ 0 := by
  unfold crcBit
  split
  · rename_i ho
    intro he
    have h2 : v / 2 = 3988292384 := by
      have := congrArg (fun x => x ^^^ 3988292384) he
      simpa [Nat.xor_assoc] using this
    omega
  · omega
theorem crcBits_ne (n v : Nat) (h : v < 4294967296) (h0 : v ≠ 0) : crcBits n v ≠ 0 := by
  induction n with
  | zero => exact h0
  | succ n ih => exact crcBit_ne _ (crcBits_lt n v h) ih
/-- Bits turned within 32 places are told by the sum. -/
theorem crc_burst (v a n m : Nat) (l l' : List UInt8) (hl : l'.length = l.length) (hn : n ≤ 32) (han : a + n ≤ 8 * l.length) (hm : m % 2 ^ n ≠ 0)
    (hb : ∀ p, p < 8 * l.length → bitAt l' p = (bitAt l p ^^ (decide (a ≤ p ∧ p < a + n) && m.testBit (p - a)))) : crcRun v l' ≠ crcRun v l := by
  rw [crcRun_feed, crcRun_feed, hl]
  have h1 : feed v (bitAt l') 0 (8 * l.length) = feed (v ^^^ 0) (fun i => bitAt l i ^^ (decide (a ≤ i ∧ i < a + n) && m.testBit (i - a))) 0 (8 * l.length) := by
    rw [Nat.xor_zero]
    apply feed_congr
    intro j hj
    rw [hb _ (by omega)]
  rw [h1, feed_xor]
  intro he
  have hz : feed 0 (fun i => (decide (a ≤ i ∧ i < a + n) && m.testBit (i - a))) 0 (8 * l.length) = 0 := by
    have := congrArg (fun x => feed v (bitAt l) 0 (8 * l.length) ^^^ x) he
    simpa [← Nat.xor_assoc] using this
  obtain ⟨r, hr⟩ : ∃ r, 8 * l.length = a + n + r := ⟨8 * l.length - (a + n), by omega⟩
  rw [hr, feed_add, feed_add] at hz
  rw [feed_bits 0 0 0 _ a (fun j hj => by simp [show ¬ a ≤ j by omega])] at hz
  rw [feed_bits _ m (0 + a) _ n (fun j hj => by simp [hj])] at hz
  rw [feed_bits _ 0 _ _ r (fun j hj => by simp; intro _ h; omega)] at hz
  simp only [Nat.zero_mod, Nat.xor_zero, Nat.zero_xor, crcBits_zero] at hz
  have h32 : m % 2 ^ n < 4294967296 := by
    have h1 := Nat.mod_lt m (show 0 < 2 ^ n from Nat.two_pow_pos n)
    have h2 : 2 ^ n ≤ 2 ^ 32 := Nat.pow_le_pow_right (by omega) hn
    omega
  exact crcBits_ne r _ (crcBits_lt n _ h32) (crcBits_ne n _ h32 hm) hz
end Go.Proofs.YtcicdgajhheipaaGreat
