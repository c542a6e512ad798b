import Derived.Test.YtegplajddhiejaaGreatMgLoneMake2
set_option linter.unusedVariables false
namespace Go.Proofs.YtegplajddhiejaaGreat
theorem crcBit_xor (a b : Nat) : crcBit (a ^^^ b) = crcBit a ^^^ crcBit b := by
  have h2 : (a ^^^ b) / 2 = a / 2 ^^^ b / 2 := Nat.xor_div_two
  have hm : (a ^^^ b) % 2 = (a + b) % 2 := by
    have := Nat.xor_mod_two_pow (a := a) (b := b) (n := 1)
    rw [Nat.pow_one] at this
    rw [this]
    rcases Nat.mod_two_eq_zero_or_one a with ha | ha <;> rcases Nat.mod_two_eq_zero_or_one b with hb | hb <;> rw [ha, hb] <;> simp <;> omega
  unfold crcBit
  rw [hm, h2]
  rcases Nat.mod_two_eq_zero_or_one a with ha | ha <;> rcases Nat.mod_two_eq_zero_or_one b with hb | hb
  · rw [if_neg (by omega), if_neg (by omega), if_neg (by omega)]
  · rw [if_pos (by omega), if_neg (by omega), if_pos (by omega), Nat.xor_assoc]
  · rw [if_pos (by omega), if_pos (by omega), if_neg (by omega), Nat.xor_assoc, Nat.xor_assoc, Nat.xor_comm (b / 2)]
  · rw [if_neg (by omega), if_pos (by omega), if_pos (by omega), Nat.xor_assoc, Nat.xor_comm (b / 2), ← Nat.xor_assoc 3988292384, Nat.xor_self, Nat.zero_xor]
theorem crcBits_xor (n : Nat) : ∀ a b : Nat, crcBits n (a ^^^ b) = crcBits n a ^^^ crcBits n b := by
  induction n with
  | zero => intro a b; rfl
  | succ n ih => intro a b; rw [crcBits, crcBits, crcBits, ih, crcBit_xor]
theorem crcBits_zero (n : Nat) : crcBits n 0 = 0 := by
  induction n with
  | zero => rfl
  | succ n ih => rw [crcBits, ih]; rfl
theorem crcBits_pow (k b : Nat) : crcBits k (2 ^ k * b) = b := by
  induction k generalizing b with
  | zero => simp [crcBits]
  | succ k ih => rw [crcBits, Nat.pow_succ, Nat.mul_assoc, ih, crcBit, if_neg (by omega)]; omega
/-- Bits into the register. -/
def feed (s : Nat) (f : Nat → Bool) (o : Nat) : Nat → Nat
  | 0 => s
  | k+1 => crcBit (feed s f o k ^^^ (f (o + k)).toNat)
theorem mod_pow_xor (x k : Nat) : x % 2 ^ (k + 1) = x % 2 ^ k ^^^ 2 ^ k * (x.testBit k).toNat := by
  apply Nat.eq_of_testBit_eq
  intro i
  rw [Nat.testBit_xor, Nat.testBit_mod_two_pow, Nat.testBit_mod_two_pow, Nat.testBit_two_pow_mul]
  rcases Nat.lt_trichotomy i k with h | h | h
  · simp [h, show i < k + 1 by omega, show ¬ k ≤ i by omega]
  · subst h; cases x.testBit i <;> simp
  · have e : (x.testBit k).toNat.testBit (i - k) = false := by
      apply Nat.testBit_lt_two_pow
      have : 2 ^ 1 ≤ 2 ^ (i - k) := Nat.pow_le_pow_right (by omega) (by omega)
      have := Bool.toNat_le (x.testBit k)
      omega
    simp [show ¬ i < k by omega, show ¬ i < k + 1 by omega, e]
theorem feed_bits (s x o : Nat) (f : Nat → Bool) : ∀ k, (∀ j, j < k → f (o + j) = x.testBit j) → feed s f o k = crcBits k (s ^^^ (x % 2 ^ k))
  | 0, _ => by simp [feed, crcBits, Nat.mod_one]
  | k+1, h => by
    have ih := feed_bits s x o f k (fun j hj => h j (by omega))
    rw [feed, ih, h k (by omega), mod_pow_xor, ← Nat.xor_assoc, crcBits, crcBits_xor k (s ^^^ x % 2 ^ k), crcBits_pow]
theorem feed_add (s : Nat) (f : Nat → Bool) (o a : Nat) : ∀ b, feed s f o (a + b) = feed (feed s f o a) f (o + a) b
  | 0 => rfl
  | b+1 => by rw [← Nat.add_assoc, feed, feed, feed_add s f o a b, Nat.add_assoc]
theorem feed_xor (s t : Nat) (f g : Nat → Bool) (o : Nat) : ∀ k, feed (s ^^^ t) (fun i => f i ^^ g i) o k = feed s f o k ^^^ feed t g o k
  | 0 => rfl
  | k+1 => by
    rw [feed, feed, feed, feed_xor s t f g o k, ← crcBit_xor]
    congr 1
    have e : (f (o + k) ^^ g (o + k)).toNat = (f (o + k)).toNat ^^^ (g (o + k)).toNat := by cases f (o + k) <;> cases g (o + k) <;> rfl
    rw [e, Nat.xor_assoc, Nat.xor_assoc, ← Nat.xor_assoc (feed t g o k), Nat.xor_comm (feed t g o k) _, Nat.xor_assoc _ (feed t g o k)]
theorem feed_shift (s : Nat) (f : Nat → Bool) (o c : Nat) : ∀ k, feed s f (o + c) k = feed s (fun i => f (i + c)) o k
  | 0 => rfl
  | k+1 => by rw [feed, feed, feed_shift s f o c k, show o + c + k = o + k + c by omega]
theorem feed_congr (s : Nat) (f g : Nat → Bool) (o : Nat) : ∀ k, (∀ j, j < k → f (o + j) = g (o + j)) → feed s f o k = feed s g o k
  | 0, _ => rfl
  | k+1, h => by rw [feed, feed, feed_congr s f g o k (fun j hj => h j (by omega)), h k (by omega)]
/-- A bit of a text. -/
def bitAt (l : List UInt8) (p : Nat) : Bool := (l.getD (p / 8) 0).toNat.testBit (p % 8)
theorem crcIn_bits (v x : Nat) : crcIn v x = crcBits 8 (v ^^^ x) := by
  have hv : v = v % 256 ^^^ 2 ^ 8 * (v / 256) := by
    have := Nat.two_pow_add_eq_or_of_lt (i := 8) (b := v % 256) (by omega) (v / 256)
    apply Nat.eq_of_testBit_eq
    intro i
    rw [Nat.testBit_xor, Nat.testBit_two_pow_mul, show (256 : Nat) = 2 ^ 8 by decide, Nat.testBit_mod_two_pow, Nat.testBit_div_two_pow]
    by_cases h : i < 8
    · simp [h, show ¬ 8 ≤ i by omega]
    · simp [h, show 8 ≤ i by omega, show i - 8 + 8 = i by omega]
  have e : v ^^^ x = ((v % 256) ^^^ x) ^^^ 2 ^ 8 * (v / 256) := by
    rw [Nat.xor_assoc, Nat.xor_comm x, ← Nat.xor_assoc, ← hv]
  rw [e, crcBits_xor, crcBits_pow, Nat.xor_comm]; rfl
theorem crcRun_feed (l : List UInt8) : ∀ v, crcRun v l = feed v (bitAt l) 0 (8 * l.length) := by
  induction l with
  | nil => intro v; rfl
  | cons x t ih =>
    intro v
    have h1 : feed v (bitAt (x :: t)) 0 8 = crcIn v x.toNat := by
      rw [feed_bits v x.toNat 0 _ 8, crcIn_bits, Nat.mod_eq_of_lt (by have := x.toNat_lt; omega)]
      intro j hj
      rw [bitAt, show (0 + j) / 8 = 0 by omega, show (0 + j) % 8 = j by omega]; rfl
    show crcRun (crcIn v x.toNat) t = _
    rw [ih, List.length_cons, show 8 * (t.length + 1) = 8 + 8 * t.length by omega, feed_add, h1, feed_shift]
    apply feed_congr
    intro j hj
    rw [bitAt, bitAt, show (0 + j + 8) / 8 = (0 + j) / 8 + 1 by omega, show (0 + j + 8) % 8 = (0 + j) % 8 by omega]; rfl
theorem crcBit_ne (v : Nat) (h : v < 4294967296) (h0 : v ≠ 0) : crcBit v ≠ 0 := by
  unfold crcBit
  split
  · rename_i ho
    intro he
    have h2 : v / 2 = 3988292384 := by
      have := congrArg (fun x => x ^^^ 3988292384) he
      simpa [Nat.xor_assoc] using this
    omega
  · omega
theorem crcBits_ne (n v : Nat) (h : v < 4294967296) (h0 : v ≠ 0) : crcBits n v ≠ 0 := by
  induction n with
  | zero => exact h0
  | succ n ih => exact crcBit_ne _ (crcBits_lt n v h) ih
/-- Bits turned within 32 places are told by the sum. -/
theorem crc_burst (v a n m : Nat) (l l' : List UInt8) (hl : l'.length = l.length) (hn : n ≤ 32) (han : a + n ≤ 8 * l.length) (hm : m % 2 ^ n ≠ 0)
    (hb : ∀ p, p < 8 * l.length → bitAt l' p = (bitAt l p ^^ (decide (a ≤ p ∧ p < a + n) && m.testBit (p - a)))) : crcRun v l' ≠ crcRun v l := by
  rw [crcRun_feed, crcRun_feed, hl]
  have h1 : feed v (bitAt l') 0 (8 * l.length) = feed (v ^^^ 0) (fun i => bitAt l i ^^ (decide (a ≤ i ∧ i < a + n) && m.testBit (i - a))) 0 (8 * l.length) := by
    rw [Nat.xor_zero]
    apply feed_congr
    intro j hj
    rw [hb _ (by omega)]
  rw [h1, feed_xor]
  intro he
  have hz : feed 0 (fun i => (decide (a ≤ i ∧ i < a + n) && m.testBit (i - a))) 0 (8 * l.length) = 0 := by
    have := congrArg (fun x => feed v (bitAt l) 0 (8 * l.length) ^^^ x) he
    simpa [← Nat.xor_assoc] using this
  obtain ⟨r, hr⟩ : ∃ r, 8 * l.length = a + n + r := ⟨8 * l.length - (a + n), by omega⟩
  rw [hr, feed_add, feed_add] at hz
  rw [feed_bits 0 0 0 _ a (fun j hj => by simp [show ¬ a ≤ j by omega])] at hz
  rw [feed_bits _ m (0 + a) _ n (fun j hj => by simp [hj])] at hz
  rw [feed_bits _ 0 _ _ r (fun j hj => by simp; intro _ h; omega)] at hz
  simp only [Nat.zero_mod, Nat.xor_zero, Nat.zero_xor, crcBits_zero] at hz
  have h32 : m % 2 ^ n < 4294967296 := by
    have h1 := Nat.mod_lt m (show 0 < 2 ^ n from Nat.two_pow_pos n)
    have h2 : 2 ^ n ≤ 2 ^ 32 := Nat.pow_le_pow_right (by omega) hn
    omega
  exact crcBits_ne r _ (crcBits_lt n _ h32) (crcBits_ne n _ h32 hm) hz
end Go.Proofs.YtegplajddhiejaaGreat
