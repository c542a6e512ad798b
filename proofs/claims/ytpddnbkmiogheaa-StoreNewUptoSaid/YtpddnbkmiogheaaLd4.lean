import Derived.Test.YtpddnbkmiogheaaLd3
set_option linter.unusedVariables false
namespace Go.Proofs.Ytpddnbkmiogheaa
open Go.RowKit Go.WideMaps Go.Maps Go.MapKept
theorem below_drewQ {B : Nat} {a w : World} (h : Below B a w) (n : Nat) : Below B a (w.drewN n) := ⟨h.os, h.tape, h.output, h.size, h.block⟩
section
variable {w : World} {va vb : Value} {B1 B2 : Nat}
theorem intNe {a b : Int} (h : a ≠ b) : (a == b) = false := by simpa using h
set_option maxRecDepth 100000 in
set_option maxHeartbeats 2000000 in
theorem lsame_0 (t1 t2 : ByteArray) (n1 n2 : List ByteArray) (e1 a1 b1 c1 g1 e2 a2 b2 c2 g2 : Int) (d1 d2 : Bool) (hne : t1 ≠ t2) (ha : Row w B1 1 va n1.length (strV n1)) (hb : Row w B2 1 vb n2.length (strV n2)) (hl1 : n1.length ≤ 4194304) (hl2 : n2.length ≤ 4194304) :
    Calls Try.prog 32 #[gotV ⟨t1, n1, e1, a1, b1, c1, d1, g1⟩ va, gotV ⟨t2, n2, e2, a2, b2, c2, d2, g2⟩ vb] w fun e w' => e = .returned (.bool false) ∧ Below w.heap.size w w' := by
  have hq := textNe hne
  have CN := Lib.hid (fun (o1 o2 : Obj) => lnames_calls n1 n2 va vb B1 B2 ((w.alloc o1).alloc o2) ((ha.alloc _).alloc _) ((hb.alloc _).alloc _) hl1 hl2)
  obtain ⟨p1, k1, rfl⟩ := ha.slice
  obtain ⟨p2, k2, rfl⟩ := hb.slice
  clear ha hb
  obtain ⟨q, hq0⟩ : ∃ q, decide (n1 = n2) = q := ⟨_, rfl⟩
  simp only [hq0] at CN ⊢
  clear hq0
  unfold gotV gotA
  go_enter Try.func32, Try.ntmps32
  go_wp2_with (go_at_call 26; (with_reducible refine (CN.out _ _).mono ?_); rintro e w2 ⟨rfl, nq, rfl⟩)
  go_ret
  exact ⟨rfl, below_drewQ (((Below.refl _ _).alloc (Nat.le_refl _) _).alloc (by simp) _) _⟩
set_option maxRecDepth 100000 in
set_option maxHeartbeats 2000000 in
theorem lsame_1 (t1 : ByteArray) (n1 n2 : List ByteArray) (e1 a1 b1 c1 g1 e2 a2 b2 c2 g2 : Int) (d1 d2 : Bool) (hne : e1 ≠ e2) (ha : Row w B1 1 va n1.length (strV n1)) (hb : Row w B2 1 vb n2.length (strV n2)) (hl1 : n1.length ≤ 4194304) (hl2 : n2.length ≤ 4194304) :
    Calls Try.prog 32 #[gotV ⟨t1, n1, e1, a1, b1, c1, d1, g1⟩ va, gotV ⟨t1, n2, e2, a2, b2, c2, d2, g2⟩ vb] w fun e w' => e = .returned (.bool false) ∧ Below w.heap.size w w' := by
  have hq := intNe hne
  have CN := Lib.hid (fun (o1 o2 : Obj) => lnames_calls n1 n2 va vb B1 B2 ((w.alloc o1).alloc o2) ((ha.alloc _).alloc _) ((hb.alloc _).alloc _) hl1 hl2)
  obtain ⟨p1, k1, rfl⟩ := ha.slice
  obtain ⟨p2, k2, rfl⟩ := hb.slice
  clear ha hb
  obtain ⟨q, hq0⟩ : ∃ q, decide (n1 = n2) = q := ⟨_, rfl⟩
  simp only [hq0] at CN ⊢
  clear hq0
  unfold gotV gotA
  go_enter Try.func32, Try.ntmps32
  go_wp2_with (go_at_call 26; (with_reducible refine (CN.out _ _).mono ?_); rintro e w2 ⟨rfl, nq, rfl⟩)
  go_ret
  exact ⟨rfl, below_drewQ (((Below.refl _ _).alloc (Nat.le_refl _) _).alloc (by simp) _) _⟩
set_option maxRecDepth 100000 in
set_option maxHeartbeats 2000000 in
theorem lsame_2 (t1 : ByteArray) (n1 n2 : List ByteArray) (e1 a1 b1 c1 g1 a2 b2 c2 g2 : Int) (d1 d2 : Bool) (hne : a1 ≠ a2) (ha : Row w B1 1 va n1.length (strV n1)) (hb : Row w B2 1 vb n2.length (strV n2)) (hl1 : n1.length ≤ 4194304) (hl2 : n2.length ≤ 4194304) :
    Calls Try.prog 32 #[gotV ⟨t1, n1, e1, a1, b1, c1, d1, g1⟩ va, gotV ⟨t1, n2, e1, a2, b2, c2, d2, g2⟩ vb] w fun e w' => e = .returned (.bool false) ∧ Below w.heap.size w w' := by
  have hq := intNe hne
  have CN := Lib.hid (fun (o1 o2 : Obj) => lnames_calls n1 n2 va vb B1 B2 ((w.alloc o1).alloc o2) ((ha.alloc _).alloc _) ((hb.alloc _).alloc _) hl1 hl2)
  obtain ⟨p1, k1, rfl⟩ := ha.slice
  obtain ⟨p2, k2, rfl⟩ := hb.slice
  clear ha hb
  obtain ⟨q, hq0⟩ : ∃ q, decide (n1 = n2) = q := ⟨_, rfl⟩
  simp only [hq0] at CN ⊢
  clear hq0
  unfold gotV gotA
  go_enter Try.func32, Try.ntmps32
  go_wp2_with (go_at_call 26; (with_reducible refine (CN.out _ _).mono ?_); rintro e w2 ⟨rfl, nq, rfl⟩)
  go_ret
  exact ⟨rfl, below_drewQ (((Below.refl _ _).alloc (Nat.le_refl _) _).alloc (by simp) _) _⟩
set_option maxRecDepth 100000 in
set_option maxHeartbeats 2000000 in
theorem lsame_3 (t1 : ByteArray) (n1 n2 : List ByteArray) (e1 a1 b1 c1 g1 b2 c2 g2 : Int) (d1 d2 : Bool) (hne : b1 ≠ b2) (ha : Row w B1 1 va n1.length (strV n1)) (hb : Row w B2 1 vb n2.length (strV n2)) (hl1 : n1.length ≤ 4194304) (hl2 : n2.length ≤ 4194304) :
    Calls Try.prog 32 #[gotV ⟨t1, n1, e1, a1, b1, c1, d1, g1⟩ va, gotV ⟨t1, n2, e1, a1, b2, c2, d2, g2⟩ vb] w fun e w' => e = .returned (.bool false) ∧ Below w.heap.size w w' := by
  have hq := intNe hne
  have CN := Lib.hid (fun (o1 o2 : Obj) => lnames_calls n1 n2 va vb B1 B2 ((w.alloc o1).alloc o2) ((ha.alloc _).alloc _) ((hb.alloc _).alloc _) hl1 hl2)
  obtain ⟨p1, k1, rfl⟩ := ha.slice
  obtain ⟨p2, k2, rfl⟩ := hb.slice
  clear ha hb
  obtain ⟨q, hq0⟩ : ∃ q, decide (n1 = n2) = q := ⟨_, rfl⟩
  simp only [hq0] at CN ⊢
  clear hq0
  unfold gotV gotA
  go_enter Try.func32, Try.ntmps32
  go_wp2_with (go_at_call 26; (with_reducible refine (CN.out _ _).mono ?_); rintro e w2 ⟨rfl, nq, rfl⟩)
  go_ret
  exact ⟨rfl, below_drewQ (((Below.refl _ _).alloc (Nat.le_refl _) _).alloc (by simp) _) _⟩
set_option maxRecDepth 100000 in
set_option maxHeartbeats 2000000 in
theorem lsame_4 (t1 : ByteArray) (n1 n2 : List ByteArray) (e1 a1 b1 c1 g1 c2 g2 : Int) (d1 d2 : Bool) (hne : c1 ≠ c2) (ha : Row w B1 1 va n1.length (strV n1)) (hb : Row w B2 1 vb n2.length (strV n2)) (hl1 : n1.length ≤ 4194304) (hl2 : n2.length ≤ 4194304) :
    Calls Try.prog 32 #[gotV ⟨t1, n1, e1, a1, b1, c1, d1, g1⟩ va, gotV ⟨t1, n2, e1, a1, b1, c2, d2, g2⟩ vb] w fun e w' => e = .returned (.bool false) ∧ Below w.heap.size w w' := by
  have hq := intNe hne
  have CN := Lib.hid (fun (o1 o2 : Obj) => lnames_calls n1 n2 va vb B1 B2 ((w.alloc o1).alloc o2) ((ha.alloc _).alloc _) ((hb.alloc _).alloc _) hl1 hl2)
  obtain ⟨p1, k1, rfl⟩ := ha.slice
  obtain ⟨p2, k2, rfl⟩ := hb.slice
  clear ha hb
  obtain ⟨q, hq0⟩ : ∃ q, decide (n1 = n2) = q := ⟨_, rfl⟩
  simp only [hq0] at CN ⊢
  clear hq0
  unfold gotV gotA
  go_enter Try.func32, Try.ntmps32
  go_wp2_with (go_at_call 26; (with_reducible refine (CN.out _ _).mono ?_); rintro e w2 ⟨rfl, nq, rfl⟩)
  go_ret
  exact ⟨rfl, below_drewQ (((Below.refl _ _).alloc (Nat.le_refl _) _).alloc (by simp) _) _⟩
set_option maxRecDepth 100000 in
set_option maxHeartbeats 2000000 in
theorem lsame_5 (t1 : ByteArray) (n1 n2 : List ByteArray) (e1 a1 b1 c1 g1 g2 : Int) (d1 d2 : Bool) (hne : d1 ≠ d2) (ha : Row w B1 1 va n1.length (strV n1)) (hb : Row w B2 1 vb n2.length (strV n2)) (hl1 : n1.length ≤ 4194304) (hl2 : n2.length ≤ 4194304) :
    Calls Try.prog 32 #[gotV ⟨t1, n1, e1, a1, b1, c1, d1, g1⟩ va, gotV ⟨t1, n2, e1, a1, b1, c1, d2, g2⟩ vb] w fun e w' => e = .returned (.bool false) ∧ Below w.heap.size w w' := by
  have hq : (d1 == d2) = false := by cases d1 <;> cases d2 <;> simp_all
  have CN := Lib.hid (fun (o1 o2 : Obj) => lnames_calls n1 n2 va vb B1 B2 ((w.alloc o1).alloc o2) ((ha.alloc _).alloc _) ((hb.alloc _).alloc _) hl1 hl2)
  obtain ⟨p1, k1, rfl⟩ := ha.slice
  obtain ⟨p2, k2, rfl⟩ := hb.slice
  clear ha hb
  obtain ⟨q, hq0⟩ : ∃ q, decide (n1 = n2) = q := ⟨_, rfl⟩
  simp only [hq0] at CN ⊢
  clear hq0
  unfold gotV gotA
  go_enter Try.func32, Try.ntmps32
  go_wp2_with (go_at_call 26; (with_reducible refine (CN.out _ _).mono ?_); rintro e w2 ⟨rfl, nq, rfl⟩)
  go_ret
  exact ⟨rfl, below_drewQ (((Below.refl _ _).alloc (Nat.le_refl _) _).alloc (by simp) _) _⟩
set_option maxRecDepth 100000 in
set_option maxHeartbeats 2000000 in
theorem lsame_6 (t1 : ByteArray) (n1 n2 : List ByteArray) (e1 a1 b1 c1 g1 g2 : Int) (d1 : Bool) (hne : g1 ≠ g2) (ha : Row w B1 1 va n1.length (strV n1)) (hb : Row w B2 1 vb n2.length (strV n2)) (hl1 : n1.length ≤ 4194304) (hl2 : n2.length ≤ 4194304) :
    Calls Try.prog 32 #[gotV ⟨t1, n1, e1, a1, b1, c1, d1, g1⟩ va, gotV ⟨t1, n2, e1, a1, b1, c1, d1, g2⟩ vb] w fun e w' => e = .returned (.bool false) ∧ Below w.heap.size w w' := by
  have hq := intNe hne
  have CN := Lib.hid (fun (o1 o2 : Obj) => lnames_calls n1 n2 va vb B1 B2 ((w.alloc o1).alloc o2) ((ha.alloc _).alloc _) ((hb.alloc _).alloc _) hl1 hl2)
  obtain ⟨p1, k1, rfl⟩ := ha.slice
  obtain ⟨p2, k2, rfl⟩ := hb.slice
  clear ha hb
  obtain ⟨q, hq0⟩ : ∃ q, decide (n1 = n2) = q := ⟨_, rfl⟩
  simp only [hq0] at CN ⊢
  clear hq0
  unfold gotV gotA
  go_enter Try.func32, Try.ntmps32
  go_wp2_with (go_at_call 26; (with_reducible refine (CN.out _ _).mono ?_); rintro e w2 ⟨rfl, nq, rfl⟩)
  go_ret
  exact ⟨rfl, below_drewQ (((Below.refl _ _).alloc (Nat.le_refl _) _).alloc (by simp) _) _⟩
set_option maxRecDepth 100000 in
set_option maxHeartbeats 2000000 in
theorem lsame_7 (t1 : ByteArray) (n1 n2 : List ByteArray) (e1 a1 b1 c1 g1 : Int) (d1 : Bool) (ha : Row w B1 1 va n1.length (strV n1)) (hb : Row w B2 1 vb n2.length (strV n2)) (hl1 : n1.length ≤ 4194304) (hl2 : n2.length ≤ 4194304) :
    Calls Try.prog 32 #[gotV ⟨t1, n1, e1, a1, b1, c1, d1, g1⟩ va, gotV ⟨t1, n2, e1, a1, b1, c1, d1, g1⟩ vb] w fun e w' => e = .returned (.bool (decide (n1 = n2))) ∧ Below w.heap.size w w' := by
  have CN := Lib.hid (fun (o1 o2 : Obj) => lnames_calls n1 n2 va vb B1 B2 ((w.alloc o1).alloc o2) ((ha.alloc _).alloc _) ((hb.alloc _).alloc _) hl1 hl2)
  obtain ⟨p1, k1, rfl⟩ := ha.slice
  obtain ⟨p2, k2, rfl⟩ := hb.slice
  clear ha hb
  obtain ⟨q, hq0⟩ : ∃ q, decide (n1 = n2) = q := ⟨_, rfl⟩
  simp only [hq0] at CN ⊢
  clear hq0
  unfold gotV gotA
  go_enter Try.func32, Try.ntmps32
  go_wp2_with (go_at_call 26; (with_reducible refine (CN.out _ _).mono ?_); rintro e w2 ⟨rfl, nq, rfl⟩)
  go_ret
  exact ⟨rfl, below_drewQ (((Below.refl _ _).alloc (Nat.le_refl _) _).alloc (by simp) _) _⟩
end
theorem lsame_calls (a b : GotZ) (w : World) (va vb : Value) (B1 B2 : Nat) (ha : Row w B1 1 va a.names.length (strV a.names)) (hb : Row w B2 1 vb b.names.length (strV b.names)) (hl1 : a.names.length ≤ 4194304) (hl2 : b.names.length ≤ 4194304) :
    Calls Try.prog 32 #[gotV a va, gotV b vb] w fun e w' => e = .returned (.bool (decide (a = b))) ∧ Below w.heap.size w w' := by
  obtain ⟨t1, n1, e1, a1, b1, c1, d1, g1⟩ := a
  obtain ⟨t2, n2, e2, a2, b2, c2, d2, g2⟩ := b
  by_cases h0 : t1 = t2
  case neg => 
    have hd : decide ((⟨t1, n1, e1, a1, b1, c1, d1, g1⟩ : GotZ) = ⟨t2, n2, e2, a2, b2, c2, d2, g2⟩) = false := decide_eq_false (fun e => h0 (congrArg GotZ.text e))
    rw [hd]
    exact lsame_0 t1 t2 n1 n2 e1 a1 b1 c1 g1 e2 a2 b2 c2 g2 d1 d2 h0 ha hb hl1 hl2
  by_cases h1 : e1 = e2
  case neg => 
    have hd : decide ((⟨t1, n1, e1, a1, b1, c1, d1, g1⟩ : GotZ) = ⟨t2, n2, e2, a2, b2, c2, d2, g2⟩) = false := decide_eq_false (fun e => h1 (congrArg GotZ.e e))
    rw [hd]
    subst h0
    exact lsame_1 t1 n1 n2 e1 a1 b1 c1 g1 e2 a2 b2 c2 g2 d1 d2 h1 ha hb hl1 hl2
  by_cases h2 : a1 = a2
  case neg => 
    have hd : decide ((⟨t1, n1, e1, a1, b1, c1, d1, g1⟩ : GotZ) = ⟨t2, n2, e2, a2, b2, c2, d2, g2⟩) = false := decide_eq_false (fun e => h2 (congrArg GotZ.a e))
    rw [hd]
    subst h0 h1
    exact lsame_2 t1 n1 n2 e1 a1 b1 c1 g1 a2 b2 c2 g2 d1 d2 h2 ha hb hl1 hl2
  by_cases h3 : b1 = b2
  case neg => 
    have hd : decide ((⟨t1, n1, e1, a1, b1, c1, d1, g1⟩ : GotZ) = ⟨t2, n2, e2, a2, b2, c2, d2, g2⟩) = false := decide_eq_false (fun e => h3 (congrArg GotZ.b e))
    rw [hd]
    subst h0 h1 h2
    exact lsame_3 t1 n1 n2 e1 a1 b1 c1 g1 b2 c2 g2 d1 d2 h3 ha hb hl1 hl2
  by_cases h4 : c1 = c2
  case neg => 
    have hd : decide ((⟨t1, n1, e1, a1, b1, c1, d1, g1⟩ : GotZ) = ⟨t2, n2, e2, a2, b2, c2, d2, g2⟩) = false := decide_eq_false (fun e => h4 (congrArg GotZ.c e))
    rw [hd]
    subst h0 h1 h2 h3
    exact lsame_4 t1 n1 n2 e1 a1 b1 c1 g1 c2 g2 d1 d2 h4 ha hb hl1 hl2
  by_cases h5 : d1 = d2
  case neg => 
    have hd : decide ((⟨t1, n1, e1, a1, b1, c1, d1, g1⟩ : GotZ) = ⟨t2, n2, e2, a2, b2, c2, d2, g2⟩) = false := decide_eq_false (fun e => h5 (congrArg GotZ.d e))
    rw [hd]
    subst h0 h1 h2 h3 h4
    exact lsame_5 t1 n1 n2 e1 a1 b1 c1 g1 g2 d1 d2 h5 ha hb hl1 hl2
  by_cases h6 : g1 = g2
  case neg => 
    have hd : decide ((⟨t1, n1, e1, a1, b1, c1, d1, g1⟩ : GotZ) = ⟨t2, n2, e2, a2, b2, c2, d2, g2⟩) = false := decide_eq_false (fun e => h6 (congrArg GotZ.g e))
    rw [hd]
    subst h0 h1 h2 h3 h4 h5
    exact lsame_6 t1 n1 n2 e1 a1 b1 c1 g1 g2 d1 h6 ha hb hl1 hl2
  subst h0 h1 h2 h3 h4 h5 h6
  have hd : decide ((⟨t1, n1, e1, a1, b1, c1, d1, g1⟩ : GotZ) = ⟨t1, n2, e1, a1, b1, c1, d1, g1⟩) = decide (n1 = n2) := by simp
  rw [hd]
  exact lsame_7 t1 n1 n2 e1 a1 b1 c1 g1 d1 ha hb hl1 hl2
end Go.Proofs.Ytpddnbkmiogheaa
