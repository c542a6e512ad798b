import Derived.Test.YtpgflnjpohmldaaSamples6
import Derived.Test.YtpgflnjpohmldaaSamples5
import Derived.Test.YtpgflnjpohmldaaSamples3
set_option linter.unusedVariables false
namespace Go.Proofs.Ytpgflnjpohmldaa
open Go.RowKit
/-- Where the law stands: the twin holds these ints, all that was there at the call is as it was. -/
def St (w wc : World) (g cap n : Nat) (l0 : List Int) : Prop :=
  l0.length = n ∧ TwinAt wc w.heap.size g cap l0 ∧ Below w.heap.size w wc ∧ ∀ x ∈ l0, -9223372036854775808 ≤ x ∧ x ≤ 9223372036854775807
theorem St.step {w wc w' : World} {g cap n : Nat} {l0 : List Int} (h : St w wc g cap n l0) (hb : Below wc.heap.size wc w') : St w w' g cap n l0 := ⟨h.1, h.2.1.keep hb, belowThen h.2.2.1 hb, h.2.2.2⟩
theorem St.ints {w wc : World} {g cap n : Nat} {l0 : List Int} (h : St w wc g cap n l0) : IntsIn wc (.slice (some ⟨g, 0, none⟩) n cap) l0 := by
  have := h.2.1.ints h.2.2.2; rwa [h.1] at this
theorem rank_form (l : List Int) (num den : Int) : ∃ x y, rankZ l num den = .tuple #[.int .i64 x, .int .i64 y] := by
  rw [rankZ]; split
  · exact ⟨_, _, rfl⟩
  · split <;> exact ⟨_, _, rfl⟩
theorem mean_any {w wc : World} {g cap n : Nat} {l0 : List Int} (h : St w wc g cap n l0) (hn : n ≤ 1048576) :
    Calls Try.prog 28 #[.slice (some ⟨g, 0, none⟩) n cap] wc fun e w' => ∃ r, e = .returned r ∧ St w w' g cap n l0 :=
  (mean_calls _ l0 wc h.ints (by rw [h.1]; exact hn)).mono fun e w' h' => ⟨_, h'.1, h.step h'.2⟩
theorem var_any {w wc : World} {g cap n : Nat} {l0 : List Int} (h : St w wc g cap n l0) (hn : n ≤ 1048576) :
    Calls Try.prog 31 #[.slice (some ⟨g, 0, none⟩) n cap] wc fun e w' => ∃ r, e = .returned r ∧ St w w' g cap n l0 :=
  (variance_calls _ l0 wc h.ints (by rw [h.1]; exact hn)).mono fun e w' h' => ⟨_, h'.1, h.step h'.2⟩
theorem rank_any {w wc : World} {g cap n : Nat} {l0 : List Int} (num den : Int) (h : St w wc g cap n l0) (hn : n ≤ 1048576) :
    Calls Try.prog 26 #[.slice (some ⟨g, 0, none⟩) n cap, .int .i64 num, .int .i64 den] wc fun e w' => ∃ r, e = .returned r ∧ St w w' g cap n l0 :=
  (rankAll_calls _ l0 num den wc h.ints (by rw [h.1]; exact hn)).mono fun e w' h' => ⟨_, h'.1, h.step h'.2⟩
theorem mean_st {w wc : World} {g cap n : Nat} {l : List Int} {x y : Int} (hm : meanZ l = .tuple #[.int .u64 x, .int .i64 y]) (h : St w wc g cap n l) (hn : n ≤ 1048576) :
    Calls Try.prog 28 #[.slice (some ⟨g, 0, none⟩) n cap] wc fun e w' => e = .returned (.tuple #[.int .u64 x, .int .i64 y]) ∧ St w w' g cap n l :=
  (mean_calls _ l wc h.ints (by rw [h.1]; exact hn)).mono fun e w' h' => ⟨by rw [← hm]; exact h'.1, h.step h'.2⟩
theorem var_st {w wc : World} {g cap n : Nat} {l : List Int} {x y : Int} (hm : varZ l = .tuple #[.int .u64 x, .int .i64 y]) (h : St w wc g cap n l) (hn : n ≤ 1048576) :
    Calls Try.prog 31 #[.slice (some ⟨g, 0, none⟩) n cap] wc fun e w' => e = .returned (.tuple #[.int .u64 x, .int .i64 y]) ∧ St w w' g cap n l :=
  (variance_calls _ l wc h.ints (by rw [h.1]; exact hn)).mono fun e w' h' => ⟨by rw [← hm]; exact h'.1, h.step h'.2⟩
theorem rank_st {w wc : World} {g cap n : Nat} {l : List Int} {x y num den : Int} (hm : rankZ l num den = .tuple #[.int .i64 x, .int .i64 y]) (h : St w wc g cap n l) (hn : n ≤ 1048576) :
    Calls Try.prog 26 #[.slice (some ⟨g, 0, none⟩) n cap, .int .i64 num, .int .i64 den] wc fun e w' => e = .returned (.tuple #[.int .i64 x, .int .i64 y]) ∧ St w w' g cap n l :=
  (rankAll_calls _ l num den wc h.ints (by rw [h.1]; exact hn)).mono fun e w' h' => ⟨by rw [← hm]; exact h'.1, h.step h'.2⟩
theorem rmean_st {w wc : World} {v : Value} {g cap n : Nat} {l : List Int} {x y : Int} (hl : IntsIn w v l) (hm : meanZ l = .tuple #[.int .u64 x, .int .i64 y]) (h : St w wc g cap n l) (hn : n ≤ 1048576) :
    Calls Try.prog 30 #[v] wc fun e w' => e = .returned (.tuple #[.int .u64 x, .int .i64 y]) ∧ St w w' g cap n l :=
  (rmean_calls _ l wc (hl.keep h.2.2.1) (by rw [h.1]; exact hn)).mono fun e w' h' => ⟨by rw [← hm]; exact h'.1, h.step h'.2⟩
theorem rvar_st {w wc : World} {v : Value} {g cap n : Nat} {l : List Int} {x y : Int} (hl : IntsIn w v l) (hm : varZ l = .tuple #[.int .u64 x, .int .i64 y]) (h : St w wc g cap n l) (hn : n ≤ 1048576) :
    Calls Try.prog 32 #[v] wc fun e w' => e = .returned (.tuple #[.int .u64 x, .int .i64 y]) ∧ St w w' g cap n l :=
  (rvariance_calls _ l wc (hl.keep h.2.2.1) (by rw [h.1]; exact hn)).mono fun e w' h' => ⟨by rw [← hm]; exact h'.1, h.step h'.2⟩
theorem rrank_st {w wc : World} {v : Value} {g cap n : Nat} {l : List Int} {x y num den : Int} (hl : IntsIn w v l) (hm : rankZ l num den = .tuple #[.int .i64 x, .int .i64 y]) (h : St w wc g cap n l) (hn : n ≤ 1048576) :
    Calls Try.prog 33 #[v, .int .i64 num, .int .i64 den] wc fun e w' => e = .returned (.tuple #[.int .i64 x, .int .i64 y]) ∧ St w w' g cap n l :=
  (rrankAll_calls _ l num den wc (hl.keep h.2.2.1) (by rw [h.1]; exact hn)).mono fun e w' h' => ⟨by rw [← hm]; exact h'.1, h.step h'.2⟩
theorem back_st {w wc : World} {v : Value} {g cap n : Nat} {l l0 : List Int} (hl : IntsIn w v l) (hnn : n = l.length) (h : St w wc g cap n l0) (hn : n ≤ 1048576) :
    Calls Try.prog 29 #[.slice (some ⟨g, 0, none⟩) n cap, v] wc fun e w' => e = .returned (.tuple #[]) ∧ St w w' g cap n l := by
  subst hnn
  refine (back_calls v l l0 w.heap.size g cap wc (hl.keep h.2.2.1) hn h.1 h.2.1 ?_).mono fun e w' h' => ⟨h'.1, rfl, h'.2.1, ?_, ?_⟩
  · intro hne a k c b off e1 e2
    obtain ⟨a', cap', e3, hcs, _⟩ := hl
    obtain ⟨b', off', e4, hlt, _⟩ := hcs hne
    rw [e1] at e3
    cases e3
    rw [e4] at e2
    cases e2
    exact hlt
  · exact h.2.2.1.grown h'.2.2 h.2.2.1.size (fun k hk => by cases hk; exact h.2.1.lt.1)
  · obtain ⟨_, _, _, _, hbnd⟩ := hl; exact hbnd
theorem kept_st {w wc : World} {v : Value} {g cap n : Nat} {l : List Int} (hl : IntsIn w v l) (h : St w wc g cap n l) (hn : n ≤ 1048576) :
    Calls Try.prog 34 #[.slice (some ⟨g, 0, none⟩) n cap, v] wc fun e w' => e = .returned (.bool true) ∧ St w w' g cap n l := by
  have h1 := h.1
  subst h1
  exact (kept_calls v l w.heap.size g cap wc (hl.keep h.2.2.1) hn h.2.1).mono fun e w' h' => ⟨h'.1, h.step h'.2⟩
theorem St.store {w wc : World} {g cap n : Nat} {l0 : List Int} (h : St w wc g cap n l0) (j : Nat) (hj : j < n) (x : Int) (hx : -9223372036854775808 ≤ x ∧ x ≤ 9223372036854775807) : St w (wc.setCell ⟨g, j, none⟩ (.int .i64 x)) g cap n (l0.set j x) := by
  have hj' : j < l0.length := by rw [h.1]; exact hj
  refine ⟨by rw [List.length_set]; exact h.1, h.2.1.store j hj' x, h.2.2.1.setCell h.2.1.lt.1 _, fun y hy => ?_⟩
  rcases List.mem_or_eq_of_mem_set hy with h' | rfl
  · exact h.2.2.2 y h'
  · exact hx
theorem St.at {w wc : World} {g cap n : Nat} {l0 : List Int} (h : St w wc g cap n l0) (j : Nat) (hj : j < n) : (∃ u, wc.cell? ⟨g, j, none⟩ = some u) ∧ wc.frozen? ⟨g, j, none⟩ = false :=
  ⟨⟨_, h.2.1.at j (by rw [h.1]; exact hj)⟩, World.ownsRow.frozenAt h.2.1 j⟩
end Go.Proofs.Ytpgflnjpohmldaa
