import Derived.Test.YtegplajddhiejaaGreatSt2
set_option linter.unusedVariables false
set_option linter.unusedSimpArgs false
namespace Go.Proofs.YtegplajddhiejaaGreat
open Go.RowKit Go.WideMaps Go.Maps Go.MapKept
/-! What stands in memory, by the blocks that it lives in; things beside each other. -/
structure Asr where
  holds : World → List Nat → Prop
  lt : ∀ {w F}, holds w F → ∀ m ∈ F, m < w.heap.size
  of : ∀ {w w' F G}, holds w F → Touch G w w' → (∀ m ∈ F, m ∉ G) → holds w' F
/-- Both, in blocks of their own. -/
def Asr.b (P Q : Asr) : Asr where
  holds w F := ∃ F1 F2, P.holds w F1 ∧ Q.holds w F2 ∧ (∀ m ∈ F1, m ∉ F2) ∧ ∀ m, m ∈ F ↔ m ∈ F1 ∨ m ∈ F2
  lt := by
    rintro w F ⟨F1, F2, p, q, _, e⟩ m hm
    rcases (e m).1 hm with h | h
    · exact P.lt p m h
    · exact Q.lt q m h
  of := by
    rintro w w' F G ⟨F1, F2, p, q, d, e⟩ hs hb
    exact ⟨F1, F2, P.of p hs (fun m hm => hb m ((e m).2 (.inl hm))), Q.of q hs (fun m hm => hb m ((e m).2 (.inr hm))), d, e⟩
def Asr.emp : Asr where
  holds _ F := ∀ m, m ∉ F
  lt := fun h m hm => absurd hm (h m)
  of := fun h _ _ => h
def Asr.when (p : Prop) (P : Asr) : Asr where
  holds w F := p ∧ P.holds w F
  lt := fun h => P.lt h.2
  of := fun h a b => ⟨h.1, P.of h.2 a b⟩
def Asr.ex {α : Type} (P : α → Asr) : Asr where
  holds w F := ∃ x, (P x).holds w F
  lt := fun ⟨x, h⟩ => (P x).lt h
  of := fun ⟨x, h⟩ a b => ⟨x, (P x).of h a b⟩
/-- It stands there in blocks from B on. -/
def In (B : Nat) (w : World) (P : Asr) : Prop := ∃ F, P.holds w F ∧ ∀ m ∈ F, B ≤ m
/-- A call that turns P's blocks alone. -/
def Tri (P : Asr) (f : FuncId) (args : Array Value) (w : World) (Q : Ending → Asr) : Prop :=
  ∀ F, P.holds w F → Calls Tryz.prog f args w fun e w' => ∃ F', (Q e).holds w' F' ∧ Touch F w w' ∧ ∀ m ∈ F', m ∈ F ∨ w.heap.size ≤ m
section
variable {B : Nat} {w w' : World} {P Q R S : Asr}
theorem In.keep (h : In B w P) (hb : Below w.heap.size w w') : In B w' P := by
  obtain ⟨F, p, f⟩ := h
  exact ⟨F, P.of p (Touch.below hb []) (fun _ _ => by simp), f⟩
theorem In.drewN (h : In B w P) (n : Nat) : In B (w.drewN n) P := h.keep ⟨rfl, rfl, rfl, Nat.le_refl _, fun _ _ => rfl⟩
theorem In.low {B' : Nat} (h : In B w P) (hB : B' ≤ B) : In B' w P := by
  obtain ⟨F, p, f⟩ := h
  exact ⟨F, p, fun m hm => Nat.le_trans hB (f m hm)⟩
theorem In.mono (h : In B w P) (hi : ∀ w F, P.holds w F → Q.holds w F) : In B w Q := by
  obtain ⟨F, p, f⟩ := h
  exact ⟨F, hi w F p, f⟩
theorem star_comm {w : World} {F : List Nat} (h : (P.b Q).holds w F) : (Q.b P).holds w F := by
  obtain ⟨F1, F2, p, q, d, e⟩ := h
  exact ⟨F2, F1, q, p, fun m h1 h2 => d m h2 h1, fun m => (e m).trans or_comm⟩
theorem star_assoc {w : World} {F : List Nat} (h : ((P.b Q).b R).holds w F) : (P.b (Q.b R)).holds w F := by
  obtain ⟨F1, F2, ⟨G1, G2, p, q, d1, e1⟩, r, d, e⟩ := h
  refine ⟨G1, G2 ++ F2, p, ⟨G2, F2, q, r, fun m h1 h2 => d m ((e1 m).2 (.inr h1)) h2, fun m => List.mem_append⟩, fun m h1 h2 => ?_, fun m => ?_⟩
  · rcases List.mem_append.1 h2 with h2 | h2
    · exact d1 m h1 h2
    · exact d m ((e1 m).2 (.inl h1)) h2
  · rw [e m, e1 m, List.mem_append, or_assoc]
theorem star_unassoc {w : World} {F : List Nat} (h : (P.b (Q.b R)).holds w F) : ((P.b Q).b R).holds w F := by
  obtain ⟨F1, F2, p, ⟨G1, G2, q, r, d1, e1⟩, d, e⟩ := h
  refine ⟨F1 ++ G1, G2, ⟨F1, G1, p, q, fun m h1 h2 => d m h1 ((e1 m).2 (.inl h2)), fun m => List.mem_append⟩, r, fun m h1 h2 => ?_, fun m => ?_⟩
  · rcases List.mem_append.1 h1 with h1 | h1
    · exact d m h1 ((e1 m).2 (.inr h2))
    · exact d1 m h1 h2
  · rw [e m, e1 m, List.mem_append, or_assoc]
theorem star_mono {P' Q' : Asr} {w : World} {F : List Nat} (hp : ∀ F, P.holds w F → P'.holds w F) (hq : ∀ F, Q.holds w F → Q'.holds w F) (h : (P.b Q).holds w F) : (P'.b Q').holds w F := by
  obtain ⟨F1, F2, p, q, d, e⟩ := h
  exact ⟨F1, F2, hp F1 p, hq F2 q, d, e⟩
theorem star_left {w : World} {F : List Nat} (h : (P.b (Q.b R)).holds w F) : (Q.b (P.b R)).holds w F := star_assoc (star_mono (fun _ => star_comm) (fun _ h => h) (star_unassoc h))
theorem In.comm (h : In B w (P.b Q)) : In B w (Q.b P) := h.mono fun _ _ => star_comm
theorem In.assoc (h : In B w ((P.b Q).b R)) : In B w (P.b (Q.b R)) := h.mono fun _ _ => star_assoc
theorem In.unassoc (h : In B w (P.b (Q.b R))) : In B w ((P.b Q).b R) := h.mono fun _ _ => star_unassoc
theorem In.left (h : In B w (P.b (Q.b R))) : In B w (Q.b (P.b R)) := h.mono fun _ _ => star_left
/-- The third one comes to the front. -/
theorem In.third (h : In B w (P.b (Q.b (R.b S)))) : In B w (R.b (P.b (Q.b S))) :=
  (h.mono fun _ _ => star_mono (fun _ h => h) (fun _ => star_left)).left
theorem In.fst (h : In B w (P.b Q)) : In B w P := by
  obtain ⟨F, ⟨F1, F2, p, q, d, e⟩, f⟩ := h
  exact ⟨F1, p, fun m hm => f m ((e m).2 (.inl hm))⟩
theorem In.snd (h : In B w (P.b Q)) : In B w Q := h.comm.fst
theorem In.tail {P' : Asr} (h : In B w (P.b Q)) (hi : ∀ w F, P.holds w F → P'.holds w F) : In B w (P'.b Q) := h.mono fun w F => star_mono (fun F => hi w F) (fun _ h => h)
/-- A call that turns P's blocks alone, beside R. -/
theorem Tri.frame {f : FuncId} {args : Array Value} {Q : Ending → Asr} (h : Tri P f args w Q) (R : Asr) : Tri (P.b R) f args w fun e => (Q e).b R := by
  rintro F ⟨F1, F2, p, r, d, e⟩
  refine (h F1 p).mono fun e' w' => ?_
  rintro ⟨F1', q, t, n⟩
  have t2 : Touch F w w' := t.mono fun x hx => .inl ((e x).2 (.inl hx))
  have r2 : R.holds w' F2 := R.of r t fun m hm h1 => d m h1 hm
  refine ⟨F1' ++ F2, ⟨F1', F2, q, r2, fun m h1 h2 => ?_, fun m => List.mem_append⟩, t2, fun m hm => ?_⟩
  · rcases n m h1 with h3 | h3
    · exact d m h3 h2
    · have := R.lt r m h2; omega
  · rcases List.mem_append.1 hm with h1 | h1
    · rcases n m h1 with h3 | h3
      · exact .inl ((e m).2 (.inl h3))
      · exact .inr h3
    · exact .inl ((e m).2 (.inr h1))
/-- The call, of what stands there from B on. -/
theorem Tri.run {f : FuncId} {args : Array Value} {Q : Ending → Asr} (h : Tri P f args w Q) (hi : In B w P) (hB : B ≤ w.heap.size) : Calls Tryz.prog f args w fun e w' => In B w' (Q e) ∧ Below B w w' := by
  obtain ⟨F, p, g⟩ := hi
  refine (h F p).mono fun e w' => ?_
  rintro ⟨F', q, t, n⟩
  refine ⟨⟨F', q, fun m hm => ?_⟩, t.toBelow hB g⟩
  rcases n m hm with h1 | h1
  · exact g m h1
  · omega
/-- A contract whose walk runs over 'In' and 'Below' at the call's own base is a triple: the blocks from there on are new, the others are P's: so the walk bears 'Here'. -/
theorem Tri.mono {f : FuncId} {args : Array Value} {Q Q' : Ending → Asr} (h : Tri P f args w Q) (hi : ∀ e w F, (Q e).holds w F → (Q' e).holds w F) : Tri P f args w Q' := by
  intro F p
  refine (h F p).mono fun e w' => ?_
  rintro ⟨F', q, t⟩
  exact ⟨F', hi e w' F' q, t⟩
theorem Tri.pre {f : FuncId} {args : Array Value} {P' : Asr} {Q : Ending → Asr} (h : Tri P f args w Q) (hi : ∀ F, P'.holds w F → P.holds w F) : Tri P' f args w Q := fun F p => h F (hi F p)
end
/-- Where a walk stands that began at world w with the blocks F: what is there now, and that no other old block has turned. -/
def Here (w : World) (F : List Nat) (P : Asr) (w' : World) : Prop := ∃ F', P.holds w' F' ∧ Touch F w w' ∧ ∀ m ∈ F', m ∈ F ∨ w.heap.size ≤ m
section
variable {w w' w2 : World} {F : List Nat} {P Q R : Asr}
theorem Here.start (h : P.holds w F) : Here w F P w := ⟨F, h, Touch.refl _ _, fun m hm => .inl hm⟩
theorem Here.size (h : Here w F P w') : w.heap.size ≤ w'.heap.size := by
  obtain ⟨_, _, t, _⟩ := h
  exact t.size
theorem Here.keep (h : Here w F P w') (hb : Below w'.heap.size w' w2) : Here w F P w2 := by
  obtain ⟨F', p, t, n⟩ := h
  exact ⟨F', P.of p (Touch.below hb []) (fun _ _ => by simp), t.then hb, n⟩
theorem Here.drewN (h : Here w F P w') (n : Nat) : Here w F P (w'.drewN n) := h.keep ⟨rfl, rfl, rfl, Nat.le_refl _, fun _ _ => rfl⟩
theorem Here.mono (h : Here w F P w') (hi : ∀ F, P.holds w' F → Q.holds w' F) : Here w F Q w' := by
  obtain ⟨F', p, t⟩ := h
  exact ⟨F', hi F' p, t⟩
theorem Here.left (h : Here w F (P.b (Q.b R)) w') : Here w F (Q.b (P.b R)) w' := h.mono fun _ => star_left
theorem Here.comm (h : Here w F (P.b Q) w') : Here w F (Q.b P) w' := h.mono fun _ => star_comm
theorem Here.assoc (h : Here w F ((P.b Q).b R) w') : Here w F (P.b (Q.b R)) w' := h.mono fun _ => star_assoc
theorem Here.unassoc (h : Here w F (P.b (Q.b R)) w') : Here w F ((P.b Q).b R) w' := h.mono fun _ => star_unassoc
theorem Here.snd (h : Here w F (P.b Q) w') : Here w F Q w' := by
  obtain ⟨F', ⟨F1, F2, p, q, d, e⟩, t, n⟩ := h
  exact ⟨F2, q, t, fun m hm => n m ((e m).2 (.inr hm))⟩
theorem Here.fst (h : Here w F (P.b Q) w') : Here w F P w' := h.comm.snd
theorem Here.inn (h : Here w F P w') : In 0 w' P := by
  obtain ⟨F', p, _⟩ := h
  exact ⟨F', p, fun m _ => Nat.zero_le m⟩
theorem Here.call {f : FuncId} {args : Array Value} {Q : Ending → Asr} (h : Here w F P w') (c : Tri P f args w' Q) : Calls Tryz.prog f args w' fun e w2 => Here w F (Q e) w2 := by
  obtain ⟨F', p, t, n⟩ := h
  refine (c F' p).mono fun e w2 => ?_
  rintro ⟨F2, q, t2, n2⟩
  refine ⟨F2, q, t.trans t2 n, fun m hm => ?_⟩
  rcases n2 m hm with h1 | h1
  · exact n m h1
  · have := t.size
    exact .inr (by omega)
theorem Tri.of {f : FuncId} {args : Array Value} {Q : Ending → Asr} (h : ∀ F, P.holds w F → Calls Tryz.prog f args w fun e w' => Here w F (Q e) w') : Tri P f args w Q := h
end
/-- P says no less than Q, whose blocks are among its own. -/
def Asr.le (P Q : Asr) : Prop := ∀ w F, P.holds w F → ∃ F', Q.holds w F' ∧ ∀ m ∈ F', m ∈ F
section
variable {P P' Q Q' : Asr}
theorem Asr.le_refl (P : Asr) : P.le P := fun w F h => ⟨F, h, fun _ h => h⟩
theorem Asr.le_trans {R : Asr} (h : P.le Q) (k : Q.le R) : P.le R := fun w F p => by
  obtain ⟨F1, q, n1⟩ := h w F p
  obtain ⟨F2, r, n2⟩ := k w F1 q
  exact ⟨F2, r, fun m hm => n1 m (n2 m hm)⟩
theorem Asr.le_b (h : P.le P') (k : Q.le Q') : (P.b Q).le (P'.b Q') := by
  rintro w F ⟨F1, F2, p, q, d, e⟩
  obtain ⟨G1, p', n1⟩ := h w F1 p
  obtain ⟨G2, q', n2⟩ := k w F2 q
  refine ⟨G1 ++ G2, ⟨G1, G2, p', q', fun m h1 h2 => d m (n1 m h1) (n2 m h2), fun m => List.mem_append⟩, fun m hm => ?_⟩
  rcases List.mem_append.1 hm with h1 | h1
  · exact (e m).2 (.inl (n1 m h1))
  · exact (e m).2 (.inr (n2 m h1))
theorem Asr.le_fst (P Q : Asr) : (P.b Q).le P := by
  rintro w F ⟨F1, F2, p, q, d, e⟩
  exact ⟨F1, p, fun m hm => (e m).2 (.inl hm)⟩
theorem Asr.le_snd (P Q : Asr) : (P.b Q).le Q := by
  rintro w F ⟨F1, F2, p, q, d, e⟩
  exact ⟨F2, q, fun m hm => (e m).2 (.inr hm)⟩
theorem Here.weak {w w' : World} {F : List Nat} (h : Here w F P w') (k : P.le Q) : Here w F Q w' := by
  obtain ⟨F', p, t, n⟩ := h
  obtain ⟨G, q, n2⟩ := k w' F' p
  exact ⟨G, q, t, fun m hm => n m (n2 m hm)⟩
/-- A thing that a call has made stands beside what was there. -/
theorem Here.made {w0 w w' : World} {F G : List Nat} {A : Asr} (h : Here w0 F P w) (hb : Below w.heap.size w w') (ha : A.holds w' G) (hg : ∀ m ∈ G, w.heap.size ≤ m) : Here w0 F (A.b P) w' := by
  have hs := h.size
  obtain ⟨F1, p1, t, n⟩ := h
  refine ⟨G ++ F1, ⟨G, F1, ha, P.of p1 (Touch.below hb []) (fun _ _ => by simp), fun m h1 h3 => ?_, fun m => List.mem_append⟩, t.then hb, fun m hm => ?_⟩
  · have := hg m h1
    have := P.lt p1 m h3
    omega
  · rcases List.mem_append.1 hm with h1 | h1
    · exact .inr (Nat.le_trans hs (hg m h1))
    · exact n m h1
end
/-- A block of cells. -/
def CellsA (b : Nat) (cs : List Value) : Asr where
  holds w F := (∀ m, m ∈ F ↔ m = b) ∧ b < w.heap.size ∧ (∀ i u, cs[i]? = some u → w.cell? ⟨b, i, none⟩ = some u) ∧ ∀ j, w.frozen? ⟨b, j, none⟩ = false
  lt := by
    rintro w F ⟨e, l, _⟩ m hm
    rw [(e m).1 hm]; exact l
  of := by
    rintro w w' F G ⟨e, l, c, f⟩ hs hb
    have hk := hb b ((e b).2 rfl)
    exact ⟨e, Nat.lt_of_lt_of_le l hs.size, fun i u hu => (hs.cell (p := ⟨b, i, none⟩) l hk).trans (c i u hu), fun j => (hs.frozen (p := ⟨b, j, none⟩) l hk).trans (f j)⟩
/-- A slice of the call's own. -/
def RowA (size : Nat) (v : Value) (n : Nat) (xs : List Value) : Asr where
  holds w F := (∀ m, m ∈ F ↔ v.ownBlock = some m) ∧ Row w 0 size v n xs
  lt := by
    rintro w F ⟨e, r⟩ m hm
    exact (r.lt m ((e m).1 hm)).2
  of := by
    rintro w w' F G ⟨e, r⟩ hs hb
    exact ⟨e, r.touch hs fun k hk => hb k ((e k).2 hk)⟩
section
variable {B : Nat} {w w' w0 : World} {F : List Nat} {P Q R : Asr} {b : Nat} {cs : List Value}
theorem In.cells (h : In B w ((CellsA b cs).b R)) : b < w.heap.size ∧ B ≤ b ∧ (∀ i u, cs[i]? = some u → w.cell? ⟨b, i, none⟩ = some u) ∧ ∀ j, w.frozen? ⟨b, j, none⟩ = false := by
  obtain ⟨F, ⟨F1, F2, ⟨e1, l, c, f⟩, q, d, e⟩, g⟩ := h
  exact ⟨l, g b ((e b).2 (.inl ((e1 b).2 rfl))), c, f⟩
theorem Here.cells (h : Here w0 F ((CellsA b cs).b R) w) : b < w.heap.size ∧ (∀ i u, cs[i]? = some u → w.cell? ⟨b, i, none⟩ = some u) ∧ ∀ j, w.frozen? ⟨b, j, none⟩ = false := by
  obtain ⟨h1, _, h2, h3⟩ := h.inn.cells
  exact ⟨h1, h2, h3⟩
theorem Here.cells1 (h : Here w0 F (CellsA b cs) w) : b < w.heap.size ∧ (∀ i u, cs[i]? = some u → w.cell? ⟨b, i, none⟩ = some u) ∧ ∀ j, w.frozen? ⟨b, j, none⟩ = false := by
  obtain ⟨F', ⟨e1, l, c, f⟩, _⟩ := h
  exact ⟨l, c, f⟩
theorem Here.row1 {size n : Nat} {v : Value} {xs : List Value} (h : Here w0 F (RowA size v n xs) w) : Row w 0 size v n xs := by
  obtain ⟨F', ⟨e1, r⟩, _⟩ := h
  exact r
theorem Here.row {size n : Nat} {v : Value} {xs : List Value} (h : Here w0 F ((RowA size v n xs).b R) w) : Row w 0 size v n xs := by
  obtain ⟨F', ⟨F1, F2, ⟨e1, r⟩, q, d, e⟩, g⟩ := h
  exact r
theorem In.row {size n : Nat} {v : Value} {xs : List Value} (h : In B w ((RowA size v n xs).b R)) : Row w 0 size v n xs := by
  obtain ⟨F', ⟨F1, F2, ⟨e1, r⟩, q, d, e⟩, g⟩ := h
  exact r
/-- A cell is written. -/
theorem Here.set (h : Here w0 F ((CellsA b cs).b R) w) (i : Nat) (hi : i < cs.length) (u : Value) : Here w0 F ((CellsA b (cs.set i u)).b R) (w.setCell ⟨b, i, none⟩ u) := by
  obtain ⟨F', ⟨F1, F2, ⟨e1, l, c, f⟩, q, d, e⟩, t, n⟩ := h
  have hb : b ∈ F' := (e b).2 (.inl ((e1 b).2 rfl))
  have hc := c i cs[i] (by rw [List.getElem?_eq_getElem hi])
  refine ⟨F', ⟨F1, F2, ⟨e1, by simpa [World.setCell] using l, fun j z hz => ?_, fun j => by rw [World.frozen?_setCell]; exact f j⟩, R.of q ((Touch.refl [b] w).setCell (p := ⟨b, i, none⟩) (.inl (by simp)) u) (fun m hm h9 => d m ((e1 m).2 (by simpa using h9)) hm), d, e⟩, t.setCell (n b hb) u, n⟩
  by_cases e2 : i = j
  · subst e2
    rw [List.getElem?_set_self hi] at hz
    injection hz with hz
    subst hz
    exact cell_set hc _
  · rw [List.getElem?_set_ne e2] at hz
    rw [cell_other e2]
    exact c j z hz
theorem In.set (h : In B w ((CellsA b cs).b R)) (i : Nat) (hi : i < cs.length) (u : Value) : In B (w.setCell ⟨b, i, none⟩ u) ((CellsA b (cs.set i u)).b R) := by
  obtain ⟨F', p, g⟩ := h
  obtain ⟨F2, p2, _, n⟩ := (Here.start p).set i hi u
  obtain ⟨Fa, Fb, ⟨e1, l, c, f⟩, q, d, e⟩ := p2
  obtain ⟨Ga, Gb, ⟨e1', l', c', f'⟩, q', d', e'⟩ := p
  refine ⟨F', ⟨Ga, Gb, ⟨e1', by simpa [World.setCell] using l', c, f⟩, R.of q' ((Touch.refl [b] w).setCell (p := ⟨b, i, none⟩) (.inl (by simp)) u) (fun m hm h9 => d' m ((e1' m).2 (by simpa using h9)) hm), d', e'⟩, g⟩
/-- A new block of cells. -/
theorem Here.alloc (h : Here w0 F P w) (cs : Array Value) (t : TypeId) : Here w0 F ((CellsA w.heap.size cs.toList).b P) (w.alloc (.cells cs t)) := by
  have hs := h.size
  obtain ⟨F', p, t', n⟩ := h
  refine ⟨w.heap.size :: F', ⟨[w.heap.size], F', ⟨fun m => by simp, by simp, fun i u hu => ?_, fun j => World.frozen?_alloc_new w _ _ j⟩, P.of p ((Touch.refl [] w).alloc _) (fun _ _ => by simp), fun m h1 h2 => ?_, fun m => by simp⟩, t'.alloc _, fun m hm => ?_⟩
  · have e1 : (w.alloc (.cells cs t)).cell? ⟨w.heap.size, i, none⟩ = _ := World.cell?_alloc_new w _ _ i
    rw [e1]; simpa using hu
  · have := P.lt p m h2
    simp at h1
    omega
  · rcases List.mem_cons.1 hm with rfl | hm
    · exact .inr hs
    · exact n m hm
theorem In.alloc (h : In B w P) (hB : B ≤ w.heap.size) (cs : Array Value) (t : TypeId) : In B (w.alloc (.cells cs t)) ((CellsA w.heap.size cs.toList).b P) := by
  obtain ⟨F, p, g⟩ := h
  obtain ⟨F', p', _, n⟩ := (Here.start p).alloc cs t
  refine ⟨F', p', fun m hm => ?_⟩
  rcases n m hm with h1 | h1
  · exact g m h1
  · omega
/-- A row that a call has made stands beside. -/
theorem Here.fresh {size n : Nat} {v : Value} {xs : List Value} (h : Here w0 F P w) (hb : Below w.heap.size w w') (hr : Row w' w.heap.size size v n xs) : Here w0 F ((RowA size v n xs).b P) w' := by
  have hs := h.size
  obtain ⟨F1, p1, t, n⟩ := h
  refine ⟨v.ownBlock.toList ++ F1, ⟨v.ownBlock.toList, F1, ⟨fun m => by cases v.ownBlock <;> simp [eq_comm], hr.mono (Nat.zero_le _)⟩, P.of p1 (Touch.below hb []) (fun _ _ => by simp), fun m h1 h3 => ?_, fun m => List.mem_append⟩, t.then hb, fun m hm => ?_⟩
  · have h4 : v.ownBlock = some m := by
      revert h1
      cases v.ownBlock <;> simp [eq_comm]
    have := (hr.lt m h4).1
    have := P.lt p1 m h3
    omega
  · rcases List.mem_append.1 hm with h1 | h1
    · have h4 : v.ownBlock = some m := by
        revert h1
        cases v.ownBlock <;> simp [eq_comm]
      have := (hr.lt m h4).1
      exact .inr (by omega)
    · exact n m h1
theorem In.fresh {size n : Nat} {v : Value} {xs : List Value} (h : In B w P) (hB : B ≤ w.heap.size) (hb : Below w.heap.size w w') (hr : Row w' w.heap.size size v n xs) : In B w' ((RowA size v n xs).b P) := by
  obtain ⟨F, p, g⟩ := h
  obtain ⟨F', p', _, n⟩ := (Here.start p).fresh hb hr
  refine ⟨F', p', fun m hm => ?_⟩
  rcases n m hm with h1 | h1
  · exact g m h1
  · omega
end
end Go.Proofs.YtegplajddhiejaaGreat
