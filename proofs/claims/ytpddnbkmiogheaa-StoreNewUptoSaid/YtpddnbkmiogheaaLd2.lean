import Derived.Test.YtpddnbkmiogheaaLd1
import Derived.Test.YtpddnbkmiogheaaSt13
set_option linter.unusedVariables false
namespace Go.Proofs.Ytpddnbkmiogheaa
open Go.RowKit Go.WideMaps Go.Maps Go.MapKept
/-- One call of a script; what a call answers. -/
structure OpZ where
  kind : Int
  key : ByteArray
  data : ByteArray
  n : Int
structure GotZ where
  text : ByteArray
  names : List ByteArray
  e : Int
  a : Int
  b : Int
  c : Int
  d : Bool
  g : Int
deriving DecidableEq
def noGot : GotZ := ⟨⟨#[]⟩, [], 0, 0, 0, 0, false, 0⟩
def opV (o : OpZ) : Value := .agg #[.int .i64 o.kind, .string o.key, .string o.data, .int .i64 o.n]
def gotA (t : GotZ) (nv : Value) : Array Value := #[.string t.text, nv, .int .i64 t.e, .int .i64 t.a, .int .i64 t.b, .int .i64 t.c, .bool t.d, .int .i64 t.g]
def gotV (t : GotZ) (nv : Value) : Value := .agg (gotA t nv)
def doZ (x : Fld) (o : OpZ) : GotZ × Fld :=
  if o.kind = 1 then ({ noGot with e := (putZ x o.key o.data).1 }, (putZ x o.key o.data).2)
  else if o.kind = 2 then ({ noGot with e := (cutZ x o.key).1 }, (cutZ x o.key).2)
  else if o.kind = 3 then ({ noGot with e := (syncZ x).1 }, (syncZ x).2)
  else if o.kind = 4 then (noGot, armZ x o.n)
  else if o.kind = 5 then (noGot, crashZ x o.data)
  else if o.kind = 6 then ({ noGot with text := (getZ x o.key).1, e := (getZ x o.key).2 }, x)
  else if o.kind = 7 then ({ noGot with names := keysZ x o.key }, x)
  else if o.kind = 8 then ({ noGot with text := ⟨(imageL x.dur).toArray⟩ }, x)
  else if o.kind = 9 then ({ noGot with a := x.pend.length, b := x.used, c := x.room, d := x.off, g := x.age }, x)
  else (noGot, x)
structure OpZ.Ok (o : OpZ) : Prop where
  key : o.key.size ≤ 1048576
  data : o.data.size ≤ 1048576
  n : o.n ≤ 9223372036854775807
theorem do_fine {K : Nat} {x : Fld} (h : Fine K x) {o : OpZ} (ho : o.Ok) : Fine (K + 1) (doZ x o).2 := by
  unfold doZ
  split
  · exact put_fine h _ _
  split
  · exact cut_fine h _
  split
  · exact sync_fine h
  split
  · exact arm_fine h _ ho.n
  split
  · exact crash_fine h _
  split
  · exact h.mono (by omega)
  split
  · exact h.mono (by omega)
  split
  · exact h.mono (by omega)
  split
  · exact h.mono (by omega)
  · exact h.mono (by omega)
section
variable {w w2 : World} {A : Obj} {zs : Array Value} {g bn bd : Nat} {v : Value} {x' : Fld}
theorem setRow_touch (w : World) (b : Nat) (cs : Array Value) : Touch [b] w (w.setRow b cs) := ⟨rfl, rfl, rfl, by simp [World.setRow], fun k hk hn => setRow_other w b k cs (fun e => hn (by simp [e]))⟩
theorem box2 (hlt : ∀ k ∈ foot g bn bd v, k < w.heap.size) (h : Kept ((w.alloc A).alloc (.cells zs 34)) g bn bd v x' w2) :
    w2.heap[w.heap.size + 1]? = some (.cells zs 34 (0, 0)) ∧ (∀ cs, (w2.setRow (w.heap.size + 1) cs).heap[w.heap.size + 1]? = some (.cells cs 34 (0, 0)) ∧ Kept w g bn bd v x' (w2.setRow (w.heap.size + 1) cs)) := by
  obtain ⟨bn', v', hp, ht, hf⟩ := h
  have hz : ((w.alloc A).alloc (.cells zs 34)).heap.size = w.heap.size + 2 := by simp
  have hb : w2.heap[w.heap.size + 1]? = some (.cells zs 34 (0, 0)) := by
    rw [ht.block (w.heap.size + 1) (by rw [hz]; omega) (fun hm => by have := hlt _ hm; omega)]
    exact heap_alloc2_new w A _
  refine ⟨hb, fun cs => ⟨setRow_heap w2 _ _ _ _ _ hb, bn', v', ?_, ?_, ?_⟩⟩
  · refine hp.touch (setRow_touch w2 (w.heap.size + 1) cs) (fun k hk hm => ?_)
    simp at hm
    subst hm
    rcases hf _ hk with e | e
    · have := hlt _ e; omega
    · rw [hz] at e; omega
  · have h1 : Touch (foot g bn bd v) w w2 := (((Touch.refl _ w).alloc A).alloc _).trans ht (fun k hk => .inl hk)
    exact h1.trans (setRow_touch w2 (w.heap.size + 1) cs) (fun k hk => by simp at hk; subst hk; right; omega)
  · intro m hm
    rcases hf m hm with e | e
    · exact .inl e
    · rw [hz] at e; right; omega
theorem Kept.keep {x : Fld} (h : PSF w g bn bd v x) (hb : Below w.heap.size w w2) : Kept w g bn bd v x w2 := ⟨bn, v, h.keep hb, Touch.below hb _, fun m hm => .inl hm⟩
end
theorem got_info : (Try.prog.info? 34).map (·.size) = some 8 := by kernel_rfl
end Go.Proofs.Ytpddnbkmiogheaa
