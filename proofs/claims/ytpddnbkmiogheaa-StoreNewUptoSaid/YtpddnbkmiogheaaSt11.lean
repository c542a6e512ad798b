import Derived.Test.YtpddnbkmiogheaaSt9
import Derived.Test.YtpddnbkmiogheaaShelf
import Derived.Sort.OwnSorted
import Derived.Sort.KeysCollected
set_option linter.unusedVariables false
namespace Go.Proofs.Ytpddnbkmiogheaa
open Go.RowKit Go.WideMaps Go.Maps Go.MapKept Go.Sort Go.Shelf
def keyL (l : List ByteArray) : List (List UInt8) := l.map fun k => k.data.toList
def strV (l : List ByteArray) : List Value := l.map Value.string
theorem strV_len (l : List ByteArray) : (strV l).length = l.length := by simp [strV]
theorem enc_key (l : List ByteArray) : (keyL l).map encStr = strV l := by
  unfold keyL strV
  rw [List.map_map]
  refine List.map_congr_left (fun k _ => ?_)
  show Value.string ⟨k.data.toList.toArray⟩ = _
  simp
theorem Row.ofOwns {w : World} {base size n : Nat} {e : TypeId} {v : Value} {xs : List Value} (h : w.ownsRow base e size v n xs) : Row w base size v n xs := by
  refine ⟨h.1, ?_⟩
  rcases h.2 with h2 | ⟨g, cap, cur, rfl, hb, hk, hn, hc, hs, ht⟩
  · exact .inl h2
  · refine .inr ⟨g, cap, rfl, hb, (Array.getElem?_eq_some_iff.1 hk).1, hn, hc, fun j u hu => ?_, fun j hj => ?_⟩
    · have hj : j < n * size := by
        rw [← ht] at hu
        have h1 := (List.getElem?_eq_some_iff.1 hu).1
        rw [List.length_take] at h1; omega
      rw [← ht, List.getElem?_take_of_lt hj] at hu
      simp [World.cell?, hk, ← Array.getElem?_toList, hu]
    · refine ⟨?_, by simp [World.frozen?, hk]⟩
      simp [World.cell?, hk, hs, hj]
/-- Keys in whatever order, sorted by the library. -/
theorem sorted_keys {l : List ByteArray} (hs : l.Pairwise fun a b => kLt a b = true) {ss : List (List UInt8)} (hp : ss.Perm (keyL l)) : ss.mergeSort (fun x y => decide (x ≤ y)) = keyL l := by
  have tr : ∀ a b c : List UInt8, leB a b = true → leB b c = true → leB a c = true := fun a b c h1 h2 => by simp only [leB, decide_eq_true_eq] at *; exact List.le_trans h1 h2
  have to : ∀ a b : List UInt8, (leB a b || leB b a) = true := fun a b => by simp only [leB, Bool.or_eq_true, decide_eq_true_eq]; exact List.le_total a b
  have hpw : (keyL l).Pairwise fun a b => leB a b = true := by
    unfold keyL
    rw [List.pairwise_map]
    refine hs.imp (fun {a b} h => ?_)
    rw [kLt_dec, decide_eq_true_eq] at h
    exact decide_eq_true (List.le_of_lt h)
  refine List.Perm.eq_of_pairwise (le := fun a b => leB a b = true) (fun a b _ _ h1 h2 => ?_) (List.pairwise_mergeSort tr to ss) hpw ((List.mergeSort_perm ss leB).trans hp)
  simp only [leB, decide_eq_true_eq] at h1 h2
  exact List.le_antisymm h1 h2
theorem sorted_fst {l : List Rec} (h : Sorted l) : (l.map (·.1)).Pairwise fun a b => kLt a b = true := by
  rw [List.pairwise_map]; exact h
theorem keys_toD (l : List Rec) : strKeys (toD l) = keyL (l.map (·.1)) := by
  unfold toD keyL
  simp only [strKeys, List.map_map]
  rfl
theorem sortsK (m : Nat) : AnyZ.SortsIn Try.prog Try.sortedM_ren Fence.wide m :=
  ⟨fun blk off cap ss W hH hblk hsz => callsIn_wide.2 (AnyM.slices_Sort_string Try.sortM blk off cap ss W hH hblk hsz),
   fun p cap W => callsIn_wide.2 (AnyM.slices_Sort_string_none Try.sortM p cap W)⟩
theorem mkeys_calls (b : Nat) (W : World) : Calls Try.prog 78 #[.map (some b)] W fun e w' => e = .returned (.func (.func 93) #[] #[.pointer (some ⟨W.heap.size, 0, none⟩)]) ∧ w' = W.alloc (.cells #[.map (some b)] 69) :=
  callsIn_wide.1 (AnyZ.keys_in Try.keysM Fence.wide 5 trivial rfl (some b) W)
set_option maxHeartbeats 1000000 in
theorem ssorted_calls (b : Nat) (l : List Rec) (w : World) (h : SMap w b l) (hs : Sorted l) (hl : l.length ≤ 4194304) :
    Calls Try.prog 77 #[.func (.func 93) #[] #[.pointer (some ⟨w.heap.size, 0, none⟩)]] (w.alloc (.cells #[.map (some b)] 69)) fun e w' => ∃ v, e = .returned v ∧
      Row w' (w.heap.size + 1) 1 v l.length (strV (l.map (·.1))) ∧ Below w.heap.size w w' := by
  have hown : w.ownsMap Try.prog 9 (plainElem (H := Unit) Try.prog 9) b l.length (toD l) := h
  have hbl := h.lt
  have hsz := toD_size l
  have hseq : SeqGives Fence.wide 2 Try.prog 93 #[.pointer (some ⟨w.heap.size, 0, none⟩)] encStr (fun ss => ss.Perm (strKeys (toD l))) (Maps.size (toD l)) (w.alloc (.cells #[.map (some b)] 69)) :=
    AnyZ.keys_gives (ρ := Try.keysM_ren) { Try.keysM with } Fence.wide _ trivial rfl (by omega) w.heap.size b _ (toD l) _ (by simp) (by simp) (World.ownsMap.alloc hown _)
  have hc := AnyZ.sorted_in Try.sortedM Fence.wide 5 trivial trivial trivial trivial rfl (by omega) (sortsK _) (enters_of Try.func53 (by kernel_rfl) rfl) 93 #[.pointer (some ⟨w.heap.size, 0, none⟩)] trivial (enters_of Try.func93 (by kernel_rfl) rfl) _ _ (by rw [hsz]; unfold maxLen; omega) (by rw [hsz]; omega) _ hseq
  refine (callsIn_wide.1 hc).mono ?_
  rintro e w' ⟨v, ss, rfl, hS, hrow, hnil, hb⟩
  rw [keys_toD] at hS
  have hsort := sorted_keys (sorted_fst hs) hS
  have hlen : ss.length = l.length := by rw [hS.length_eq]; simp [keyL]
  refine ⟨v, rfl, ?_, ((Below.refl _ w).alloc (Nat.le_refl _) _).trans (hb.mono (by simp))⟩
  have hr := Row.ofOwns hrow
  rw [hlen] at hr
  have e1 : (ss.mergeSort (fun x y => decide (x ≤ y))).map encStr = strV (l.map (·.1)) := by rw [hsort, enc_key]
  rw [e1] at hr
  simpa using hr
theorem rssorted_calls (b : Nat) (l : List Rec) (w : World) (h : SMap w b l) (hs : Sorted l) (hl : l.length ≤ 4194304) :
    Calls Try.prog 48 #[.map (some b)] w fun e w' => ∃ v, e = .returned v ∧ Row w' (w.heap.size + 1) 1 v l.length (strV (l.map (·.1))) ∧ Below w.heap.size w w' := by
  have C1 := Lib.hid (mkeys_calls b w)
  have C2 := Lib.hid (ssorted_calls b l w h hs hl)
  clear h hs
  go_enter Try.func48, Try.ntmps48
  go_wp2_with (first
    | (go_at_call 78; (with_reducible refine C1.out.mono ?_); rintro e w1 ⟨rfl, rfl⟩)
    | (go_at_call 77; (with_reducible refine C2.out.mono ?_); rintro e w2 ⟨v, rfl, hr, hb⟩; have HR := Lib.hid hr; have HB := Lib.hid hb; clear hr hb))
  go_ret
  exact ⟨v, rfl, HR.out, HB.out⟩
end Go.Proofs.Ytpddnbkmiogheaa
