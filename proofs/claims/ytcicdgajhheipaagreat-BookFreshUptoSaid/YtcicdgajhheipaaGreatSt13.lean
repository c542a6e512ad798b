import Derived.Test.YtcicdgajhheipaaGreatMgBookFresh19
import Derived.Test.YtcicdgajhheipaaGreatMgBookFresh9
import Derived.Test.YtcicdgajhheipaaGreatSt10
import Derived.Test.YtcicdgajhheipaaGreatMgBookFresh10
set_option linter.unusedVariables false
namespace Go.Proofs.YtcicdgajhheipaaGreat
open Go.RowKit Go.WideMaps Go.Maps Go.MapKept
/-- The image being written: what the builder at block w.heap.size holds; the keys' list; nothing from before w has turned. -/
def ImgAt (w : World) (kv : Value) (ks : List ByteArray) (wr : World) (l : List UInt8) : Prop :=
  ∃ bv, BldV wr w.heap.size bv l ∧ (∀ m ∈ bfoot w.heap.size bv, w.heap.size ≤ m) ∧ (∀ m, kv.ownBlock = some m → m ∉ bfoot w.heap.size bv) ∧ Row wr 0 1 kv ks.length (strV ks) ∧ Below w.heap.size w wr
section
variable {w wr w' : World} {kv : Value} {ks : List ByteArray} {l : List UInt8}
theorem ImgAt.below (h : ImgAt w kv ks wr l) : Below w.heap.size w wr := by
  obtain ⟨_, _, _, _, _, h⟩ := h
  exact h
theorem ImgAt.row (h : ImgAt w kv ks wr l) : Row wr 0 1 kv ks.length (strV ks) := by
  obtain ⟨_, _, _, _, h, _⟩ := h
  exact h
theorem ImgAt.lt (h : ImgAt w kv ks wr l) : w.heap.size < wr.heap.size := by
  obtain ⟨bv, h, _⟩ := h
  exact h.lt _ (mem_bfoot.2 (.inl rfl))
theorem ImgAt.keep (h : ImgAt w kv ks wr l) (hb : Below wr.heap.size wr w') : ImgAt w kv ks w' l := by
  have hlt := h.lt
  obtain ⟨bv, h1, h2, h3, h4, h5⟩ := h
  exact ⟨bv, h1.keep hb, h2, h3, h4.keep hb, h5.trans (hb.mono (by omega))⟩
theorem ImgAt.alloc (h : ImgAt w kv ks wr l) (o : Obj) : ImgAt w kv ks (wr.alloc o) l := h.keep ((Below.refl _ _).alloc (Nat.le_refl _) o)
theorem ImgAt.step {l' : List UInt8} {bv : Value} (hkl : ∀ m, kv.ownBlock = some m → m < wr.heap.size) (h2 : ∀ m ∈ bfoot w.heap.size bv, w.heap.size ≤ m) (h3 : ∀ m, kv.ownBlock = some m → m ∉ bfoot w.heap.size bv) (h4 : Row wr 0 1 kv ks.length (strV ks)) (h5 : Below w.heap.size w wr)
    (h : ∃ v', BldV w' w.heap.size v' l' ∧ Touch (bfoot w.heap.size bv) wr w' ∧ (v'.ownBlock = bv.ownBlock ∨ ∃ m, v'.ownBlock = some m ∧ wr.heap.size ≤ m)) : ImgAt w kv ks w' l' := by
  obtain ⟨v', h6, h7, h8⟩ := h
  have hsz := h5.size
  refine ⟨v', h6, fun m hm => ?_, fun m hm hm2 => ?_, h4.touch h7 (fun k hk => h3 k hk), h5.trans (h7.toBelow (by omega) h2)⟩
  · rcases mem_bfoot.1 hm with e | e
    · omega
    · rcases h8 with e2 | ⟨m2, e2, e3⟩
      · exact h2 m (mem_bfoot.2 (.inr (by rw [← e2]; exact e)))
      · rw [e2] at e; injection e with e; omega
  · have hml := hkl m hm
    rcases mem_bfoot.1 hm2 with e | e
    · exact h3 m hm (mem_bfoot.2 (.inl e))
    · rcases h8 with e2 | ⟨m2, e2, e3⟩
      · exact h3 m hm (mem_bfoot.2 (.inr (by rw [← e2]; exact e)))
      · rw [e2] at e; injection e with e; omega
theorem img_str (s : ByteArray) (h : ImgAt w kv ks wr l) (hl : l.length + s.size ≤ 140737488355328) : Calls Tryz.prog 54 #[.pointer (some ⟨w.heap.size, 0, none⟩), .string s] wr fun e w' => e = .returned (.tuple #[.int .i64 s.size, .nilIface]) ∧ ImgAt w kv ks w' (l ++ s.data.toList) := by
  obtain ⟨bv, h1, h2, h3, h4, h5⟩ := h
  refine (bldstr_calls _ bv l s wr h1 hl).mono ?_
  rintro e w' ⟨rfl, h⟩
  exact ⟨rfl, ImgAt.step (fun m hm => (h4.lt m hm).2) h2 h3 h4 h5 h⟩
theorem img_byte (c : UInt8) (h : ImgAt w kv ks wr l) (hl : l.length + 1 ≤ 140737488355328) : Calls Tryz.prog 56 #[.pointer (some ⟨w.heap.size, 0, none⟩), .int .u8 (c.toNat : Int)] wr fun e w' => e = .returned .nilIface ∧ ImgAt w kv ks w' (l ++ [c]) := by
  obtain ⟨bv, h1, h2, h3, h4, h5⟩ := h
  refine (bldbyte_calls _ bv l c wr h1 hl).mono ?_
  rintro e w' ⟨rfl, h⟩
  exact ⟨rfl, ImgAt.step (fun m hm => (h4.lt m hm).2) h2 h3 h4 h5 h⟩
theorem img_write (g cap : Nat) (news : List UInt8) (h : ImgAt w kv ks wr l) (hn : ∀ j (hj : j < news.length), wr.cell? ⟨g, j, none⟩ = some (.int .u8 (news[j].toNat : Int))) (hg : g < wr.heap.size) (hgb : g ≠ w.heap.size) (hl : l.length + news.length ≤ 140737488355328) :
    Calls Tryz.prog 57 #[.pointer (some ⟨w.heap.size, 0, none⟩), .slice (some ⟨g, 0, none⟩) news.length cap] wr fun e w' => e = .returned (.tuple #[.int .i64 news.length, .nilIface]) ∧ ImgAt w kv ks w' (l ++ news) := by
  obtain ⟨bv, h1, h2, h3, h4, h5⟩ := h
  refine (bldwrite_calls _ bv l g cap news wr h1 hn hg hgb hl).mono ?_
  rintro e w' ⟨rfl, h⟩
  exact ⟨rfl, ImgAt.step (fun m hm => (h4.lt m hm).2) h2 h3 h4 h5 h⟩
theorem img_text (h : ImgAt w kv ks wr l) : Calls Tryz.prog 58 #[.pointer (some ⟨w.heap.size, 0, none⟩)] wr fun e w' => e = .returned (.string ⟨l.toArray⟩) ∧ Below w.heap.size w w' := by
  obtain ⟨bv, h1, h2, h3, h4, h5⟩ := h
  refine (bldtext_callsLow _ bv l wr h1 w.heap.size h2 h5.size).mono ?_
  rintro e w' ⟨rfl, h⟩
  exact ⟨rfl, h5.trans h⟩
end
theorem be4_cells (n : Nat) (hn : n ≤ 1048576) : ∀ j (hj : j < (be4L n).length), (#[Value.int .u8 ((n : Int) / 16777216), Value.int .u8 ((n : Int) / 65536), Value.int .u8 ((n : Int) / 256 % 256), Value.int .u8 ((n : Int) % 256)] : Array Value)[j]? = some (.int .u8 ((be4L n)[j].toNat : Int)) := by
  have key : ∀ a b : Int, a = b → some (Value.int .u8 a) = some (Value.int .u8 b) := fun a b h => by rw [h]
  intro j hj
  have h4 : (be4L n).length = 4 := rfl
  match j, hj with
  | 0, _ => refine key _ _ ?_; simp [be4L]; omega
  | 1, _ => refine key _ _ ?_; simp [be4L]; omega
  | 2, _ => refine key _ _ ?_; simp [be4L]
  | 3, _ => refine key _ _ ?_; simp [be4L]
  | j + 4, hj => rw [h4] at hj; omega
theorem img_be4 {w w4 : World} {kv : Value} {ks : List ByteArray} {l : List UInt8} (n : Nat) (hn : n ≤ 1048576) (h : ImgAt w kv ks w4 l) (hl : l.length + 4 ≤ 140737488355328) :
    Calls Tryz.prog 57 #[.pointer (some ⟨w.heap.size, 0, none⟩), .slice (some ⟨w4.heap.size, 0, none⟩) 4 4] (w4.alloc (.cells #[Value.int .u8 ((n : Int) / 16777216), Value.int .u8 ((n : Int) / 65536), Value.int .u8 ((n : Int) / 256 % 256), Value.int .u8 ((n : Int) % 256)] 5)) fun e w' => e = .returned (.tuple #[.int .i64 4, .nilIface]) ∧ ImgAt w kv ks w' (l ++ be4L n) :=
  img_write w4.heap.size 4 (be4L n) (h.alloc _) (fun j hj => (World.cell?_alloc_new w4 _ _ j).trans (be4_cells n hn j hj)) (by simp) (Nat.ne_of_gt h.lt) hl
theorem strV_at (l : List ByteArray) (k : Nat) (h : k < l.length) : (strV l)[k]? = some (.string l[k]) := by simp [strV, List.getElem?_eq_getElem h]
set_option maxRecDepth 100000 in
set_option maxHeartbeats 4000000 in
theorem simage_calls (K : Nat) (hK : K ≤ 2097152) (w : World) (g bn bd : Nat) (v : Value) (x : Fld) (h : PSF w g bn bd v x) (hf : Fine K x) :
    Calls Tryz.prog 23 #[.pointer (some ⟨g, 0, none⟩)] w fun e w' => e = .returned (.string ⟨(imageL x.dur).toArray⟩) ∧ Below w.heap.size w w' := by
  have H := Lib.hid h
  have HF := Lib.hid hf
  obtain ⟨n, hn⟩ : ∃ n, n = x.dur.length := ⟨_, rfl⟩
  have hn2 : n ≤ 2097152 := by rw [hn]; have := hf.len; omega
  have HN := Lib.hid hn
  have HB := Lib.hid (BldV.fresh w)
  have HS1 := Lib.hid (show ([] : List UInt8).length + (⟨#[83]⟩ : ByteArray).size ≤ 140737488355328 from by decide)
  have CS := Lib.hid (fun w b (h : SMap w b x.dur) => rssorted_calls b x.dur w h hf.sd (by rw [← hn]; omega))
  have CW := Lib.hid (fun b v l s w h hl => bldstr_calls b v l s w h hl)
  have CB := Lib.hid (fun b v l c w h hl => bldbyte_calls b v l c w h hl)
  have HP0 := Lib.hid (h.alloc (.cells #[.pointer none, .slice none 0 0] 91))
  have hb0 : Hid (Below w.heap.size w (w.alloc (.cells #[.pointer none, .slice none 0 0] 91))) := Lib.hid ((Below.refl _ w).alloc (Nat.le_refl _) _)
  have hlt := h.lt
  clear h hf hn
  go_enter Tryz.func23, Tryz.ntmps23
  go_wp2_with (first
    | (go_at_call 54; (with_reducible refine (CW.out _ _ _ ⟨#[83]⟩ _ HB.out HS1.out).mono ?_); rintro e w1 ⟨rfl, bv, hbv, htv, hlv⟩
       have HBV := Lib.hid hbv
       have hB1 := htv.toBelow (B := w.heap.size) (by simp) (fun x hx => by { rcases mem_bfoot.1 hx with e | e; omega; cases e })
       have HB1 := Lib.hid (hb0.out.trans hB1)
       have hfv : ∀ m ∈ bfoot w.heap.size bv, w.heap.size ≤ m := by { intro m hm; rcases mem_bfoot.1 hm with e | e; omega; rcases hlv with e2 | ⟨m2, e2, e3⟩; rw [e2] at e; cases e; rw [e2] at e; injection e with e; simp at e3; omega }
       have HFV := Lib.hid hfv
       have hP1 := H.out.keep HB1.out
       have c2 := hP1.c2
       have HP1 := Lib.hid hP1
       clear hbv htv hlv hB1 hfv hP1)
    | (go_at_call 55; (with_reducible refine (CS.out _ _ HP1.out.dur).mono ?_); rintro e w2 ⟨kv, rfl, hr2, hb2⟩
       have HR2 := Lib.hid hr2
       have HB2 := Lib.hid hb2
       obtain ⟨ka, kc, hkv⟩ : ∃ a c, kv = .slice a x.dur.length c := hr2.slice
       rw [← HN.out] at hkv
       subst hkv
       clear hr2 hb2))
  have hst : ImgAt w (.slice ka n kc) (x.dur.map (·.1)) w2 (imageL (x.dur.take 0)) := by
    refine ⟨bv, HBV.out.keep HB2.out, HFV.out, fun m hm hm2 => ?_, ?_, HB1.out.trans (HB2.out.mono HB1.out.size)⟩
    · have h1 := (HR2.out.lt m hm).1
      have h2 := HBV.out.lt m hm2
      omega
    · have h := HR2.out.mono (Nat.zero_le _)
      rw [← HN.out] at h
      rw [List.length_map, ← HN.out]; exact h
  have HST := Lib.hid hst
  clear hst c2
  go_loopw [5, 6, 7, 15] (fun _ _ _ iv wr => ∃ k : Nat, k ≤ n ∧ iv = .int .i64 k ∧ Hid (ImgAt w (.slice ka n kc) (x.dur.map (·.1)) wr (imageL (x.dur.take k)))) (fun _ _ _ iv _ => n - (intOf iv).toNat)
  case atStart => exact ⟨0, by omega, rfl, HST⟩
  case round =>
    obtain ⟨k, hk, rfl, HI⟩ := hrel
    by_cases hlt2 : k < n
    · have hkl : k < x.dur.length := by rw [← HN.out]; exact hlt2
      have hbk : (k : Int) < n := by omega
      obtain ⟨rk, hrk⟩ : ∃ r, x.dur[k] = r := ⟨_, rfl⟩
      have hmem : rk ∈ x.dur := by rw [← hrk]; exact List.getElem_mem hkl
      have hfit := HF.out.fd rk hmem
      have hfind := find_of_mem HF.out.sd hmem rfl
      obtain ⟨kk, dd⟩ := rk
      have hfit' : 1 ≤ kk.size ∧ kk.size ≤ 64 ∧ dd.size ≤ 1048576 := hfit
      have hP := H.out.keep HI.out.below
      have c2 := hP.c2
      have hlook := hP.dur.look_one (by have := hfit'.2.1; unfold maxLen; show kk.size ≤ _; omega) hfind
      have hat := strV_at (x.dur.map (·.1)) k (by simpa using hkl)
      rw [List.getElem_map, hrk] at hat
      obtain ⟨gk, hka, hc⟩ : ∃ gk, ka = some ⟨gk, 0, none⟩ ∧ wr.cell? ⟨gk, k, none⟩ = some (.string kk) := by
        rcases HI.out.row.form with ⟨e, e2, _⟩ | ⟨g', cap, e, _, hg, _, _, hx, _⟩
        · rw [List.length_map, ← HN.out] at e2; omega
        · injection e with e1 e2 e3; exact ⟨g', e1, hx k _ hat⟩
      subst hka
      have hil : (imageL (x.dur.take k)).length ≤ 2199167959041 := by
        have h1 := imageL_len (l := x.dur.take k) (fun r hr => HF.out.fd r (List.mem_of_mem_take hr))
        have h2 : (x.dur.take k).length ≤ 2097152 := by rw [List.length_take]; omega
        omega
      have hsn : imageL (x.dur.take (k + 1)) = imageL (x.dur.take k) ++ recL (kk, dd) := by rw [take_rec hkl, hrk, imageL_snoc]
      have HSN := Lib.hid hsn
      have HIL := Lib.hid hil
      simp only at hlook
      clear hrk hmem hfit hfind hP hat hil hsn
      have hk1 : kk.data.toList.length = kk.size := by simp
      have hd1 : dd.data.toList.length = dd.size := by simp
      have hcb : ((UInt8.ofNat kk.size).toNat : Int) = kk.size := by simp; omega
      obtain ⟨L, hL⟩ : ∃ L, imageL (x.dur.take k) = L := ⟨_, rfl⟩
      rw [hL] at HI HSN HIL
      have h1 := img_byte (UInt8.ofNat kk.size) HI.out (by have := HIL.out; omega)
      rw [hcb] at h1
      have C1 := Lib.hid h1
      have C2 := Lib.hid (fun w' (h : ImgAt w (.slice (some ⟨gk, 0, none⟩) n kc) (x.dur.map (·.1)) w' (L ++ [UInt8.ofNat kk.size])) => img_str kk h (by have := HIL.out; simp only [List.length_append, List.length_cons, List.length_nil]; omega))
      have C3 := Lib.hid (fun (w' : World) (h : ImgAt w (.slice (some ⟨gk, 0, none⟩) n kc) (x.dur.map (·.1)) w' (L ++ [UInt8.ofNat kk.size] ++ kk.data.toList)) => img_be4 dd.size hfit'.2.2 h (by have := HIL.out; simp only [List.length_append, List.length_cons, List.length_nil, hk1]; omega))
      have C4 := Lib.hid (fun w' (h : ImgAt w (.slice (some ⟨gk, 0, none⟩) n kc) (x.dur.map (·.1)) w' (L ++ [UInt8.ofNat kk.size] ++ kk.data.toList ++ be4L dd.size)) => img_str dd h (by have := HIL.out; simp only [List.length_append, List.length_cons, List.length_nil, be4L, hk1]; omega))
      have HK1 := Lib.hid hk1
      have HD1 := Lib.hid hd1
      clear hk1 hd1 hcb hL h1
      go_wp2_with (first
        | (go_at_call 56; (with_reducible refine C1.out.mono ?_); rintro e w3 ⟨rfl, h3⟩; have H3 := Lib.hid h3; clear h3)
        | (go_at_call 54; (with_reducible refine (C2.out _ H3.out).mono ?_); rintro e w4 ⟨rfl, h4⟩; have H4 := Lib.hid h4; clear h4)
        | (go_at_call 57; (with_reducible refine (C3.out _ H4.out).mono ?_); rintro e w5 ⟨rfl, h5⟩; have H5 := Lib.hid h5; clear h5)
        | (go_at_call 54; (with_reducible refine (C4.out _ H5.out).mono ?_); rintro e w6 ⟨rfl, h6⟩; have H6 := Lib.hid h6; clear h6))
      exact ⟨⟨k + 1, by omega, by go_num, Lib.hid (by rw [HSN.out]; have h := H6.out; simpa [recL, List.append_assoc] using h)⟩, by simp [intOf]; omega⟩
    · obtain rfl : k = n := by omega
      have HT := Lib.hid (by have h := HI.out; rw [HN.out, List.take_length] at h; exact img_text h)
      clear hlt2 hk
      go_wp2_with (go_at_call 58; (with_reducible refine HT.out.mono ?_); rintro e w5 ⟨rfl, h5⟩; have H5 := Lib.hid h5; clear h5)
      go_ret
      exact ⟨rfl, H5.out⟩
end Go.Proofs.YtcicdgajhheipaaGreat
