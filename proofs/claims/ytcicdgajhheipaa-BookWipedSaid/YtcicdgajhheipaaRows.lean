/-
  No cell of these rows narrows 'for every input' (looked for: loops, veiled, ifaces, maps, wideKeys, modest, calm, conditions, laid).
  DERIVED. THE GIVEN ROWS OF THIS SEAT. 7 by the template 'for every input the law returns true; each argument reads behind the call as it read before'; 0 by the template 'total and deterministic' (their statements: YtcicdgajhheipaaTotals.lean).
  GIVEN WITH THE SEED: the statements are not yours to turn. If you find one false, say at which input.
  Laid BY PROGRAM, IN A SANDBOX (cutbox-rows.mjs): the forced cells as the released guide's own fill.sh prints them over the translation 87f523b607ae6058… (all of the seat's roots in one cut). By AI agents, Wed Nov 11 2026. No macro, syntax, notation, axiom, sorry.
-/
import Derived.Test.YtcicdgajhheipaaChecked
import GoSem.Claim
import GoSem.ClaimJoined
import GoSem.ClaimMapViews
import Derived.JoinedTies
import Derived.KernelRfl
namespace Go.Proofs.Ytcicdgajhheipaa
/- THE CELL 'sum', in the pinned program and in every row, IS THE sha256 OF THE DUMP (.gsa) THAT YtcicdgajhheipaaProg.lean LOADS. Nothing in Lean hashes anything: it is a label: what it is worth is what the hold of that sum in a sandbox is worth. -/
noncomputable def Try.pinned : Pinned := { name := "ytcicdgajhheipaa", sum := "87f523b607ae60589e9146325ba7e4934d0f5bb61ddd0ccf590628dc843d322e", checked := Try.checked }
namespace Rows
def none {H : Type} : Left H := { results := [], args := [] }

/-- 'annalslaw13.BookNames': WHATEVER THE INPUT: true; the input reads as it did. -/
def bookNamesSpec : ChangeSpec := { name := "bookNames", fn := fun _ => fun
  | [] => { results := [.lit (.bool true)], args := [] }
  | _ => none }
def bookNamesRow : OpenClaim := { program := "ytcicdgajhheipaa", sum := "87f523b607ae60589e9146325ba7e4934d0f5bb61ddd0ccf590628dc843d322e", func := "annals/annalslaw13.BookNames", spec := "bookNames", apart := false }
def BookNamesSaid : Prop := bookNamesRow.holds Try.pinned (OpenSpec.ofChange bookNamesSpec)

/-- ITS FALSE NEIGHBOUR: 'it returns false'. Refute it at one input. -/
def bookNamesWrong : ChangeSpec := { name := "bookNames", fn := fun _ => fun
  | [] => { results := [.lit (.bool false)], args := [] }
  | _ => none }
def BookNamesWrongFalsely : Prop := bookNamesRow.holds Try.pinned (OpenSpec.ofChange bookNamesWrong)

/-- 'annalslaw13.BookKeys': WHATEVER THE INPUT: true; the input reads as it did. -/
def bookKeysSpec : ChangeSpec := { name := "bookKeys", fn := fun _ => fun
  | [d1, d2, d3, d4, d5, d6] => { results := [.lit (.bool true)], args := [d1, d2, d3, d4, d5, d6] }
  | _ => none }
def bookKeysRow : OpenClaim := { program := "ytcicdgajhheipaa", sum := "87f523b607ae60589e9146325ba7e4934d0f5bb61ddd0ccf590628dc843d322e", func := "annals/annalslaw13.BookKeys", spec := "bookKeys", apart := false }
def BookKeysSaid : Prop := bookKeysRow.holds Try.pinned (OpenSpec.ofChange bookKeysSpec)

/-- ITS FALSE NEIGHBOUR: 'it returns false'. Refute it at one input. -/
def bookKeysWrong : ChangeSpec := { name := "bookKeys", fn := fun _ => fun
  | [d1, d2, d3, d4, d5, d6] => { results := [.lit (.bool false)], args := [d1, d2, d3, d4, d5, d6] }
  | _ => none }
def BookKeysWrongFalsely : Prop := bookKeysRow.holds Try.pinned (OpenSpec.ofChange bookKeysWrong)

/-- 'annalslaw13.BookBack': WHATEVER THE INPUT: true; the input reads as it did. -/
def bookBackSpec : ChangeSpec := { name := "bookBack", fn := fun _ => fun
  | [d1, d2, d3, d4, d5, d6] => { results := [.lit (.bool true)], args := [d1, d2, d3, d4, d5, d6] }
  | _ => none }
def bookBackRow : OpenClaim := { program := "ytcicdgajhheipaa", sum := "87f523b607ae60589e9146325ba7e4934d0f5bb61ddd0ccf590628dc843d322e", func := "annals/annalslaw13.BookBack", spec := "bookBack", unfollowed := true, recurses := true, apart := false }
def BookBackSaid : Prop := bookBackRow.holds Try.pinned (OpenSpec.ofChange bookBackSpec)

/-- ITS FALSE NEIGHBOUR: 'it returns false'. Refute it at one input. -/
def bookBackWrong : ChangeSpec := { name := "bookBack", fn := fun _ => fun
  | [d1, d2, d3, d4, d5, d6] => { results := [.lit (.bool false)], args := [d1, d2, d3, d4, d5, d6] }
  | _ => none }
def BookBackWrongFalsely : Prop := bookBackRow.holds Try.pinned (OpenSpec.ofChange bookBackWrong)

/-- 'annalslaw13.BookSpoilt': WHATEVER THE INPUT: true; the input reads as it did. -/
def bookSpoiltSpec : ChangeSpec := { name := "bookSpoilt", fn := fun _ => fun
  | [d1, d2, d3, d4, d5] => { results := [.lit (.bool true)], args := [d1, d2, d3, d4, d5] }
  | _ => none }
def bookSpoiltRow : OpenClaim := { program := "ytcicdgajhheipaa", sum := "87f523b607ae60589e9146325ba7e4934d0f5bb61ddd0ccf590628dc843d322e", func := "annals/annalslaw13.BookSpoilt", spec := "bookSpoilt", unfollowed := true, recurses := true, apart := false }
def BookSpoiltSaid : Prop := bookSpoiltRow.holds Try.pinned (OpenSpec.ofChange bookSpoiltSpec)

/-- ITS FALSE NEIGHBOUR: 'it returns false'. Refute it at one input. -/
def bookSpoiltWrong : ChangeSpec := { name := "bookSpoilt", fn := fun _ => fun
  | [d1, d2, d3, d4, d5] => { results := [.lit (.bool false)], args := [d1, d2, d3, d4, d5] }
  | _ => none }
def BookSpoiltWrongFalsely : Prop := bookSpoiltRow.holds Try.pinned (OpenSpec.ofChange bookSpoiltWrong)

/-- 'annalslaw13.BookFrames': WHATEVER THE INPUT: true; the input reads as it did. -/
def bookFramesSpec : ChangeSpec := { name := "bookFrames", fn := fun _ => fun
  | [d1, d2, d3, d4, d5] => { results := [.lit (.bool true)], args := [d1, d2, d3, d4, d5] }
  | _ => none }
def bookFramesRow : OpenClaim := { program := "ytcicdgajhheipaa", sum := "87f523b607ae60589e9146325ba7e4934d0f5bb61ddd0ccf590628dc843d322e", func := "annals/annalslaw13.BookFrames", spec := "bookFrames", unfollowed := true, recurses := true, apart := false }
def BookFramesSaid : Prop := bookFramesRow.holds Try.pinned (OpenSpec.ofChange bookFramesSpec)

/-- ITS FALSE NEIGHBOUR: 'it returns false'. Refute it at one input. -/
def bookFramesWrong : ChangeSpec := { name := "bookFrames", fn := fun _ => fun
  | [d1, d2, d3, d4, d5] => { results := [.lit (.bool false)], args := [d1, d2, d3, d4, d5] }
  | _ => none }
def BookFramesWrongFalsely : Prop := bookFramesRow.holds Try.pinned (OpenSpec.ofChange bookFramesWrong)

/-- 'annalslaw13.BookOutlasts': WHATEVER THE INPUT: true; the input reads as it did. -/
def bookOutlastsSpec : ChangeSpec := { name := "bookOutlasts", fn := fun _ => fun
  | [d1, d2, d3, d4, d5, d6] => { results := [.lit (.bool true)], args := [d1, d2, d3, d4, d5, d6] }
  | _ => none }
def bookOutlastsRow : OpenClaim := { program := "ytcicdgajhheipaa", sum := "87f523b607ae60589e9146325ba7e4934d0f5bb61ddd0ccf590628dc843d322e", func := "annals/annalslaw13.BookOutlasts", spec := "bookOutlasts", inPlace := ["maps.clone"], unfollowed := true, recurses := true, apart := false }
def BookOutlastsSaid : Prop := bookOutlastsRow.holds Try.pinned (OpenSpec.ofChange bookOutlastsSpec)

/-- ITS FALSE NEIGHBOUR: 'it returns false'. Refute it at one input. -/
def bookOutlastsWrong : ChangeSpec := { name := "bookOutlasts", fn := fun _ => fun
  | [d1, d2, d3, d4, d5, d6] => { results := [.lit (.bool false)], args := [d1, d2, d3, d4, d5, d6] }
  | _ => none }
def BookOutlastsWrongFalsely : Prop := bookOutlastsRow.holds Try.pinned (OpenSpec.ofChange bookOutlastsWrong)

/-- 'annalslaw13.BookWiped': WHATEVER THE INPUT: true; the input reads as it did. -/
def bookWipedSpec : ChangeSpec := { name := "bookWiped", fn := fun _ => fun
  | [d1, d2, d3] => { results := [.lit (.bool true)], args := [d1, d2, d3] }
  | _ => none }
def bookWipedRow : OpenClaim := { program := "ytcicdgajhheipaa", sum := "87f523b607ae60589e9146325ba7e4934d0f5bb61ddd0ccf590628dc843d322e", func := "annals/annalslaw13.BookWiped", spec := "bookWiped", inPlace := ["maps.clone"], unfollowed := true, recurses := true, apart := false }
def BookWipedSaid : Prop := bookWipedRow.holds Try.pinned (OpenSpec.ofChange bookWipedSpec)

/-- ITS FALSE NEIGHBOUR: 'it returns false'. Refute it at one input. -/
def bookWipedWrong : ChangeSpec := { name := "bookWiped", fn := fun _ => fun
  | [d1, d2, d3] => { results := [.lit (.bool false)], args := [d1, d2, d3] }
  | _ => none }
def BookWipedWrongFalsely : Prop := bookWipedRow.holds Try.pinned (OpenSpec.ofChange bookWipedWrong)

/- THE SECOND FORM. 'bulk': how many values and letters a reading holds, each counted each time it is reached (what is shared counts as often as it is met; a slice's spare places count too). A statement '..UptoSaid' is the law's where the arguments, and the package variables that the reading takes, are together of bulk at most 1048576: NARROWER than '..Said'. Prove '..Said' where nothing that the law and all that it calls make is longer than what came in: it says more and counts as full. Else prove '..UptoSaid'. A law counts once. -/
mutual
def uptoBulk {H : Type} : DataW H → Nat
  | .lit (.string bytes) => bytes.length + 1
  | .lit _ => 1
  | .nil => 1
  | .ptr d => uptoBulk d + 1
  | .slice elems spare => uptoBulkAll elems + uptoBulkAll spare + 1
  | .agg parts => uptoBulkAll parts + 1
  | .iface _ d => uptoBulk d + 1
  | .map entries => uptoBulkEntries entries + 1
  | .held _ => 1
def uptoBulkAll {H : Type} : List (DataW H) → Nat
  | [] => 0
  | d :: r => uptoBulk d + uptoBulkAll r
def uptoBulkEntries {H : Type} : List (Lit × DataW H) → Nat
  | [] => 0
  | x :: r => uptoBulkEntry x + uptoBulkEntries r
def uptoBulkEntry {H : Type} : Lit × DataW H → Nat
  | (.string bytes, d) => bytes.length + uptoBulk d + 1
  | (_, d) => uptoBulk d + 1
 end
def uptoSmall : (H : Type) → List (DataW H) → Bool := fun _ ds => decide (uptoBulkAll ds ≤ 1048576)
def OpenSpec.upto (s : _root_.Go.ChangeSpec) : _root_.Go.OpenSpec := { _root_.Go.OpenSpec.ofChange s with cond := some uptoSmall }

/-- 'annalslaw13.BookNames', WHERE WHAT IT READS IS OF BULK AT MOST 1048576: true; the input reads as it did. -/
def bookNamesUptoRow : OpenClaim := { program := "ytcicdgajhheipaa", sum := "87f523b607ae60589e9146325ba7e4934d0f5bb61ddd0ccf590628dc843d322e", func := "annals/annalslaw13.BookNames", spec := "bookNames", apart := false, narrowed := true }
def BookNamesUptoSaid : Prop := bookNamesUptoRow.holds Try.pinned (OpenSpec.upto bookNamesSpec)

/-- 'annalslaw13.BookKeys', WHERE WHAT IT READS IS OF BULK AT MOST 1048576: true; the input reads as it did. -/
def bookKeysUptoRow : OpenClaim := { program := "ytcicdgajhheipaa", sum := "87f523b607ae60589e9146325ba7e4934d0f5bb61ddd0ccf590628dc843d322e", func := "annals/annalslaw13.BookKeys", spec := "bookKeys", apart := false, narrowed := true }
def BookKeysUptoSaid : Prop := bookKeysUptoRow.holds Try.pinned (OpenSpec.upto bookKeysSpec)

/-- 'annalslaw13.BookBack', WHERE WHAT IT READS IS OF BULK AT MOST 1048576: true; the input reads as it did. -/
def bookBackUptoRow : OpenClaim := { program := "ytcicdgajhheipaa", sum := "87f523b607ae60589e9146325ba7e4934d0f5bb61ddd0ccf590628dc843d322e", func := "annals/annalslaw13.BookBack", spec := "bookBack", unfollowed := true, recurses := true, apart := false, narrowed := true }
def BookBackUptoSaid : Prop := bookBackUptoRow.holds Try.pinned (OpenSpec.upto bookBackSpec)

/-- 'annalslaw13.BookSpoilt', WHERE WHAT IT READS IS OF BULK AT MOST 1048576: true; the input reads as it did. -/
def bookSpoiltUptoRow : OpenClaim := { program := "ytcicdgajhheipaa", sum := "87f523b607ae60589e9146325ba7e4934d0f5bb61ddd0ccf590628dc843d322e", func := "annals/annalslaw13.BookSpoilt", spec := "bookSpoilt", unfollowed := true, recurses := true, apart := false, narrowed := true }
def BookSpoiltUptoSaid : Prop := bookSpoiltUptoRow.holds Try.pinned (OpenSpec.upto bookSpoiltSpec)

/-- 'annalslaw13.BookFrames', WHERE WHAT IT READS IS OF BULK AT MOST 1048576: true; the input reads as it did. -/
def bookFramesUptoRow : OpenClaim := { program := "ytcicdgajhheipaa", sum := "87f523b607ae60589e9146325ba7e4934d0f5bb61ddd0ccf590628dc843d322e", func := "annals/annalslaw13.BookFrames", spec := "bookFrames", unfollowed := true, recurses := true, apart := false, narrowed := true }
def BookFramesUptoSaid : Prop := bookFramesUptoRow.holds Try.pinned (OpenSpec.upto bookFramesSpec)

/-- 'annalslaw13.BookOutlasts', WHERE WHAT IT READS IS OF BULK AT MOST 1048576: true; the input reads as it did. -/
def bookOutlastsUptoRow : OpenClaim := { program := "ytcicdgajhheipaa", sum := "87f523b607ae60589e9146325ba7e4934d0f5bb61ddd0ccf590628dc843d322e", func := "annals/annalslaw13.BookOutlasts", spec := "bookOutlasts", inPlace := ["maps.clone"], unfollowed := true, recurses := true, apart := false, narrowed := true }
def BookOutlastsUptoSaid : Prop := bookOutlastsUptoRow.holds Try.pinned (OpenSpec.upto bookOutlastsSpec)

/-- 'annalslaw13.BookWiped', WHERE WHAT IT READS IS OF BULK AT MOST 1048576: true; the input reads as it did. -/
def bookWipedUptoRow : OpenClaim := { program := "ytcicdgajhheipaa", sum := "87f523b607ae60589e9146325ba7e4934d0f5bb61ddd0ccf590628dc843d322e", func := "annals/annalslaw13.BookWiped", spec := "bookWiped", inPlace := ["maps.clone"], unfollowed := true, recurses := true, apart := false, narrowed := true }
def BookWipedUptoSaid : Prop := bookWipedUptoRow.holds Try.pinned (OpenSpec.upto bookWipedSpec)

end Rows
end Go.Proofs.Ytcicdgajhheipaa
