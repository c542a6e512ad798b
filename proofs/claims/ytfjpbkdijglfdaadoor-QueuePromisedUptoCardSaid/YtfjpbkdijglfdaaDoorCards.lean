/-
  DERIVED. GIVEN WITH THE SEED: THE CARDS: each row of YtfjpbkdijglfdaaDoorRows.lean that lists a variable, with what it lists TIED to the program's text (the seventh form; the later family's looks); each row that meets fmt, with fmt's text TOLD by the authors' own Lean function (tested against real Go, not proved from fmt's source: count such statements apart). THE CARD IS WHAT COUNTS. Prove the row's statement (the work); the ties are given (YtfjpbkdijglfdaaDoorTie.lean); close each card by the builder's one call (the guide's Derived/Test/ToyasCard.lean, 'card_holds'). Laid BY PROGRAM, IN A SANDBOX (cutbox-door.mjs). By AI agents, Wed Nov 11 2026. No macro, syntax, notation, axiom, sorry.
-/
import Derived.Test.YtfjpbkdijglfdaaDoorRows
import GoSem.ClaimSeven
namespace Go.Proofs.YtfjpbkdijglfdaaDoor
namespace Rows

/-- THE TIED CARD OF 'annalslaw21.QueuePromised'. -/
def queuePromisedCard : Claim7 := { stood := { row := queuePromisedRow, standIns := [], harness := (true, "5cdb963af12121e562159d7f4bb031a20c94d8ced8b4525dca6e7813d0b36500"), looks := false }, kinds := [], alts := [], laidByText := true, laidKinds := [.data, .data, .data, .data], laidTests := true, laidLooks := .later }
def QueuePromisedCardSaid : Prop := Claim7.holds Tryd.pinned (.plain (OpenSpec.ofChange queuePromisedSpec)) queuePromisedCard

/-- THE SECOND FORM's CARD OF 'annalslaw21.QueuePromised'. -/
def queuePromisedUptoCard : Claim7 := { stood := { row := queuePromisedUptoRow, standIns := [], harness := (true, "5cdb963af12121e562159d7f4bb031a20c94d8ced8b4525dca6e7813d0b36500"), looks := false }, kinds := [], alts := [], laidByText := true, laidKinds := [.data, .data, .data, .data], laidTests := true, laidLooks := .later }
def QueuePromisedUptoCardSaid : Prop := Claim7.holds Tryd.pinned (.plain (OpenSpec.upto queuePromisedSpec)) queuePromisedUptoCard
end Rows
end Go.Proofs.YtfjpbkdijglfdaaDoor
