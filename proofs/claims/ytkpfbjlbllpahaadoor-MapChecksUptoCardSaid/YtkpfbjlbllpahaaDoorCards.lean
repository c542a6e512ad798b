/-
  DERIVED. GIVEN WITH THE SEED: THE CARDS: each row of YtkpfbjlbllpahaaDoorRows.lean that lists a variable, with what it lists TIED to the program's text (the seventh form; the later family's looks); each row that meets fmt, with fmt's text TOLD by the authors' own Lean function (tested against real Go, not proved from fmt's source: count such statements apart). THE CARD IS WHAT COUNTS. Prove the row's statement (the work); the ties are given (YtkpfbjlbllpahaaDoorTie.lean); close each card by the builder's one call (the guide's Derived/Test/ToyasCard.lean, 'card_holds'). Laid BY PROGRAM, IN A SANDBOX (cutbox-door.mjs). By AI agents, Wed Nov 11 2026. No macro, syntax, notation, axiom, sorry.
-/
import Derived.Test.YtkpfbjlbllpahaaDoorRows
import GoSem.ClaimSeven
namespace Go.Proofs.YtkpfbjlbllpahaaDoor
namespace Rows

/-- THE TIED CARD OF 'annalslaw29.MapChecks'. -/
def mapChecksCard : Claim7 := { stood := { row := mapChecksRow, standIns := [], harness := (true, "3a0d59bcff05e2d802b33b7f3ab4caeefbc2f115c6162f45362980b9455a9206"), looks := false }, kinds := [], alts := [], laidByText := true, laidKinds := [.data, .data, .data, .data], laidTests := true, laidLooks := .later }
def MapChecksCardSaid : Prop := Claim7.holds Tryd.pinned (.plain (OpenSpec.ofChange mapChecksSpec)) mapChecksCard

/-- THE TIED CARD OF 'annalslaw29.MapBytes'. -/
def mapBytesCard : Claim7 := { stood := { row := mapBytesRow, standIns := [], harness := (true, "3a0d59bcff05e2d802b33b7f3ab4caeefbc2f115c6162f45362980b9455a9206"), looks := false }, kinds := [], alts := [], laidByText := true, laidKinds := [.data, .data, .data, .data], laidTests := true, laidLooks := .later }
def MapBytesCardSaid : Prop := Claim7.holds Tryd.pinned (.plain (OpenSpec.ofChange mapBytesSpec)) mapBytesCard

/-- THE TIED CARD OF 'annalslaw29.MapReplays'. -/
def mapReplaysCard : Claim7 := { stood := { row := mapReplaysRow, standIns := [], harness := (true, "3a0d59bcff05e2d802b33b7f3ab4caeefbc2f115c6162f45362980b9455a9206"), looks := false }, kinds := [], alts := [], laidByText := true, laidKinds := [.data, .data, .data, .data], laidTests := true, laidLooks := .later }
def MapReplaysCardSaid : Prop := Claim7.holds Tryd.pinned (.plain (OpenSpec.ofChange mapReplaysSpec)) mapReplaysCard

/-- THE TIED CARD OF 'annalslaw29.MapProves'. -/
def mapProvesCard : Claim7 := { stood := { row := mapProvesRow, standIns := [], harness := (true, "3a0d59bcff05e2d802b33b7f3ab4caeefbc2f115c6162f45362980b9455a9206"), looks := false }, kinds := [], alts := [], laidByText := true, laidKinds := [.data, .data, .data, .data], laidTests := true, laidLooks := .later }
def MapProvesCardSaid : Prop := Claim7.holds Tryd.pinned (.plain (OpenSpec.ofChange mapProvesSpec)) mapProvesCard

/-- THE TIED CARD OF 'annalslaw29.MapHangs'. -/
def mapHangsCard : Claim7 := { stood := { row := mapHangsRow, standIns := [], harness := (true, "3a0d59bcff05e2d802b33b7f3ab4caeefbc2f115c6162f45362980b9455a9206"), looks := false }, kinds := [], alts := [], laidByText := true, laidKinds := [.data, .data], laidTests := true, laidLooks := .later }
def MapHangsCardSaid : Prop := Claim7.holds Tryd.pinned (.plain (OpenSpec.ofChange mapHangsSpec)) mapHangsCard

/-- THE TIED CARD OF 'annalslaw29.MapSound'. -/
def mapSoundCard : Claim7 := { stood := { row := mapSoundRow, standIns := [], harness := (true, "3a0d59bcff05e2d802b33b7f3ab4caeefbc2f115c6162f45362980b9455a9206"), looks := false }, kinds := [], alts := [], laidByText := true, laidKinds := [.data, .data], laidTests := true, laidLooks := .later }
def MapSoundCardSaid : Prop := Claim7.holds Tryd.pinned (.plain (OpenSpec.ofChange mapSoundSpec)) mapSoundCard

/-- THE TIED CARD OF 'annalslaw29.MapGrows'. -/
def mapGrowsCard : Claim7 := { stood := { row := mapGrowsRow, standIns := [], harness := (true, "3a0d59bcff05e2d802b33b7f3ab4caeefbc2f115c6162f45362980b9455a9206"), looks := false }, kinds := [], alts := [], laidByText := true, laidKinds := [.data, .data], laidTests := true, laidLooks := .later }
def MapGrowsCardSaid : Prop := Claim7.holds Tryd.pinned (.plain (OpenSpec.ofChange mapGrowsSpec)) mapGrowsCard

/-- THE SECOND FORM's CARD OF 'annalslaw29.MapChecks'. -/
def mapChecksUptoCard : Claim7 := { stood := { row := mapChecksUptoRow, standIns := [], harness := (true, "3a0d59bcff05e2d802b33b7f3ab4caeefbc2f115c6162f45362980b9455a9206"), looks := false }, kinds := [], alts := [], laidByText := true, laidKinds := [.data, .data, .data, .data], laidTests := true, laidLooks := .later }
def MapChecksUptoCardSaid : Prop := Claim7.holds Tryd.pinned (.plain (OpenSpec.upto mapChecksSpec)) mapChecksUptoCard

/-- THE SECOND FORM's CARD OF 'annalslaw29.MapBytes'. -/
def mapBytesUptoCard : Claim7 := { stood := { row := mapBytesUptoRow, standIns := [], harness := (true, "3a0d59bcff05e2d802b33b7f3ab4caeefbc2f115c6162f45362980b9455a9206"), looks := false }, kinds := [], alts := [], laidByText := true, laidKinds := [.data, .data, .data, .data], laidTests := true, laidLooks := .later }
def MapBytesUptoCardSaid : Prop := Claim7.holds Tryd.pinned (.plain (OpenSpec.upto mapBytesSpec)) mapBytesUptoCard

/-- THE SECOND FORM's CARD OF 'annalslaw29.MapReplays'. -/
def mapReplaysUptoCard : Claim7 := { stood := { row := mapReplaysUptoRow, standIns := [], harness := (true, "3a0d59bcff05e2d802b33b7f3ab4caeefbc2f115c6162f45362980b9455a9206"), looks := false }, kinds := [], alts := [], laidByText := true, laidKinds := [.data, .data, .data, .data], laidTests := true, laidLooks := .later }
def MapReplaysUptoCardSaid : Prop := Claim7.holds Tryd.pinned (.plain (OpenSpec.upto mapReplaysSpec)) mapReplaysUptoCard

/-- THE SECOND FORM's CARD OF 'annalslaw29.MapProves'. -/
def mapProvesUptoCard : Claim7 := { stood := { row := mapProvesUptoRow, standIns := [], harness := (true, "3a0d59bcff05e2d802b33b7f3ab4caeefbc2f115c6162f45362980b9455a9206"), looks := false }, kinds := [], alts := [], laidByText := true, laidKinds := [.data, .data, .data, .data], laidTests := true, laidLooks := .later }
def MapProvesUptoCardSaid : Prop := Claim7.holds Tryd.pinned (.plain (OpenSpec.upto mapProvesSpec)) mapProvesUptoCard

/-- THE SECOND FORM's CARD OF 'annalslaw29.MapHangs'. -/
def mapHangsUptoCard : Claim7 := { stood := { row := mapHangsUptoRow, standIns := [], harness := (true, "3a0d59bcff05e2d802b33b7f3ab4caeefbc2f115c6162f45362980b9455a9206"), looks := false }, kinds := [], alts := [], laidByText := true, laidKinds := [.data, .data], laidTests := true, laidLooks := .later }
def MapHangsUptoCardSaid : Prop := Claim7.holds Tryd.pinned (.plain (OpenSpec.upto mapHangsSpec)) mapHangsUptoCard

/-- THE SECOND FORM's CARD OF 'annalslaw29.MapSound'. -/
def mapSoundUptoCard : Claim7 := { stood := { row := mapSoundUptoRow, standIns := [], harness := (true, "3a0d59bcff05e2d802b33b7f3ab4caeefbc2f115c6162f45362980b9455a9206"), looks := false }, kinds := [], alts := [], laidByText := true, laidKinds := [.data, .data], laidTests := true, laidLooks := .later }
def MapSoundUptoCardSaid : Prop := Claim7.holds Tryd.pinned (.plain (OpenSpec.upto mapSoundSpec)) mapSoundUptoCard

/-- THE SECOND FORM's CARD OF 'annalslaw29.MapGrows'. -/
def mapGrowsUptoCard : Claim7 := { stood := { row := mapGrowsUptoRow, standIns := [], harness := (true, "3a0d59bcff05e2d802b33b7f3ab4caeefbc2f115c6162f45362980b9455a9206"), looks := false }, kinds := [], alts := [], laidByText := true, laidKinds := [.data, .data], laidTests := true, laidLooks := .later }
def MapGrowsUptoCardSaid : Prop := Claim7.holds Tryd.pinned (.plain (OpenSpec.upto mapGrowsSpec)) mapGrowsUptoCard
end Rows
end Go.Proofs.YtkpfbjlbllpahaaDoor
