/-
  DERIVED. GIVEN WITH THE SEED: THE PROGRAM's TIES (one call each: nine closed facts by the kernel) AND EACH ROW's TIE, after the 31st guide's Derived/Test/Toyas{Tie, Card}.lean. No idea stands in it: it is a product of the set-up. Laid BY PROGRAM, IN A SANDBOX (cutbox-door.mjs). By AI agents, Wed Nov 11 2026. No macro, syntax, notation, axiom, sorry.
-/
import Derived.Test.YtfjpbkdijglfdaaDoorRows
import Derived.LaidByTextLater
import Derived.SevenTiedAt
import Derived.LaidSub
import Derived.LaidOnce
namespace Go.Proofs.YtfjpbkdijglfdaaDoor
open Go
set_option maxRecDepth 100000
theorem seatTie1 : Tryd.prog.laidByTextLater [("annals/annalsref2.first", Rows.laid_annals_annalsref2_first), ("annals/annalsref2.table", Rows.laid_annals_annalsref2_table), ("annals/sha.begin", Rows.laid_annals_sha_begin), ("annals/sha.table", Rows.laid_annals_sha_table)] [.data, .data, .data, .data] true :=
  Program.laidByTextLater_by_one 29 8 65 (by kernel_rfl) (by kernel_rfl) (by kernel_rfl) (by kernel_rfl) (by kernel_rfl) (by kernel_rfl) (fun _ _ => by kernel_rfl)
theorem noOwnUnsafe : Tryd.pinned.checked.prog.headLifts.contains "ownunsafe" = false := by kernel_rfl
theorem tie : Tryd.prog.laidByTextLater [("annals/annalsref2.first", Rows.laid_annals_annalsref2_first), ("annals/annalsref2.table", Rows.laid_annals_annalsref2_table), ("annals/sha.begin", Rows.laid_annals_sha_begin), ("annals/sha.table", Rows.laid_annals_sha_table)] [.data, .data, .data, .data] true :=
  Program.laidByTextLater.sub seatTie1 ["annals/annalsref2.first", "annals/annalsref2.table", "annals/sha.begin", "annals/sha.table"] (by kernel_rfl) (by kernel_rfl)
theorem queuePromised_row_tie : Rows.queuePromisedRow.laidByTextAt .later Tryd.pinned [.data, .data, .data, .data] true :=
  OpenClaim.laidByTextAt_later rfl rfl tie noOwnUnsafe
theorem queuePromisedUpto_row_tie : Rows.queuePromisedUptoRow.laidByTextAt .later Tryd.pinned [.data, .data, .data, .data] true :=
  OpenClaim.laidByTextAt_later rfl rfl tie noOwnUnsafe
end Go.Proofs.YtfjpbkdijglfdaaDoor
