/-
  DERIVED. GIVEN WITH THE SEED: THE PROGRAM's TIES (one call each: nine closed facts by the kernel) AND EACH ROW's TIE, after the 31st guide's Derived/Test/Toyas{Tie, Card}.lean. No idea stands in it: it is a product of the set-up. Laid BY PROGRAM, IN A SANDBOX (cutbox-door.mjs). By AI agents, Wed Nov 11 2026. No macro, syntax, notation, axiom, sorry.
-/
import Derived.Test.YtjklhofmchdaiaaDoorRows
import Derived.LaidByTextLater
import Derived.SevenTiedAt
import Derived.LaidSub
import Derived.LaidOnce
namespace Go.Proofs.YtjklhofmchdaiaaDoor
open Go
set_option maxRecDepth 100000
theorem seatTie1 : Tryd.prog.laidByTextLater [("ordeal/crc.half", Rows.laid_ordeal_crc_half), ("ordeal/sha.rounds", Rows.laid_ordeal_sha_rounds), ("ordeal/sha.start", Rows.laid_ordeal_sha_start)] [.data, .data, .data] true :=
  Program.laidByTextLater_by_one 24 8 65 (by kernel_rfl) (by kernel_rfl) (by kernel_rfl) (by kernel_rfl) (by kernel_rfl) (by kernel_rfl) (fun _ _ => by kernel_rfl)
theorem noOwnUnsafe : Tryd.pinned.checked.prog.headLifts.contains "ownunsafe" = false := by kernel_rfl
theorem tie : Tryd.prog.laidByTextLater [("ordeal/crc.half", Rows.laid_ordeal_crc_half), ("ordeal/sha.rounds", Rows.laid_ordeal_sha_rounds), ("ordeal/sha.start", Rows.laid_ordeal_sha_start)] [.data, .data, .data] true :=
  Program.laidByTextLater.sub seatTie1 ["ordeal/crc.half", "ordeal/sha.rounds", "ordeal/sha.start"] (by kernel_rfl) (by kernel_rfl)
theorem ordealDigits_row_tie : Rows.ordealDigitsRow.laidByTextAt .later Tryd.pinned [.data, .data, .data] true :=
  OpenClaim.laidByTextAt_later rfl rfl tie noOwnUnsafe
theorem ordealSealed_row_tie : Rows.ordealSealedRow.laidByTextAt .later Tryd.pinned [.data, .data, .data] true :=
  OpenClaim.laidByTextAt_later rfl rfl tie noOwnUnsafe
theorem ordealDigitsUpto_row_tie : Rows.ordealDigitsUptoRow.laidByTextAt .later Tryd.pinned [.data, .data, .data] true :=
  OpenClaim.laidByTextAt_later rfl rfl tie noOwnUnsafe
theorem ordealSealedUpto_row_tie : Rows.ordealSealedUptoRow.laidByTextAt .later Tryd.pinned [.data, .data, .data] true :=
  OpenClaim.laidByTextAt_later rfl rfl tie noOwnUnsafe
end Go.Proofs.YtjklhofmchdaiaaDoor
