/-
  DERIVED. GIVEN WITH THE SEED: THE PROGRAM's TIES (one call each: nine closed facts by the kernel) AND EACH ROW's TIE, after the 31st guide's Derived/Test/Toyas{Tie, Card}.lean. No idea stands in it: it is a product of the set-up. Laid BY PROGRAM, IN A SANDBOX (cutbox-door.mjs). By AI agents, Wed Nov 11 2026. No macro, syntax, notation, axiom, sorry.
-/
import Derived.Test.YtjielagabnkimaaDoorRows
import Derived.LaidByTextLater
import Derived.SevenTiedAt
import Derived.LaidSub
import Derived.LaidOnce
namespace Go.Proofs.YtjielagabnkimaaDoor
open Go
set_option maxRecDepth 100000
theorem seatTie1 : Tryd.prog.laidByTextLater [("strata/strataref06.Order", Rows.laid_strata_strataref06_Order), ("errors.errorType", Rows.laid_errors_errorType), ("strata/flate.lengths", Rows.laid_strata_flate_lengths), ("strata/flate.distances", Rows.laid_strata_flate_distances), ("strata/flate.order", Rows.laid_strata_flate_order)] [.data, .handle, .widerDeep, .widerDeep, .data] true :=
  Program.laidByTextLater_by_one 95 8 61 (by kernel_rfl) (by kernel_rfl) (by kernel_rfl) (by kernel_rfl) (by kernel_rfl) (by kernel_rfl) (fun _ _ => by kernel_rfl)
theorem noOwnUnsafe : Tryd.pinned.checked.prog.headLifts.contains "ownunsafe" = false := by kernel_rfl
theorem tie : Tryd.prog.laidByTextLater [("strata/flate.lengths", Rows.laid_strata_flate_lengths), ("strata/flate.distances", Rows.laid_strata_flate_distances), ("strata/flate.order", Rows.laid_strata_flate_order)] [.widerDeep, .widerDeep, .data] true :=
  Program.laidByTextLater.sub seatTie1 ["strata/flate.lengths", "strata/flate.distances", "strata/flate.order"] (by kernel_rfl) (by kernel_rfl)
theorem flateDeflates_row_tie : Rows.flateDeflatesRow.laidByTextAt .later Tryd.pinned [.widerDeep, .widerDeep, .data] true :=
  OpenClaim.laidByTextAt_later rfl rfl tie noOwnUnsafe
theorem flateCrcs_row_tie : Rows.flateCrcsRow.laidByTextAt .later Tryd.pinned [.widerDeep, .widerDeep, .data] true :=
  OpenClaim.laidByTextAt_later rfl rfl tie noOwnUnsafe
theorem flateGzips_row_tie : Rows.flateGzipsRow.laidByTextAt .later Tryd.pinned [.widerDeep, .widerDeep, .data] true :=
  OpenClaim.laidByTextAt_later rfl rfl tie noOwnUnsafe
theorem tie2 : Tryd.prog.laidByTextLater [("strata/strataref06.Order", Rows.laid_strata_strataref06_Order), ("errors.errorType", Rows.laid_errors_errorType), ("strata/flate.lengths", Rows.laid_strata_flate_lengths), ("strata/flate.distances", Rows.laid_strata_flate_distances), ("strata/flate.order", Rows.laid_strata_flate_order)] [.data, .handle, .widerDeep, .widerDeep, .data] true :=
  Program.laidByTextLater.sub seatTie1 ["strata/strataref06.Order", "errors.errorType", "strata/flate.lengths", "strata/flate.distances", "strata/flate.order"] (by kernel_rfl) (by kernel_rfl)
theorem flateInflates_row_tie : Rows.flateInflatesRow.laidByTextAt .later Tryd.pinned [.data, .handle, .widerDeep, .widerDeep, .data] true :=
  OpenClaim.laidByTextAt_later rfl rfl tie2 noOwnUnsafe
theorem tie3 : Tryd.prog.laidByTextLater [("errors.errorType", Rows.laid_errors_errorType), ("strata/flate.lengths", Rows.laid_strata_flate_lengths), ("strata/flate.distances", Rows.laid_strata_flate_distances), ("strata/flate.order", Rows.laid_strata_flate_order)] [.handle, .widerDeep, .widerDeep, .data] true :=
  Program.laidByTextLater.sub seatTie1 ["errors.errorType", "strata/flate.lengths", "strata/flate.distances", "strata/flate.order"] (by kernel_rfl) (by kernel_rfl)
theorem flateBack_row_tie : Rows.flateBackRow.laidByTextAt .later Tryd.pinned [.handle, .widerDeep, .widerDeep, .data] true :=
  OpenClaim.laidByTextAt_later rfl rfl tie3 noOwnUnsafe
theorem flateDeflatesUpto_row_tie : Rows.flateDeflatesUptoRow.laidByTextAt .later Tryd.pinned [.widerDeep, .widerDeep, .data] true :=
  OpenClaim.laidByTextAt_later rfl rfl tie noOwnUnsafe
theorem flateCrcsUpto_row_tie : Rows.flateCrcsUptoRow.laidByTextAt .later Tryd.pinned [.widerDeep, .widerDeep, .data] true :=
  OpenClaim.laidByTextAt_later rfl rfl tie noOwnUnsafe
theorem flateGzipsUpto_row_tie : Rows.flateGzipsUptoRow.laidByTextAt .later Tryd.pinned [.widerDeep, .widerDeep, .data] true :=
  OpenClaim.laidByTextAt_later rfl rfl tie noOwnUnsafe
theorem flateInflatesUpto_row_tie : Rows.flateInflatesUptoRow.laidByTextAt .later Tryd.pinned [.data, .handle, .widerDeep, .widerDeep, .data] true :=
  OpenClaim.laidByTextAt_later rfl rfl tie2 noOwnUnsafe
theorem flateBackUpto_row_tie : Rows.flateBackUptoRow.laidByTextAt .later Tryd.pinned [.handle, .widerDeep, .widerDeep, .data] true :=
  OpenClaim.laidByTextAt_later rfl rfl tie3 noOwnUnsafe
end Go.Proofs.YtjielagabnkimaaDoor
