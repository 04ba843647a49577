/-
  DERIVED. GIVEN WITH THE SEED: THE PROGRAM's TIES (one call each: nine closed facts by the kernel) AND EACH ROW's TIE, after the 31st guide's Derived/Test/Toyas{Tie, Card}.lean. No idea stands in it: it is a product of the set-up. Laid BY PROGRAM, IN A SANDBOX (cutbox-door.mjs). By AI agents, Wed Nov 11 2026. No macro, syntax, notation, axiom, sorry.
-/
import Derived.Test.YtkpengeaolcjhaaGreatDoorRows
import Derived.LaidByTextLater
import Derived.SevenTiedAt
import Derived.LaidSub
import Derived.LaidOnce
namespace Go.Proofs.YtkpengeaolcjhaaGreatDoor
open Go
set_option maxRecDepth 100000
theorem seatTie1 : Tryz.prog.laidByTextLater [("middling/core.checks", Rows.laid_middling_core_checks), ("middling/mill.checks", Rows.laid_middling_mill_checks)] [.funcs, .funcs] true :=
  Program.laidByTextLater_by_one 27 8 2 (by kernel_rfl) (by kernel_rfl) (by kernel_rfl) (by kernel_rfl) (by kernel_rfl) (by kernel_rfl) (fun _ _ => by kernel_rfl)
theorem noOwnUnsafe : Tryz.pinned.checked.prog.headLifts.contains "ownunsafe" = false := by kernel_rfl
theorem tie : Tryz.prog.laidByTextLater [("middling/core.checks", Rows.laid_middling_core_checks), ("middling/mill.checks", Rows.laid_middling_mill_checks)] [.funcs, .funcs] true :=
  Program.laidByTextLater.sub seatTie1 ["middling/core.checks", "middling/mill.checks"] (by kernel_rfl) (by kernel_rfl)
theorem millBounds_row_tie : Rows.millBoundsRow.laidByTextAt .later Tryz.pinned [.funcs, .funcs] true :=
  OpenClaim.laidByTextAt_later rfl rfl tie noOwnUnsafe
theorem millBest_row_tie : Rows.millBestRow.laidByTextAt .later Tryz.pinned [.funcs, .funcs] true :=
  OpenClaim.laidByTextAt_later rfl rfl tie noOwnUnsafe
theorem millBound_row_tie : Rows.millBoundRow.laidByTextAt .later Tryz.pinned [.funcs, .funcs] true :=
  OpenClaim.laidByTextAt_later rfl rfl tie noOwnUnsafe
theorem millSwap_row_tie : Rows.millSwapRow.laidByTextAt .later Tryz.pinned [.funcs, .funcs] true :=
  OpenClaim.laidByTextAt_later rfl rfl tie noOwnUnsafe
theorem millMore_row_tie : Rows.millMoreRow.laidByTextAt .later Tryz.pinned [.funcs, .funcs] true :=
  OpenClaim.laidByTextAt_later rfl rfl tie noOwnUnsafe
theorem millFit_row_tie : Rows.millFitRow.laidByTextAt .later Tryz.pinned [.funcs, .funcs] true :=
  OpenClaim.laidByTextAt_later rfl rfl tie noOwnUnsafe
theorem millRun_row_tie : Rows.millRunRow.laidByTextAt .later Tryz.pinned [.funcs, .funcs] true :=
  OpenClaim.laidByTextAt_later rfl rfl tie noOwnUnsafe
theorem millEven_row_tie : Rows.millEvenRow.laidByTextAt .later Tryz.pinned [.funcs, .funcs] true :=
  OpenClaim.laidByTextAt_later rfl rfl tie noOwnUnsafe
theorem millExamples_row_tie : Rows.millExamplesRow.laidByTextAt .later Tryz.pinned [.funcs, .funcs] true :=
  OpenClaim.laidByTextAt_later rfl rfl tie noOwnUnsafe
theorem millBoundsUpto_row_tie : Rows.millBoundsUptoRow.laidByTextAt .later Tryz.pinned [.funcs, .funcs] true :=
  OpenClaim.laidByTextAt_later rfl rfl tie noOwnUnsafe
theorem millBestUpto_row_tie : Rows.millBestUptoRow.laidByTextAt .later Tryz.pinned [.funcs, .funcs] true :=
  OpenClaim.laidByTextAt_later rfl rfl tie noOwnUnsafe
theorem millBoundUpto_row_tie : Rows.millBoundUptoRow.laidByTextAt .later Tryz.pinned [.funcs, .funcs] true :=
  OpenClaim.laidByTextAt_later rfl rfl tie noOwnUnsafe
theorem millSwapUpto_row_tie : Rows.millSwapUptoRow.laidByTextAt .later Tryz.pinned [.funcs, .funcs] true :=
  OpenClaim.laidByTextAt_later rfl rfl tie noOwnUnsafe
theorem millMoreUpto_row_tie : Rows.millMoreUptoRow.laidByTextAt .later Tryz.pinned [.funcs, .funcs] true :=
  OpenClaim.laidByTextAt_later rfl rfl tie noOwnUnsafe
theorem millFitUpto_row_tie : Rows.millFitUptoRow.laidByTextAt .later Tryz.pinned [.funcs, .funcs] true :=
  OpenClaim.laidByTextAt_later rfl rfl tie noOwnUnsafe
theorem millRunUpto_row_tie : Rows.millRunUptoRow.laidByTextAt .later Tryz.pinned [.funcs, .funcs] true :=
  OpenClaim.laidByTextAt_later rfl rfl tie noOwnUnsafe
theorem millEvenUpto_row_tie : Rows.millEvenUptoRow.laidByTextAt .later Tryz.pinned [.funcs, .funcs] true :=
  OpenClaim.laidByTextAt_later rfl rfl tie noOwnUnsafe
theorem millExamplesUpto_row_tie : Rows.millExamplesUptoRow.laidByTextAt .later Tryz.pinned [.funcs, .funcs] true :=
  OpenClaim.laidByTextAt_later rfl rfl tie noOwnUnsafe
end Go.Proofs.YtkpengeaolcjhaaGreatDoor
