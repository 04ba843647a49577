/-
  DERIVED. GIVEN WITH THE SEED: THE CARDS: each row of YtkpengeaolcjhaaGreatDoorRows.lean that lists a variable, with what it lists TIED to the program's text (the seventh form; the later family's looks); each row that meets fmt, with fmt's text TOLD by the authors' own Lean function (tested against real Go, not proved from fmt's source: count such statements apart). THE CARD IS WHAT COUNTS. Prove the row's statement (the work); the ties are given (YtkpengeaolcjhaaGreatDoorTie.lean); close each card by the builder's one call (the guide's Derived/Test/ToyasCard.lean, 'card_holds'). Laid BY PROGRAM, IN A SANDBOX (cutbox-door.mjs). By AI agents, Wed Nov 11 2026. No macro, syntax, notation, axiom, sorry.
-/
import Derived.Test.YtkpengeaolcjhaaGreatDoorRows
import GoSem.ClaimSeven
namespace Go.Proofs.YtkpengeaolcjhaaGreatDoor
namespace Rows

/-- THE TIED CARD OF 'middlinglaw09.MillBounds'. -/
def millBoundsCard : Claim7 := { stood := { row := millBoundsRow, standIns := [], harness := (true, "7d9dd885f90fa143d6719bc079af564aca46e4453a700d4b74d068eb70a6db4a"), looks := false }, kinds := [], alts := [], laidByText := true, laidKinds := [.funcs, .funcs], laidTests := true, laidLooks := .later }
def MillBoundsCardSaid : Prop := Claim7.holds Tryz.pinned (.plain (OpenSpec.ofChange millBoundsSpec)) millBoundsCard

/-- THE TIED CARD OF 'middlinglaw09.MillBest'. -/
def millBestCard : Claim7 := { stood := { row := millBestRow, standIns := [], harness := (true, "7d9dd885f90fa143d6719bc079af564aca46e4453a700d4b74d068eb70a6db4a"), looks := false }, kinds := [], alts := [], laidByText := true, laidKinds := [.funcs, .funcs], laidTests := true, laidLooks := .later }
def MillBestCardSaid : Prop := Claim7.holds Tryz.pinned (.plain (OpenSpec.ofChange millBestSpec)) millBestCard

/-- THE TIED CARD OF 'middlinglaw09.MillBound'. -/
def millBoundCard : Claim7 := { stood := { row := millBoundRow, standIns := [], harness := (true, "7d9dd885f90fa143d6719bc079af564aca46e4453a700d4b74d068eb70a6db4a"), looks := false }, kinds := [], alts := [], laidByText := true, laidKinds := [.funcs, .funcs], laidTests := true, laidLooks := .later }
def MillBoundCardSaid : Prop := Claim7.holds Tryz.pinned (.plain (OpenSpec.ofChange millBoundSpec)) millBoundCard

/-- THE TIED CARD OF 'middlinglaw09.MillSwap'. -/
def millSwapCard : Claim7 := { stood := { row := millSwapRow, standIns := [], harness := (true, "7d9dd885f90fa143d6719bc079af564aca46e4453a700d4b74d068eb70a6db4a"), looks := false }, kinds := [], alts := [], laidByText := true, laidKinds := [.funcs, .funcs], laidTests := true, laidLooks := .later }
def MillSwapCardSaid : Prop := Claim7.holds Tryz.pinned (.plain (OpenSpec.ofChange millSwapSpec)) millSwapCard

/-- THE TIED CARD OF 'middlinglaw09.MillMore'. -/
def millMoreCard : Claim7 := { stood := { row := millMoreRow, standIns := [], harness := (true, "7d9dd885f90fa143d6719bc079af564aca46e4453a700d4b74d068eb70a6db4a"), looks := false }, kinds := [], alts := [], laidByText := true, laidKinds := [.funcs, .funcs], laidTests := true, laidLooks := .later }
def MillMoreCardSaid : Prop := Claim7.holds Tryz.pinned (.plain (OpenSpec.ofChange millMoreSpec)) millMoreCard

/-- THE TIED CARD OF 'middlinglaw09.MillFit'. -/
def millFitCard : Claim7 := { stood := { row := millFitRow, standIns := [], harness := (true, "7d9dd885f90fa143d6719bc079af564aca46e4453a700d4b74d068eb70a6db4a"), looks := false }, kinds := [], alts := [], laidByText := true, laidKinds := [.funcs, .funcs], laidTests := true, laidLooks := .later }
def MillFitCardSaid : Prop := Claim7.holds Tryz.pinned (.plain (OpenSpec.ofChange millFitSpec)) millFitCard

/-- THE TIED CARD OF 'middlinglaw09.MillRun'. -/
def millRunCard : Claim7 := { stood := { row := millRunRow, standIns := [], harness := (true, "7d9dd885f90fa143d6719bc079af564aca46e4453a700d4b74d068eb70a6db4a"), looks := false }, kinds := [], alts := [], laidByText := true, laidKinds := [.funcs, .funcs], laidTests := true, laidLooks := .later }
def MillRunCardSaid : Prop := Claim7.holds Tryz.pinned (.plain (OpenSpec.ofChange millRunSpec)) millRunCard

/-- THE TIED CARD OF 'middlinglaw09.MillEven'. -/
def millEvenCard : Claim7 := { stood := { row := millEvenRow, standIns := [], harness := (true, "7d9dd885f90fa143d6719bc079af564aca46e4453a700d4b74d068eb70a6db4a"), looks := false }, kinds := [], alts := [], laidByText := true, laidKinds := [.funcs, .funcs], laidTests := true, laidLooks := .later }
def MillEvenCardSaid : Prop := Claim7.holds Tryz.pinned (.plain (OpenSpec.ofChange millEvenSpec)) millEvenCard

/-- THE TIED CARD OF 'middlinglaw09.MillExamples'. -/
def millExamplesCard : Claim7 := { stood := { row := millExamplesRow, standIns := [], harness := (true, "7d9dd885f90fa143d6719bc079af564aca46e4453a700d4b74d068eb70a6db4a"), looks := false }, kinds := [], alts := [], laidByText := true, laidKinds := [.funcs, .funcs], laidTests := true, laidLooks := .later }
def MillExamplesCardSaid : Prop := Claim7.holds Tryz.pinned (.plain (OpenSpec.ofChange millExamplesSpec)) millExamplesCard

/-- THE SECOND FORM's CARD OF 'middlinglaw09.MillBounds'. -/
def millBoundsUptoCard : Claim7 := { stood := { row := millBoundsUptoRow, standIns := [], harness := (true, "7d9dd885f90fa143d6719bc079af564aca46e4453a700d4b74d068eb70a6db4a"), looks := false }, kinds := [], alts := [], laidByText := true, laidKinds := [.funcs, .funcs], laidTests := true, laidLooks := .later }
def MillBoundsUptoCardSaid : Prop := Claim7.holds Tryz.pinned (.plain (OpenSpec.upto millBoundsSpec)) millBoundsUptoCard

/-- THE SECOND FORM's CARD OF 'middlinglaw09.MillBest'. -/
def millBestUptoCard : Claim7 := { stood := { row := millBestUptoRow, standIns := [], harness := (true, "7d9dd885f90fa143d6719bc079af564aca46e4453a700d4b74d068eb70a6db4a"), looks := false }, kinds := [], alts := [], laidByText := true, laidKinds := [.funcs, .funcs], laidTests := true, laidLooks := .later }
def MillBestUptoCardSaid : Prop := Claim7.holds Tryz.pinned (.plain (OpenSpec.upto millBestSpec)) millBestUptoCard

/-- THE SECOND FORM's CARD OF 'middlinglaw09.MillBound'. -/
def millBoundUptoCard : Claim7 := { stood := { row := millBoundUptoRow, standIns := [], harness := (true, "7d9dd885f90fa143d6719bc079af564aca46e4453a700d4b74d068eb70a6db4a"), looks := false }, kinds := [], alts := [], laidByText := true, laidKinds := [.funcs, .funcs], laidTests := true, laidLooks := .later }
def MillBoundUptoCardSaid : Prop := Claim7.holds Tryz.pinned (.plain (OpenSpec.upto millBoundSpec)) millBoundUptoCard

/-- THE SECOND FORM's CARD OF 'middlinglaw09.MillSwap'. -/
def millSwapUptoCard : Claim7 := { stood := { row := millSwapUptoRow, standIns := [], harness := (true, "7d9dd885f90fa143d6719bc079af564aca46e4453a700d4b74d068eb70a6db4a"), looks := false }, kinds := [], alts := [], laidByText := true, laidKinds := [.funcs, .funcs], laidTests := true, laidLooks := .later }
def MillSwapUptoCardSaid : Prop := Claim7.holds Tryz.pinned (.plain (OpenSpec.upto millSwapSpec)) millSwapUptoCard

/-- THE SECOND FORM's CARD OF 'middlinglaw09.MillMore'. -/
def millMoreUptoCard : Claim7 := { stood := { row := millMoreUptoRow, standIns := [], harness := (true, "7d9dd885f90fa143d6719bc079af564aca46e4453a700d4b74d068eb70a6db4a"), looks := false }, kinds := [], alts := [], laidByText := true, laidKinds := [.funcs, .funcs], laidTests := true, laidLooks := .later }
def MillMoreUptoCardSaid : Prop := Claim7.holds Tryz.pinned (.plain (OpenSpec.upto millMoreSpec)) millMoreUptoCard

/-- THE SECOND FORM's CARD OF 'middlinglaw09.MillFit'. -/
def millFitUptoCard : Claim7 := { stood := { row := millFitUptoRow, standIns := [], harness := (true, "7d9dd885f90fa143d6719bc079af564aca46e4453a700d4b74d068eb70a6db4a"), looks := false }, kinds := [], alts := [], laidByText := true, laidKinds := [.funcs, .funcs], laidTests := true, laidLooks := .later }
def MillFitUptoCardSaid : Prop := Claim7.holds Tryz.pinned (.plain (OpenSpec.upto millFitSpec)) millFitUptoCard

/-- THE SECOND FORM's CARD OF 'middlinglaw09.MillRun'. -/
def millRunUptoCard : Claim7 := { stood := { row := millRunUptoRow, standIns := [], harness := (true, "7d9dd885f90fa143d6719bc079af564aca46e4453a700d4b74d068eb70a6db4a"), looks := false }, kinds := [], alts := [], laidByText := true, laidKinds := [.funcs, .funcs], laidTests := true, laidLooks := .later }
def MillRunUptoCardSaid : Prop := Claim7.holds Tryz.pinned (.plain (OpenSpec.upto millRunSpec)) millRunUptoCard

/-- THE SECOND FORM's CARD OF 'middlinglaw09.MillEven'. -/
def millEvenUptoCard : Claim7 := { stood := { row := millEvenUptoRow, standIns := [], harness := (true, "7d9dd885f90fa143d6719bc079af564aca46e4453a700d4b74d068eb70a6db4a"), looks := false }, kinds := [], alts := [], laidByText := true, laidKinds := [.funcs, .funcs], laidTests := true, laidLooks := .later }
def MillEvenUptoCardSaid : Prop := Claim7.holds Tryz.pinned (.plain (OpenSpec.upto millEvenSpec)) millEvenUptoCard

/-- THE SECOND FORM's CARD OF 'middlinglaw09.MillExamples'. -/
def millExamplesUptoCard : Claim7 := { stood := { row := millExamplesUptoRow, standIns := [], harness := (true, "7d9dd885f90fa143d6719bc079af564aca46e4453a700d4b74d068eb70a6db4a"), looks := false }, kinds := [], alts := [], laidByText := true, laidKinds := [.funcs, .funcs], laidTests := true, laidLooks := .later }
def MillExamplesUptoCardSaid : Prop := Claim7.holds Tryz.pinned (.plain (OpenSpec.upto millExamplesSpec)) millExamplesUptoCard
end Rows
end Go.Proofs.YtkpengeaolcjhaaGreatDoor
