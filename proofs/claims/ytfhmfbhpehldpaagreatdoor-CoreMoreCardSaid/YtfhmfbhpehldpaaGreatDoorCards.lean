/-
  DERIVED. GIVEN WITH THE SEED: THE CARDS: each row of YtfhmfbhpehldpaaGreatDoorRows.lean that lists a variable, with what it lists TIED to the program's text (the seventh form; the later family's looks); each row that meets fmt, with fmt's text TOLD by the authors' own Lean function (tested against real Go, not proved from fmt's source: count such statements apart). THE CARD IS WHAT COUNTS. Prove the row's statement (the work); the ties are given (YtfhmfbhpehldpaaGreatDoorTie.lean); close each card by the builder's one call (the guide's Derived/Test/ToyasCard.lean, 'card_holds'). Laid BY PROGRAM, IN A SANDBOX (cutbox-door.mjs). By AI agents, Wed Nov 11 2026. No macro, syntax, notation, axiom, sorry.
-/
import Derived.Test.YtfhmfbhpehldpaaGreatDoorRows
import GoSem.ClaimSeven
namespace Go.Proofs.YtfhmfbhpehldpaaGreatDoor
namespace Rows

/-- THE TIED CARD OF 'middlinglaw03.CoreMore'. -/
def coreMoreCard : Claim7 := { stood := { row := coreMoreRow, standIns := [], harness := (true, "ab15b17c171c7501d35dd0cde58f6be59130d2a8f007c70fcd8a8ce9a97a9f6c"), looks := false }, kinds := [], alts := [], laidByText := true, laidKinds := [.funcs], laidTests := true, laidLooks := .later }
def CoreMoreCardSaid : Prop := Claim7.holds Tryz.pinned (.plain (OpenSpec.ofChange coreMoreSpec)) coreMoreCard

/-- THE SECOND FORM's CARD OF 'middlinglaw03.CoreMore'. -/
def coreMoreUptoCard : Claim7 := { stood := { row := coreMoreUptoRow, standIns := [], harness := (true, "ab15b17c171c7501d35dd0cde58f6be59130d2a8f007c70fcd8a8ce9a97a9f6c"), looks := false }, kinds := [], alts := [], laidByText := true, laidKinds := [.funcs], laidTests := true, laidLooks := .later }
def CoreMoreUptoCardSaid : Prop := Claim7.holds Tryz.pinned (.plain (OpenSpec.upto coreMoreSpec)) coreMoreUptoCard
end Rows
end Go.Proofs.YtfhmfbhpehldpaaGreatDoor
