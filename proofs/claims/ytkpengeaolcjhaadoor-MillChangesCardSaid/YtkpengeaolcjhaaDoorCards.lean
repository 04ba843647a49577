/-
  DERIVED. GIVEN WITH THE SEED: THE CARDS: each row of YtkpengeaolcjhaaDoorRows.lean that lists a variable, with what it lists TIED to the program's text (the seventh form; the later family's looks); each row that meets fmt, with fmt's text TOLD by the authors' own Lean function (tested against real Go, not proved from fmt's source: count such statements apart). THE CARD IS WHAT COUNTS. Prove the row's statement (the work); the ties are given (YtkpengeaolcjhaaDoorTie.lean); close each card by the builder's one call (the guide's Derived/Test/ToyasCard.lean, 'card_holds'). Laid BY PROGRAM, IN A SANDBOX (cutbox-door.mjs). By AI agents, Wed Nov 11 2026. No macro, syntax, notation, axiom, sorry.
-/
import Derived.Test.YtkpengeaolcjhaaDoorRows
import GoSem.ClaimSeven
namespace Go.Proofs.YtkpengeaolcjhaaDoor
namespace Rows

/-- THE TIED CARD OF 'middlinglaw09.MillTells'. -/
def millTellsCard : Claim7 := { stood := { row := millTellsRow, standIns := [], harness := (true, "62c46a479b5d7ce54b104a6544722bf9063570c9db640078377af8f29f5eac88"), looks := false }, kinds := [], alts := [], laidByText := true, laidKinds := [.funcs, .funcs], laidTests := true, laidLooks := .later }
def MillTellsCardSaid : Prop := Claim7.holds Tryd.pinned (.plain (OpenSpec.ofChange millTellsSpec)) millTellsCard

/-- THE TIED CARD OF 'middlinglaw09.MillJudges'. -/
def millJudgesCard : Claim7 := { stood := { row := millJudgesRow, standIns := [], harness := (true, "62c46a479b5d7ce54b104a6544722bf9063570c9db640078377af8f29f5eac88"), looks := false }, kinds := [], alts := [], laidByText := true, laidKinds := [.funcs, .funcs], laidTests := true, laidLooks := .later }
def MillJudgesCardSaid : Prop := Claim7.holds Tryd.pinned (.plain (OpenSpec.ofChange millJudgesSpec)) millJudgesCard

/-- THE TIED CARD OF 'middlinglaw09.MillChanges'. -/
def millChangesCard : Claim7 := { stood := { row := millChangesRow, standIns := [], harness := (true, "62c46a479b5d7ce54b104a6544722bf9063570c9db640078377af8f29f5eac88"), looks := false }, kinds := [], alts := [], laidByText := true, laidKinds := [.funcs, .funcs], laidTests := true, laidLooks := .later }
def MillChangesCardSaid : Prop := Claim7.holds Tryd.pinned (.plain (OpenSpec.ofChange millChangesSpec)) millChangesCard

/-- THE TIED CARD OF 'middlingtop.TopDrawn'. -/
def topDrawnCard : Claim7 := { stood := { row := topDrawnRow, standIns := [], harness := (true, "62c46a479b5d7ce54b104a6544722bf9063570c9db640078377af8f29f5eac88"), looks := false }, kinds := [], alts := [], laidByText := true, laidKinds := [.funcs, .funcs], laidTests := true, laidLooks := .later }
def TopDrawnCardSaid : Prop := Claim7.holds Tryd.pinned (.plain (OpenSpec.ofChange topDrawnSpec)) topDrawnCard

/-- THE SECOND FORM's CARD OF 'middlinglaw09.MillTells'. -/
def millTellsUptoCard : Claim7 := { stood := { row := millTellsUptoRow, standIns := [], harness := (true, "62c46a479b5d7ce54b104a6544722bf9063570c9db640078377af8f29f5eac88"), looks := false }, kinds := [], alts := [], laidByText := true, laidKinds := [.funcs, .funcs], laidTests := true, laidLooks := .later }
def MillTellsUptoCardSaid : Prop := Claim7.holds Tryd.pinned (.plain (OpenSpec.upto millTellsSpec)) millTellsUptoCard

/-- THE SECOND FORM's CARD OF 'middlinglaw09.MillJudges'. -/
def millJudgesUptoCard : Claim7 := { stood := { row := millJudgesUptoRow, standIns := [], harness := (true, "62c46a479b5d7ce54b104a6544722bf9063570c9db640078377af8f29f5eac88"), looks := false }, kinds := [], alts := [], laidByText := true, laidKinds := [.funcs, .funcs], laidTests := true, laidLooks := .later }
def MillJudgesUptoCardSaid : Prop := Claim7.holds Tryd.pinned (.plain (OpenSpec.upto millJudgesSpec)) millJudgesUptoCard

/-- THE SECOND FORM's CARD OF 'middlinglaw09.MillChanges'. -/
def millChangesUptoCard : Claim7 := { stood := { row := millChangesUptoRow, standIns := [], harness := (true, "62c46a479b5d7ce54b104a6544722bf9063570c9db640078377af8f29f5eac88"), looks := false }, kinds := [], alts := [], laidByText := true, laidKinds := [.funcs, .funcs], laidTests := true, laidLooks := .later }
def MillChangesUptoCardSaid : Prop := Claim7.holds Tryd.pinned (.plain (OpenSpec.upto millChangesSpec)) millChangesUptoCard

/-- THE SECOND FORM's CARD OF 'middlingtop.TopDrawn'. -/
def topDrawnUptoCard : Claim7 := { stood := { row := topDrawnUptoRow, standIns := [], harness := (true, "62c46a479b5d7ce54b104a6544722bf9063570c9db640078377af8f29f5eac88"), looks := false }, kinds := [], alts := [], laidByText := true, laidKinds := [.funcs, .funcs], laidTests := true, laidLooks := .later }
def TopDrawnUptoCardSaid : Prop := Claim7.holds Tryd.pinned (.plain (OpenSpec.upto topDrawnSpec)) topDrawnUptoCard
end Rows
end Go.Proofs.YtkpengeaolcjhaaDoor
