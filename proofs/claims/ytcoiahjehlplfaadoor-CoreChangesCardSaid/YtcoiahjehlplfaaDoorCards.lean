/-
  DERIVED. GIVEN WITH THE SEED: THE CARDS: each row of YtcoiahjehlplfaaDoorRows.lean that lists a variable, with what it lists TIED to the program's text (the seventh form; the later family's looks); each row that meets fmt, with fmt's text TOLD by the authors' own Lean function (tested against real Go, not proved from fmt's source: count such statements apart). THE CARD IS WHAT COUNTS. Prove the row's statement (the work); the ties are given (YtcoiahjehlplfaaDoorTie.lean); close each card by the builder's one call (the guide's Derived/Test/ToyasCard.lean, 'card_holds'). Laid BY PROGRAM, IN A SANDBOX (cutbox-door.mjs). By AI agents, Wed Nov 11 2026. No macro, syntax, notation, axiom, sorry.
-/
import Derived.Test.YtcoiahjehlplfaaDoorRows
import GoSem.ClaimSeven
namespace Go.Proofs.YtcoiahjehlplfaaDoor
namespace Rows

/-- THE TIED CARD OF 'middlinglaw03.CoreTells'. -/
def coreTellsCard : Claim7 := { stood := { row := coreTellsRow, standIns := [], harness := (true, "0fce58c170811b209f286ab59e4ec177d03da95f01e6664e440763ebdd44fd28"), looks := false }, kinds := [], alts := [], laidByText := true, laidKinds := [.funcs], laidTests := true, laidLooks := .later }
def CoreTellsCardSaid : Prop := Claim7.holds Tryd.pinned (.plain (OpenSpec.ofChange coreTellsSpec)) coreTellsCard

/-- THE TIED CARD OF 'middlinglaw03.CoreWeighs'. -/
def coreWeighsCard : Claim7 := { stood := { row := coreWeighsRow, standIns := [], harness := (true, "0fce58c170811b209f286ab59e4ec177d03da95f01e6664e440763ebdd44fd28"), looks := false }, kinds := [], alts := [], laidByText := true, laidKinds := [.funcs], laidTests := true, laidLooks := .later }
def CoreWeighsCardSaid : Prop := Claim7.holds Tryd.pinned (.plain (OpenSpec.ofChange coreWeighsSpec)) coreWeighsCard

/-- THE TIED CARD OF 'middlinglaw03.CoreKinds'. -/
def coreKindsCard : Claim7 := { stood := { row := coreKindsRow, standIns := [], harness := (true, "0fce58c170811b209f286ab59e4ec177d03da95f01e6664e440763ebdd44fd28"), looks := false }, kinds := [], alts := [], laidByText := true, laidKinds := [.funcs], laidTests := true, laidLooks := .later }
def CoreKindsCardSaid : Prop := Claim7.holds Tryd.pinned (.plain (OpenSpec.ofChange coreKindsSpec)) coreKindsCard

/-- THE TIED CARD OF 'middlinglaw03.CoreChanges'. -/
def coreChangesCard : Claim7 := { stood := { row := coreChangesRow, standIns := [], harness := (true, "0fce58c170811b209f286ab59e4ec177d03da95f01e6664e440763ebdd44fd28"), looks := false }, kinds := [], alts := [], laidByText := true, laidKinds := [.funcs], laidTests := true, laidLooks := .later }
def CoreChangesCardSaid : Prop := Claim7.holds Tryd.pinned (.plain (OpenSpec.ofChange coreChangesSpec)) coreChangesCard

/-- THE SECOND FORM's CARD OF 'middlinglaw03.CoreTells'. -/
def coreTellsUptoCard : Claim7 := { stood := { row := coreTellsUptoRow, standIns := [], harness := (true, "0fce58c170811b209f286ab59e4ec177d03da95f01e6664e440763ebdd44fd28"), looks := false }, kinds := [], alts := [], laidByText := true, laidKinds := [.funcs], laidTests := true, laidLooks := .later }
def CoreTellsUptoCardSaid : Prop := Claim7.holds Tryd.pinned (.plain (OpenSpec.upto coreTellsSpec)) coreTellsUptoCard

/-- THE SECOND FORM's CARD OF 'middlinglaw03.CoreWeighs'. -/
def coreWeighsUptoCard : Claim7 := { stood := { row := coreWeighsUptoRow, standIns := [], harness := (true, "0fce58c170811b209f286ab59e4ec177d03da95f01e6664e440763ebdd44fd28"), looks := false }, kinds := [], alts := [], laidByText := true, laidKinds := [.funcs], laidTests := true, laidLooks := .later }
def CoreWeighsUptoCardSaid : Prop := Claim7.holds Tryd.pinned (.plain (OpenSpec.upto coreWeighsSpec)) coreWeighsUptoCard

/-- THE SECOND FORM's CARD OF 'middlinglaw03.CoreKinds'. -/
def coreKindsUptoCard : Claim7 := { stood := { row := coreKindsUptoRow, standIns := [], harness := (true, "0fce58c170811b209f286ab59e4ec177d03da95f01e6664e440763ebdd44fd28"), looks := false }, kinds := [], alts := [], laidByText := true, laidKinds := [.funcs], laidTests := true, laidLooks := .later }
def CoreKindsUptoCardSaid : Prop := Claim7.holds Tryd.pinned (.plain (OpenSpec.upto coreKindsSpec)) coreKindsUptoCard

/-- THE SECOND FORM's CARD OF 'middlinglaw03.CoreChanges'. -/
def coreChangesUptoCard : Claim7 := { stood := { row := coreChangesUptoRow, standIns := [], harness := (true, "0fce58c170811b209f286ab59e4ec177d03da95f01e6664e440763ebdd44fd28"), looks := false }, kinds := [], alts := [], laidByText := true, laidKinds := [.funcs], laidTests := true, laidLooks := .later }
def CoreChangesUptoCardSaid : Prop := Claim7.holds Tryd.pinned (.plain (OpenSpec.upto coreChangesSpec)) coreChangesUptoCard
end Rows
end Go.Proofs.YtcoiahjehlplfaaDoor
