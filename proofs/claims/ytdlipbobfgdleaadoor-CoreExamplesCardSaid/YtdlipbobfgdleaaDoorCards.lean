/-
  DERIVED. GIVEN WITH THE SEED: THE CARDS: each row of YtdlipbobfgdleaaDoorRows.lean that lists a variable, with what it lists TIED to the program's text (the seventh form; the later family's looks); each row that meets fmt, with fmt's text TOLD by the authors' own Lean function (tested against real Go, not proved from fmt's source: count such statements apart). THE CARD IS WHAT COUNTS. Prove the row's statement (the work); the ties are given (YtdlipbobfgdleaaDoorTie.lean); close each card by the builder's one call (the guide's Derived/Test/ToyasCard.lean, 'card_holds'). Laid BY PROGRAM, IN A SANDBOX (cutbox-door.mjs). By AI agents, Wed Nov 11 2026. No macro, syntax, notation, axiom, sorry.
-/
import Derived.Test.YtdlipbobfgdleaaDoorRows
import GoSem.ClaimSeven
namespace Go.Proofs.YtdlipbobfgdleaaDoor
namespace Rows

/-- THE TIED CARD OF 'middlinglaw03.CoreTells'. -/
def coreTellsCard : Claim7 := { stood := { row := coreTellsRow, standIns := [], harness := (true, "20ea594eca150702a00be36c97460ee13ed2571d14845c17b689935c56042522"), looks := false }, kinds := [], alts := [], laidByText := true, laidKinds := [.funcs], laidTests := true, laidLooks := .later }
def CoreTellsCardSaid : Prop := Claim7.holds Tryd.pinned (.plain (OpenSpec.ofChange coreTellsSpec)) coreTellsCard

/-- THE TIED CARD OF 'middlinglaw03.CoreWeighs'. -/
def coreWeighsCard : Claim7 := { stood := { row := coreWeighsRow, standIns := [], harness := (true, "20ea594eca150702a00be36c97460ee13ed2571d14845c17b689935c56042522"), looks := false }, kinds := [], alts := [], laidByText := true, laidKinds := [.funcs], laidTests := true, laidLooks := .later }
def CoreWeighsCardSaid : Prop := Claim7.holds Tryd.pinned (.plain (OpenSpec.ofChange coreWeighsSpec)) coreWeighsCard

/-- THE TIED CARD OF 'middlinglaw03.CoreKinds'. -/
def coreKindsCard : Claim7 := { stood := { row := coreKindsRow, standIns := [], harness := (true, "20ea594eca150702a00be36c97460ee13ed2571d14845c17b689935c56042522"), looks := false }, kinds := [], alts := [], laidByText := true, laidKinds := [.funcs], laidTests := true, laidLooks := .later }
def CoreKindsCardSaid : Prop := Claim7.holds Tryd.pinned (.plain (OpenSpec.ofChange coreKindsSpec)) coreKindsCard

/-- THE TIED CARD OF 'middlinglaw03.CoreChanges'. -/
def coreChangesCard : Claim7 := { stood := { row := coreChangesRow, standIns := [], harness := (true, "20ea594eca150702a00be36c97460ee13ed2571d14845c17b689935c56042522"), looks := false }, kinds := [], alts := [], laidByText := true, laidKinds := [.funcs], laidTests := true, laidLooks := .later }
def CoreChangesCardSaid : Prop := Claim7.holds Tryd.pinned (.plain (OpenSpec.ofChange coreChangesSpec)) coreChangesCard

/-- THE TIED CARD OF 'middlinglaw03.CoreTruth'. -/
def coreTruthCard : Claim7 := { stood := { row := coreTruthRow, standIns := [], harness := (true, "20ea594eca150702a00be36c97460ee13ed2571d14845c17b689935c56042522"), looks := false }, kinds := [], alts := [], laidByText := true, laidKinds := [.funcs], laidTests := true, laidLooks := .later }
def CoreTruthCardSaid : Prop := Claim7.holds Tryd.pinned (.plain (OpenSpec.ofChange coreTruthSpec)) coreTruthCard

/-- THE TIED CARD OF 'middlinglaw03.CoreWeight'. -/
def coreWeightCard : Claim7 := { stood := { row := coreWeightRow, standIns := [], harness := (true, "20ea594eca150702a00be36c97460ee13ed2571d14845c17b689935c56042522"), looks := false }, kinds := [], alts := [], laidByText := true, laidKinds := [.funcs], laidTests := true, laidLooks := .later }
def CoreWeightCardSaid : Prop := Claim7.holds Tryd.pinned (.plain (OpenSpec.ofChange coreWeightSpec)) coreWeightCard

/-- THE TIED CARD OF 'middlinglaw03.CoreDecide'. -/
def coreDecideCard : Claim7 := { stood := { row := coreDecideRow, standIns := [], harness := (true, "20ea594eca150702a00be36c97460ee13ed2571d14845c17b689935c56042522"), looks := false }, kinds := [], alts := [], laidByText := true, laidKinds := [.funcs], laidTests := true, laidLooks := .later }
def CoreDecideCardSaid : Prop := Claim7.holds Tryd.pinned (.plain (OpenSpec.ofChange coreDecideSpec)) coreDecideCard

/-- THE TIED CARD OF 'middlinglaw03.CoreAsk'. -/
def coreAskCard : Claim7 := { stood := { row := coreAskRow, standIns := [], harness := (true, "20ea594eca150702a00be36c97460ee13ed2571d14845c17b689935c56042522"), looks := false }, kinds := [], alts := [], laidByText := true, laidKinds := [.funcs], laidTests := true, laidLooks := .later }
def CoreAskCardSaid : Prop := Claim7.holds Tryd.pinned (.plain (OpenSpec.ofChange coreAskSpec)) coreAskCard

/-- THE TIED CARD OF 'middlinglaw03.CoreKind'. -/
def coreKindCard : Claim7 := { stood := { row := coreKindRow, standIns := [], harness := (true, "20ea594eca150702a00be36c97460ee13ed2571d14845c17b689935c56042522"), looks := false }, kinds := [], alts := [], laidByText := true, laidKinds := [.funcs], laidTests := true, laidLooks := .later }
def CoreKindCardSaid : Prop := Claim7.holds Tryd.pinned (.plain (OpenSpec.ofChange coreKindSpec)) coreKindCard

/-- THE TIED CARD OF 'middlinglaw03.CoreWrong'. -/
def coreWrongCard : Claim7 := { stood := { row := coreWrongRow, standIns := [], harness := (true, "20ea594eca150702a00be36c97460ee13ed2571d14845c17b689935c56042522"), looks := false }, kinds := [], alts := [], laidByText := true, laidKinds := [.funcs], laidTests := true, laidLooks := .later }
def CoreWrongCardSaid : Prop := Claim7.holds Tryd.pinned (.plain (OpenSpec.ofChange coreWrongSpec)) coreWrongCard

/-- THE TIED CARD OF 'middlinglaw03.CoreExamples'. -/
def coreExamplesCard : Claim7 := { stood := { row := coreExamplesRow, standIns := [], harness := (true, "20ea594eca150702a00be36c97460ee13ed2571d14845c17b689935c56042522"), looks := false }, kinds := [], alts := [], laidByText := true, laidKinds := [.funcs], laidTests := true, laidLooks := .later }
def CoreExamplesCardSaid : Prop := Claim7.holds Tryd.pinned (.plain (OpenSpec.ofChange coreExamplesSpec)) coreExamplesCard

/-- THE SECOND FORM's CARD OF 'middlinglaw03.CoreTells'. -/
def coreTellsUptoCard : Claim7 := { stood := { row := coreTellsUptoRow, standIns := [], harness := (true, "20ea594eca150702a00be36c97460ee13ed2571d14845c17b689935c56042522"), looks := false }, kinds := [], alts := [], laidByText := true, laidKinds := [.funcs], laidTests := true, laidLooks := .later }
def CoreTellsUptoCardSaid : Prop := Claim7.holds Tryd.pinned (.plain (OpenSpec.upto coreTellsSpec)) coreTellsUptoCard

/-- THE SECOND FORM's CARD OF 'middlinglaw03.CoreWeighs'. -/
def coreWeighsUptoCard : Claim7 := { stood := { row := coreWeighsUptoRow, standIns := [], harness := (true, "20ea594eca150702a00be36c97460ee13ed2571d14845c17b689935c56042522"), looks := false }, kinds := [], alts := [], laidByText := true, laidKinds := [.funcs], laidTests := true, laidLooks := .later }
def CoreWeighsUptoCardSaid : Prop := Claim7.holds Tryd.pinned (.plain (OpenSpec.upto coreWeighsSpec)) coreWeighsUptoCard

/-- THE SECOND FORM's CARD OF 'middlinglaw03.CoreKinds'. -/
def coreKindsUptoCard : Claim7 := { stood := { row := coreKindsUptoRow, standIns := [], harness := (true, "20ea594eca150702a00be36c97460ee13ed2571d14845c17b689935c56042522"), looks := false }, kinds := [], alts := [], laidByText := true, laidKinds := [.funcs], laidTests := true, laidLooks := .later }
def CoreKindsUptoCardSaid : Prop := Claim7.holds Tryd.pinned (.plain (OpenSpec.upto coreKindsSpec)) coreKindsUptoCard

/-- THE SECOND FORM's CARD OF 'middlinglaw03.CoreChanges'. -/
def coreChangesUptoCard : Claim7 := { stood := { row := coreChangesUptoRow, standIns := [], harness := (true, "20ea594eca150702a00be36c97460ee13ed2571d14845c17b689935c56042522"), looks := false }, kinds := [], alts := [], laidByText := true, laidKinds := [.funcs], laidTests := true, laidLooks := .later }
def CoreChangesUptoCardSaid : Prop := Claim7.holds Tryd.pinned (.plain (OpenSpec.upto coreChangesSpec)) coreChangesUptoCard

/-- THE SECOND FORM's CARD OF 'middlinglaw03.CoreTruth'. -/
def coreTruthUptoCard : Claim7 := { stood := { row := coreTruthUptoRow, standIns := [], harness := (true, "20ea594eca150702a00be36c97460ee13ed2571d14845c17b689935c56042522"), looks := false }, kinds := [], alts := [], laidByText := true, laidKinds := [.funcs], laidTests := true, laidLooks := .later }
def CoreTruthUptoCardSaid : Prop := Claim7.holds Tryd.pinned (.plain (OpenSpec.upto coreTruthSpec)) coreTruthUptoCard

/-- THE SECOND FORM's CARD OF 'middlinglaw03.CoreWeight'. -/
def coreWeightUptoCard : Claim7 := { stood := { row := coreWeightUptoRow, standIns := [], harness := (true, "20ea594eca150702a00be36c97460ee13ed2571d14845c17b689935c56042522"), looks := false }, kinds := [], alts := [], laidByText := true, laidKinds := [.funcs], laidTests := true, laidLooks := .later }
def CoreWeightUptoCardSaid : Prop := Claim7.holds Tryd.pinned (.plain (OpenSpec.upto coreWeightSpec)) coreWeightUptoCard

/-- THE SECOND FORM's CARD OF 'middlinglaw03.CoreDecide'. -/
def coreDecideUptoCard : Claim7 := { stood := { row := coreDecideUptoRow, standIns := [], harness := (true, "20ea594eca150702a00be36c97460ee13ed2571d14845c17b689935c56042522"), looks := false }, kinds := [], alts := [], laidByText := true, laidKinds := [.funcs], laidTests := true, laidLooks := .later }
def CoreDecideUptoCardSaid : Prop := Claim7.holds Tryd.pinned (.plain (OpenSpec.upto coreDecideSpec)) coreDecideUptoCard

/-- THE SECOND FORM's CARD OF 'middlinglaw03.CoreAsk'. -/
def coreAskUptoCard : Claim7 := { stood := { row := coreAskUptoRow, standIns := [], harness := (true, "20ea594eca150702a00be36c97460ee13ed2571d14845c17b689935c56042522"), looks := false }, kinds := [], alts := [], laidByText := true, laidKinds := [.funcs], laidTests := true, laidLooks := .later }
def CoreAskUptoCardSaid : Prop := Claim7.holds Tryd.pinned (.plain (OpenSpec.upto coreAskSpec)) coreAskUptoCard

/-- THE SECOND FORM's CARD OF 'middlinglaw03.CoreKind'. -/
def coreKindUptoCard : Claim7 := { stood := { row := coreKindUptoRow, standIns := [], harness := (true, "20ea594eca150702a00be36c97460ee13ed2571d14845c17b689935c56042522"), looks := false }, kinds := [], alts := [], laidByText := true, laidKinds := [.funcs], laidTests := true, laidLooks := .later }
def CoreKindUptoCardSaid : Prop := Claim7.holds Tryd.pinned (.plain (OpenSpec.upto coreKindSpec)) coreKindUptoCard

/-- THE SECOND FORM's CARD OF 'middlinglaw03.CoreWrong'. -/
def coreWrongUptoCard : Claim7 := { stood := { row := coreWrongUptoRow, standIns := [], harness := (true, "20ea594eca150702a00be36c97460ee13ed2571d14845c17b689935c56042522"), looks := false }, kinds := [], alts := [], laidByText := true, laidKinds := [.funcs], laidTests := true, laidLooks := .later }
def CoreWrongUptoCardSaid : Prop := Claim7.holds Tryd.pinned (.plain (OpenSpec.upto coreWrongSpec)) coreWrongUptoCard

/-- THE SECOND FORM's CARD OF 'middlinglaw03.CoreExamples'. -/
def coreExamplesUptoCard : Claim7 := { stood := { row := coreExamplesUptoRow, standIns := [], harness := (true, "20ea594eca150702a00be36c97460ee13ed2571d14845c17b689935c56042522"), looks := false }, kinds := [], alts := [], laidByText := true, laidKinds := [.funcs], laidTests := true, laidLooks := .later }
def CoreExamplesUptoCardSaid : Prop := Claim7.holds Tryd.pinned (.plain (OpenSpec.upto coreExamplesSpec)) coreExamplesUptoCard
end Rows
end Go.Proofs.YtdlipbobfgdleaaDoor
