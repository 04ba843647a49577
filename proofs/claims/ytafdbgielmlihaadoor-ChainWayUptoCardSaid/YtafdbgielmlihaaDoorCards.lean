/-
  DERIVED. GIVEN WITH THE SEED: THE CARDS: each row of YtafdbgielmlihaaDoorRows.lean that lists a variable, with what it lists TIED to the program's text (the seventh form; the later family's looks); each row that meets fmt, with fmt's text TOLD by the authors' own Lean function (tested against real Go, not proved from fmt's source: count such statements apart). THE CARD IS WHAT COUNTS. Prove the row's statement (the work); the ties are given (YtafdbgielmlihaaDoorTie.lean); close each card by the builder's one call (the guide's Derived/Test/ToyasCard.lean, 'card_holds'). Laid BY PROGRAM, IN A SANDBOX (cutbox-door.mjs). By AI agents, Wed Nov 11 2026. No macro, syntax, notation, axiom, sorry.
-/
import Derived.Test.YtafdbgielmlihaaDoorRows
import GoSem.ClaimSeven
namespace Go.Proofs.YtafdbgielmlihaaDoor
namespace Rows

/-- THE TIED CARD OF 'middlinglaw06.ChainTells'. -/
def chainTellsCard : Claim7 := { stood := { row := chainTellsRow, standIns := [], harness := (true, "b3f81dfb31c748ad97e7d7adf8d5e36622088fd1434e7e06f6fe9c82fab7753f"), looks := false }, kinds := [], alts := [], laidByText := true, laidKinds := [.funcs], laidTests := true, laidLooks := .later }
def ChainTellsCardSaid : Prop := Claim7.holds Tryd.pinned (.plain (OpenSpec.ofChange chainTellsSpec)) chainTellsCard

/-- THE TIED CARD OF 'middlinglaw06.ChainHands'. -/
def chainHandsCard : Claim7 := { stood := { row := chainHandsRow, standIns := [], harness := (true, "b3f81dfb31c748ad97e7d7adf8d5e36622088fd1434e7e06f6fe9c82fab7753f"), looks := false }, kinds := [], alts := [], laidByText := true, laidKinds := [.funcs], laidTests := true, laidLooks := .later }
def ChainHandsCardSaid : Prop := Claim7.holds Tryd.pinned (.plain (OpenSpec.ofChange chainHandsSpec)) chainHandsCard

/-- THE TIED CARD OF 'middlinglaw06.ChainProves'. -/
def chainProvesCard : Claim7 := { stood := { row := chainProvesRow, standIns := [], harness := (true, "b3f81dfb31c748ad97e7d7adf8d5e36622088fd1434e7e06f6fe9c82fab7753f"), looks := false }, kinds := [], alts := [], laidByText := true, laidKinds := [.funcs], laidTests := true, laidLooks := .later }
def ChainProvesCardSaid : Prop := Claim7.holds Tryd.pinned (.plain (OpenSpec.ofChange chainProvesSpec)) chainProvesCard

/-- THE TIED CARD OF 'middlinglaw06.ChainPays'. -/
def chainPaysCard : Claim7 := { stood := { row := chainPaysRow, standIns := [], harness := (true, "b3f81dfb31c748ad97e7d7adf8d5e36622088fd1434e7e06f6fe9c82fab7753f"), looks := false }, kinds := [], alts := [], laidByText := true, laidKinds := [.funcs], laidTests := true, laidLooks := .later }
def ChainPaysCardSaid : Prop := Claim7.holds Tryd.pinned (.plain (OpenSpec.ofChange chainPaysSpec)) chainPaysCard

/-- THE TIED CARD OF 'middlinglaw06.ChainChanges'. -/
def chainChangesCard : Claim7 := { stood := { row := chainChangesRow, standIns := [], harness := (true, "b3f81dfb31c748ad97e7d7adf8d5e36622088fd1434e7e06f6fe9c82fab7753f"), looks := false }, kinds := [], alts := [], laidByText := true, laidKinds := [.funcs], laidTests := true, laidLooks := .later }
def ChainChangesCardSaid : Prop := Claim7.holds Tryd.pinned (.plain (OpenSpec.ofChange chainChangesSpec)) chainChangesCard

/-- THE TIED CARD OF 'middlinglaw06.ChainAdds'. -/
def chainAddsCard : Claim7 := { stood := { row := chainAddsRow, standIns := [], harness := (true, "b3f81dfb31c748ad97e7d7adf8d5e36622088fd1434e7e06f6fe9c82fab7753f"), looks := false }, kinds := [], alts := [], laidByText := true, laidKinds := [.funcs], laidTests := true, laidLooks := .later }
def ChainAddsCardSaid : Prop := Claim7.holds Tryd.pinned (.plain (OpenSpec.ofChange chainAddsSpec)) chainAddsCard

/-- THE TIED CARD OF 'middlinglaw06.ChainExamples'. -/
def chainExamplesCard : Claim7 := { stood := { row := chainExamplesRow, standIns := [], harness := (true, "b3f81dfb31c748ad97e7d7adf8d5e36622088fd1434e7e06f6fe9c82fab7753f"), looks := false }, kinds := [], alts := [], laidByText := true, laidKinds := [.funcs], laidTests := true, laidLooks := .later }
def ChainExamplesCardSaid : Prop := Claim7.holds Tryd.pinned (.plain (OpenSpec.ofChange chainExamplesSpec)) chainExamplesCard

/-- THE TIED CARD OF 'middlinglaw06.ChainClosed'. -/
def chainClosedCard : Claim7 := { stood := { row := chainClosedRow, standIns := [], harness := (true, "b3f81dfb31c748ad97e7d7adf8d5e36622088fd1434e7e06f6fe9c82fab7753f"), looks := false }, kinds := [], alts := [], laidByText := true, laidKinds := [.funcs], laidTests := true, laidLooks := .later }
def ChainClosedCardSaid : Prop := Claim7.holds Tryd.pinned (.plain (OpenSpec.ofChange chainClosedSpec)) chainClosedCard

/-- THE TIED CARD OF 'middlinglaw06.ChainLeast'. -/
def chainLeastCard : Claim7 := { stood := { row := chainLeastRow, standIns := [], harness := (true, "b3f81dfb31c748ad97e7d7adf8d5e36622088fd1434e7e06f6fe9c82fab7753f"), looks := false }, kinds := [], alts := [], laidByText := true, laidKinds := [.funcs], laidTests := true, laidLooks := .later }
def ChainLeastCardSaid : Prop := Claim7.holds Tryd.pinned (.plain (OpenSpec.ofChange chainLeastSpec)) chainLeastCard

/-- THE TIED CARD OF 'middlinglaw06.ChainHanded'. -/
def chainHandedCard : Claim7 := { stood := { row := chainHandedRow, standIns := [], harness := (true, "b3f81dfb31c748ad97e7d7adf8d5e36622088fd1434e7e06f6fe9c82fab7753f"), looks := false }, kinds := [], alts := [], laidByText := true, laidKinds := [.funcs], laidTests := true, laidLooks := .later }
def ChainHandedCardSaid : Prop := Claim7.holds Tryd.pinned (.plain (OpenSpec.ofChange chainHandedSpec)) chainHandedCard

/-- THE TIED CARD OF 'middlinglaw06.ChainSums'. -/
def chainSumsCard : Claim7 := { stood := { row := chainSumsRow, standIns := [], harness := (true, "b3f81dfb31c748ad97e7d7adf8d5e36622088fd1434e7e06f6fe9c82fab7753f"), looks := false }, kinds := [], alts := [], laidByText := true, laidKinds := [.funcs], laidTests := true, laidLooks := .later }
def ChainSumsCardSaid : Prop := Claim7.holds Tryd.pinned (.plain (OpenSpec.ofChange chainSumsSpec)) chainSumsCard

/-- THE TIED CARD OF 'middlinglaw06.ChainStops'. -/
def chainStopsCard : Claim7 := { stood := { row := chainStopsRow, standIns := [], harness := (true, "b3f81dfb31c748ad97e7d7adf8d5e36622088fd1434e7e06f6fe9c82fab7753f"), looks := false }, kinds := [], alts := [], laidByText := true, laidKinds := [.funcs], laidTests := true, laidLooks := .later }
def ChainStopsCardSaid : Prop := Claim7.holds Tryd.pinned (.plain (OpenSpec.ofChange chainStopsSpec)) chainStopsCard

/-- THE TIED CARD OF 'middlinglaw06.ChainBack'. -/
def chainBackCard : Claim7 := { stood := { row := chainBackRow, standIns := [], harness := (true, "b3f81dfb31c748ad97e7d7adf8d5e36622088fd1434e7e06f6fe9c82fab7753f"), looks := false }, kinds := [], alts := [], laidByText := true, laidKinds := [.funcs], laidTests := true, laidLooks := .later }
def ChainBackCardSaid : Prop := Claim7.holds Tryd.pinned (.plain (OpenSpec.ofChange chainBackSpec)) chainBackCard

/-- THE TIED CARD OF 'middlinglaw06.ChainWay'. -/
def chainWayCard : Claim7 := { stood := { row := chainWayRow, standIns := [], harness := (true, "b3f81dfb31c748ad97e7d7adf8d5e36622088fd1434e7e06f6fe9c82fab7753f"), looks := false }, kinds := [], alts := [], laidByText := true, laidKinds := [.funcs], laidTests := true, laidLooks := .later }
def ChainWayCardSaid : Prop := Claim7.holds Tryd.pinned (.plain (OpenSpec.ofChange chainWaySpec)) chainWayCard

/-- THE TIED CARD OF 'middlinglaw06.ChainStruck'. -/
def chainStruckCard : Claim7 := { stood := { row := chainStruckRow, standIns := [], harness := (true, "b3f81dfb31c748ad97e7d7adf8d5e36622088fd1434e7e06f6fe9c82fab7753f"), looks := false }, kinds := [], alts := [], laidByText := true, laidKinds := [.funcs], laidTests := true, laidLooks := .later }
def ChainStruckCardSaid : Prop := Claim7.holds Tryd.pinned (.plain (OpenSpec.ofChange chainStruckSpec)) chainStruckCard

/-- THE SECOND FORM's CARD OF 'middlinglaw06.ChainTells'. -/
def chainTellsUptoCard : Claim7 := { stood := { row := chainTellsUptoRow, standIns := [], harness := (true, "b3f81dfb31c748ad97e7d7adf8d5e36622088fd1434e7e06f6fe9c82fab7753f"), looks := false }, kinds := [], alts := [], laidByText := true, laidKinds := [.funcs], laidTests := true, laidLooks := .later }
def ChainTellsUptoCardSaid : Prop := Claim7.holds Tryd.pinned (.plain (OpenSpec.upto chainTellsSpec)) chainTellsUptoCard

/-- THE SECOND FORM's CARD OF 'middlinglaw06.ChainHands'. -/
def chainHandsUptoCard : Claim7 := { stood := { row := chainHandsUptoRow, standIns := [], harness := (true, "b3f81dfb31c748ad97e7d7adf8d5e36622088fd1434e7e06f6fe9c82fab7753f"), looks := false }, kinds := [], alts := [], laidByText := true, laidKinds := [.funcs], laidTests := true, laidLooks := .later }
def ChainHandsUptoCardSaid : Prop := Claim7.holds Tryd.pinned (.plain (OpenSpec.upto chainHandsSpec)) chainHandsUptoCard

/-- THE SECOND FORM's CARD OF 'middlinglaw06.ChainProves'. -/
def chainProvesUptoCard : Claim7 := { stood := { row := chainProvesUptoRow, standIns := [], harness := (true, "b3f81dfb31c748ad97e7d7adf8d5e36622088fd1434e7e06f6fe9c82fab7753f"), looks := false }, kinds := [], alts := [], laidByText := true, laidKinds := [.funcs], laidTests := true, laidLooks := .later }
def ChainProvesUptoCardSaid : Prop := Claim7.holds Tryd.pinned (.plain (OpenSpec.upto chainProvesSpec)) chainProvesUptoCard

/-- THE SECOND FORM's CARD OF 'middlinglaw06.ChainPays'. -/
def chainPaysUptoCard : Claim7 := { stood := { row := chainPaysUptoRow, standIns := [], harness := (true, "b3f81dfb31c748ad97e7d7adf8d5e36622088fd1434e7e06f6fe9c82fab7753f"), looks := false }, kinds := [], alts := [], laidByText := true, laidKinds := [.funcs], laidTests := true, laidLooks := .later }
def ChainPaysUptoCardSaid : Prop := Claim7.holds Tryd.pinned (.plain (OpenSpec.upto chainPaysSpec)) chainPaysUptoCard

/-- THE SECOND FORM's CARD OF 'middlinglaw06.ChainChanges'. -/
def chainChangesUptoCard : Claim7 := { stood := { row := chainChangesUptoRow, standIns := [], harness := (true, "b3f81dfb31c748ad97e7d7adf8d5e36622088fd1434e7e06f6fe9c82fab7753f"), looks := false }, kinds := [], alts := [], laidByText := true, laidKinds := [.funcs], laidTests := true, laidLooks := .later }
def ChainChangesUptoCardSaid : Prop := Claim7.holds Tryd.pinned (.plain (OpenSpec.upto chainChangesSpec)) chainChangesUptoCard

/-- THE SECOND FORM's CARD OF 'middlinglaw06.ChainAdds'. -/
def chainAddsUptoCard : Claim7 := { stood := { row := chainAddsUptoRow, standIns := [], harness := (true, "b3f81dfb31c748ad97e7d7adf8d5e36622088fd1434e7e06f6fe9c82fab7753f"), looks := false }, kinds := [], alts := [], laidByText := true, laidKinds := [.funcs], laidTests := true, laidLooks := .later }
def ChainAddsUptoCardSaid : Prop := Claim7.holds Tryd.pinned (.plain (OpenSpec.upto chainAddsSpec)) chainAddsUptoCard

/-- THE SECOND FORM's CARD OF 'middlinglaw06.ChainExamples'. -/
def chainExamplesUptoCard : Claim7 := { stood := { row := chainExamplesUptoRow, standIns := [], harness := (true, "b3f81dfb31c748ad97e7d7adf8d5e36622088fd1434e7e06f6fe9c82fab7753f"), looks := false }, kinds := [], alts := [], laidByText := true, laidKinds := [.funcs], laidTests := true, laidLooks := .later }
def ChainExamplesUptoCardSaid : Prop := Claim7.holds Tryd.pinned (.plain (OpenSpec.upto chainExamplesSpec)) chainExamplesUptoCard

/-- THE SECOND FORM's CARD OF 'middlinglaw06.ChainClosed'. -/
def chainClosedUptoCard : Claim7 := { stood := { row := chainClosedUptoRow, standIns := [], harness := (true, "b3f81dfb31c748ad97e7d7adf8d5e36622088fd1434e7e06f6fe9c82fab7753f"), looks := false }, kinds := [], alts := [], laidByText := true, laidKinds := [.funcs], laidTests := true, laidLooks := .later }
def ChainClosedUptoCardSaid : Prop := Claim7.holds Tryd.pinned (.plain (OpenSpec.upto chainClosedSpec)) chainClosedUptoCard

/-- THE SECOND FORM's CARD OF 'middlinglaw06.ChainLeast'. -/
def chainLeastUptoCard : Claim7 := { stood := { row := chainLeastUptoRow, standIns := [], harness := (true, "b3f81dfb31c748ad97e7d7adf8d5e36622088fd1434e7e06f6fe9c82fab7753f"), looks := false }, kinds := [], alts := [], laidByText := true, laidKinds := [.funcs], laidTests := true, laidLooks := .later }
def ChainLeastUptoCardSaid : Prop := Claim7.holds Tryd.pinned (.plain (OpenSpec.upto chainLeastSpec)) chainLeastUptoCard

/-- THE SECOND FORM's CARD OF 'middlinglaw06.ChainHanded'. -/
def chainHandedUptoCard : Claim7 := { stood := { row := chainHandedUptoRow, standIns := [], harness := (true, "b3f81dfb31c748ad97e7d7adf8d5e36622088fd1434e7e06f6fe9c82fab7753f"), looks := false }, kinds := [], alts := [], laidByText := true, laidKinds := [.funcs], laidTests := true, laidLooks := .later }
def ChainHandedUptoCardSaid : Prop := Claim7.holds Tryd.pinned (.plain (OpenSpec.upto chainHandedSpec)) chainHandedUptoCard

/-- THE SECOND FORM's CARD OF 'middlinglaw06.ChainSums'. -/
def chainSumsUptoCard : Claim7 := { stood := { row := chainSumsUptoRow, standIns := [], harness := (true, "b3f81dfb31c748ad97e7d7adf8d5e36622088fd1434e7e06f6fe9c82fab7753f"), looks := false }, kinds := [], alts := [], laidByText := true, laidKinds := [.funcs], laidTests := true, laidLooks := .later }
def ChainSumsUptoCardSaid : Prop := Claim7.holds Tryd.pinned (.plain (OpenSpec.upto chainSumsSpec)) chainSumsUptoCard

/-- THE SECOND FORM's CARD OF 'middlinglaw06.ChainStops'. -/
def chainStopsUptoCard : Claim7 := { stood := { row := chainStopsUptoRow, standIns := [], harness := (true, "b3f81dfb31c748ad97e7d7adf8d5e36622088fd1434e7e06f6fe9c82fab7753f"), looks := false }, kinds := [], alts := [], laidByText := true, laidKinds := [.funcs], laidTests := true, laidLooks := .later }
def ChainStopsUptoCardSaid : Prop := Claim7.holds Tryd.pinned (.plain (OpenSpec.upto chainStopsSpec)) chainStopsUptoCard

/-- THE SECOND FORM's CARD OF 'middlinglaw06.ChainBack'. -/
def chainBackUptoCard : Claim7 := { stood := { row := chainBackUptoRow, standIns := [], harness := (true, "b3f81dfb31c748ad97e7d7adf8d5e36622088fd1434e7e06f6fe9c82fab7753f"), looks := false }, kinds := [], alts := [], laidByText := true, laidKinds := [.funcs], laidTests := true, laidLooks := .later }
def ChainBackUptoCardSaid : Prop := Claim7.holds Tryd.pinned (.plain (OpenSpec.upto chainBackSpec)) chainBackUptoCard

/-- THE SECOND FORM's CARD OF 'middlinglaw06.ChainWay'. -/
def chainWayUptoCard : Claim7 := { stood := { row := chainWayUptoRow, standIns := [], harness := (true, "b3f81dfb31c748ad97e7d7adf8d5e36622088fd1434e7e06f6fe9c82fab7753f"), looks := false }, kinds := [], alts := [], laidByText := true, laidKinds := [.funcs], laidTests := true, laidLooks := .later }
def ChainWayUptoCardSaid : Prop := Claim7.holds Tryd.pinned (.plain (OpenSpec.upto chainWaySpec)) chainWayUptoCard

/-- THE SECOND FORM's CARD OF 'middlinglaw06.ChainStruck'. -/
def chainStruckUptoCard : Claim7 := { stood := { row := chainStruckUptoRow, standIns := [], harness := (true, "b3f81dfb31c748ad97e7d7adf8d5e36622088fd1434e7e06f6fe9c82fab7753f"), looks := false }, kinds := [], alts := [], laidByText := true, laidKinds := [.funcs], laidTests := true, laidLooks := .later }
def ChainStruckUptoCardSaid : Prop := Claim7.holds Tryd.pinned (.plain (OpenSpec.upto chainStruckSpec)) chainStruckUptoCard
end Rows
end Go.Proofs.YtafdbgielmlihaaDoor
