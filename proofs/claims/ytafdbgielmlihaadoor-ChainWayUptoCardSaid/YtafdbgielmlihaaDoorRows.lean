/-
  NARROWER THAN 'FOR EVERY INPUT', by the rows' own cells (each row's printed sentence says how): ChainTells: laid · ChainHands: laid · ChainProves: laid · ChainPays: laid · ChainChanges: laid · ChainAdds: laid · ChainExamples: laid · ChainClosed: laid · ChainLeast: laid · ChainHanded: laid · ChainSums: laid · ChainStops: laid · ChainBack: laid · ChainWay: laid · ChainStruck: laid.
  DERIVED. THE GIVEN ROWS OF THIS SEAT. 15 by the template 'for every input the law returns true; each argument reads behind the call as it read before'; 0 by the template 'total and deterministic' (their statements: YtafdbgielmlihaaDoorTotals.lean).
  GIVEN WITH THE SEED: the statements are not yours to turn. If you find one false, say at which input.
  Laid BY PROGRAM, IN A SANDBOX (cutbox-rows.mjs): the forced cells as the released guide's own fill.sh prints them over the translation b6ce3390d98adcc3… (all of the seat's roots in one cut). By AI agents, Wed Nov 11 2026. No macro, syntax, notation, axiom, sorry.
-/
import Derived.Test.YtafdbgielmlihaaDoorChecked
import GoSem.Claim
import GoSem.ClaimJoined
import GoSem.ClaimMapViews
import Derived.JoinedTies
import Derived.KernelRfl
namespace Go.Proofs.YtafdbgielmlihaaDoor
/- THE CELL 'sum', in the pinned program and in every row, IS THE sha256 OF THE DUMP (.gsa) THAT YtafdbgielmlihaaDoorProg.lean LOADS. Nothing in Lean hashes anything: it is a label: what it is worth is what the hold of that sum in a sandbox is worth. -/
noncomputable def Tryd.pinned : Pinned := { name := "ytafdbgielmlihaadoor", sum := "b6ce3390d98adcc33a1a3b1d9f1214b7d14390eac7a918a475b5ce6c7048d43e", checked := Tryd.checked }
namespace Rows
def none {H : Type} : Left H := { results := [], args := [] }

/- WHAT THE LISTED PACKAGE-LEVEL VARIABLES READ AS WHEN THE CALL BEGINS. Each datum BY PROGRAM (the guide's laid-datum.mjs) off the statement by which the dump's own 'gosem.cut.vars' lays the variable. In a bare row this is a premise. The card (YtafdbgielmlihaaDoorCards.lean) ties it to the program's text. -/
def laid_middling_chain_checks {H : Type} : DataW H := .iface "func table" (.agg [.agg [.iface "func" (.lit (.string [109, 105, 100, 100, 108, 105, 110, 103, 47, 99, 104, 97, 105, 110, 46, 99, 104, 101, 99, 107, 115, 36, 49]))], .agg [.iface "func" (.lit (.string [109, 105, 100, 100, 108, 105, 110, 103, 47, 99, 104, 97, 105, 110, 46, 99, 104, 101, 99, 107, 115, 36, 50]))]])

/-- 'middlinglaw06.ChainTells': WHATEVER THE INPUT: true; the input reads as it did. -/
def chainTellsSpec : ChangeSpec := { name := "chainTells", fn := fun _ => fun
  | [d] => { results := [.lit (.bool true)], args := [d] }
  | _ => none }
def chainTellsRow : OpenClaim := { program := "ytafdbgielmlihaadoor", sum := "b6ce3390d98adcc33a1a3b1d9f1214b7d14390eac7a918a475b5ce6c7048d43e", func := "middling/middlinglaw06.ChainTells", spec := "chainTells", unfollowed := true, recurses := true, named := ["middling/chain.checks"], apart := false, laid := [("middling/chain.checks", laid_middling_chain_checks)] }
def ChainTellsSaid : Prop := chainTellsRow.holds Tryd.pinned (OpenSpec.ofChange chainTellsSpec)

/-- ITS FALSE NEIGHBOUR: 'it returns false'. Refute it at one input. -/
def chainTellsWrong : ChangeSpec := { name := "chainTells", fn := fun _ => fun
  | [d] => { results := [.lit (.bool false)], args := [d] }
  | _ => none }
def ChainTellsWrongFalsely : Prop := chainTellsRow.holds Tryd.pinned (OpenSpec.ofChange chainTellsWrong)

/-- 'middlinglaw06.ChainHands': WHATEVER THE INPUT: true; the input reads as it did. -/
def chainHandsSpec : ChangeSpec := { name := "chainHands", fn := fun _ => fun
  | [d] => { results := [.lit (.bool true)], args := [d] }
  | _ => none }
def chainHandsRow : OpenClaim := { program := "ytafdbgielmlihaadoor", sum := "b6ce3390d98adcc33a1a3b1d9f1214b7d14390eac7a918a475b5ce6c7048d43e", func := "middling/middlinglaw06.ChainHands", spec := "chainHands", unfollowed := true, recurses := true, named := ["middling/chain.checks"], apart := false, laid := [("middling/chain.checks", laid_middling_chain_checks)] }
def ChainHandsSaid : Prop := chainHandsRow.holds Tryd.pinned (OpenSpec.ofChange chainHandsSpec)

/-- ITS FALSE NEIGHBOUR: 'it returns false'. Refute it at one input. -/
def chainHandsWrong : ChangeSpec := { name := "chainHands", fn := fun _ => fun
  | [d] => { results := [.lit (.bool false)], args := [d] }
  | _ => none }
def ChainHandsWrongFalsely : Prop := chainHandsRow.holds Tryd.pinned (OpenSpec.ofChange chainHandsWrong)

/-- 'middlinglaw06.ChainProves': WHATEVER THE INPUT: true; the input reads as it did. -/
def chainProvesSpec : ChangeSpec := { name := "chainProves", fn := fun _ => fun
  | [d1, d2] => { results := [.lit (.bool true)], args := [d1, d2] }
  | _ => none }
def chainProvesRow : OpenClaim := { program := "ytafdbgielmlihaadoor", sum := "b6ce3390d98adcc33a1a3b1d9f1214b7d14390eac7a918a475b5ce6c7048d43e", func := "middling/middlinglaw06.ChainProves", spec := "chainProves", unfollowed := true, recurses := true, named := ["middling/chain.checks"], apart := false, laid := [("middling/chain.checks", laid_middling_chain_checks)] }
def ChainProvesSaid : Prop := chainProvesRow.holds Tryd.pinned (OpenSpec.ofChange chainProvesSpec)

/-- ITS FALSE NEIGHBOUR: 'it returns false'. Refute it at one input. -/
def chainProvesWrong : ChangeSpec := { name := "chainProves", fn := fun _ => fun
  | [d1, d2] => { results := [.lit (.bool false)], args := [d1, d2] }
  | _ => none }
def ChainProvesWrongFalsely : Prop := chainProvesRow.holds Tryd.pinned (OpenSpec.ofChange chainProvesWrong)

/-- 'middlinglaw06.ChainPays': WHATEVER THE INPUT: true; the input reads as it did. -/
def chainPaysSpec : ChangeSpec := { name := "chainPays", fn := fun _ => fun
  | [d1, d2, d3, d4] => { results := [.lit (.bool true)], args := [d1, d2, d3, d4] }
  | _ => none }
def chainPaysRow : OpenClaim := { program := "ytafdbgielmlihaadoor", sum := "b6ce3390d98adcc33a1a3b1d9f1214b7d14390eac7a918a475b5ce6c7048d43e", func := "middling/middlinglaw06.ChainPays", spec := "chainPays", unfollowed := true, recurses := true, named := ["middling/chain.checks"], apart := false, laid := [("middling/chain.checks", laid_middling_chain_checks)] }
def ChainPaysSaid : Prop := chainPaysRow.holds Tryd.pinned (OpenSpec.ofChange chainPaysSpec)

/-- ITS FALSE NEIGHBOUR: 'it returns false'. Refute it at one input. -/
def chainPaysWrong : ChangeSpec := { name := "chainPays", fn := fun _ => fun
  | [d1, d2, d3, d4] => { results := [.lit (.bool false)], args := [d1, d2, d3, d4] }
  | _ => none }
def ChainPaysWrongFalsely : Prop := chainPaysRow.holds Tryd.pinned (OpenSpec.ofChange chainPaysWrong)

/-- 'middlinglaw06.ChainChanges': WHATEVER THE INPUT: true; the input reads as it did. -/
def chainChangesSpec : ChangeSpec := { name := "chainChanges", fn := fun _ => fun
  | [d1, d2, d3, d4] => { results := [.lit (.bool true)], args := [d1, d2, d3, d4] }
  | _ => none }
def chainChangesRow : OpenClaim := { program := "ytafdbgielmlihaadoor", sum := "b6ce3390d98adcc33a1a3b1d9f1214b7d14390eac7a918a475b5ce6c7048d43e", func := "middling/middlinglaw06.ChainChanges", spec := "chainChanges", inPlace := ["slices.overlaps[middling/api.Sale]"], unfollowed := true, recurses := true, named := ["middling/chain.checks"], apart := false, laid := [("middling/chain.checks", laid_middling_chain_checks)] }
def ChainChangesSaid : Prop := chainChangesRow.holds Tryd.pinned (OpenSpec.ofChange chainChangesSpec)

/-- ITS FALSE NEIGHBOUR: 'it returns false'. Refute it at one input. -/
def chainChangesWrong : ChangeSpec := { name := "chainChanges", fn := fun _ => fun
  | [d1, d2, d3, d4] => { results := [.lit (.bool false)], args := [d1, d2, d3, d4] }
  | _ => none }
def ChainChangesWrongFalsely : Prop := chainChangesRow.holds Tryd.pinned (OpenSpec.ofChange chainChangesWrong)

/-- 'middlinglaw06.ChainAdds': WHATEVER THE INPUT: true; the input reads as it did. -/
def chainAddsSpec : ChangeSpec := { name := "chainAdds", fn := fun _ => fun
  | [d1, d2, d3, d4] => { results := [.lit (.bool true)], args := [d1, d2, d3, d4] }
  | _ => none }
def chainAddsRow : OpenClaim := { program := "ytafdbgielmlihaadoor", sum := "b6ce3390d98adcc33a1a3b1d9f1214b7d14390eac7a918a475b5ce6c7048d43e", func := "middling/middlinglaw06.ChainAdds", spec := "chainAdds", inPlace := ["slices.overlaps[middling/api.Sale]"], unfollowed := true, recurses := true, named := ["middling/chain.checks"], apart := false, laid := [("middling/chain.checks", laid_middling_chain_checks)] }
def ChainAddsSaid : Prop := chainAddsRow.holds Tryd.pinned (OpenSpec.ofChange chainAddsSpec)

/-- ITS FALSE NEIGHBOUR: 'it returns false'. Refute it at one input. -/
def chainAddsWrong : ChangeSpec := { name := "chainAdds", fn := fun _ => fun
  | [d1, d2, d3, d4] => { results := [.lit (.bool false)], args := [d1, d2, d3, d4] }
  | _ => none }
def ChainAddsWrongFalsely : Prop := chainAddsRow.holds Tryd.pinned (OpenSpec.ofChange chainAddsWrong)

/-- 'middlinglaw06.ChainExamples': WHATEVER THE INPUT: true; the input reads as it did. -/
def chainExamplesSpec : ChangeSpec := { name := "chainExamples", fn := fun _ => fun
  | [] => { results := [.lit (.bool true)], args := [] }
  | _ => none }
def chainExamplesRow : OpenClaim := { program := "ytafdbgielmlihaadoor", sum := "b6ce3390d98adcc33a1a3b1d9f1214b7d14390eac7a918a475b5ce6c7048d43e", func := "middling/middlinglaw06.ChainExamples", spec := "chainExamples", inPlace := ["slices.overlaps[middling/api.Sale]"], unfollowed := true, recurses := true, named := ["middling/chain.checks"], apart := false, laid := [("middling/chain.checks", laid_middling_chain_checks)] }
def ChainExamplesSaid : Prop := chainExamplesRow.holds Tryd.pinned (OpenSpec.ofChange chainExamplesSpec)

/-- ITS FALSE NEIGHBOUR: 'it returns false'. Refute it at one input. -/
def chainExamplesWrong : ChangeSpec := { name := "chainExamples", fn := fun _ => fun
  | [] => { results := [.lit (.bool false)], args := [] }
  | _ => none }
def ChainExamplesWrongFalsely : Prop := chainExamplesRow.holds Tryd.pinned (OpenSpec.ofChange chainExamplesWrong)

/-- 'middlinglaw06.ChainClosed': WHATEVER THE INPUT: true; the input reads as it did. -/
def chainClosedSpec : ChangeSpec := { name := "chainClosed", fn := fun _ => fun
  | [d] => { results := [.lit (.bool true)], args := [d] }
  | _ => none }
def chainClosedRow : OpenClaim := { program := "ytafdbgielmlihaadoor", sum := "b6ce3390d98adcc33a1a3b1d9f1214b7d14390eac7a918a475b5ce6c7048d43e", func := "middling/middlinglaw06.ChainClosed", spec := "chainClosed", inPlace := ["slices.overlaps[middling/api.Sale]"], unfollowed := true, recurses := true, named := ["middling/chain.checks"], apart := false, laid := [("middling/chain.checks", laid_middling_chain_checks)] }
def ChainClosedSaid : Prop := chainClosedRow.holds Tryd.pinned (OpenSpec.ofChange chainClosedSpec)

/-- ITS FALSE NEIGHBOUR: 'it returns false'. Refute it at one input. -/
def chainClosedWrong : ChangeSpec := { name := "chainClosed", fn := fun _ => fun
  | [d] => { results := [.lit (.bool false)], args := [d] }
  | _ => none }
def ChainClosedWrongFalsely : Prop := chainClosedRow.holds Tryd.pinned (OpenSpec.ofChange chainClosedWrong)

/-- 'middlinglaw06.ChainLeast': WHATEVER THE INPUT: true; the input reads as it did. -/
def chainLeastSpec : ChangeSpec := { name := "chainLeast", fn := fun _ => fun
  | [d1, d2] => { results := [.lit (.bool true)], args := [d1, d2] }
  | _ => none }
def chainLeastRow : OpenClaim := { program := "ytafdbgielmlihaadoor", sum := "b6ce3390d98adcc33a1a3b1d9f1214b7d14390eac7a918a475b5ce6c7048d43e", func := "middling/middlinglaw06.ChainLeast", spec := "chainLeast", inPlace := ["slices.overlaps[middling/api.Sale]"], unfollowed := true, recurses := true, named := ["middling/chain.checks"], apart := false, laid := [("middling/chain.checks", laid_middling_chain_checks)] }
def ChainLeastSaid : Prop := chainLeastRow.holds Tryd.pinned (OpenSpec.ofChange chainLeastSpec)

/-- ITS FALSE NEIGHBOUR: 'it returns false'. Refute it at one input. -/
def chainLeastWrong : ChangeSpec := { name := "chainLeast", fn := fun _ => fun
  | [d1, d2] => { results := [.lit (.bool false)], args := [d1, d2] }
  | _ => none }
def ChainLeastWrongFalsely : Prop := chainLeastRow.holds Tryd.pinned (OpenSpec.ofChange chainLeastWrong)

/-- 'middlinglaw06.ChainHanded': WHATEVER THE INPUT: true; the input reads as it did. -/
def chainHandedSpec : ChangeSpec := { name := "chainHanded", fn := fun _ => fun
  | [d] => { results := [.lit (.bool true)], args := [d] }
  | _ => none }
def chainHandedRow : OpenClaim := { program := "ytafdbgielmlihaadoor", sum := "b6ce3390d98adcc33a1a3b1d9f1214b7d14390eac7a918a475b5ce6c7048d43e", func := "middling/middlinglaw06.ChainHanded", spec := "chainHanded", inPlace := ["slices.overlaps[middling/api.Sale]"], unfollowed := true, recurses := true, named := ["middling/chain.checks"], apart := false, laid := [("middling/chain.checks", laid_middling_chain_checks)] }
def ChainHandedSaid : Prop := chainHandedRow.holds Tryd.pinned (OpenSpec.ofChange chainHandedSpec)

/-- ITS FALSE NEIGHBOUR: 'it returns false'. Refute it at one input. -/
def chainHandedWrong : ChangeSpec := { name := "chainHanded", fn := fun _ => fun
  | [d] => { results := [.lit (.bool false)], args := [d] }
  | _ => none }
def ChainHandedWrongFalsely : Prop := chainHandedRow.holds Tryd.pinned (OpenSpec.ofChange chainHandedWrong)

/-- 'middlinglaw06.ChainSums': WHATEVER THE INPUT: true; the input reads as it did. -/
def chainSumsSpec : ChangeSpec := { name := "chainSums", fn := fun _ => fun
  | [d1, d2] => { results := [.lit (.bool true)], args := [d1, d2] }
  | _ => none }
def chainSumsRow : OpenClaim := { program := "ytafdbgielmlihaadoor", sum := "b6ce3390d98adcc33a1a3b1d9f1214b7d14390eac7a918a475b5ce6c7048d43e", func := "middling/middlinglaw06.ChainSums", spec := "chainSums", inPlace := ["slices.overlaps[middling/api.Sale]"], unfollowed := true, recurses := true, named := ["middling/chain.checks"], apart := false, laid := [("middling/chain.checks", laid_middling_chain_checks)] }
def ChainSumsSaid : Prop := chainSumsRow.holds Tryd.pinned (OpenSpec.ofChange chainSumsSpec)

/-- ITS FALSE NEIGHBOUR: 'it returns false'. Refute it at one input. -/
def chainSumsWrong : ChangeSpec := { name := "chainSums", fn := fun _ => fun
  | [d1, d2] => { results := [.lit (.bool false)], args := [d1, d2] }
  | _ => none }
def ChainSumsWrongFalsely : Prop := chainSumsRow.holds Tryd.pinned (OpenSpec.ofChange chainSumsWrong)

/-- 'middlinglaw06.ChainStops': WHATEVER THE INPUT: true; the input reads as it did. -/
def chainStopsSpec : ChangeSpec := { name := "chainStops", fn := fun _ => fun
  | [d1, d2, d3, d4, d5] => { results := [.lit (.bool true)], args := [d1, d2, d3, d4, d5] }
  | _ => none }
def chainStopsRow : OpenClaim := { program := "ytafdbgielmlihaadoor", sum := "b6ce3390d98adcc33a1a3b1d9f1214b7d14390eac7a918a475b5ce6c7048d43e", func := "middling/middlinglaw06.ChainStops", spec := "chainStops", inPlace := ["slices.overlaps[middling/api.Sale]"], unfollowed := true, recurses := true, named := ["middling/chain.checks"], apart := false, laid := [("middling/chain.checks", laid_middling_chain_checks)] }
def ChainStopsSaid : Prop := chainStopsRow.holds Tryd.pinned (OpenSpec.ofChange chainStopsSpec)

/-- ITS FALSE NEIGHBOUR: 'it returns false'. Refute it at one input. -/
def chainStopsWrong : ChangeSpec := { name := "chainStops", fn := fun _ => fun
  | [d1, d2, d3, d4, d5] => { results := [.lit (.bool false)], args := [d1, d2, d3, d4, d5] }
  | _ => none }
def ChainStopsWrongFalsely : Prop := chainStopsRow.holds Tryd.pinned (OpenSpec.ofChange chainStopsWrong)

/-- 'middlinglaw06.ChainBack': WHATEVER THE INPUT: true; the input reads as it did. -/
def chainBackSpec : ChangeSpec := { name := "chainBack", fn := fun _ => fun
  | [d1, d2] => { results := [.lit (.bool true)], args := [d1, d2] }
  | _ => none }
def chainBackRow : OpenClaim := { program := "ytafdbgielmlihaadoor", sum := "b6ce3390d98adcc33a1a3b1d9f1214b7d14390eac7a918a475b5ce6c7048d43e", func := "middling/middlinglaw06.ChainBack", spec := "chainBack", inPlace := ["slices.overlaps[middling/api.Sale]"], unfollowed := true, recurses := true, named := ["middling/chain.checks"], apart := false, laid := [("middling/chain.checks", laid_middling_chain_checks)] }
def ChainBackSaid : Prop := chainBackRow.holds Tryd.pinned (OpenSpec.ofChange chainBackSpec)

/-- ITS FALSE NEIGHBOUR: 'it returns false'. Refute it at one input. -/
def chainBackWrong : ChangeSpec := { name := "chainBack", fn := fun _ => fun
  | [d1, d2] => { results := [.lit (.bool false)], args := [d1, d2] }
  | _ => none }
def ChainBackWrongFalsely : Prop := chainBackRow.holds Tryd.pinned (OpenSpec.ofChange chainBackWrong)

/-- 'middlinglaw06.ChainWay': WHATEVER THE INPUT: true; the input reads as it did. -/
def chainWaySpec : ChangeSpec := { name := "chainWay", fn := fun _ => fun
  | [d1, d2, d3, d4] => { results := [.lit (.bool true)], args := [d1, d2, d3, d4] }
  | _ => none }
def chainWayRow : OpenClaim := { program := "ytafdbgielmlihaadoor", sum := "b6ce3390d98adcc33a1a3b1d9f1214b7d14390eac7a918a475b5ce6c7048d43e", func := "middling/middlinglaw06.ChainWay", spec := "chainWay", inPlace := ["slices.overlaps[middling/api.Sale]"], unfollowed := true, recurses := true, named := ["middling/chain.checks"], apart := false, laid := [("middling/chain.checks", laid_middling_chain_checks)] }
def ChainWaySaid : Prop := chainWayRow.holds Tryd.pinned (OpenSpec.ofChange chainWaySpec)

/-- ITS FALSE NEIGHBOUR: 'it returns false'. Refute it at one input. -/
def chainWayWrong : ChangeSpec := { name := "chainWay", fn := fun _ => fun
  | [d1, d2, d3, d4] => { results := [.lit (.bool false)], args := [d1, d2, d3, d4] }
  | _ => none }
def ChainWayWrongFalsely : Prop := chainWayRow.holds Tryd.pinned (OpenSpec.ofChange chainWayWrong)

/-- 'middlinglaw06.ChainStruck': WHATEVER THE INPUT: true; the input reads as it did. -/
def chainStruckSpec : ChangeSpec := { name := "chainStruck", fn := fun _ => fun
  | [d1, d2, d3] => { results := [.lit (.bool true)], args := [d1, d2, d3] }
  | _ => none }
def chainStruckRow : OpenClaim := { program := "ytafdbgielmlihaadoor", sum := "b6ce3390d98adcc33a1a3b1d9f1214b7d14390eac7a918a475b5ce6c7048d43e", func := "middling/middlinglaw06.ChainStruck", spec := "chainStruck", inPlace := ["slices.overlaps[middling/api.Sale]"], unfollowed := true, recurses := true, named := ["middling/chain.checks"], apart := false, laid := [("middling/chain.checks", laid_middling_chain_checks)] }
def ChainStruckSaid : Prop := chainStruckRow.holds Tryd.pinned (OpenSpec.ofChange chainStruckSpec)

/-- ITS FALSE NEIGHBOUR: 'it returns false'. Refute it at one input. -/
def chainStruckWrong : ChangeSpec := { name := "chainStruck", fn := fun _ => fun
  | [d1, d2, d3] => { results := [.lit (.bool false)], args := [d1, d2, d3] }
  | _ => none }
def ChainStruckWrongFalsely : Prop := chainStruckRow.holds Tryd.pinned (OpenSpec.ofChange chainStruckWrong)

/- THE SECOND FORM. 'bulk': how many values and letters a reading holds, each counted each time it is reached (what is shared counts as often as it is met; a slice's spare places count too). A statement '..UptoSaid' is the law's where the arguments, and the package variables that the reading takes, are together of bulk at most 1048576: NARROWER than '..Said'. Prove '..Said' where nothing that the law and all that it calls make is longer than what came in: it says more and counts as full. Else prove '..UptoSaid'. A law counts once. -/
mutual
def uptoBulk {H : Type} : DataW H → Nat
  | .lit (.string bytes) => bytes.length + 1
  | .lit _ => 1
  | .nil => 1
  | .ptr d => uptoBulk d + 1
  | .slice elems spare => uptoBulkAll elems + uptoBulkAll spare + 1
  | .agg parts => uptoBulkAll parts + 1
  | .iface _ d => uptoBulk d + 1
  | .map entries => uptoBulkEntries entries + 1
  | .held _ => 1
def uptoBulkAll {H : Type} : List (DataW H) → Nat
  | [] => 0
  | d :: r => uptoBulk d + uptoBulkAll r
def uptoBulkEntries {H : Type} : List (Lit × DataW H) → Nat
  | [] => 0
  | x :: r => uptoBulkEntry x + uptoBulkEntries r
def uptoBulkEntry {H : Type} : Lit × DataW H → Nat
  | (.string bytes, d) => bytes.length + uptoBulk d + 1
  | (_, d) => uptoBulk d + 1
 end
def uptoSmall : (H : Type) → List (DataW H) → Bool := fun _ ds => decide (uptoBulkAll ds ≤ 1048576)
def OpenSpec.upto (s : _root_.Go.ChangeSpec) : _root_.Go.OpenSpec := { _root_.Go.OpenSpec.ofChange s with cond := some uptoSmall }

/-- 'middlinglaw06.ChainTells', WHERE WHAT IT READS IS OF BULK AT MOST 1048576: true; the input reads as it did. -/
def chainTellsUptoRow : OpenClaim := { program := "ytafdbgielmlihaadoor", sum := "b6ce3390d98adcc33a1a3b1d9f1214b7d14390eac7a918a475b5ce6c7048d43e", func := "middling/middlinglaw06.ChainTells", spec := "chainTells", unfollowed := true, recurses := true, named := ["middling/chain.checks"], apart := false, laid := [("middling/chain.checks", laid_middling_chain_checks)], narrowed := true }
def ChainTellsUptoSaid : Prop := chainTellsUptoRow.holds Tryd.pinned (OpenSpec.upto chainTellsSpec)

/-- 'middlinglaw06.ChainHands', WHERE WHAT IT READS IS OF BULK AT MOST 1048576: true; the input reads as it did. -/
def chainHandsUptoRow : OpenClaim := { program := "ytafdbgielmlihaadoor", sum := "b6ce3390d98adcc33a1a3b1d9f1214b7d14390eac7a918a475b5ce6c7048d43e", func := "middling/middlinglaw06.ChainHands", spec := "chainHands", unfollowed := true, recurses := true, named := ["middling/chain.checks"], apart := false, laid := [("middling/chain.checks", laid_middling_chain_checks)], narrowed := true }
def ChainHandsUptoSaid : Prop := chainHandsUptoRow.holds Tryd.pinned (OpenSpec.upto chainHandsSpec)

/-- 'middlinglaw06.ChainProves', WHERE WHAT IT READS IS OF BULK AT MOST 1048576: true; the input reads as it did. -/
def chainProvesUptoRow : OpenClaim := { program := "ytafdbgielmlihaadoor", sum := "b6ce3390d98adcc33a1a3b1d9f1214b7d14390eac7a918a475b5ce6c7048d43e", func := "middling/middlinglaw06.ChainProves", spec := "chainProves", unfollowed := true, recurses := true, named := ["middling/chain.checks"], apart := false, laid := [("middling/chain.checks", laid_middling_chain_checks)], narrowed := true }
def ChainProvesUptoSaid : Prop := chainProvesUptoRow.holds Tryd.pinned (OpenSpec.upto chainProvesSpec)

/-- 'middlinglaw06.ChainPays', WHERE WHAT IT READS IS OF BULK AT MOST 1048576: true; the input reads as it did. -/
def chainPaysUptoRow : OpenClaim := { program := "ytafdbgielmlihaadoor", sum := "b6ce3390d98adcc33a1a3b1d9f1214b7d14390eac7a918a475b5ce6c7048d43e", func := "middling/middlinglaw06.ChainPays", spec := "chainPays", unfollowed := true, recurses := true, named := ["middling/chain.checks"], apart := false, laid := [("middling/chain.checks", laid_middling_chain_checks)], narrowed := true }
def ChainPaysUptoSaid : Prop := chainPaysUptoRow.holds Tryd.pinned (OpenSpec.upto chainPaysSpec)

/-- 'middlinglaw06.ChainChanges', WHERE WHAT IT READS IS OF BULK AT MOST 1048576: true; the input reads as it did. -/
def chainChangesUptoRow : OpenClaim := { program := "ytafdbgielmlihaadoor", sum := "b6ce3390d98adcc33a1a3b1d9f1214b7d14390eac7a918a475b5ce6c7048d43e", func := "middling/middlinglaw06.ChainChanges", spec := "chainChanges", inPlace := ["slices.overlaps[middling/api.Sale]"], unfollowed := true, recurses := true, named := ["middling/chain.checks"], apart := false, laid := [("middling/chain.checks", laid_middling_chain_checks)], narrowed := true }
def ChainChangesUptoSaid : Prop := chainChangesUptoRow.holds Tryd.pinned (OpenSpec.upto chainChangesSpec)

/-- 'middlinglaw06.ChainAdds', WHERE WHAT IT READS IS OF BULK AT MOST 1048576: true; the input reads as it did. -/
def chainAddsUptoRow : OpenClaim := { program := "ytafdbgielmlihaadoor", sum := "b6ce3390d98adcc33a1a3b1d9f1214b7d14390eac7a918a475b5ce6c7048d43e", func := "middling/middlinglaw06.ChainAdds", spec := "chainAdds", inPlace := ["slices.overlaps[middling/api.Sale]"], unfollowed := true, recurses := true, named := ["middling/chain.checks"], apart := false, laid := [("middling/chain.checks", laid_middling_chain_checks)], narrowed := true }
def ChainAddsUptoSaid : Prop := chainAddsUptoRow.holds Tryd.pinned (OpenSpec.upto chainAddsSpec)

/-- 'middlinglaw06.ChainExamples', WHERE WHAT IT READS IS OF BULK AT MOST 1048576: true; the input reads as it did. -/
def chainExamplesUptoRow : OpenClaim := { program := "ytafdbgielmlihaadoor", sum := "b6ce3390d98adcc33a1a3b1d9f1214b7d14390eac7a918a475b5ce6c7048d43e", func := "middling/middlinglaw06.ChainExamples", spec := "chainExamples", inPlace := ["slices.overlaps[middling/api.Sale]"], unfollowed := true, recurses := true, named := ["middling/chain.checks"], apart := false, laid := [("middling/chain.checks", laid_middling_chain_checks)], narrowed := true }
def ChainExamplesUptoSaid : Prop := chainExamplesUptoRow.holds Tryd.pinned (OpenSpec.upto chainExamplesSpec)

/-- 'middlinglaw06.ChainClosed', WHERE WHAT IT READS IS OF BULK AT MOST 1048576: true; the input reads as it did. -/
def chainClosedUptoRow : OpenClaim := { program := "ytafdbgielmlihaadoor", sum := "b6ce3390d98adcc33a1a3b1d9f1214b7d14390eac7a918a475b5ce6c7048d43e", func := "middling/middlinglaw06.ChainClosed", spec := "chainClosed", inPlace := ["slices.overlaps[middling/api.Sale]"], unfollowed := true, recurses := true, named := ["middling/chain.checks"], apart := false, laid := [("middling/chain.checks", laid_middling_chain_checks)], narrowed := true }
def ChainClosedUptoSaid : Prop := chainClosedUptoRow.holds Tryd.pinned (OpenSpec.upto chainClosedSpec)

/-- 'middlinglaw06.ChainLeast', WHERE WHAT IT READS IS OF BULK AT MOST 1048576: true; the input reads as it did. -/
def chainLeastUptoRow : OpenClaim := { program := "ytafdbgielmlihaadoor", sum := "b6ce3390d98adcc33a1a3b1d9f1214b7d14390eac7a918a475b5ce6c7048d43e", func := "middling/middlinglaw06.ChainLeast", spec := "chainLeast", inPlace := ["slices.overlaps[middling/api.Sale]"], unfollowed := true, recurses := true, named := ["middling/chain.checks"], apart := false, laid := [("middling/chain.checks", laid_middling_chain_checks)], narrowed := true }
def ChainLeastUptoSaid : Prop := chainLeastUptoRow.holds Tryd.pinned (OpenSpec.upto chainLeastSpec)

/-- 'middlinglaw06.ChainHanded', WHERE WHAT IT READS IS OF BULK AT MOST 1048576: true; the input reads as it did. -/
def chainHandedUptoRow : OpenClaim := { program := "ytafdbgielmlihaadoor", sum := "b6ce3390d98adcc33a1a3b1d9f1214b7d14390eac7a918a475b5ce6c7048d43e", func := "middling/middlinglaw06.ChainHanded", spec := "chainHanded", inPlace := ["slices.overlaps[middling/api.Sale]"], unfollowed := true, recurses := true, named := ["middling/chain.checks"], apart := false, laid := [("middling/chain.checks", laid_middling_chain_checks)], narrowed := true }
def ChainHandedUptoSaid : Prop := chainHandedUptoRow.holds Tryd.pinned (OpenSpec.upto chainHandedSpec)

/-- 'middlinglaw06.ChainSums', WHERE WHAT IT READS IS OF BULK AT MOST 1048576: true; the input reads as it did. -/
def chainSumsUptoRow : OpenClaim := { program := "ytafdbgielmlihaadoor", sum := "b6ce3390d98adcc33a1a3b1d9f1214b7d14390eac7a918a475b5ce6c7048d43e", func := "middling/middlinglaw06.ChainSums", spec := "chainSums", inPlace := ["slices.overlaps[middling/api.Sale]"], unfollowed := true, recurses := true, named := ["middling/chain.checks"], apart := false, laid := [("middling/chain.checks", laid_middling_chain_checks)], narrowed := true }
def ChainSumsUptoSaid : Prop := chainSumsUptoRow.holds Tryd.pinned (OpenSpec.upto chainSumsSpec)

/-- 'middlinglaw06.ChainStops', WHERE WHAT IT READS IS OF BULK AT MOST 1048576: true; the input reads as it did. -/
def chainStopsUptoRow : OpenClaim := { program := "ytafdbgielmlihaadoor", sum := "b6ce3390d98adcc33a1a3b1d9f1214b7d14390eac7a918a475b5ce6c7048d43e", func := "middling/middlinglaw06.ChainStops", spec := "chainStops", inPlace := ["slices.overlaps[middling/api.Sale]"], unfollowed := true, recurses := true, named := ["middling/chain.checks"], apart := false, laid := [("middling/chain.checks", laid_middling_chain_checks)], narrowed := true }
def ChainStopsUptoSaid : Prop := chainStopsUptoRow.holds Tryd.pinned (OpenSpec.upto chainStopsSpec)

/-- 'middlinglaw06.ChainBack', WHERE WHAT IT READS IS OF BULK AT MOST 1048576: true; the input reads as it did. -/
def chainBackUptoRow : OpenClaim := { program := "ytafdbgielmlihaadoor", sum := "b6ce3390d98adcc33a1a3b1d9f1214b7d14390eac7a918a475b5ce6c7048d43e", func := "middling/middlinglaw06.ChainBack", spec := "chainBack", inPlace := ["slices.overlaps[middling/api.Sale]"], unfollowed := true, recurses := true, named := ["middling/chain.checks"], apart := false, laid := [("middling/chain.checks", laid_middling_chain_checks)], narrowed := true }
def ChainBackUptoSaid : Prop := chainBackUptoRow.holds Tryd.pinned (OpenSpec.upto chainBackSpec)

/-- 'middlinglaw06.ChainWay', WHERE WHAT IT READS IS OF BULK AT MOST 1048576: true; the input reads as it did. -/
def chainWayUptoRow : OpenClaim := { program := "ytafdbgielmlihaadoor", sum := "b6ce3390d98adcc33a1a3b1d9f1214b7d14390eac7a918a475b5ce6c7048d43e", func := "middling/middlinglaw06.ChainWay", spec := "chainWay", inPlace := ["slices.overlaps[middling/api.Sale]"], unfollowed := true, recurses := true, named := ["middling/chain.checks"], apart := false, laid := [("middling/chain.checks", laid_middling_chain_checks)], narrowed := true }
def ChainWayUptoSaid : Prop := chainWayUptoRow.holds Tryd.pinned (OpenSpec.upto chainWaySpec)

/-- 'middlinglaw06.ChainStruck', WHERE WHAT IT READS IS OF BULK AT MOST 1048576: true; the input reads as it did. -/
def chainStruckUptoRow : OpenClaim := { program := "ytafdbgielmlihaadoor", sum := "b6ce3390d98adcc33a1a3b1d9f1214b7d14390eac7a918a475b5ce6c7048d43e", func := "middling/middlinglaw06.ChainStruck", spec := "chainStruck", inPlace := ["slices.overlaps[middling/api.Sale]"], unfollowed := true, recurses := true, named := ["middling/chain.checks"], apart := false, laid := [("middling/chain.checks", laid_middling_chain_checks)], narrowed := true }
def ChainStruckUptoSaid : Prop := chainStruckUptoRow.holds Tryd.pinned (OpenSpec.upto chainStruckSpec)

end Rows
end Go.Proofs.YtafdbgielmlihaaDoor
