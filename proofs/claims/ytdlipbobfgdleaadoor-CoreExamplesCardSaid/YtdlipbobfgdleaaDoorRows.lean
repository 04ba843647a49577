/-
  NARROWER THAN 'FOR EVERY INPUT', by the rows' own cells (each row's printed sentence says how): CoreTells: laid · CoreWeighs: laid · CoreKinds: laid · CoreChanges: laid · CoreTruth: laid · CoreWeight: laid · CoreDecide: laid · CoreAsk: laid · CoreKind: laid · CoreWrong: laid · CoreExamples: laid.
  DERIVED. THE GIVEN ROWS OF THIS SEAT. 11 by the template 'for every input the law returns true; each argument reads behind the call as it read before'; 0 by the template 'total and deterministic' (their statements: YtdlipbobfgdleaaDoorTotals.lean).
  GIVEN WITH THE SEED: the statements are not yours to turn. If you find one false, say at which input.
  Laid BY PROGRAM, IN A SANDBOX (cutbox-rows.mjs): the forced cells as the released guide's own fill.sh prints them over the translation 90702e54100ff99f… (all of the seat's roots in one cut). By AI agents, Wed Nov 11 2026. No macro, syntax, notation, axiom, sorry.
-/
import Derived.Test.YtdlipbobfgdleaaDoorChecked
import GoSem.Claim
import GoSem.ClaimJoined
import GoSem.ClaimMapViews
import Derived.JoinedTies
import Derived.KernelRfl
namespace Go.Proofs.YtdlipbobfgdleaaDoor
/- THE CELL 'sum', in the pinned program and in every row, IS THE sha256 OF THE DUMP (.gsa) THAT YtdlipbobfgdleaaDoorProg.lean LOADS. Nothing in Lean hashes anything: it is a label: what it is worth is what the hold of that sum in a sandbox is worth. -/
noncomputable def Tryd.pinned : Pinned := { name := "ytdlipbobfgdleaadoor", sum := "90702e54100ff99fdb80f886229d1ef41fb53b5de977532de3f328f14058816c", checked := Tryd.checked }
namespace Rows
def none {H : Type} : Left H := { results := [], args := [] }

/- WHAT THE LISTED PACKAGE-LEVEL VARIABLES READ AS WHEN THE CALL BEGINS. Each datum BY PROGRAM (the guide's laid-datum.mjs) off the statement by which the dump's own 'gosem.cut.vars' lays the variable. In a bare row this is a premise. The card (YtdlipbobfgdleaaDoorCards.lean) ties it to the program's text. -/
def laid_middling_core_checks {H : Type} : DataW H := .iface "func table" (.agg [.agg [.iface "func" (.lit (.string [109, 105, 100, 100, 108, 105, 110, 103, 47, 99, 111, 114, 101, 46, 99, 104, 101, 99, 107, 115, 36, 49]))], .agg [.iface "func" (.lit (.string [109, 105, 100, 100, 108, 105, 110, 103, 47, 99, 111, 114, 101, 46, 99, 104, 101, 99, 107, 115, 36, 50]))], .agg [.iface "func" (.lit (.string [109, 105, 100, 100, 108, 105, 110, 103, 47, 99, 111, 114, 101, 46, 99, 104, 101, 99, 107, 115, 36, 51]))], .agg [.iface "func" (.lit (.string [109, 105, 100, 100, 108, 105, 110, 103, 47, 99, 111, 114, 101, 46, 99, 104, 101, 99, 107, 115, 36, 52]))]])

/-- 'middlinglaw03.CoreTells': WHATEVER THE INPUT: true; the input reads as it did. -/
def coreTellsSpec : ChangeSpec := { name := "coreTells", fn := fun _ => fun
  | [d1, d2] => { results := [.lit (.bool true)], args := [d1, d2] }
  | _ => none }
def coreTellsRow : OpenClaim := { program := "ytdlipbobfgdleaadoor", sum := "90702e54100ff99fdb80f886229d1ef41fb53b5de977532de3f328f14058816c", func := "middling/middlinglaw03.CoreTells", spec := "coreTells", unfollowed := true, recurses := true, named := ["middling/core.checks"], plainKeys := false, apart := false, laid := [("middling/core.checks", laid_middling_core_checks)] }
def CoreTellsSaid : Prop := coreTellsRow.holds Tryd.pinned (OpenSpec.ofChange coreTellsSpec)

/-- ITS FALSE NEIGHBOUR: 'it returns false'. Refute it at one input. -/
def coreTellsWrong : ChangeSpec := { name := "coreTells", fn := fun _ => fun
  | [d1, d2] => { results := [.lit (.bool false)], args := [d1, d2] }
  | _ => none }
def CoreTellsWrongFalsely : Prop := coreTellsRow.holds Tryd.pinned (OpenSpec.ofChange coreTellsWrong)

/-- 'middlinglaw03.CoreWeighs': WHATEVER THE INPUT: true; the input reads as it did. -/
def coreWeighsSpec : ChangeSpec := { name := "coreWeighs", fn := fun _ => fun
  | [d1, d2, d3] => { results := [.lit (.bool true)], args := [d1, d2, d3] }
  | _ => none }
def coreWeighsRow : OpenClaim := { program := "ytdlipbobfgdleaadoor", sum := "90702e54100ff99fdb80f886229d1ef41fb53b5de977532de3f328f14058816c", func := "middling/middlinglaw03.CoreWeighs", spec := "coreWeighs", unfollowed := true, recurses := true, named := ["middling/core.checks"], plainKeys := false, apart := false, laid := [("middling/core.checks", laid_middling_core_checks)] }
def CoreWeighsSaid : Prop := coreWeighsRow.holds Tryd.pinned (OpenSpec.ofChange coreWeighsSpec)

/-- ITS FALSE NEIGHBOUR: 'it returns false'. Refute it at one input. -/
def coreWeighsWrong : ChangeSpec := { name := "coreWeighs", fn := fun _ => fun
  | [d1, d2, d3] => { results := [.lit (.bool false)], args := [d1, d2, d3] }
  | _ => none }
def CoreWeighsWrongFalsely : Prop := coreWeighsRow.holds Tryd.pinned (OpenSpec.ofChange coreWeighsWrong)

/-- 'middlinglaw03.CoreKinds': WHATEVER THE INPUT: true; the input reads as it did. -/
def coreKindsSpec : ChangeSpec := { name := "coreKinds", fn := fun _ => fun
  | [d1, d2] => { results := [.lit (.bool true)], args := [d1, d2] }
  | _ => none }
def coreKindsRow : OpenClaim := { program := "ytdlipbobfgdleaadoor", sum := "90702e54100ff99fdb80f886229d1ef41fb53b5de977532de3f328f14058816c", func := "middling/middlinglaw03.CoreKinds", spec := "coreKinds", unfollowed := true, recurses := true, named := ["middling/core.checks"], plainKeys := false, apart := false, laid := [("middling/core.checks", laid_middling_core_checks)] }
def CoreKindsSaid : Prop := coreKindsRow.holds Tryd.pinned (OpenSpec.ofChange coreKindsSpec)

/-- ITS FALSE NEIGHBOUR: 'it returns false'. Refute it at one input. -/
def coreKindsWrong : ChangeSpec := { name := "coreKinds", fn := fun _ => fun
  | [d1, d2] => { results := [.lit (.bool false)], args := [d1, d2] }
  | _ => none }
def CoreKindsWrongFalsely : Prop := coreKindsRow.holds Tryd.pinned (OpenSpec.ofChange coreKindsWrong)

/-- 'middlinglaw03.CoreChanges': WHATEVER THE INPUT: true; the input reads as it did. -/
def coreChangesSpec : ChangeSpec := { name := "coreChanges", fn := fun _ => fun
  | [d1, d2, d3, d4, d5] => { results := [.lit (.bool true)], args := [d1, d2, d3, d4, d5] }
  | _ => none }
def coreChangesRow : OpenClaim := { program := "ytdlipbobfgdleaadoor", sum := "90702e54100ff99fdb80f886229d1ef41fb53b5de977532de3f328f14058816c", func := "middling/middlinglaw03.CoreChanges", spec := "coreChanges", unfollowed := true, recurses := true, named := ["middling/core.checks"], plainKeys := false, apart := false, laid := [("middling/core.checks", laid_middling_core_checks)] }
def CoreChangesSaid : Prop := coreChangesRow.holds Tryd.pinned (OpenSpec.ofChange coreChangesSpec)

/-- ITS FALSE NEIGHBOUR: 'it returns false'. Refute it at one input. -/
def coreChangesWrong : ChangeSpec := { name := "coreChanges", fn := fun _ => fun
  | [d1, d2, d3, d4, d5] => { results := [.lit (.bool false)], args := [d1, d2, d3, d4, d5] }
  | _ => none }
def CoreChangesWrongFalsely : Prop := coreChangesRow.holds Tryd.pinned (OpenSpec.ofChange coreChangesWrong)

/-- 'middlinglaw03.CoreTruth': WHATEVER THE INPUT: true; the input reads as it did. -/
def coreTruthSpec : ChangeSpec := { name := "coreTruth", fn := fun _ => fun
  | [d1, d2] => { results := [.lit (.bool true)], args := [d1, d2] }
  | _ => none }
def coreTruthRow : OpenClaim := { program := "ytdlipbobfgdleaadoor", sum := "90702e54100ff99fdb80f886229d1ef41fb53b5de977532de3f328f14058816c", func := "middling/middlinglaw03.CoreTruth", spec := "coreTruth", unfollowed := true, recurses := true, named := ["middling/core.checks"], plainKeys := false, apart := false, laid := [("middling/core.checks", laid_middling_core_checks)] }
def CoreTruthSaid : Prop := coreTruthRow.holds Tryd.pinned (OpenSpec.ofChange coreTruthSpec)

/-- ITS FALSE NEIGHBOUR: 'it returns false'. Refute it at one input. -/
def coreTruthWrong : ChangeSpec := { name := "coreTruth", fn := fun _ => fun
  | [d1, d2] => { results := [.lit (.bool false)], args := [d1, d2] }
  | _ => none }
def CoreTruthWrongFalsely : Prop := coreTruthRow.holds Tryd.pinned (OpenSpec.ofChange coreTruthWrong)

/-- 'middlinglaw03.CoreWeight': WHATEVER THE INPUT: true; the input reads as it did. -/
def coreWeightSpec : ChangeSpec := { name := "coreWeight", fn := fun _ => fun
  | [d1, d2, d3] => { results := [.lit (.bool true)], args := [d1, d2, d3] }
  | _ => none }
def coreWeightRow : OpenClaim := { program := "ytdlipbobfgdleaadoor", sum := "90702e54100ff99fdb80f886229d1ef41fb53b5de977532de3f328f14058816c", func := "middling/middlinglaw03.CoreWeight", spec := "coreWeight", unfollowed := true, recurses := true, named := ["middling/core.checks"], plainKeys := false, apart := false, laid := [("middling/core.checks", laid_middling_core_checks)] }
def CoreWeightSaid : Prop := coreWeightRow.holds Tryd.pinned (OpenSpec.ofChange coreWeightSpec)

/-- ITS FALSE NEIGHBOUR: 'it returns false'. Refute it at one input. -/
def coreWeightWrong : ChangeSpec := { name := "coreWeight", fn := fun _ => fun
  | [d1, d2, d3] => { results := [.lit (.bool false)], args := [d1, d2, d3] }
  | _ => none }
def CoreWeightWrongFalsely : Prop := coreWeightRow.holds Tryd.pinned (OpenSpec.ofChange coreWeightWrong)

/-- 'middlinglaw03.CoreDecide': WHATEVER THE INPUT: true; the input reads as it did. -/
def coreDecideSpec : ChangeSpec := { name := "coreDecide", fn := fun _ => fun
  | [d1, d2, d3, d4] => { results := [.lit (.bool true)], args := [d1, d2, d3, d4] }
  | _ => none }
def coreDecideRow : OpenClaim := { program := "ytdlipbobfgdleaadoor", sum := "90702e54100ff99fdb80f886229d1ef41fb53b5de977532de3f328f14058816c", func := "middling/middlinglaw03.CoreDecide", spec := "coreDecide", unfollowed := true, recurses := true, named := ["middling/core.checks"], plainKeys := false, apart := false, laid := [("middling/core.checks", laid_middling_core_checks)] }
def CoreDecideSaid : Prop := coreDecideRow.holds Tryd.pinned (OpenSpec.ofChange coreDecideSpec)

/-- ITS FALSE NEIGHBOUR: 'it returns false'. Refute it at one input. -/
def coreDecideWrong : ChangeSpec := { name := "coreDecide", fn := fun _ => fun
  | [d1, d2, d3, d4] => { results := [.lit (.bool false)], args := [d1, d2, d3, d4] }
  | _ => none }
def CoreDecideWrongFalsely : Prop := coreDecideRow.holds Tryd.pinned (OpenSpec.ofChange coreDecideWrong)

/-- 'middlinglaw03.CoreAsk': WHATEVER THE INPUT: true; the input reads as it did. -/
def coreAskSpec : ChangeSpec := { name := "coreAsk", fn := fun _ => fun
  | [d1, d2, d3] => { results := [.lit (.bool true)], args := [d1, d2, d3] }
  | _ => none }
def coreAskRow : OpenClaim := { program := "ytdlipbobfgdleaadoor", sum := "90702e54100ff99fdb80f886229d1ef41fb53b5de977532de3f328f14058816c", func := "middling/middlinglaw03.CoreAsk", spec := "coreAsk", unfollowed := true, recurses := true, named := ["middling/core.checks"], plainKeys := false, apart := false, laid := [("middling/core.checks", laid_middling_core_checks)] }
def CoreAskSaid : Prop := coreAskRow.holds Tryd.pinned (OpenSpec.ofChange coreAskSpec)

/-- ITS FALSE NEIGHBOUR: 'it returns false'. Refute it at one input. -/
def coreAskWrong : ChangeSpec := { name := "coreAsk", fn := fun _ => fun
  | [d1, d2, d3] => { results := [.lit (.bool false)], args := [d1, d2, d3] }
  | _ => none }
def CoreAskWrongFalsely : Prop := coreAskRow.holds Tryd.pinned (OpenSpec.ofChange coreAskWrong)

/-- 'middlinglaw03.CoreKind': WHATEVER THE INPUT: true; the input reads as it did. -/
def coreKindSpec : ChangeSpec := { name := "coreKind", fn := fun _ => fun
  | [d] => { results := [.lit (.bool true)], args := [d] }
  | _ => none }
def coreKindRow : OpenClaim := { program := "ytdlipbobfgdleaadoor", sum := "90702e54100ff99fdb80f886229d1ef41fb53b5de977532de3f328f14058816c", func := "middling/middlinglaw03.CoreKind", spec := "coreKind", unfollowed := true, recurses := true, named := ["middling/core.checks"], plainKeys := false, apart := false, laid := [("middling/core.checks", laid_middling_core_checks)] }
def CoreKindSaid : Prop := coreKindRow.holds Tryd.pinned (OpenSpec.ofChange coreKindSpec)

/-- ITS FALSE NEIGHBOUR: 'it returns false'. Refute it at one input. -/
def coreKindWrong : ChangeSpec := { name := "coreKind", fn := fun _ => fun
  | [d] => { results := [.lit (.bool false)], args := [d] }
  | _ => none }
def CoreKindWrongFalsely : Prop := coreKindRow.holds Tryd.pinned (OpenSpec.ofChange coreKindWrong)

/-- 'middlinglaw03.CoreWrong': WHATEVER THE INPUT: true; the input reads as it did. -/
def coreWrongSpec : ChangeSpec := { name := "coreWrong", fn := fun _ => fun
  | [d1, d2, d3] => { results := [.lit (.bool true)], args := [d1, d2, d3] }
  | _ => none }
def coreWrongRow : OpenClaim := { program := "ytdlipbobfgdleaadoor", sum := "90702e54100ff99fdb80f886229d1ef41fb53b5de977532de3f328f14058816c", func := "middling/middlinglaw03.CoreWrong", spec := "coreWrong", unfollowed := true, recurses := true, named := ["middling/core.checks"], plainKeys := false, apart := false, laid := [("middling/core.checks", laid_middling_core_checks)] }
def CoreWrongSaid : Prop := coreWrongRow.holds Tryd.pinned (OpenSpec.ofChange coreWrongSpec)

/-- ITS FALSE NEIGHBOUR: 'it returns false'. Refute it at one input. -/
def coreWrongWrong : ChangeSpec := { name := "coreWrong", fn := fun _ => fun
  | [d1, d2, d3] => { results := [.lit (.bool false)], args := [d1, d2, d3] }
  | _ => none }
def CoreWrongWrongFalsely : Prop := coreWrongRow.holds Tryd.pinned (OpenSpec.ofChange coreWrongWrong)

/-- 'middlinglaw03.CoreExamples': WHATEVER THE INPUT: true; the input reads as it did. -/
def coreExamplesSpec : ChangeSpec := { name := "coreExamples", fn := fun _ => fun
  | [] => { results := [.lit (.bool true)], args := [] }
  | _ => none }
def coreExamplesRow : OpenClaim := { program := "ytdlipbobfgdleaadoor", sum := "90702e54100ff99fdb80f886229d1ef41fb53b5de977532de3f328f14058816c", func := "middling/middlinglaw03.CoreExamples", spec := "coreExamples", unfollowed := true, recurses := true, named := ["middling/core.checks"], plainKeys := false, apart := false, laid := [("middling/core.checks", laid_middling_core_checks)] }
def CoreExamplesSaid : Prop := coreExamplesRow.holds Tryd.pinned (OpenSpec.ofChange coreExamplesSpec)

/-- ITS FALSE NEIGHBOUR: 'it returns false'. Refute it at one input. -/
def coreExamplesWrong : ChangeSpec := { name := "coreExamples", fn := fun _ => fun
  | [] => { results := [.lit (.bool false)], args := [] }
  | _ => none }
def CoreExamplesWrongFalsely : Prop := coreExamplesRow.holds Tryd.pinned (OpenSpec.ofChange coreExamplesWrong)

/- THE SECOND FORM. 'bulk': how many values and letters a reading holds, each counted each time it is reached (what is shared counts as often as it is met; a slice's spare places count too). A statement '..UptoSaid' is the law's where the arguments, and the package variables that the reading takes, are together of bulk at most 1048576: NARROWER than '..Said'. Prove '..Said' where nothing that the law and all that it calls make is longer than what came in: it says more and counts as full. Else prove '..UptoSaid'. A law counts once. -/
mutual
def uptoBulk {H : Type} : DataW H → Nat
  | .lit (.string bytes) => bytes.length + 1
  | .lit _ => 1
  | .nil => 1
  | .ptr d => uptoBulk d + 1
  | .slice elems spare => uptoBulkAll elems + uptoBulkAll spare + 1
  | .agg parts => uptoBulkAll parts + 1
  | .iface _ d => uptoBulk d + 1
  | .map entries => uptoBulkEntries entries + 1
  | .held _ => 1
def uptoBulkAll {H : Type} : List (DataW H) → Nat
  | [] => 0
  | d :: r => uptoBulk d + uptoBulkAll r
def uptoBulkEntries {H : Type} : List (Lit × DataW H) → Nat
  | [] => 0
  | x :: r => uptoBulkEntry x + uptoBulkEntries r
def uptoBulkEntry {H : Type} : Lit × DataW H → Nat
  | (.string bytes, d) => bytes.length + uptoBulk d + 1
  | (_, d) => uptoBulk d + 1
 end
def uptoSmall : (H : Type) → List (DataW H) → Bool := fun _ ds => decide (uptoBulkAll ds ≤ 1048576)
def OpenSpec.upto (s : _root_.Go.ChangeSpec) : _root_.Go.OpenSpec := { _root_.Go.OpenSpec.ofChange s with cond := some uptoSmall }

/-- 'middlinglaw03.CoreTells', WHERE WHAT IT READS IS OF BULK AT MOST 1048576: true; the input reads as it did. -/
def coreTellsUptoRow : OpenClaim := { program := "ytdlipbobfgdleaadoor", sum := "90702e54100ff99fdb80f886229d1ef41fb53b5de977532de3f328f14058816c", func := "middling/middlinglaw03.CoreTells", spec := "coreTells", unfollowed := true, recurses := true, named := ["middling/core.checks"], plainKeys := false, apart := false, laid := [("middling/core.checks", laid_middling_core_checks)], narrowed := true }
def CoreTellsUptoSaid : Prop := coreTellsUptoRow.holds Tryd.pinned (OpenSpec.upto coreTellsSpec)

/-- 'middlinglaw03.CoreWeighs', WHERE WHAT IT READS IS OF BULK AT MOST 1048576: true; the input reads as it did. -/
def coreWeighsUptoRow : OpenClaim := { program := "ytdlipbobfgdleaadoor", sum := "90702e54100ff99fdb80f886229d1ef41fb53b5de977532de3f328f14058816c", func := "middling/middlinglaw03.CoreWeighs", spec := "coreWeighs", unfollowed := true, recurses := true, named := ["middling/core.checks"], plainKeys := false, apart := false, laid := [("middling/core.checks", laid_middling_core_checks)], narrowed := true }
def CoreWeighsUptoSaid : Prop := coreWeighsUptoRow.holds Tryd.pinned (OpenSpec.upto coreWeighsSpec)

/-- 'middlinglaw03.CoreKinds', WHERE WHAT IT READS IS OF BULK AT MOST 1048576: true; the input reads as it did. -/
def coreKindsUptoRow : OpenClaim := { program := "ytdlipbobfgdleaadoor", sum := "90702e54100ff99fdb80f886229d1ef41fb53b5de977532de3f328f14058816c", func := "middling/middlinglaw03.CoreKinds", spec := "coreKinds", unfollowed := true, recurses := true, named := ["middling/core.checks"], plainKeys := false, apart := false, laid := [("middling/core.checks", laid_middling_core_checks)], narrowed := true }
def CoreKindsUptoSaid : Prop := coreKindsUptoRow.holds Tryd.pinned (OpenSpec.upto coreKindsSpec)

/-- 'middlinglaw03.CoreChanges', WHERE WHAT IT READS IS OF BULK AT MOST 1048576: true; the input reads as it did. -/
def coreChangesUptoRow : OpenClaim := { program := "ytdlipbobfgdleaadoor", sum := "90702e54100ff99fdb80f886229d1ef41fb53b5de977532de3f328f14058816c", func := "middling/middlinglaw03.CoreChanges", spec := "coreChanges", unfollowed := true, recurses := true, named := ["middling/core.checks"], plainKeys := false, apart := false, laid := [("middling/core.checks", laid_middling_core_checks)], narrowed := true }
def CoreChangesUptoSaid : Prop := coreChangesUptoRow.holds Tryd.pinned (OpenSpec.upto coreChangesSpec)

/-- 'middlinglaw03.CoreTruth', WHERE WHAT IT READS IS OF BULK AT MOST 1048576: true; the input reads as it did. -/
def coreTruthUptoRow : OpenClaim := { program := "ytdlipbobfgdleaadoor", sum := "90702e54100ff99fdb80f886229d1ef41fb53b5de977532de3f328f14058816c", func := "middling/middlinglaw03.CoreTruth", spec := "coreTruth", unfollowed := true, recurses := true, named := ["middling/core.checks"], plainKeys := false, apart := false, laid := [("middling/core.checks", laid_middling_core_checks)], narrowed := true }
def CoreTruthUptoSaid : Prop := coreTruthUptoRow.holds Tryd.pinned (OpenSpec.upto coreTruthSpec)

/-- 'middlinglaw03.CoreWeight', WHERE WHAT IT READS IS OF BULK AT MOST 1048576: true; the input reads as it did. -/
def coreWeightUptoRow : OpenClaim := { program := "ytdlipbobfgdleaadoor", sum := "90702e54100ff99fdb80f886229d1ef41fb53b5de977532de3f328f14058816c", func := "middling/middlinglaw03.CoreWeight", spec := "coreWeight", unfollowed := true, recurses := true, named := ["middling/core.checks"], plainKeys := false, apart := false, laid := [("middling/core.checks", laid_middling_core_checks)], narrowed := true }
def CoreWeightUptoSaid : Prop := coreWeightUptoRow.holds Tryd.pinned (OpenSpec.upto coreWeightSpec)

/-- 'middlinglaw03.CoreDecide', WHERE WHAT IT READS IS OF BULK AT MOST 1048576: true; the input reads as it did. -/
def coreDecideUptoRow : OpenClaim := { program := "ytdlipbobfgdleaadoor", sum := "90702e54100ff99fdb80f886229d1ef41fb53b5de977532de3f328f14058816c", func := "middling/middlinglaw03.CoreDecide", spec := "coreDecide", unfollowed := true, recurses := true, named := ["middling/core.checks"], plainKeys := false, apart := false, laid := [("middling/core.checks", laid_middling_core_checks)], narrowed := true }
def CoreDecideUptoSaid : Prop := coreDecideUptoRow.holds Tryd.pinned (OpenSpec.upto coreDecideSpec)

/-- 'middlinglaw03.CoreAsk', WHERE WHAT IT READS IS OF BULK AT MOST 1048576: true; the input reads as it did. -/
def coreAskUptoRow : OpenClaim := { program := "ytdlipbobfgdleaadoor", sum := "90702e54100ff99fdb80f886229d1ef41fb53b5de977532de3f328f14058816c", func := "middling/middlinglaw03.CoreAsk", spec := "coreAsk", unfollowed := true, recurses := true, named := ["middling/core.checks"], plainKeys := false, apart := false, laid := [("middling/core.checks", laid_middling_core_checks)], narrowed := true }
def CoreAskUptoSaid : Prop := coreAskUptoRow.holds Tryd.pinned (OpenSpec.upto coreAskSpec)

/-- 'middlinglaw03.CoreKind', WHERE WHAT IT READS IS OF BULK AT MOST 1048576: true; the input reads as it did. -/
def coreKindUptoRow : OpenClaim := { program := "ytdlipbobfgdleaadoor", sum := "90702e54100ff99fdb80f886229d1ef41fb53b5de977532de3f328f14058816c", func := "middling/middlinglaw03.CoreKind", spec := "coreKind", unfollowed := true, recurses := true, named := ["middling/core.checks"], plainKeys := false, apart := false, laid := [("middling/core.checks", laid_middling_core_checks)], narrowed := true }
def CoreKindUptoSaid : Prop := coreKindUptoRow.holds Tryd.pinned (OpenSpec.upto coreKindSpec)

/-- 'middlinglaw03.CoreWrong', WHERE WHAT IT READS IS OF BULK AT MOST 1048576: true; the input reads as it did. -/
def coreWrongUptoRow : OpenClaim := { program := "ytdlipbobfgdleaadoor", sum := "90702e54100ff99fdb80f886229d1ef41fb53b5de977532de3f328f14058816c", func := "middling/middlinglaw03.CoreWrong", spec := "coreWrong", unfollowed := true, recurses := true, named := ["middling/core.checks"], plainKeys := false, apart := false, laid := [("middling/core.checks", laid_middling_core_checks)], narrowed := true }
def CoreWrongUptoSaid : Prop := coreWrongUptoRow.holds Tryd.pinned (OpenSpec.upto coreWrongSpec)

/-- 'middlinglaw03.CoreExamples', WHERE WHAT IT READS IS OF BULK AT MOST 1048576: true; the input reads as it did. -/
def coreExamplesUptoRow : OpenClaim := { program := "ytdlipbobfgdleaadoor", sum := "90702e54100ff99fdb80f886229d1ef41fb53b5de977532de3f328f14058816c", func := "middling/middlinglaw03.CoreExamples", spec := "coreExamples", unfollowed := true, recurses := true, named := ["middling/core.checks"], plainKeys := false, apart := false, laid := [("middling/core.checks", laid_middling_core_checks)], narrowed := true }
def CoreExamplesUptoSaid : Prop := coreExamplesUptoRow.holds Tryd.pinned (OpenSpec.upto coreExamplesSpec)

end Rows
end Go.Proofs.YtdlipbobfgdleaaDoor
