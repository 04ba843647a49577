/-
  NARROWER THAN 'FOR EVERY INPUT', by the rows' own cells (each row's printed sentence says how): MillBounds: laid · MillBest: laid · MillBound: laid · MillSwap: laid · MillMore: laid · MillFit: laid · MillRun: laid · MillEven: laid · MillExamples: laid.
  DERIVED. THE GIVEN ROWS OF THIS SEAT. 9 by the template 'for every input the law returns true; each argument reads behind the call as it read before'; 0 by the template 'total and deterministic' (their statements: YtkpengeaolcjhaaGreatDoorTotals.lean).
  GIVEN WITH THE SEED: the statements are not yours to turn. If you find one false, say at which input.
  Laid BY PROGRAM, IN A SANDBOX (cutbox-rows.mjs): the forced cells as the released guide's own fill.sh prints them over the translation 042ffe3ee29b3742… (all of the seat's roots in one cut). By AI agents, Wed Nov 11 2026. No macro, syntax, notation, axiom, sorry.
-/
import Derived.Test.YtkpengeaolcjhaaGreatDoorChecked
import GoSem.Claim
import GoSem.ClaimJoined
import GoSem.ClaimMapViews
import Derived.JoinedTies
import Derived.KernelRfl
namespace Go.Proofs.YtkpengeaolcjhaaGreatDoor
/- THE CELL 'sum', in the pinned program and in every row, IS THE sha256 OF THE DUMP (.gsa) THAT YtkpengeaolcjhaaGreatDoorProg.lean LOADS. Nothing in Lean hashes anything: it is a label: what it is worth is what the hold of that sum in a sandbox is worth. -/
noncomputable def Tryz.pinned : Pinned := { name := "ytkpengeaolcjhaagreatdoor", sum := "042ffe3ee29b37424310b213fff4a410f868bee431a4b7d39c1b7c620b90eb48", checked := Tryz.checked }
namespace Rows
def none {H : Type} : Left H := { results := [], args := [] }

/- WHAT THE LISTED PACKAGE-LEVEL VARIABLES READ AS WHEN THE CALL BEGINS. Each datum BY PROGRAM (the guide's laid-datum.mjs) off the statement by which the dump's own 'gosem.cut.vars' lays the variable. In a bare row this is a premise. The card (YtkpengeaolcjhaaGreatDoorCards.lean) ties it to the program's text. -/
def laid_middling_core_checks {H : Type} : DataW H := .iface "func table" (.agg [.agg [.iface "func" (.lit (.string [109, 105, 100, 100, 108, 105, 110, 103, 47, 99, 111, 114, 101, 46, 99, 104, 101, 99, 107, 115, 36, 49]))], .agg [.iface "func" (.lit (.string [109, 105, 100, 100, 108, 105, 110, 103, 47, 99, 111, 114, 101, 46, 99, 104, 101, 99, 107, 115, 36, 50]))], .agg [.iface "func" (.lit (.string [109, 105, 100, 100, 108, 105, 110, 103, 47, 99, 111, 114, 101, 46, 99, 104, 101, 99, 107, 115, 36, 51]))], .agg [.iface "func" (.lit (.string [109, 105, 100, 100, 108, 105, 110, 103, 47, 99, 111, 114, 101, 46, 99, 104, 101, 99, 107, 115, 36, 52]))]])
def laid_middling_mill_checks {H : Type} : DataW H := .iface "func table" (.agg [.agg [.iface "func" (.lit (.string [109, 105, 100, 100, 108, 105, 110, 103, 47, 109, 105, 108, 108, 46, 99, 104, 101, 99, 107, 115, 36, 49]))], .agg [.iface "func" (.lit (.string [109, 105, 100, 100, 108, 105, 110, 103, 47, 109, 105, 108, 108, 46, 99, 104, 101, 99, 107, 115, 36, 50]))], .agg [.iface "func" (.lit (.string [109, 105, 100, 100, 108, 105, 110, 103, 47, 109, 105, 108, 108, 46, 99, 104, 101, 99, 107, 115, 36, 51]))], .agg [.iface "func" (.lit (.string [109, 105, 100, 100, 108, 105, 110, 103, 47, 109, 105, 108, 108, 46, 99, 104, 101, 99, 107, 115, 36, 52]))]])

/-- 'middlinglaw09.MillBounds': WHATEVER THE INPUT: true; the input reads as it did. -/
def millBoundsSpec : ChangeSpec := { name := "millBounds", fn := fun _ => fun
  | [d1, d2, d3] => { results := [.lit (.bool true)], args := [d1, d2, d3] }
  | _ => none }
def millBoundsRow : OpenClaim := { program := "ytkpengeaolcjhaagreatdoor", sum := "042ffe3ee29b37424310b213fff4a410f868bee431a4b7d39c1b7c620b90eb48", func := "middling/middlinglaw09.MillBounds", spec := "millBounds", unfollowed := true, recurses := true, named := ["middling/mill.checks", "middling/core.checks"], apart := false, laid := [("middling/core.checks", laid_middling_core_checks), ("middling/mill.checks", laid_middling_mill_checks)] }
def MillBoundsSaid : Prop := millBoundsRow.holds Tryz.pinned (OpenSpec.ofChange millBoundsSpec)

/-- ITS FALSE NEIGHBOUR: 'it returns false'. Refute it at one input. -/
def millBoundsWrong : ChangeSpec := { name := "millBounds", fn := fun _ => fun
  | [d1, d2, d3] => { results := [.lit (.bool false)], args := [d1, d2, d3] }
  | _ => none }
def MillBoundsWrongFalsely : Prop := millBoundsRow.holds Tryz.pinned (OpenSpec.ofChange millBoundsWrong)

/-- 'middlinglaw09.MillBest': WHATEVER THE INPUT: true; the input reads as it did. -/
def millBestSpec : ChangeSpec := { name := "millBest", fn := fun _ => fun
  | [d1, d2] => { results := [.lit (.bool true)], args := [d1, d2] }
  | _ => none }
def millBestRow : OpenClaim := { program := "ytkpengeaolcjhaagreatdoor", sum := "042ffe3ee29b37424310b213fff4a410f868bee431a4b7d39c1b7c620b90eb48", func := "middling/middlinglaw09.MillBest", spec := "millBest", unfollowed := true, recurses := true, named := ["middling/mill.checks", "middling/core.checks"], apart := false, laid := [("middling/core.checks", laid_middling_core_checks), ("middling/mill.checks", laid_middling_mill_checks)] }
def MillBestSaid : Prop := millBestRow.holds Tryz.pinned (OpenSpec.ofChange millBestSpec)

/-- ITS FALSE NEIGHBOUR: 'it returns false'. Refute it at one input. -/
def millBestWrong : ChangeSpec := { name := "millBest", fn := fun _ => fun
  | [d1, d2] => { results := [.lit (.bool false)], args := [d1, d2] }
  | _ => none }
def MillBestWrongFalsely : Prop := millBestRow.holds Tryz.pinned (OpenSpec.ofChange millBestWrong)

/-- 'middlinglaw09.MillBound': WHATEVER THE INPUT: true; the input reads as it did. -/
def millBoundSpec : ChangeSpec := { name := "millBound", fn := fun _ => fun
  | [d1, d2] => { results := [.lit (.bool true)], args := [d1, d2] }
  | _ => none }
def millBoundRow : OpenClaim := { program := "ytkpengeaolcjhaagreatdoor", sum := "042ffe3ee29b37424310b213fff4a410f868bee431a4b7d39c1b7c620b90eb48", func := "middling/middlinglaw09.MillBound", spec := "millBound", unfollowed := true, recurses := true, named := ["middling/mill.checks", "middling/core.checks"], apart := false, laid := [("middling/core.checks", laid_middling_core_checks), ("middling/mill.checks", laid_middling_mill_checks)] }
def MillBoundSaid : Prop := millBoundRow.holds Tryz.pinned (OpenSpec.ofChange millBoundSpec)

/-- ITS FALSE NEIGHBOUR: 'it returns false'. Refute it at one input. -/
def millBoundWrong : ChangeSpec := { name := "millBound", fn := fun _ => fun
  | [d1, d2] => { results := [.lit (.bool false)], args := [d1, d2] }
  | _ => none }
def MillBoundWrongFalsely : Prop := millBoundRow.holds Tryz.pinned (OpenSpec.ofChange millBoundWrong)

/-- 'middlinglaw09.MillSwap': WHATEVER THE INPUT: true; the input reads as it did. -/
def millSwapSpec : ChangeSpec := { name := "millSwap", fn := fun _ => fun
  | [d1, d2, d3, d4] => { results := [.lit (.bool true)], args := [d1, d2, d3, d4] }
  | _ => none }
def millSwapRow : OpenClaim := { program := "ytkpengeaolcjhaagreatdoor", sum := "042ffe3ee29b37424310b213fff4a410f868bee431a4b7d39c1b7c620b90eb48", func := "middling/middlinglaw09.MillSwap", spec := "millSwap", unfollowed := true, recurses := true, named := ["middling/mill.checks", "middling/core.checks"], apart := false, laid := [("middling/core.checks", laid_middling_core_checks), ("middling/mill.checks", laid_middling_mill_checks)] }
def MillSwapSaid : Prop := millSwapRow.holds Tryz.pinned (OpenSpec.ofChange millSwapSpec)

/-- ITS FALSE NEIGHBOUR: 'it returns false'. Refute it at one input. -/
def millSwapWrong : ChangeSpec := { name := "millSwap", fn := fun _ => fun
  | [d1, d2, d3, d4] => { results := [.lit (.bool false)], args := [d1, d2, d3, d4] }
  | _ => none }
def MillSwapWrongFalsely : Prop := millSwapRow.holds Tryz.pinned (OpenSpec.ofChange millSwapWrong)

/-- 'middlinglaw09.MillMore': WHATEVER THE INPUT: true; the input reads as it did. -/
def millMoreSpec : ChangeSpec := { name := "millMore", fn := fun _ => fun
  | [d1, d2, d3] => { results := [.lit (.bool true)], args := [d1, d2, d3] }
  | _ => none }
def millMoreRow : OpenClaim := { program := "ytkpengeaolcjhaagreatdoor", sum := "042ffe3ee29b37424310b213fff4a410f868bee431a4b7d39c1b7c620b90eb48", func := "middling/middlinglaw09.MillMore", spec := "millMore", unfollowed := true, recurses := true, named := ["middling/mill.checks", "middling/core.checks"], apart := false, laid := [("middling/core.checks", laid_middling_core_checks), ("middling/mill.checks", laid_middling_mill_checks)] }
def MillMoreSaid : Prop := millMoreRow.holds Tryz.pinned (OpenSpec.ofChange millMoreSpec)

/-- ITS FALSE NEIGHBOUR: 'it returns false'. Refute it at one input. -/
def millMoreWrong : ChangeSpec := { name := "millMore", fn := fun _ => fun
  | [d1, d2, d3] => { results := [.lit (.bool false)], args := [d1, d2, d3] }
  | _ => none }
def MillMoreWrongFalsely : Prop := millMoreRow.holds Tryz.pinned (OpenSpec.ofChange millMoreWrong)

/-- 'middlinglaw09.MillFit': WHATEVER THE INPUT: true; the input reads as it did. -/
def millFitSpec : ChangeSpec := { name := "millFit", fn := fun _ => fun
  | [d1, d2, d3] => { results := [.lit (.bool true)], args := [d1, d2, d3] }
  | _ => none }
def millFitRow : OpenClaim := { program := "ytkpengeaolcjhaagreatdoor", sum := "042ffe3ee29b37424310b213fff4a410f868bee431a4b7d39c1b7c620b90eb48", func := "middling/middlinglaw09.MillFit", spec := "millFit", unfollowed := true, recurses := true, named := ["middling/mill.checks", "middling/core.checks"], apart := false, laid := [("middling/core.checks", laid_middling_core_checks), ("middling/mill.checks", laid_middling_mill_checks)] }
def MillFitSaid : Prop := millFitRow.holds Tryz.pinned (OpenSpec.ofChange millFitSpec)

/-- ITS FALSE NEIGHBOUR: 'it returns false'. Refute it at one input. -/
def millFitWrong : ChangeSpec := { name := "millFit", fn := fun _ => fun
  | [d1, d2, d3] => { results := [.lit (.bool false)], args := [d1, d2, d3] }
  | _ => none }
def MillFitWrongFalsely : Prop := millFitRow.holds Tryz.pinned (OpenSpec.ofChange millFitWrong)

/-- 'middlinglaw09.MillRun': WHATEVER THE INPUT: true; the input reads as it did. -/
def millRunSpec : ChangeSpec := { name := "millRun", fn := fun _ => fun
  | [d1, d2, d3, d4] => { results := [.lit (.bool true)], args := [d1, d2, d3, d4] }
  | _ => none }
def millRunRow : OpenClaim := { program := "ytkpengeaolcjhaagreatdoor", sum := "042ffe3ee29b37424310b213fff4a410f868bee431a4b7d39c1b7c620b90eb48", func := "middling/middlinglaw09.MillRun", spec := "millRun", unfollowed := true, recurses := true, named := ["middling/mill.checks", "middling/core.checks"], apart := false, laid := [("middling/core.checks", laid_middling_core_checks), ("middling/mill.checks", laid_middling_mill_checks)] }
def MillRunSaid : Prop := millRunRow.holds Tryz.pinned (OpenSpec.ofChange millRunSpec)

/-- ITS FALSE NEIGHBOUR: 'it returns false'. Refute it at one input. -/
def millRunWrong : ChangeSpec := { name := "millRun", fn := fun _ => fun
  | [d1, d2, d3, d4] => { results := [.lit (.bool false)], args := [d1, d2, d3, d4] }
  | _ => none }
def MillRunWrongFalsely : Prop := millRunRow.holds Tryz.pinned (OpenSpec.ofChange millRunWrong)

/-- 'middlinglaw09.MillEven': WHATEVER THE INPUT: true; the input reads as it did. -/
def millEvenSpec : ChangeSpec := { name := "millEven", fn := fun _ => fun
  | [d1, d2] => { results := [.lit (.bool true)], args := [d1, d2] }
  | _ => none }
def millEvenRow : OpenClaim := { program := "ytkpengeaolcjhaagreatdoor", sum := "042ffe3ee29b37424310b213fff4a410f868bee431a4b7d39c1b7c620b90eb48", func := "middling/middlinglaw09.MillEven", spec := "millEven", unfollowed := true, recurses := true, named := ["middling/mill.checks", "middling/core.checks"], apart := false, laid := [("middling/core.checks", laid_middling_core_checks), ("middling/mill.checks", laid_middling_mill_checks)] }
def MillEvenSaid : Prop := millEvenRow.holds Tryz.pinned (OpenSpec.ofChange millEvenSpec)

/-- ITS FALSE NEIGHBOUR: 'it returns false'. Refute it at one input. -/
def millEvenWrong : ChangeSpec := { name := "millEven", fn := fun _ => fun
  | [d1, d2] => { results := [.lit (.bool false)], args := [d1, d2] }
  | _ => none }
def MillEvenWrongFalsely : Prop := millEvenRow.holds Tryz.pinned (OpenSpec.ofChange millEvenWrong)

/-- 'middlinglaw09.MillExamples': WHATEVER THE INPUT: true; the input reads as it did. -/
def millExamplesSpec : ChangeSpec := { name := "millExamples", fn := fun _ => fun
  | [] => { results := [.lit (.bool true)], args := [] }
  | _ => none }
def millExamplesRow : OpenClaim := { program := "ytkpengeaolcjhaagreatdoor", sum := "042ffe3ee29b37424310b213fff4a410f868bee431a4b7d39c1b7c620b90eb48", func := "middling/middlinglaw09.MillExamples", spec := "millExamples", unfollowed := true, recurses := true, named := ["middling/mill.checks", "middling/core.checks"], apart := false, laid := [("middling/core.checks", laid_middling_core_checks), ("middling/mill.checks", laid_middling_mill_checks)] }
def MillExamplesSaid : Prop := millExamplesRow.holds Tryz.pinned (OpenSpec.ofChange millExamplesSpec)

/-- ITS FALSE NEIGHBOUR: 'it returns false'. Refute it at one input. -/
def millExamplesWrong : ChangeSpec := { name := "millExamples", fn := fun _ => fun
  | [] => { results := [.lit (.bool false)], args := [] }
  | _ => none }
def MillExamplesWrongFalsely : Prop := millExamplesRow.holds Tryz.pinned (OpenSpec.ofChange millExamplesWrong)

/- THE SECOND FORM. 'bulk': how many values and letters a reading holds, each counted each time it is reached (what is shared counts as often as it is met; a slice's spare places count too). A statement '..UptoSaid' is the law's where the arguments, and the package variables that the reading takes, are together of bulk at most 1048576: NARROWER than '..Said'. Prove '..Said' where nothing that the law and all that it calls make is longer than what came in: it says more and counts as full. Else prove '..UptoSaid'. A law counts once. -/
mutual
def uptoBulk {H : Type} : DataW H → Nat
  | .lit (.string bytes) => bytes.length + 1
  | .lit _ => 1
  | .nil => 1
  | .ptr d => uptoBulk d + 1
  | .slice elems spare => uptoBulkAll elems + uptoBulkAll spare + 1
  | .agg parts => uptoBulkAll parts + 1
  | .iface _ d => uptoBulk d + 1
  | .map entries => uptoBulkEntries entries + 1
  | .held _ => 1
def uptoBulkAll {H : Type} : List (DataW H) → Nat
  | [] => 0
  | d :: r => uptoBulk d + uptoBulkAll r
def uptoBulkEntries {H : Type} : List (Lit × DataW H) → Nat
  | [] => 0
  | x :: r => uptoBulkEntry x + uptoBulkEntries r
def uptoBulkEntry {H : Type} : Lit × DataW H → Nat
  | (.string bytes, d) => bytes.length + uptoBulk d + 1
  | (_, d) => uptoBulk d + 1
 end
def uptoSmall : (H : Type) → List (DataW H) → Bool := fun _ ds => decide (uptoBulkAll ds ≤ 1048576)
def OpenSpec.upto (s : _root_.Go.ChangeSpec) : _root_.Go.OpenSpec := { _root_.Go.OpenSpec.ofChange s with cond := some uptoSmall }

/-- 'middlinglaw09.MillBounds', WHERE WHAT IT READS IS OF BULK AT MOST 1048576: true; the input reads as it did. -/
def millBoundsUptoRow : OpenClaim := { program := "ytkpengeaolcjhaagreatdoor", sum := "042ffe3ee29b37424310b213fff4a410f868bee431a4b7d39c1b7c620b90eb48", func := "middling/middlinglaw09.MillBounds", spec := "millBounds", unfollowed := true, recurses := true, named := ["middling/mill.checks", "middling/core.checks"], apart := false, laid := [("middling/core.checks", laid_middling_core_checks), ("middling/mill.checks", laid_middling_mill_checks)], narrowed := true }
def MillBoundsUptoSaid : Prop := millBoundsUptoRow.holds Tryz.pinned (OpenSpec.upto millBoundsSpec)

/-- 'middlinglaw09.MillBest', WHERE WHAT IT READS IS OF BULK AT MOST 1048576: true; the input reads as it did. -/
def millBestUptoRow : OpenClaim := { program := "ytkpengeaolcjhaagreatdoor", sum := "042ffe3ee29b37424310b213fff4a410f868bee431a4b7d39c1b7c620b90eb48", func := "middling/middlinglaw09.MillBest", spec := "millBest", unfollowed := true, recurses := true, named := ["middling/mill.checks", "middling/core.checks"], apart := false, laid := [("middling/core.checks", laid_middling_core_checks), ("middling/mill.checks", laid_middling_mill_checks)], narrowed := true }
def MillBestUptoSaid : Prop := millBestUptoRow.holds Tryz.pinned (OpenSpec.upto millBestSpec)

/-- 'middlinglaw09.MillBound', WHERE WHAT IT READS IS OF BULK AT MOST 1048576: true; the input reads as it did. -/
def millBoundUptoRow : OpenClaim := { program := "ytkpengeaolcjhaagreatdoor", sum := "042ffe3ee29b37424310b213fff4a410f868bee431a4b7d39c1b7c620b90eb48", func := "middling/middlinglaw09.MillBound", spec := "millBound", unfollowed := true, recurses := true, named := ["middling/mill.checks", "middling/core.checks"], apart := false, laid := [("middling/core.checks", laid_middling_core_checks), ("middling/mill.checks", laid_middling_mill_checks)], narrowed := true }
def MillBoundUptoSaid : Prop := millBoundUptoRow.holds Tryz.pinned (OpenSpec.upto millBoundSpec)

/-- 'middlinglaw09.MillSwap', WHERE WHAT IT READS IS OF BULK AT MOST 1048576: true; the input reads as it did. -/
def millSwapUptoRow : OpenClaim := { program := "ytkpengeaolcjhaagreatdoor", sum := "042ffe3ee29b37424310b213fff4a410f868bee431a4b7d39c1b7c620b90eb48", func := "middling/middlinglaw09.MillSwap", spec := "millSwap", unfollowed := true, recurses := true, named := ["middling/mill.checks", "middling/core.checks"], apart := false, laid := [("middling/core.checks", laid_middling_core_checks), ("middling/mill.checks", laid_middling_mill_checks)], narrowed := true }
def MillSwapUptoSaid : Prop := millSwapUptoRow.holds Tryz.pinned (OpenSpec.upto millSwapSpec)

/-- 'middlinglaw09.MillMore', WHERE WHAT IT READS IS OF BULK AT MOST 1048576: true; the input reads as it did. -/
def millMoreUptoRow : OpenClaim := { program := "ytkpengeaolcjhaagreatdoor", sum := "042ffe3ee29b37424310b213fff4a410f868bee431a4b7d39c1b7c620b90eb48", func := "middling/middlinglaw09.MillMore", spec := "millMore", unfollowed := true, recurses := true, named := ["middling/mill.checks", "middling/core.checks"], apart := false, laid := [("middling/core.checks", laid_middling_core_checks), ("middling/mill.checks", laid_middling_mill_checks)], narrowed := true }
def MillMoreUptoSaid : Prop := millMoreUptoRow.holds Tryz.pinned (OpenSpec.upto millMoreSpec)

/-- 'middlinglaw09.MillFit', WHERE WHAT IT READS IS OF BULK AT MOST 1048576: true; the input reads as it did. -/
def millFitUptoRow : OpenClaim := { program := "ytkpengeaolcjhaagreatdoor", sum := "042ffe3ee29b37424310b213fff4a410f868bee431a4b7d39c1b7c620b90eb48", func := "middling/middlinglaw09.MillFit", spec := "millFit", unfollowed := true, recurses := true, named := ["middling/mill.checks", "middling/core.checks"], apart := false, laid := [("middling/core.checks", laid_middling_core_checks), ("middling/mill.checks", laid_middling_mill_checks)], narrowed := true }
def MillFitUptoSaid : Prop := millFitUptoRow.holds Tryz.pinned (OpenSpec.upto millFitSpec)

/-- 'middlinglaw09.MillRun', WHERE WHAT IT READS IS OF BULK AT MOST 1048576: true; the input reads as it did. -/
def millRunUptoRow : OpenClaim := { program := "ytkpengeaolcjhaagreatdoor", sum := "042ffe3ee29b37424310b213fff4a410f868bee431a4b7d39c1b7c620b90eb48", func := "middling/middlinglaw09.MillRun", spec := "millRun", unfollowed := true, recurses := true, named := ["middling/mill.checks", "middling/core.checks"], apart := false, laid := [("middling/core.checks", laid_middling_core_checks), ("middling/mill.checks", laid_middling_mill_checks)], narrowed := true }
def MillRunUptoSaid : Prop := millRunUptoRow.holds Tryz.pinned (OpenSpec.upto millRunSpec)

/-- 'middlinglaw09.MillEven', WHERE WHAT IT READS IS OF BULK AT MOST 1048576: true; the input reads as it did. -/
def millEvenUptoRow : OpenClaim := { program := "ytkpengeaolcjhaagreatdoor", sum := "042ffe3ee29b37424310b213fff4a410f868bee431a4b7d39c1b7c620b90eb48", func := "middling/middlinglaw09.MillEven", spec := "millEven", unfollowed := true, recurses := true, named := ["middling/mill.checks", "middling/core.checks"], apart := false, laid := [("middling/core.checks", laid_middling_core_checks), ("middling/mill.checks", laid_middling_mill_checks)], narrowed := true }
def MillEvenUptoSaid : Prop := millEvenUptoRow.holds Tryz.pinned (OpenSpec.upto millEvenSpec)

/-- 'middlinglaw09.MillExamples', WHERE WHAT IT READS IS OF BULK AT MOST 1048576: true; the input reads as it did. -/
def millExamplesUptoRow : OpenClaim := { program := "ytkpengeaolcjhaagreatdoor", sum := "042ffe3ee29b37424310b213fff4a410f868bee431a4b7d39c1b7c620b90eb48", func := "middling/middlinglaw09.MillExamples", spec := "millExamples", unfollowed := true, recurses := true, named := ["middling/mill.checks", "middling/core.checks"], apart := false, laid := [("middling/core.checks", laid_middling_core_checks), ("middling/mill.checks", laid_middling_mill_checks)], narrowed := true }
def MillExamplesUptoSaid : Prop := millExamplesUptoRow.holds Tryz.pinned (OpenSpec.upto millExamplesSpec)

end Rows
end Go.Proofs.YtkpengeaolcjhaaGreatDoor
