/-
  NARROWER THAN 'FOR EVERY INPUT', by the rows' own cells (each row's printed sentence says how): MillTells: laid · MillJudges: laid · MillChanges: laid · TopDrawn: laid.
  DERIVED. THE GIVEN ROWS OF THIS SEAT. 4 by the template 'for every input the law returns true; each argument reads behind the call as it read before'; 0 by the template 'total and deterministic' (their statements: YtkpengeaolcjhaaDoorTotals.lean).
  GIVEN WITH THE SEED: the statements are not yours to turn. If you find one false, say at which input.
  Laid BY PROGRAM, IN A SANDBOX (cutbox-rows.mjs): the forced cells as the released guide's own fill.sh prints them over the translation 97fc7ffa5bae79f3… (all of the seat's roots in one cut). By AI agents, Wed Nov 11 2026. No macro, syntax, notation, axiom, sorry.
-/
import Derived.Test.YtkpengeaolcjhaaDoorChecked
import GoSem.Claim
import GoSem.ClaimJoined
import GoSem.ClaimMapViews
import Derived.JoinedTies
import Derived.KernelRfl
namespace Go.Proofs.YtkpengeaolcjhaaDoor
/- THE CELL 'sum', in the pinned program and in every row, IS THE sha256 OF THE DUMP (.gsa) THAT YtkpengeaolcjhaaDoorProg.lean LOADS. Nothing in Lean hashes anything: it is a label: what it is worth is what the hold of that sum in a sandbox is worth. -/
noncomputable def Tryd.pinned : Pinned := { name := "ytkpengeaolcjhaadoor", sum := "97fc7ffa5bae79f33a5fd1709d914c24450f0c9e7d6234b0ef636330f3ce9c32", checked := Tryd.checked }
namespace Rows
def none {H : Type} : Left H := { results := [], args := [] }

/- WHAT THE LISTED PACKAGE-LEVEL VARIABLES READ AS WHEN THE CALL BEGINS. Each datum BY PROGRAM (the guide's laid-datum.mjs) off the statement by which the dump's own 'gosem.cut.vars' lays the variable. In a bare row this is a premise. The card (YtkpengeaolcjhaaDoorCards.lean) ties it to the program's text. -/
def laid_middling_core_checks {H : Type} : DataW H := .iface "func table" (.agg [.agg [.iface "func" (.lit (.string [109, 105, 100, 100, 108, 105, 110, 103, 47, 99, 111, 114, 101, 46, 99, 104, 101, 99, 107, 115, 36, 49]))], .agg [.iface "func" (.lit (.string [109, 105, 100, 100, 108, 105, 110, 103, 47, 99, 111, 114, 101, 46, 99, 104, 101, 99, 107, 115, 36, 50]))], .agg [.iface "func" (.lit (.string [109, 105, 100, 100, 108, 105, 110, 103, 47, 99, 111, 114, 101, 46, 99, 104, 101, 99, 107, 115, 36, 51]))], .agg [.iface "func" (.lit (.string [109, 105, 100, 100, 108, 105, 110, 103, 47, 99, 111, 114, 101, 46, 99, 104, 101, 99, 107, 115, 36, 52]))]])
def laid_middling_mill_checks {H : Type} : DataW H := .iface "func table" (.agg [.agg [.iface "func" (.lit (.string [109, 105, 100, 100, 108, 105, 110, 103, 47, 109, 105, 108, 108, 46, 99, 104, 101, 99, 107, 115, 36, 49]))], .agg [.iface "func" (.lit (.string [109, 105, 100, 100, 108, 105, 110, 103, 47, 109, 105, 108, 108, 46, 99, 104, 101, 99, 107, 115, 36, 50]))], .agg [.iface "func" (.lit (.string [109, 105, 100, 100, 108, 105, 110, 103, 47, 109, 105, 108, 108, 46, 99, 104, 101, 99, 107, 115, 36, 51]))], .agg [.iface "func" (.lit (.string [109, 105, 100, 100, 108, 105, 110, 103, 47, 109, 105, 108, 108, 46, 99, 104, 101, 99, 107, 115, 36, 52]))]])

/-- 'middlinglaw09.MillTells': WHATEVER THE INPUT: true; the input reads as it did. -/
def millTellsSpec : ChangeSpec := { name := "millTells", fn := fun _ => fun
  | [d] => { results := [.lit (.bool true)], args := [d] }
  | _ => none }
def millTellsRow : OpenClaim := { program := "ytkpengeaolcjhaadoor", sum := "97fc7ffa5bae79f33a5fd1709d914c24450f0c9e7d6234b0ef636330f3ce9c32", func := "middling/middlinglaw09.MillTells", spec := "millTells", unfollowed := true, recurses := true, named := ["middling/mill.checks", "middling/core.checks"], apart := false, laid := [("middling/core.checks", laid_middling_core_checks), ("middling/mill.checks", laid_middling_mill_checks)] }
def MillTellsSaid : Prop := millTellsRow.holds Tryd.pinned (OpenSpec.ofChange millTellsSpec)

/-- ITS FALSE NEIGHBOUR: 'it returns false'. Refute it at one input. -/
def millTellsWrong : ChangeSpec := { name := "millTells", fn := fun _ => fun
  | [d] => { results := [.lit (.bool false)], args := [d] }
  | _ => none }
def MillTellsWrongFalsely : Prop := millTellsRow.holds Tryd.pinned (OpenSpec.ofChange millTellsWrong)

/-- 'middlinglaw09.MillJudges': WHATEVER THE INPUT: true; the input reads as it did. -/
def millJudgesSpec : ChangeSpec := { name := "millJudges", fn := fun _ => fun
  | [d1, d2] => { results := [.lit (.bool true)], args := [d1, d2] }
  | _ => none }
def millJudgesRow : OpenClaim := { program := "ytkpengeaolcjhaadoor", sum := "97fc7ffa5bae79f33a5fd1709d914c24450f0c9e7d6234b0ef636330f3ce9c32", func := "middling/middlinglaw09.MillJudges", spec := "millJudges", unfollowed := true, recurses := true, named := ["middling/mill.checks", "middling/core.checks"], apart := false, laid := [("middling/core.checks", laid_middling_core_checks), ("middling/mill.checks", laid_middling_mill_checks)] }
def MillJudgesSaid : Prop := millJudgesRow.holds Tryd.pinned (OpenSpec.ofChange millJudgesSpec)

/-- ITS FALSE NEIGHBOUR: 'it returns false'. Refute it at one input. -/
def millJudgesWrong : ChangeSpec := { name := "millJudges", fn := fun _ => fun
  | [d1, d2] => { results := [.lit (.bool false)], args := [d1, d2] }
  | _ => none }
def MillJudgesWrongFalsely : Prop := millJudgesRow.holds Tryd.pinned (OpenSpec.ofChange millJudgesWrong)

/-- 'middlinglaw09.MillChanges': WHATEVER THE INPUT: true; the input reads as it did. -/
def millChangesSpec : ChangeSpec := { name := "millChanges", fn := fun _ => fun
  | [d1, d2, d3, d4, d5] => { results := [.lit (.bool true)], args := [d1, d2, d3, d4, d5] }
  | _ => none }
def millChangesRow : OpenClaim := { program := "ytkpengeaolcjhaadoor", sum := "97fc7ffa5bae79f33a5fd1709d914c24450f0c9e7d6234b0ef636330f3ce9c32", func := "middling/middlinglaw09.MillChanges", spec := "millChanges", unfollowed := true, recurses := true, named := ["middling/mill.checks", "middling/core.checks"], apart := false, laid := [("middling/core.checks", laid_middling_core_checks), ("middling/mill.checks", laid_middling_mill_checks)] }
def MillChangesSaid : Prop := millChangesRow.holds Tryd.pinned (OpenSpec.ofChange millChangesSpec)

/-- ITS FALSE NEIGHBOUR: 'it returns false'. Refute it at one input. -/
def millChangesWrong : ChangeSpec := { name := "millChanges", fn := fun _ => fun
  | [d1, d2, d3, d4, d5] => { results := [.lit (.bool false)], args := [d1, d2, d3, d4, d5] }
  | _ => none }
def MillChangesWrongFalsely : Prop := millChangesRow.holds Tryd.pinned (OpenSpec.ofChange millChangesWrong)

/-- 'middlingtop.TopDrawn': WHATEVER THE INPUT: true; the input reads as it did. -/
def topDrawnSpec : ChangeSpec := { name := "topDrawn", fn := fun _ => fun
  | [d1, d2, d3, d4, d5, d6] => { results := [.lit (.bool true)], args := [d1, d2, d3, d4, d5, d6] }
  | _ => none }
def topDrawnRow : OpenClaim := { program := "ytkpengeaolcjhaadoor", sum := "97fc7ffa5bae79f33a5fd1709d914c24450f0c9e7d6234b0ef636330f3ce9c32", func := "middling/middlingtop.TopDrawn", spec := "topDrawn", unfollowed := true, recurses := true, named := ["middling/mill.checks", "middling/core.checks"], apart := false, laid := [("middling/core.checks", laid_middling_core_checks), ("middling/mill.checks", laid_middling_mill_checks)] }
def TopDrawnSaid : Prop := topDrawnRow.holds Tryd.pinned (OpenSpec.ofChange topDrawnSpec)

/-- ITS FALSE NEIGHBOUR: 'it returns false'. Refute it at one input. -/
def topDrawnWrong : ChangeSpec := { name := "topDrawn", fn := fun _ => fun
  | [d1, d2, d3, d4, d5, d6] => { results := [.lit (.bool false)], args := [d1, d2, d3, d4, d5, d6] }
  | _ => none }
def TopDrawnWrongFalsely : Prop := topDrawnRow.holds Tryd.pinned (OpenSpec.ofChange topDrawnWrong)

/- THE SECOND FORM. 'bulk': how many values and letters a reading holds, each counted each time it is reached (what is shared counts as often as it is met; a slice's spare places count too). A statement '..UptoSaid' is the law's where the arguments, and the package variables that the reading takes, are together of bulk at most 1048576: NARROWER than '..Said'. Prove '..Said' where nothing that the law and all that it calls make is longer than what came in: it says more and counts as full. Else prove '..UptoSaid'. A law counts once. -/
mutual
def uptoBulk {H : Type} : DataW H → Nat
  | .lit (.string bytes) => bytes.length + 1
  | .lit _ => 1
  | .nil => 1
  | .ptr d => uptoBulk d + 1
  | .slice elems spare => uptoBulkAll elems + uptoBulkAll spare + 1
  | .agg parts => uptoBulkAll parts + 1
  | .iface _ d => uptoBulk d + 1
  | .map entries => uptoBulkEntries entries + 1
  | .held _ => 1
def uptoBulkAll {H : Type} : List (DataW H) → Nat
  | [] => 0
  | d :: r => uptoBulk d + uptoBulkAll r
def uptoBulkEntries {H : Type} : List (Lit × DataW H) → Nat
  | [] => 0
  | x :: r => uptoBulkEntry x + uptoBulkEntries r
def uptoBulkEntry {H : Type} : Lit × DataW H → Nat
  | (.string bytes, d) => bytes.length + uptoBulk d + 1
  | (_, d) => uptoBulk d + 1
 end
def uptoSmall : (H : Type) → List (DataW H) → Bool := fun _ ds => decide (uptoBulkAll ds ≤ 1048576)
def OpenSpec.upto (s : _root_.Go.ChangeSpec) : _root_.Go.OpenSpec := { _root_.Go.OpenSpec.ofChange s with cond := some uptoSmall }

/-- 'middlinglaw09.MillTells', WHERE WHAT IT READS IS OF BULK AT MOST 1048576: true; the input reads as it did. -/
def millTellsUptoRow : OpenClaim := { program := "ytkpengeaolcjhaadoor", sum := "97fc7ffa5bae79f33a5fd1709d914c24450f0c9e7d6234b0ef636330f3ce9c32", func := "middling/middlinglaw09.MillTells", spec := "millTells", unfollowed := true, recurses := true, named := ["middling/mill.checks", "middling/core.checks"], apart := false, laid := [("middling/core.checks", laid_middling_core_checks), ("middling/mill.checks", laid_middling_mill_checks)], narrowed := true }
def MillTellsUptoSaid : Prop := millTellsUptoRow.holds Tryd.pinned (OpenSpec.upto millTellsSpec)

/-- 'middlinglaw09.MillJudges', WHERE WHAT IT READS IS OF BULK AT MOST 1048576: true; the input reads as it did. -/
def millJudgesUptoRow : OpenClaim := { program := "ytkpengeaolcjhaadoor", sum := "97fc7ffa5bae79f33a5fd1709d914c24450f0c9e7d6234b0ef636330f3ce9c32", func := "middling/middlinglaw09.MillJudges", spec := "millJudges", unfollowed := true, recurses := true, named := ["middling/mill.checks", "middling/core.checks"], apart := false, laid := [("middling/core.checks", laid_middling_core_checks), ("middling/mill.checks", laid_middling_mill_checks)], narrowed := true }
def MillJudgesUptoSaid : Prop := millJudgesUptoRow.holds Tryd.pinned (OpenSpec.upto millJudgesSpec)

/-- 'middlinglaw09.MillChanges', WHERE WHAT IT READS IS OF BULK AT MOST 1048576: true; the input reads as it did. -/
def millChangesUptoRow : OpenClaim := { program := "ytkpengeaolcjhaadoor", sum := "97fc7ffa5bae79f33a5fd1709d914c24450f0c9e7d6234b0ef636330f3ce9c32", func := "middling/middlinglaw09.MillChanges", spec := "millChanges", unfollowed := true, recurses := true, named := ["middling/mill.checks", "middling/core.checks"], apart := false, laid := [("middling/core.checks", laid_middling_core_checks), ("middling/mill.checks", laid_middling_mill_checks)], narrowed := true }
def MillChangesUptoSaid : Prop := millChangesUptoRow.holds Tryd.pinned (OpenSpec.upto millChangesSpec)

/-- 'middlingtop.TopDrawn', WHERE WHAT IT READS IS OF BULK AT MOST 1048576: true; the input reads as it did. -/
def topDrawnUptoRow : OpenClaim := { program := "ytkpengeaolcjhaadoor", sum := "97fc7ffa5bae79f33a5fd1709d914c24450f0c9e7d6234b0ef636330f3ce9c32", func := "middling/middlingtop.TopDrawn", spec := "topDrawn", unfollowed := true, recurses := true, named := ["middling/mill.checks", "middling/core.checks"], apart := false, laid := [("middling/core.checks", laid_middling_core_checks), ("middling/mill.checks", laid_middling_mill_checks)], narrowed := true }
def TopDrawnUptoSaid : Prop := topDrawnUptoRow.holds Tryd.pinned (OpenSpec.upto topDrawnSpec)

end Rows
end Go.Proofs.YtkpengeaolcjhaaDoor
