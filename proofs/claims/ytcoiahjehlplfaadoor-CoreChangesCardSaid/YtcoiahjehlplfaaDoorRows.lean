/-
  NARROWER THAN 'FOR EVERY INPUT', by the rows' own cells (each row's printed sentence says how): CoreTells: laid · CoreWeighs: laid · CoreKinds: laid · CoreChanges: laid.
  DERIVED. THE GIVEN ROWS OF THIS SEAT. 4 by the template 'for every input the law returns true; each argument reads behind the call as it read before'; 0 by the template 'total and deterministic' (their statements: YtcoiahjehlplfaaDoorTotals.lean).
  GIVEN WITH THE SEED: the statements are not yours to turn. If you find one false, say at which input.
  Laid BY PROGRAM, IN A SANDBOX (cutbox-rows.mjs): the forced cells as the released guide's own fill.sh prints them over the translation ce61fbd88df93b7c… (all of the seat's roots in one cut). By AI agents, Wed Nov 11 2026. No macro, syntax, notation, axiom, sorry.
-/
import Derived.Test.YtcoiahjehlplfaaDoorChecked
import GoSem.Claim
import GoSem.ClaimJoined
import GoSem.ClaimMapViews
import Derived.JoinedTies
import Derived.KernelRfl
namespace Go.Proofs.YtcoiahjehlplfaaDoor
/- THE CELL 'sum', in the pinned program and in every row, IS THE sha256 OF THE DUMP (.gsa) THAT YtcoiahjehlplfaaDoorProg.lean LOADS. Nothing in Lean hashes anything: it is a label: what it is worth is what the hold of that sum in a sandbox is worth. -/
noncomputable def Tryd.pinned : Pinned := { name := "ytcoiahjehlplfaadoor", sum := "ce61fbd88df93b7c207963ba98ed312fe6bef29e5b293ca5ab7e660dcf471185", checked := Tryd.checked }
namespace Rows
def none {H : Type} : Left H := { results := [], args := [] }

/- WHAT THE LISTED PACKAGE-LEVEL VARIABLES READ AS WHEN THE CALL BEGINS. Each datum BY PROGRAM (the guide's laid-datum.mjs) off the statement by which the dump's own 'gosem.cut.vars' lays the variable. In a bare row this is a premise. The card (YtcoiahjehlplfaaDoorCards.lean) ties it to the program's text. -/
def laid_middling_core_checks {H : Type} : DataW H := .iface "func table" (.agg [.agg [.iface "func" (.lit (.string [109, 105, 100, 100, 108, 105, 110, 103, 47, 99, 111, 114, 101, 46, 99, 104, 101, 99, 107, 115, 36, 49]))], .agg [.iface "func" (.lit (.string [109, 105, 100, 100, 108, 105, 110, 103, 47, 99, 111, 114, 101, 46, 99, 104, 101, 99, 107, 115, 36, 50]))], .agg [.iface "func" (.lit (.string [109, 105, 100, 100, 108, 105, 110, 103, 47, 99, 111, 114, 101, 46, 99, 104, 101, 99, 107, 115, 36, 51]))], .agg [.iface "func" (.lit (.string [109, 105, 100, 100, 108, 105, 110, 103, 47, 99, 111, 114, 101, 46, 99, 104, 101, 99, 107, 115, 36, 52]))]])

/-- 'middlinglaw03.CoreTells': WHATEVER THE INPUT: true; the input reads as it did. -/
def coreTellsSpec : ChangeSpec := { name := "coreTells", fn := fun _ => fun
  | [d1, d2] => { results := [.lit (.bool true)], args := [d1, d2] }
  | _ => none }
def coreTellsRow : OpenClaim := { program := "ytcoiahjehlplfaadoor", sum := "ce61fbd88df93b7c207963ba98ed312fe6bef29e5b293ca5ab7e660dcf471185", func := "middling/middlinglaw03.CoreTells", spec := "coreTells", unfollowed := true, recurses := true, named := ["middling/core.checks"], plainKeys := false, apart := false, laid := [("middling/core.checks", laid_middling_core_checks)] }
def CoreTellsSaid : Prop := coreTellsRow.holds Tryd.pinned (OpenSpec.ofChange coreTellsSpec)

/-- ITS FALSE NEIGHBOUR: 'it returns false'. Refute it at one input. -/
def coreTellsWrong : ChangeSpec := { name := "coreTells", fn := fun _ => fun
  | [d1, d2] => { results := [.lit (.bool false)], args := [d1, d2] }
  | _ => none }
def CoreTellsWrongFalsely : Prop := coreTellsRow.holds Tryd.pinned (OpenSpec.ofChange coreTellsWrong)

/-- 'middlinglaw03.CoreWeighs': WHATEVER THE INPUT: true; the input reads as it did. -/
def coreWeighsSpec : ChangeSpec := { name := "coreWeighs", fn := fun _ => fun
  | [d1, d2, d3] => { results := [.lit (.bool true)], args := [d1, d2, d3] }
  | _ => none }
def coreWeighsRow : OpenClaim := { program := "ytcoiahjehlplfaadoor", sum := "ce61fbd88df93b7c207963ba98ed312fe6bef29e5b293ca5ab7e660dcf471185", func := "middling/middlinglaw03.CoreWeighs", spec := "coreWeighs", unfollowed := true, recurses := true, named := ["middling/core.checks"], plainKeys := false, apart := false, laid := [("middling/core.checks", laid_middling_core_checks)] }
def CoreWeighsSaid : Prop := coreWeighsRow.holds Tryd.pinned (OpenSpec.ofChange coreWeighsSpec)

/-- ITS FALSE NEIGHBOUR: 'it returns false'. Refute it at one input. -/
def coreWeighsWrong : ChangeSpec := { name := "coreWeighs", fn := fun _ => fun
  | [d1, d2, d3] => { results := [.lit (.bool false)], args := [d1, d2, d3] }
  | _ => none }
def CoreWeighsWrongFalsely : Prop := coreWeighsRow.holds Tryd.pinned (OpenSpec.ofChange coreWeighsWrong)

/-- 'middlinglaw03.CoreKinds': WHATEVER THE INPUT: true; the input reads as it did. -/
def coreKindsSpec : ChangeSpec := { name := "coreKinds", fn := fun _ => fun
  | [d1, d2] => { results := [.lit (.bool true)], args := [d1, d2] }
  | _ => none }
def coreKindsRow : OpenClaim := { program := "ytcoiahjehlplfaadoor", sum := "ce61fbd88df93b7c207963ba98ed312fe6bef29e5b293ca5ab7e660dcf471185", func := "middling/middlinglaw03.CoreKinds", spec := "coreKinds", unfollowed := true, recurses := true, named := ["middling/core.checks"], plainKeys := false, apart := false, laid := [("middling/core.checks", laid_middling_core_checks)] }
def CoreKindsSaid : Prop := coreKindsRow.holds Tryd.pinned (OpenSpec.ofChange coreKindsSpec)

/-- ITS FALSE NEIGHBOUR: 'it returns false'. Refute it at one input. -/
def coreKindsWrong : ChangeSpec := { name := "coreKinds", fn := fun _ => fun
  | [d1, d2] => { results := [.lit (.bool false)], args := [d1, d2] }
  | _ => none }
def CoreKindsWrongFalsely : Prop := coreKindsRow.holds Tryd.pinned (OpenSpec.ofChange coreKindsWrong)

/-- 'middlinglaw03.CoreChanges': WHATEVER THE INPUT: true; the input reads as it did. -/
def coreChangesSpec : ChangeSpec := { name := "coreChanges", fn := fun _ => fun
  | [d1, d2, d3, d4, d5] => { results := [.lit (.bool true)], args := [d1, d2, d3, d4, d5] }
  | _ => none }
def coreChangesRow : OpenClaim := { program := "ytcoiahjehlplfaadoor", sum := "ce61fbd88df93b7c207963ba98ed312fe6bef29e5b293ca5ab7e660dcf471185", func := "middling/middlinglaw03.CoreChanges", spec := "coreChanges", unfollowed := true, recurses := true, named := ["middling/core.checks"], plainKeys := false, apart := false, laid := [("middling/core.checks", laid_middling_core_checks)] }
def CoreChangesSaid : Prop := coreChangesRow.holds Tryd.pinned (OpenSpec.ofChange coreChangesSpec)

/-- ITS FALSE NEIGHBOUR: 'it returns false'. Refute it at one input. -/
def coreChangesWrong : ChangeSpec := { name := "coreChanges", fn := fun _ => fun
  | [d1, d2, d3, d4, d5] => { results := [.lit (.bool false)], args := [d1, d2, d3, d4, d5] }
  | _ => none }
def CoreChangesWrongFalsely : Prop := coreChangesRow.holds Tryd.pinned (OpenSpec.ofChange coreChangesWrong)

/- THE SECOND FORM. 'bulk': how many values and letters a reading holds, each counted each time it is reached (what is shared counts as often as it is met; a slice's spare places count too). A statement '..UptoSaid' is the law's where the arguments, and the package variables that the reading takes, are together of bulk at most 1048576: NARROWER than '..Said'. Prove '..Said' where nothing that the law and all that it calls make is longer than what came in: it says more and counts as full. Else prove '..UptoSaid'. A law counts once. -/
mutual
def uptoBulk {H : Type} : DataW H → Nat
  | .lit (.string bytes) => bytes.length + 1
  | .lit _ => 1
  | .nil => 1
  | .ptr d => uptoBulk d + 1
  | .slice elems spare => uptoBulkAll elems + uptoBulkAll spare + 1
  | .agg parts => uptoBulkAll parts + 1
  | .iface _ d => uptoBulk d + 1
  | .map entries => uptoBulkEntries entries + 1
  | .held _ => 1
def uptoBulkAll {H : Type} : List (DataW H) → Nat
  | [] => 0
  | d :: r => uptoBulk d + uptoBulkAll r
def uptoBulkEntries {H : Type} : List (Lit × DataW H) → Nat
  | [] => 0
  | x :: r => uptoBulkEntry x + uptoBulkEntries r
def uptoBulkEntry {H : Type} : Lit × DataW H → Nat
  | (.string bytes, d) => bytes.length + uptoBulk d + 1
  | (_, d) => uptoBulk d + 1
 end
def uptoSmall : (H : Type) → List (DataW H) → Bool := fun _ ds => decide (uptoBulkAll ds ≤ 1048576)
def OpenSpec.upto (s : _root_.Go.ChangeSpec) : _root_.Go.OpenSpec := { _root_.Go.OpenSpec.ofChange s with cond := some uptoSmall }

/-- 'middlinglaw03.CoreTells', WHERE WHAT IT READS IS OF BULK AT MOST 1048576: true; the input reads as it did. -/
def coreTellsUptoRow : OpenClaim := { program := "ytcoiahjehlplfaadoor", sum := "ce61fbd88df93b7c207963ba98ed312fe6bef29e5b293ca5ab7e660dcf471185", func := "middling/middlinglaw03.CoreTells", spec := "coreTells", unfollowed := true, recurses := true, named := ["middling/core.checks"], plainKeys := false, apart := false, laid := [("middling/core.checks", laid_middling_core_checks)], narrowed := true }
def CoreTellsUptoSaid : Prop := coreTellsUptoRow.holds Tryd.pinned (OpenSpec.upto coreTellsSpec)

/-- 'middlinglaw03.CoreWeighs', WHERE WHAT IT READS IS OF BULK AT MOST 1048576: true; the input reads as it did. -/
def coreWeighsUptoRow : OpenClaim := { program := "ytcoiahjehlplfaadoor", sum := "ce61fbd88df93b7c207963ba98ed312fe6bef29e5b293ca5ab7e660dcf471185", func := "middling/middlinglaw03.CoreWeighs", spec := "coreWeighs", unfollowed := true, recurses := true, named := ["middling/core.checks"], plainKeys := false, apart := false, laid := [("middling/core.checks", laid_middling_core_checks)], narrowed := true }
def CoreWeighsUptoSaid : Prop := coreWeighsUptoRow.holds Tryd.pinned (OpenSpec.upto coreWeighsSpec)

/-- 'middlinglaw03.CoreKinds', WHERE WHAT IT READS IS OF BULK AT MOST 1048576: true; the input reads as it did. -/
def coreKindsUptoRow : OpenClaim := { program := "ytcoiahjehlplfaadoor", sum := "ce61fbd88df93b7c207963ba98ed312fe6bef29e5b293ca5ab7e660dcf471185", func := "middling/middlinglaw03.CoreKinds", spec := "coreKinds", unfollowed := true, recurses := true, named := ["middling/core.checks"], plainKeys := false, apart := false, laid := [("middling/core.checks", laid_middling_core_checks)], narrowed := true }
def CoreKindsUptoSaid : Prop := coreKindsUptoRow.holds Tryd.pinned (OpenSpec.upto coreKindsSpec)

/-- 'middlinglaw03.CoreChanges', WHERE WHAT IT READS IS OF BULK AT MOST 1048576: true; the input reads as it did. -/
def coreChangesUptoRow : OpenClaim := { program := "ytcoiahjehlplfaadoor", sum := "ce61fbd88df93b7c207963ba98ed312fe6bef29e5b293ca5ab7e660dcf471185", func := "middling/middlinglaw03.CoreChanges", spec := "coreChanges", unfollowed := true, recurses := true, named := ["middling/core.checks"], plainKeys := false, apart := false, laid := [("middling/core.checks", laid_middling_core_checks)], narrowed := true }
def CoreChangesUptoSaid : Prop := coreChangesUptoRow.holds Tryd.pinned (OpenSpec.upto coreChangesSpec)

end Rows
end Go.Proofs.YtcoiahjehlplfaaDoor
