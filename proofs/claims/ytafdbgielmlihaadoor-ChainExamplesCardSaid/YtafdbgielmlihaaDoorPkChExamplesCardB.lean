/- The values that ChainExamples asks for (layer 6). -/
import Derived.Test.YtafdbgielmlihaaDoorPkChLeastCardS
namespace Go.Proofs.YtafdbgielmlihaaDoor
open Go.RowKit Go.Shelf
set_option maxRecDepth 100000
set_option linter.unusedSimpArgs false

/-- The chain of the examples with a sale of too many bales. -/
def oddC : Chn := ⟨[1, 2, 3, 4], [⟨1, 1, 2, 10, 500⟩, ⟨2, 2, 3, 4, 510⟩, ⟨3, 3, 1, 3, 520⟩, ⟨4, 2, 4, 2, 505⟩, ⟨5, 1, 3, 2, 515⟩]⟩
/-- .. with sales more, the last of them k. -/
def fullC (k : Nat) : Chn := ⟨[1, 2, 3, 4], ringC.sales ++ (List.range k).map fun i => ⟨6 + (i : Int), 1, 2, 1, 0⟩⟩
theorem odd_check : checkP oddC = false := by kernel_rfl
theorem full_check : checkP (fullC 5) = true := by kernel_rfl
theorem ring_pays_no : paysE ringC (-1) = 62 ∧ paysL ringC [2, 1, 0, 2, 2] (-1) = [] := ⟨by kernel_rfl, by kernel_rfl⟩
theorem ring_loses5 : losesE ringC 5 ⟨2, 1⟩ = 6 := by kernel_rfl
theorem ring_loses1 : losesE ringC 1 ⟨2, 1⟩ = 62 := by kernel_rfl
theorem no_worst : worstE ⟨[], []⟩ ⟨0, 1000001⟩ = 62 := by kernel_rfl
theorem no_worst2 : worstE ⟨[], []⟩ ⟨0, 1000000⟩ = 6 := by kernel_rfl
theorem ring_adds1 : addsE ringC ⟨1, 1, 2, 1, 0⟩ = 61 := by kernel_rfl
theorem full_adds : addsE (fullC 5) ⟨11, 1, 2, 1, 0⟩ = 0 := by kernel_rfl
theorem full_put : putE (fullC 5) ⟨0, 0, 0, 0, 0⟩ = 9 := by kernel_rfl
theorem ring_put6 : putE ringC ⟨6, 1, 1, 1, 0⟩ = 61 := by kernel_rfl
theorem ring_strike6 : strikeE ringC [6] = 61 := by kernel_rfl
theorem ring_stop5 : stopE ringC 5 = 6 := by kernel_rfl
theorem ring_rangeE6 : rangeE ringC 6 = 61 := by kernel_rfl
theorem full_snoc (k : Nat) : (fullC (k + 1)).sales = (fullC k).sales ++ [⟨6 + (k : Int), 1, 2, 1, 0⟩] := by
  unfold fullC
  rw [List.range_succ, List.map_append, List.append_assoc]
  rfl
end Go.Proofs.YtafdbgielmlihaaDoor
