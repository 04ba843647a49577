/- The reference's kind of a bale by the grades of its layers. -/
import Derived.Test.YtkpengeaolcjhaaGreatDoorPkMlBestCardB
namespace Go.Proofs.YtkpengeaolcjhaaGreatDoor
open Go.RowKit Go.Shelf
set_option maxRecDepth 100000
set_option linter.unusedSimpArgs false

def alikeR (l : List Int) : Bool := decide (l.foldl max 1 - l.foldl min 9 ≤ 1)
def cutR (l : List Int) (k : Nat) : Bool := alikeR (l.take k) && alikeR (l.drop k)
def hasCut (l : List Int) : Bool := (List.range l.length).any fun k => decide (1 ≤ k) && cutR l k
/-- The kind, by the reference. -/
def kindR (l : List Int) : Int :=
  if alikeR l then 1 else if hasCut l then 2 else if alikeR [firstL l, lastL l] then
    (if (innerL l).any (fun x => decide (x < worseL l)) then 4 else if worseL l + 2 ≤ (innerL l).foldl max 0 then 3 else 4) else 4
end Go.Proofs.YtkpengeaolcjhaaGreatDoor
