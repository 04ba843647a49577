/- The law MillBound: the walk, joined. -/
import Derived.Test.YtkpengeaolcjhaaGreatDoorPkMlBoundCardA
import Derived.Test.YtkpengeaolcjhaaGreatDoorPkMlBoundCardB
import Derived.Test.YtkpengeaolcjhaaGreatDoorPkMlBoundCardC
namespace Go.Proofs.YtkpengeaolcjhaaGreatDoor
open Go.RowKit Go.Shelf Go.Lib

theorem millBound_of (hA : AliveM) (lots size : Int) (x1 : Int) (l : List Rc) (sv : Value) (w : World) (hT : TabM w) (hs : MlC w sv l) (hx1 : 0 ≤ x1 ∧ x1 ≤ 255) :
    Calls Tryz.prog 5 #[valM lots size sv, .int .u8 x1] w fun e w' => e = .returned (.bool true) ∧ Ext w w' := by
  cases hb : bestP (mOf lots size l) with
  | none => exact millBound_few hA lots size x1 l sv w hT hs hx1 hb
  | some p =>
    by_cases h : 0 < (unev (mOf lots size l) p).1
    · exact millBound_far hA lots size x1 l sv w hT hs hx1 ⟨p, hb, h⟩
    · exact millBound_flat hA lots size x1 l sv w hT hs hx1 ⟨p, hb, by have := unev_pos (mOf lots size l) p; omega⟩
end Go.Proofs.YtkpengeaolcjhaaGreatDoor
