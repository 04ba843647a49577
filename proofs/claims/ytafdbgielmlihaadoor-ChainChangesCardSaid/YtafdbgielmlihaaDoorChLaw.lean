/- The plain law of changed chains: what the program makes of a chain is what the reference does. -/
import Derived.Test.YtafdbgielmlihaaDoorChData
namespace Go.Proofs.YtafdbgielmlihaaDoor
open Go.RowKit Go.Shelf

def noC : Chn := ⟨[], []⟩
/-- How many sales have lesser Numbers, of those at the head. -/
def posL (l : List Sale) (n : Int) : Nat := (l.takeWhile fun y => decide (y.number < n)).length
def withC (c : Chn) (x : Sale) : Chn := ⟨c.houses, c.sales.take (posL c.sales x.number) ++ x :: c.sales.drop (posL c.sales x.number)⟩
theorem posL_le (l : List Sale) (n : Int) : posL l n ≤ l.length := by
  unfold posL
  exact (List.takeWhile_prefix _).length_le
theorem withC_len (c : Chn) (x : Sale) : (withC c x).sales.length = c.sales.length + 1 := by
  have := posL_le c.sales x.number
  simp only [withC, List.length_append, List.length_take, List.length_cons, List.length_drop]
  omega
def putE (c : Chn) (x : Sale) : Int := if checkP c then (if c.sales.length = 10 then 9 else if rightP (withC c x) then 0 else 61) else 60
def putC (c : Chn) (x : Sale) : Chn := if putE c x = 0 then withC c x else noC
def refPutE (c : Chn) (x : Sale) : Int := if chainR c then (if c.sales.length = 10 then 9 else if chainR (withC c x) then 0 else 61) else 60
def refPutC (c : Chn) (x : Sale) : Chn := if refPutE c x = 0 then withC c x else noC
theorem putE_eq (c : Chn) (x : Sale) : refPutE c x = putE c x := by
  unfold refPutE putE
  rw [chain_eq, chain_eq]
  cases h : checkP c with
  | false => rfl
  | true =>
    simp only [if_true]
    by_cases h10 : c.sales.length = 10
    · rw [if_pos h10, if_pos h10]
    · rw [if_neg h10, if_neg h10]
      have := (check_right h).2
      have e : checkP (withC c x) = rightP (withC c x) := by
        unfold checkP
        rw [withC_len, decide_eq_true (by omega), Bool.true_and]
      rw [e]
theorem putC_eq (c : Chn) (x : Sale) : refPutC c x = putC c x := by unfold refPutC putC; rw [putE_eq]

/-- Without the sales of which something is so. -/
def lessC (c : Chn) (p : Sale → Bool) : Chn := ⟨c.houses, c.sales.filter fun x => !p x⟩
def okL (c : Chn) : Int → List Int → Bool
  | _, [] => true
  | last, n :: l => (decide (last < n) && hasI (c.sales.map (·.number)) n) && okL c n l
def refOkL (c : Chn) : Option Int → List Int → Bool
  | _, [] => true
  | last, n :: l => (decide (0 ≤ saleI c n) && !(match last with | none => false | some p => decide (n ≤ p))) && refOkL c (some n) l
def strikeE (c : Chn) (l : List Int) : Int := if checkP c then (if okL c 0 l then 0 else 61) else 60
def strikeC (c : Chn) (l : List Int) : Chn := if strikeE c l = 0 then lessC c (fun x => hasI l x.number) else noC
def refStrikeE (c : Chn) (l : List Int) : Int := if chainR c then (if refOkL c none l then 0 else 61) else 60
def refStrikeC (c : Chn) (l : List Int) : Chn := if refStrikeE c l = 0 then lessC c (fun x => hasI l x.number) else noC
theorem saleI_has (c : Chn) (n : Int) : decide (0 ≤ saleI c n) = hasI (c.sales.map (·.number)) n := by
  unfold saleI
  rw [idxF_any]
  unfold hasI
  rw [List.any_map]
  congr 1
  funext y
  exact decide_eq_decide.2 eq_comm
theorem refOk_some (c : Chn) : ∀ (l : List Int) (last : Int), refOkL c (some last) l = okL c last l
  | [], _ => rfl
  | n :: l, last => by
    unfold refOkL okL
    rw [refOk_some c l n, saleI_has]
    have : (!decide (n ≤ last)) = decide (last < n) := by rw [Bool.eq_iff_iff]; simp
    simp only [this]
    rw [Bool.and_comm (decide (last < n))]
theorem refOk_eq {c : Chn} (h : Right c) (l : List Int) : refOkL c none l = okL c 0 l := by
  cases l with
  | nil => rfl
  | cons n l =>
    unfold refOkL okL
    rw [refOk_some c l n, saleI_has]
    cases hh : hasI (c.sales.map (·.number)) n with
    | false => simp
    | true =>
      have := (rising_gt h.sr n (hasI_iff.1 hh)).1
      simp [this]
theorem strikeE_eq (c : Chn) (l : List Int) : refStrikeE c l = strikeE c l := by
  unfold refStrikeE strikeE
  rw [chain_eq]
  cases h : checkP c with
  | false => rfl
  | true => rw [refOk_eq (check_right h).1]
theorem strikeC_eq (c : Chn) (l : List Int) : refStrikeC c l = strikeC c l := by unfold refStrikeC strikeC; rw [strikeE_eq]

def soldBy (h : Int) (x : Sale) : Bool := decide (x.seller = h) || decide (x.buyer = h)
def stopE (c : Chn) (h : Int) : Int := if checkP c then (if hasI c.houses h then 0 else 6) else 60
def stopC (c : Chn) (h : Int) : Chn := if stopE c h = 0 then lessC c (soldBy h) else noC
def refStopE (c : Chn) (h : Int) : Int := if chainR c then (if decide (0 ≤ houseI c h) then 0 else 6) else 60
def refStopC (c : Chn) (h : Int) : Chn := if refStopE c h = 0 then lessC c (soldBy h) else noC
theorem stopE_eq (c : Chn) (h : Int) : refStopE c h = stopE c h := by
  unfold refStopE stopE houseI
  rw [chain_eq, hasI_idx]
theorem stopC_eq (c : Chn) (h : Int) : refStopC c h = stopC c h := by unfold refStopC stopC; rw [stopE_eq]
end Go.Proofs.YtafdbgielmlihaaDoor
