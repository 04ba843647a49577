/- The reference's gap. -/
import Derived.Test.YtkpengeaolcjhaaDoorPkMlTellsCardR
import Derived.Test.YtkpengeaolcjhaaDoorPkMlTellsCardP
import Derived.Test.YtkpengeaolcjhaaDoorPkMlTellsCardS
import Derived.Test.YtkpengeaolcjhaaDoorPkMlTellsCardD
import Derived.Test.YtkpengeaolcjhaaDoorPkMlTellsCardN
import Derived.Test.YtkpengeaolcjhaaDoorPkMlTellsCardQ
namespace Go.Proofs.YtkpengeaolcjhaaDoor
open Go.RowKit Go.Shelf Go.Lib
set_option maxRecDepth 100000
set_option linter.unusedSimpArgs false

def gapI (a b : Int) : Int := max a b - min a b
theorem gap_any (a b : Int) (w : World) (ha : 0 ≤ a ∧ a ≤ 10000) (hb : 0 ≤ b ∧ b ≤ 10000) : Calls Tryd.prog 114 #[.int .i64 a, .int .i64 b] w fun e w' => e = .returned (.int .i64 (gapI a b)) ∧ w = w' := by
  have hw : IntKind.i64.wrap (max a b - min a b) = gapI a b := by
    have e : gapI a b = ((gapI a b).toNat : Int) := by unfold gapI; omega
    have h := wrap_nat (k := (gapI a b).toNat) (by unfold gapI; omega)
    rw [← e] at h
    exact h
  go_enter Tryd.func114, Tryd.ntmps114
  go_wp2
  go_ret
  exact ⟨rfl, rfl⟩
end Go.Proofs.YtkpengeaolcjhaaDoor
/- Orders of lots: plain. -/
namespace Go.Proofs.YtkpengeaolcjhaaDoor
open Go.RowKit Go.Shelf
set_option linter.unusedSimpArgs false

/-- The orders of n lots that begin so, and go on with so many lots more. -/
def runsF (n : Nat) : Nat → List Int → List (List Int)
  | 0, l => [l]
  | k + 1, l => (List.range n).flatMap fun (i : Nat) => if l.contains ((i : Int) + 1) then [] else runsF n k (l ++ [(i : Int) + 1])
def runsL (n : Nat) : List (List Int) := runsF n n []
/-- .. of which the next is one of the first lots. -/
def rnk (n k : Nat) (l : List Int) (j : Nat) : List (List Int) := (List.range j).flatMap fun (i : Nat) => if l.contains ((i : Int) + 1) then [] else runsF n k (l ++ [(i : Int) + 1])
theorem rnk_succ (n k : Nat) (l : List Int) (j : Nat) : rnk n k l (j + 1) = rnk n k l j ++ (if l.contains ((j : Int) + 1) then [] else runsF n k (l ++ [(j : Int) + 1])) := by
  unfold rnk
  rw [List.range_succ, List.flatMap_append]
  simp
theorem rnk_pre (n k : Nat) (l : List Int) {i j : Nat} (h : i ≤ j) : rnk n k l i <+: rnk n k l j := by
  induction j with
  | zero => obtain rfl : i = 0 := by omega
            exact List.prefix_refl _
  | succ j ih =>
    by_cases hk : i = j + 1
    · rw [hk]; exact List.prefix_refl _
    · exact (ih (by omega)).trans (by rw [rnk_succ]; exact List.prefix_append _ _)
theorem runsF_mem {n : Nat} : ∀ {k : Nat} {l x : List Int}, x ∈ runsF n k l → (∀ y ∈ l, 1 ≤ y ∧ y ≤ (n : Int)) → x.length = l.length + k ∧ ∀ y ∈ x, 1 ≤ y ∧ y ≤ (n : Int)
  | 0, l, x, h, hl => by
    simp [runsF] at h
    subst h
    exact ⟨rfl, hl⟩
  | k + 1, l, x, h, hl => by
    unfold runsF at h
    obtain ⟨i, hi, h⟩ := List.mem_flatMap.1 h
    rw [List.mem_range] at hi
    split at h
    · simp at h
    · obtain ⟨h1, h2⟩ := runsF_mem h (fun y hy => by
        rw [List.mem_append] at hy
        rcases hy with hy | hy
        · exact hl y hy
        · simp at hy; omega)
      exact ⟨by rw [h1, List.length_append]; simp; omega, h2⟩
theorem runsL_mem {n : Nat} {x : List Int} (h : x ∈ runsL n) : x.length = n ∧ ∀ y ∈ x, 1 ≤ y ∧ y ≤ (n : Int) := by
  have := runsF_mem h (fun y hy => by simp at hy)
  exact ⟨by rw [this.1]; simp, this.2⟩
/-- The greatest step between the first lots. -/
def stepTo (f : Int → Int) (l : List Int) (i : Nat) : Int := (List.range i).foldl (fun n j => max n (gapI (f (l[j + 1]?.getD 0)) (f (l[j]?.getD 0)))) 0
def stepL (f : Int → Int) (l : List Int) : Int := stepTo f l (l.length - 1)
theorem stepTo_succ (f : Int → Int) (l : List Int) (i : Nat) : stepTo f l (i + 1) = max (stepTo f l i) (gapI (f (l[i + 1]?.getD 0)) (f (l[i]?.getD 0))) := by
  unfold stepTo
  rw [List.range_succ, List.foldl_append]
  rfl
theorem stepTo_bd {f : Int → Int} {l : List Int} {b : Int} (hb : 0 ≤ b) (hf : ∀ x, 0 ≤ f x ∧ f x ≤ b) : ∀ i, 0 ≤ stepTo f l i ∧ stepTo f l i ≤ b
  | 0 => ⟨Int.le_refl _, hb⟩
  | i + 1 => by
    have ih := stepTo_bd (l := l) hb hf i
    have h1 := hf (l[i + 1]?.getD 0)
    have h2 := hf (l[i]?.getD 0)
    rw [stepTo_succ]
    unfold gapI
    omega
theorem stepTo_app (f : Int → Int) (l : List Int) (x : Int) : ∀ i, i < l.length → stepTo f (l ++ [x]) i = stepTo f l i
  | 0, _ => rfl
  | i + 1, h => by
    rw [stepTo_succ, stepTo_succ, stepTo_app f l x i (by omega), List.getElem?_append_left h, List.getElem?_append_left (by omega)]
theorem stepL_nil (f : Int → Int) : stepL f [] = 0 := rfl
theorem stepL_one (f : Int → Int) (x : Int) : stepL f ([] ++ [x]) = 0 := rfl
theorem stepL_snoc {f : Int → Int} {l : List Int} {x a : Int} {k : Nat} (hk : l.length = k + 1) (ha : l[k]? = some a) : stepL f (l ++ [x]) = max (stepL f l) (gapI (f x) (f a)) := by
  unfold stepL
  rw [List.length_append, hk, show k + 1 + [x].length - 1 = k + 1 from rfl, stepTo_succ, stepTo_app f l x k (by omega), List.getElem?_append_right (by omega), List.getElem?_append_left (by omega), ha, hk]
  simp
/-- The reference keeps the best order, and its greatest step. -/
def runStep (f : Int → Int) (s : Option (List Int) × Int) (x : List Int) : Option (List Int) × Int := if s.1.isNone || decide (stepL f x < s.2) then (some x, stepL f x) else s
def runR (f : Int → Int) (n : Nat) : Option (List Int) × Int := (runsL n).foldl (runStep f) (none, 0)
/-- The program's order of orders. -/
def ordS (f : Int → Int) (a b : List Int) : Int := cmpI (stepL f a) (stepL f b)
theorem run_eq (f : Int → Int) : ∀ (L : List (List Int)) (o : Option (List Int)) (u : Int), (o = none → u = 0) → (∀ b, o = some b → u = stepL f b) →
    L.foldl (runStep f) (o, u) = (L.foldl (firstStep fun a b => decide (ordS f a b < 0)) o, match L.foldl (firstStep fun a b => decide (ordS f a b < 0)) o with | some b => stepL f b | none => 0)
  | [], o, u, h0, h1 => by
    cases o with
    | none => simp [h0 rfl]
    | some b => simp [h1 b rfl]
  | x :: L, o, u, h0, h1 => by
    rw [List.foldl_cons, List.foldl_cons]
    cases o with
    | none =>
      simp only [runStep, firstStep, Option.isNone, Bool.true_or, if_true]
      exact run_eq f L _ _ (fun h => by cases h) (fun b hb => by injection hb with hb; rw [hb])
    | some b =>
      have hu := h1 b rfl
      subst hu
      have e : decide (ordS f x b < 0) = decide (stepL f x < stepL f b) := by
        unfold ordS cmpI
        rw [Bool.eq_iff_iff]
        simp only [decide_eq_true_eq]
        split
        · omega
        · split <;> omega
      simp only [runStep, firstStep, Option.isNone, Bool.false_or, e]
      split
      · exact run_eq f L _ _ (fun h => by cases h) (fun c hc => by injection hc with hc; rw [hc])
      · exact run_eq f L _ _ (fun h => by cases h) (fun c hc => by injection hc with hc; rw [hc])
/-- **Both find the same order, and the same step.** -/
theorem runR_eq (f : Int → Int) (n : Nat) : (runR f n).1 = firstM (fun a b => decide (ordS f a b < 0)) (runsL n) ∧ (runR f n).2 = stepL f ((runR f n).1.getD []) := by
  have h := run_eq f (runsL n) none 0 (fun _ => rfl) (fun b hb => by cases hb)
  unfold runR
  rw [h]
  refine ⟨rfl, ?_⟩
  simp only
  split
  · rename_i b hb
    rw [hb]; rfl
  · rename_i hb
    rw [hb]; rfl
/-! The sums of lots. -/
theorem foldl_sum (l : List Int) : ∀ (a : Int), l.foldl (fun s x => s + x) a = a + l.sum := by
  induction l with
  | nil => intro a; simp
  | cons x l ih => intro a; rw [List.foldl_cons, ih, List.sum_cons]; omega
/-- The sum of a lot's lengths, as the reference adds it up. -/
def sumAt (p vals : List Int) (lot : Int) : Int := (lotL p vals lot).sum
theorem sum_bd {b : Int} : ∀ {l : List Int}, (∀ x ∈ l, 0 ≤ x ∧ x ≤ b) → 0 ≤ l.sum ∧ l.sum ≤ b * l.length
  | [], _ => by simp
  | x :: l, h => by
    have ih := sum_bd (l := l) (fun y hy => h y (by simp [hy]))
    have hx := h x (by simp)
    rw [List.sum_cons, List.length_cons]
    have e : b * ((l.length + 1 : Nat) : Int) = b * (l.length : Int) + b := by
      rw [show ((l.length + 1 : Nat) : Int) = (l.length : Int) + 1 by omega, Int.mul_add, Int.mul_one]
    omega
theorem sumAt_bd {p vals : List Int} {lot : Int} (hp : p.length ≤ 7) (hv : ∀ x ∈ vals, 0 ≤ x ∧ x ≤ 999) : 0 ≤ sumAt p vals lot ∧ sumAt p vals lot ≤ 6993 := by
  have h := sum_bd (l := lotL p vals lot) (fun x hx => hv x (lotL_mem hx))
  have hl : (lotL p vals lot).length ≤ 7 := by
    unfold lotL
    rw [List.length_map]
    exact Nat.le_trans (List.length_filter_le _ _) (by rw [List.length_zip]; omega)
  unfold sumAt
  omega
end Go.Proofs.YtkpengeaolcjhaaDoor
/- Which plans are allowed: plain. -/
namespace Go.Proofs.YtkpengeaolcjhaaDoor
open Go.RowKit Go.Shelf
set_option linter.unusedSimpArgs false

def fitOk (p : List Int) (fit : List Bool) : Bool := (p.zip fit).all fun x => !decide (0 < x.1) || x.2
/-- The plan is allowed. -/
def okPlan (m : Mll) (p : List Int) : Bool :=
  decide (p.length = m.cots.length) && (p.all (inB 0 m.lots) && (fitOk p (fitL m) && decide ([inLot p 1, inLot p 2, inLot p 3] = fullF m.lots.toNat m.size)))
def judgeE (m : Mll) (p : List Int) : Int := if checkM m then (if okPlan m p then 0 else 91) else 90
theorem inLot_nil (lot : Int) : inLot [] lot = 0 := rfl
theorem plansF_of {lots : Nat} {size : Int} (hl : lots ≤ 3) : ∀ {fit : List Bool} {f p : List Int}, f.length = 3 → p.length = fit.length → (∀ x ∈ p, 0 ≤ x ∧ x ≤ (lots : Int)) → fitOk p fit = true →
    (∀ i : Nat, i < 3 → f[i]?.getD 0 + inLot p ((i : Int) + 1) = if i < lots then size else 0) → p ∈ plansF lots size fit f
  | [], f, p, hf, hp, _, _, hc => by
    obtain rfl : p = [] := List.length_eq_zero_iff.1 (by simpa using hp)
    unfold plansF
    have e : f = fullF lots size := by
      match f, hf with
      | [a, b, c], _ =>
        have h0 := hc 0 (by decide)
        have h1 := hc 1 (by decide)
        have h2 := hc 2 (by decide)
        simp [inLot_nil] at h0 h1 h2
        subst h0 h1 h2
        rfl
    rw [if_pos e]
    simp
  | b :: r, f, p, hf, hp, hr, hk, hc => by
    match p, hp with
    | a :: q, hp =>
      have ha := hr a (by simp)
      unfold plansF
      rw [List.mem_flatMap]
      have hinq : ∀ lot, 0 ≤ inLot q lot := fun lot => by unfold inLot; omega
      have hk0 : (!decide (0 < a) || b) = true ∧ fitOk q r = true := by
        unfold fitOk at hk ⊢
        simpa only [List.zip_cons_cons, List.all_cons, Bool.and_eq_true] using hk
      refine ⟨a.toNat, List.mem_range.2 (by omega), ?_⟩
      have hok : okLot size b f a.toNat = true := by
        unfold okLot
        by_cases h0 : a = 0
        · simp [h0]
        · have hb : b = true := by have := hk0.1; simp at this; rcases this with h | h
                                   · omega
                                   · exact h
          have h3 := hc (a.toNat - 1) (by omega)
          rw [inLot_cons, if_pos (by omega), if_pos (by omega)] at h3
          have := hinq (((a.toNat - 1 : Nat) : Int) + 1)
          subst hb
          simp
          right
          omega
      rw [if_pos hok, List.mem_map]
      refine ⟨q, plansF_of hl (by rw [upF_len, hf]) (by simpa using hp) (fun x hx => hr x (by simp [hx])) hk0.2 (fun i hi => ?_), by simp; omega⟩
      rw [← hc i hi, inLot_cons]
      unfold upF
      by_cases h0 : a.toNat = 0
      · rw [if_pos h0, if_neg (by omega)]
        omega
      · rw [if_neg h0, List.getElem?_set]
        by_cases he : a.toNat - 1 = i
        · subst he
          rw [if_pos rfl, if_pos (by omega), if_pos (by omega)]
          simp
          omega
        · rw [if_neg he, if_neg (by omega)]
          omega
theorem inB_iff {lo hi n : Int} : inB lo hi n = true ↔ lo ≤ n ∧ n ≤ hi := by unfold inB; simp
theorem plan_of_ok {m : Mll} (hm : Mok m) {p : List Int} (h : okPlan m p = true) : p ∈ plansL m := by
  unfold okPlan at h
  simp only [Bool.and_eq_true, decide_eq_true_eq, List.all_eq_true] at h
  obtain ⟨h1, h2, h3, h4⟩ := h
  have := hm.l1; have := hm.l3
  have e : [inLot p 1, inLot p 2, inLot p 3] = [if 0 < m.lots.toNat then m.size else 0, if 1 < m.lots.toNat then m.size else 0, if 2 < m.lots.toNat then m.size else 0] := h4
  simp only [List.cons.injEq, and_true] at e
  refine plansF_of (by omega) rfl (by rw [h1]; simp [fitL]) (fun x hx => by have := inB_iff.1 (h2 x hx); omega) h3 fun i hi => ?_
  match i, hi with
  | 0, _ => simpa using e.1
  | 1, _ => simpa using e.2.1
  | 2, _ => simpa using e.2.2
/-! The counts after some bales. -/
def cntP (p : List Int) (k : Nat) (lot : Int) : Int := inLot (p.take k) lot
theorem cntP_zero (p : List Int) (lot : Int) : cntP p 0 lot = 0 := rfl
theorem inLot_snoc (p : List Int) (a lot : Int) : inLot (p ++ [a]) lot = inLot p lot + (if a = lot then 1 else 0) := by
  unfold inLot
  rw [List.filter_append, List.length_append]
  by_cases h : a = lot
  · subst h; simp
  · simp [h]
theorem cntP_succ {p : List Int} {k : Nat} {a : Int} (h : p[k]? = some a) (lot : Int) : cntP p (k + 1) lot = cntP p k lot + (if a = lot then 1 else 0) := by
  unfold cntP
  rw [List.take_add_one, h]
  exact inLot_snoc _ _ _
theorem cntP_full {p : List Int} {k : Nat} (h : p.length ≤ k) (lot : Int) : cntP p k lot = inLot p lot := by unfold cntP; rw [List.take_of_length_le h]
theorem cntP_bd (p : List Int) (k : Nat) (lot : Int) : 0 ≤ cntP p k lot ∧ cntP p k lot ≤ k := by
  unfold cntP inLot
  have h1 := List.length_filter_le (fun x => x == lot) (p.take k)
  have h2 := List.length_take_le k p
  omega
theorem fitOk_no {p : List Int} {fit : List Bool} {k : Nat} {a : Int} {b : Bool} (h1 : p[k]? = some a) (h2 : fit[k]? = some b) (h3 : 0 < a) (h4 : b = false) : fitOk p fit = false := by
  unfold fitOk
  rw [List.all_eq_false]
  refine ⟨(a, b), ?_, by simp [h3, h4]⟩
  apply List.mem_of_getElem? (i := k)
  rw [List.getElem?_zip_eq_some]
  exact ⟨h1, h2⟩
theorem fitOk_yes {p : List Int} {fit : List Bool} (h : ∀ (k : Nat) (a : Int) (b : Bool), p[k]? = some a → fit[k]? = some b → 0 < a → b = true) : fitOk p fit = true := by
  unfold fitOk
  rw [List.all_eq_true]
  intro x hx
  obtain ⟨k, hk⟩ := List.getElem?_of_mem hx
  rw [List.getElem?_zip_eq_some] at hk
  have := h k x.1 x.2 hk.1 hk.2
  by_cases h0 : 0 < x.1
  · simp [h0, this h0]
  · simp [h0]
theorem judgeE_no {m : Mll} {p : List Int} (h : checkM m = false) : judgeE m p = 90 := by unfold judgeE; rw [h]; rfl
theorem judgeE_bad {m : Mll} {p : List Int} (h : checkM m = true) (h2 : okPlan m p = false) : judgeE m p = 91 := by unfold judgeE; rw [h, h2]; rfl
theorem judgeE_ok {m : Mll} {p : List Int} (h : checkM m = true) (h2 : okPlan m p = true) : judgeE m p = 0 := by unfold judgeE; rw [h, h2]; rfl
theorem okPlan_len {m : Mll} {p : List Int} (h : ¬ p.length = m.cots.length) : okPlan m p = false := by unfold okPlan; rw [decide_eq_false h]; rfl
theorem okPlan_in {m : Mll} {p : List Int} (h : p.all (inB 0 m.lots) = false) : okPlan m p = false := by unfold okPlan; rw [h]; simp
theorem okPlan_fit {m : Mll} {p : List Int} (h : fitOk p (fitL m) = false) : okPlan m p = false := by unfold okPlan; rw [h]; simp
theorem okPlan_cnt {m : Mll} {p : List Int} (h : ¬ [inLot p 1, inLot p 2, inLot p 3] = fullF m.lots.toNat m.size) : okPlan m p = false := by unfold okPlan; rw [decide_eq_false h]; simp
theorem okPlan_yes {m : Mll} {p : List Int} (h1 : p.length = m.cots.length) (h2 : p.all (inB 0 m.lots) = true) (h3 : fitOk p (fitL m) = true) (h4 : [inLot p 1, inLot p 2, inLot p 3] = fullF m.lots.toNat m.size) : okPlan m p = true := by
  unfold okPlan; rw [decide_eq_true h1, h2, h3, decide_eq_true h4]; rfl
end Go.Proofs.YtkpengeaolcjhaaDoor
/- Exchanges of a plan: plain. -/
namespace Go.Proofs.YtkpengeaolcjhaaDoor
open Go.RowKit Go.Shelf
set_option linter.unusedSimpArgs false

theorem inLot_set : ∀ (p : List Int) (i : Nat) (x a lot : Int), p[i]? = some x → inLot (p.set i a) lot + (if x = lot then 1 else 0) = inLot p lot + (if a = lot then 1 else 0)
  | [], i, x, a, lot, h => by simp at h
  | y :: p, 0, x, a, lot, h => by
    simp at h
    subst h
    rw [List.set_cons_zero, inLot_cons, inLot_cons]
    omega
  | y :: p, i + 1, x, a, lot, h => by
    rw [List.set_cons_succ, inLot_cons, inLot_cons]
    have := inLot_set p i x a lot (by simpa using h)
    omega
/-- The plan with a bale left, and one in its place. -/
def swapP (p : List Int) (i k : Nat) : List Int := (p.set i 0).set k (p[i]?.getD 0)
/-- The bales may be exchanged. -/
def mayX (m : Mll) (p : List Int) (i k : Nat) : Bool := !(decide (p[i]?.getD 0 = 0) || !decide (p[k]?.getD 0 = 0)) && (fitL m)[k]?.getD false
theorem swap_ok {m : Mll} {p : List Int} {i k : Nat} {a : Int} (ho : okPlan m p = true) (hi : p[i]? = some a) (ha : a ≠ 0) (hk : p[k]? = some 0) (hf : (fitL m)[k]? = some true) : okPlan m (swapP p i k) = true := by
  unfold okPlan at ho
  simp only [Bool.and_eq_true, decide_eq_true_eq] at ho
  obtain ⟨h1, h2, h3, h4⟩ := ho
  have hik : i ≠ k := by rintro rfl; rw [hi] at hk; injection hk with hk; exact ha hk
  have e : swapP p i k = (p.set i 0).set k a := by unfold swapP; rw [hi]; rfl
  have ar := inB_iff.1 (List.all_eq_true.1 h2 a (List.mem_of_getElem? hi))
  have hk2 : (p.set i 0)[k]? = some 0 := by rw [List.getElem?_set_ne hik]; exact hk
  have cnt : ∀ lot : Int, 1 ≤ lot → inLot (swapP p i k) lot = inLot p lot := by
    intro lot hl
    have c1 := inLot_set p i a 0 lot hi
    have c2 := inLot_set (p.set i 0) k 0 a lot hk2
    rw [if_neg (show ¬ (0 : Int) = lot by omega)] at c1 c2
    rw [e]
    omega
  refine okPlan_yes (by rw [e]; simpa using h1) ?_ ?_ (by rw [cnt 1 (by decide), cnt 2 (by decide), cnt 3 (by decide)]; exact h4)
  · rw [List.all_eq_true] at h2 ⊢
    intro x hx
    rw [e] at hx
    rcases List.mem_or_eq_of_mem_set hx with hx | rfl
    · rcases List.mem_or_eq_of_mem_set hx with hx | rfl
      · exact h2 x hx
      · exact inB_iff.2 ⟨by omega, by omega⟩
    · exact inB_iff.2 ar
  · refine fitOk_yes fun j x b hj hb hx => ?_
    rw [e] at hj
    by_cases hjk : j = k
    · subst hjk
      rw [hf] at hb
      injection hb with hb
      exact hb.symm
    · rw [List.getElem?_set_ne (Ne.symm hjk)] at hj
      by_cases hji : j = i
      · subst hji
        rw [List.getElem?_set_self (List.getElem?_eq_some_iff.1 hi).1] at hj
        injection hj with hj
        omega
      · rw [List.getElem?_set_ne (Ne.symm hji)] at hj
        unfold fitOk at h3
        have h5 := List.all_eq_true.1 h3 (x, b) (List.mem_of_getElem? (i := j) (by rw [List.getElem?_zip_eq_some]; exact ⟨hj, hb⟩))
        simpa [hx] using h5
/-! All exchanges in order: those that may be, with how uneven the plan is then. -/
abbrev Exg := Nat × Nat × (Int × Int)
def exAll (m : Mll) (p : List Int) : List Exg := (List.range p.length).flatMap fun i => (List.range p.length).flatMap fun k => if mayX m p i k then [(i, k, unev m (swapP p i k))] else []
/-- The program's: those that make the plan more even. -/
def exL (m : Mll) (p : List Int) : List Exg := (exAll m p).filter fun x => lessU x.2.2 (unev m p)
/-- The reference keeps the best one, and how uneven the plan is with it. -/
def exStep (s : Option Exg × (Int × Int)) (x : Exg) : Option Exg × (Int × Int) := if lessU x.2.2 s.2 then (some x, x.2.2) else s
def exR (m : Mll) (p : List Int) : Option Exg × (Int × Int) := (exAll m p).foldl exStep (none, unev m p)
theorem lessU_trans {a b c : Int × Int} (h1 : lessU a b = true) (h2 : lessU b c = true) : lessU a c = true := by
  unfold lessU at *
  simp only [Bool.or_eq_true, Bool.and_eq_true, decide_eq_true_eq] at *
  omega
theorem ex_eq (u0 : Int × Int) : ∀ (L : List Exg) (o : Option Exg) (u : Int × Int), (o = none → u = u0) → (∀ b, o = some b → u = b.2.2 ∧ lessU b.2.2 u0 = true) →
    (L.foldl exStep (o, u)).1 = (L.filter fun x => lessU x.2.2 u0).foldl (firstStep fun a b => lessU a.2.2 b.2.2) o
  | [], o, u, _, _ => rfl
  | x :: L, o, u, h0, h1 => by
    rw [List.foldl_cons, List.filter_cons]
    unfold exStep
    cases o with
    | none =>
      have hu := h0 rfl
      subst hu
      cases hl : lessU x.2.2 u with
      | true =>
        simp only [if_true, List.foldl_cons, firstStep]
        exact ex_eq u L _ _ (fun h => by cases h) (fun b hb => by injection hb with hb; subst hb; exact ⟨rfl, hl⟩)
      | false =>
        simp only [Bool.false_eq_true, if_false]
        exact ex_eq u L _ _ (fun _ => rfl) (fun b hb => by cases hb)
    | some b =>
      obtain ⟨hu, hb⟩ := h1 b rfl
      subst hu
      cases hl : lessU x.2.2 b.2.2 with
      | true =>
        have hx := lessU_trans hl hb
        rw [if_pos hx]
        simp only [if_true, List.foldl_cons, firstStep, hl]
        exact ex_eq u0 L _ _ (fun h => by cases h) (fun c hc => by injection hc with hc; subst hc; exact ⟨rfl, hx⟩)
      | false =>
        simp only [Bool.false_eq_true, if_false]
        cases hx : lessU x.2.2 u0 with
        | true =>
          simp only [if_true, List.foldl_cons, firstStep, hl, Bool.false_eq_true, if_false]
          exact ex_eq u0 L _ _ (fun h => by cases h) (fun c hc => by injection hc with hc; subst hc; exact ⟨rfl, hb⟩)
        | false =>
          simp only [Bool.false_eq_true, if_false]
          exact ex_eq u0 L _ _ (fun h => by cases h) (fun c hc => by injection hc with hc; subst hc; exact ⟨rfl, hb⟩)
/-- **Both find the same exchange.** -/
theorem exR_eq (m : Mll) (p : List Int) : (exR m p).1 = firstM (fun a b => lessU a.2.2 b.2.2) (exL m p) :=
  ex_eq (unev m p) (exAll m p) none _ (fun _ => rfl) (fun b hb => by cases hb)
end Go.Proofs.YtkpengeaolcjhaaDoor
/- The order of exchanges: plain. -/
namespace Go.Proofs.YtkpengeaolcjhaaDoor
open Go.RowKit Go.Shelf
set_option linter.unusedSimpArgs false

theorem firstM_two {α : Type} {R : α → α → Prop} {f g : α → α → Bool} (h : ∀ b x, R b x → f x b = g x b) : ∀ (L : List α) (o : Option α), L.Pairwise R → (∀ b, o = some b → ∀ x ∈ L, R b x) → L.foldl (firstStep f) o = L.foldl (firstStep g) o
  | [], _, _, _ => rfl
  | x :: L, o, hp, ho => by
    rw [List.pairwise_cons] at hp
    rw [List.foldl_cons, List.foldl_cons]
    cases o with
    | none =>
      simp only [firstStep]
      exact firstM_two h L _ hp.2 (fun b hb y hy => by injection hb with hb; subst hb; exact hp.1 y hy)
    | some b =>
      have e := h b x (ho b rfl x (by simp))
      simp only [firstStep, e]
      split
      · exact firstM_two h L _ hp.2 (fun c hc y hy => by injection hc with hc; subst hc; exact hp.1 y hy)
      · exact firstM_two h L _ hp.2 (fun c hc y hy => by injection hc with hc; subst hc; exact ho _ rfl y (by simp [hy]))
/-- Earlier among the exchanges. -/
def ExB (a b : Exg) : Prop := a.1 < b.1 ∨ a.1 = b.1 ∧ a.2.1 < b.2.1
theorem exAll_pair (m : Mll) (p : List Int) : (exAll m p).Pairwise ExB := by
  unfold exAll
  rw [List.pairwise_flatMap]
  refine ⟨fun i _ => ?_, List.pairwise_lt_range.imp fun {i j} hij x hx y hy => ?_⟩
  · rw [List.pairwise_flatMap]
    refine ⟨fun k _ => ?_, List.pairwise_lt_range.imp fun {k j} hkj x hx y hy => ?_⟩
    · split <;> simp
    · split at hx
      · split at hy
        · simp at hx hy
          subst hx hy
          exact .inr ⟨rfl, hkj⟩
        · simp at hy
      · simp at hx
  · obtain ⟨k, -, hx⟩ := List.mem_flatMap.1 hx
    obtain ⟨k', -, hy⟩ := List.mem_flatMap.1 hy
    split at hx
    · split at hy
      · simp at hx hy
        subst hx hy
        exact .inl hij
      · simp at hy
    · simp at hx
/-- The program's order of exchanges. -/
def ordX (a b : Exg) : Int := orL [ordU a.2.2 b.2.2, cmpI a.1 b.1, cmpI a.2.1 b.2.1]
theorem ordX_less {a b : Exg} (h : ExB b a) : decide (ordX a b < 0) = lessU a.2.2 b.2.2 := by
  rw [← ordU_neg]
  obtain ⟨i, k, u⟩ := a
  obtain ⟨j, q, v⟩ := b
  unfold ordX
  by_cases h0 : ordU u v = 0
  · simp only [h0]
    rcases h with h | ⟨h, h2⟩
    · simp only at h
      have e : cmpI (i : Int) (j : Int) = 1 := by unfold cmpI; rw [if_neg (by omega), if_pos (by omega)]
      simp [orL, e]
    · simp only at h h2
      subst h
      have e : cmpI (j : Int) (j : Int) = 0 := by unfold cmpI; rw [if_neg (by omega), if_neg (by omega)]
      have e2 : cmpI (k : Int) (q : Int) = 1 := by unfold cmpI; rw [if_neg (by omega), if_pos (by omega)]
      simp [orL, e, e2]
  · simp [orL, h0]
theorem exL_first (m : Mll) (p : List Int) : firstM (fun a b => decide (ordX a b < 0)) (exL m p) = (exR m p).1 := by
  rw [exR_eq]
  exact firstM_two (R := ExB) (fun b x h => ordX_less h) _ none ((exAll_pair m p).sublist List.filter_sublist) (fun b hb => by cases hb)
end Go.Proofs.YtkpengeaolcjhaaDoor
/- mill.Swap's order. -/
namespace Go.Proofs.YtkpengeaolcjhaaDoor
open Go.RowKit Go.Shelf Go.Lib
set_option maxRecDepth 100000
set_option linter.unusedSimpArgs false

abbrev valX (x : Exg) : Value := .agg #[.int .i64 x.1, .int .i64 x.2.1, .int .i64 x.2.2.1, .int .i64 x.2.2.2]
/-- A slice of three numbers in new memory. -/
def ThrB (x y z : Int) (v : Value) (W : World) : Prop := ∃ b, v = .slice (some ⟨b, 0, none⟩) 3 3 ∧ Blk W b 3 #[.int .i64 x, .int .i64 y, .int .i64 z]
theorem ThrB.ext {x y z : Int} {v : Value} {W W' : World} (h : ThrB x y z v W) (e : Ext W W') : ThrB x y z v W' := by
  obtain ⟨b, h1, h2⟩ := h
  exact ⟨b, h1, h2.ext e⟩
theorem ThrB.sl {x y z : Int} {v : Value} {W : World} (h : ThrB x y z v W) : SlI W v [x, y, z] := by
  obtain ⟨b, rfl, hB⟩ := h
  refine ⟨_, 3, rfl, Nat.le_refl _, by unfold maxLen; decide, fun _ => ⟨b, 0, rfl, hB.lt, fun k u hk j t ht => ?_⟩⟩
  match j, ht with
  | 0, ht =>
    simp at ht; subst ht
    have := hB.cell k
    match k, hk with
    | 0, hk => simp at hk; subst hk; simpa using this
    | 1, hk => simp at hk; subst hk; simpa using this
    | 2, hk => simp at hk; subst hk; simpa using this
    | k + 3, hk => simp at hk
  | j + 1, ht => simp at ht
set_option maxHeartbeats 2000000 in
theorem f59_any (a b : Exg) (w : World) : Calls Tryd.prog 59 #[valX a, valX b] w fun e w' => e = .returned (.int .i64 (ordX a b)) ∧ Ext w w' := by
  have HOR := Lib.hid (show orL [ordU a.2.2 b.2.2, cmpI a.1 b.1, cmpI a.2.1 b.2.1] = ordX a b from rfl)
  obtain ⟨a0, a1, a2, a3⟩ := a
  obtain ⟨b0, b1, b2, b3⟩ := b
  go_enter Tryd.func59, Tryd.ntmps59
  go_wp2
  obtain ⟨w2, hw2⟩ : ∃ w2, w2 = (w.alloc (.cells #[.int .i64 a0, .int .i64 a1, .int .i64 a2, .int .i64 a3] 110)).alloc (.cells #[.int .i64 b0, .int .i64 b1, .int .i64 b2, .int .i64 b3] 110) := ⟨_, rfl⟩
  rw [← hw2]
  have B0 := Lib.hid (show Blk w2 w.heap.size 110 #[.int .i64 a0, .int .i64 a1, .int .i64 a2, .int .i64 a3] from hw2 ▸ (Blk.new _ _ _).alloc _)
  have B1 := Lib.hid (show Blk w2 (w.heap.size + 1) 110 #[.int .i64 b0, .int .i64 b1, .int .i64 b2, .int .i64 b3] from hw2 ▸ (Blk.at_ (by simp)))
  have E2 := Lib.hid (show Ext w w2 from hw2 ▸ (Ext.al _ _).alloc _)
  clear hw2
  have v0 := fun V (h : Ext w2 V) => (B0.out.ext h).c4
  have u0 := fun V (h : Ext w2 V) => (B1.out.ext h).c4
  refine wp_region_tame (fun W => Ext w2 W) (fun W W' => Ext W W') (by kernel_rfl) 22 rfl (by decide +kernel) (Ext.refl _).drew ?_
  repeat (apply tame_q rfl; (intro ρ W hC hr hD; (obtain ⟨hrc, hrg, hrf, hrs⟩ := hr); (simp [go_sem] at hD); go_simp; first | exact ⟨⟨hC, Ext.refl _⟩, rfl⟩ | exact ⟨⟨hC, RS.refl _⟩, rfl⟩ | exact rfl); simp only [List.nil_append, List.cons_append])
  apply tame_q rfl
  · intro ρ W hC hr hD
    obtain ⟨hrc, hrg, hrf, hrs⟩ := hr
    simp [go_sem] at hD
    go_simp
    refine (order_any (a2, a3) (b2, b3) W).mono ?_
    rintro e w' ⟨rfl, hE⟩
    exact ⟨_, rfl, ⟨hC.trans hE, hE⟩, rfl⟩
  simp only [List.nil_append, List.cons_append]
  repeat (apply tame_q rfl; (intro ρ W hC hr hD; (obtain ⟨hrc, hrg, hrf, hrs⟩ := hr); (simp [go_sem] at hD); go_simp; first | exact ⟨⟨hC, Ext.refl _⟩, rfl⟩ | exact ⟨⟨hC, RS.refl _⟩, rfl⟩ | exact rfl); simp only [List.nil_append, List.cons_append])
  apply tame_q rfl
  · intro ρ W hC hr hD
    obtain ⟨hrc, hrg, hrf, hrs⟩ := hr
    simp [go_sem] at hD
    go_simp
    refine (compare_any a0 b0 W).mono ?_
    rintro e w' ⟨rfl, hE⟩
    exact ⟨_, rfl, ⟨hC.trans hE, hE⟩, rfl⟩
  simp only [List.nil_append, List.cons_append]
  repeat (apply tame_q rfl; (intro ρ W hC hr hD; (obtain ⟨hrc, hrg, hrf, hrs⟩ := hr); (simp [go_sem] at hD); go_simp; first | exact ⟨⟨hC, Ext.refl _⟩, rfl⟩ | exact ⟨⟨hC, RS.refl _⟩, rfl⟩ | exact rfl); simp only [List.nil_append, List.cons_append])
  apply tame_q rfl
  · intro ρ W hC hr hD
    obtain ⟨hrc, hrg, hrf, hrs⟩ := hr
    simp [go_sem] at hD
    go_simp
    refine (compare_any a1 b1 W).mono ?_
    rintro e w' ⟨rfl, hE⟩
    exact ⟨_, rfl, ⟨hC.trans hE, hE⟩, rfl⟩
  simp only [List.nil_append, List.cons_append]
  apply tame_v rfl (ThrB (ordU (a2, a3) (b2, b3)) (cmpI a0 b0) (cmpI a1 b1)) (fun v V V' _ hE h => h.ext hE)
  · intro ρ V hC hr hD
    obtain ⟨hrc, hrg, hrf, hrs⟩ := hr
    simp [go_sem] at hD
    go_simp
    exact ⟨⟨hC.alloc _, Ext.al _ _⟩, ⟨_, rfl, Blk.new _ _ _⟩⟩
  simp only [List.nil_append, List.cons_append]
  apply tame_q rfl
  · intro ρ V hC hr hD
    obtain ⟨hrc, hrg, hrf, hrs⟩ := hr
    simp [go_sem] at hD
    go_simp
    refine (or_any _ _ V hD.1.sl).mono ?_
    rintro e w' ⟨rfl, hE⟩
    rw [HOR.out]
    exact ⟨_, rfl, ⟨hC.trans hE, hE⟩, rfl⟩
  simp only [List.nil_append, List.cons_append]
  repeat (apply tame_q rfl; (intro ρ W hC hr hD; (obtain ⟨hrc, hrg, hrf, hrs⟩ := hr); (simp [go_sem] at hD); go_simp; first | exact ⟨⟨hC, Ext.refl _⟩, rfl⟩ | exact ⟨⟨hC, RS.refl _⟩, rfl⟩ | exact rfl); simp only [List.nil_append, List.cons_append])
  refine tame_end 22 rfl rfl (fun ρ V hC hr hF => ?_)
  obtain ⟨hrc, hrg, hrf, hrs⟩ := hr
  simp [go_sem] at hF
  apply frame_to
  · go_simp
    exact rfl
  have HE := Lib.hid (E2.out.trans hC)
  clear hC hF hrs hrc hrg hrf v0 u0
  go_wp2
  go_ret
  exact ⟨rfl, HE.out⟩
end Go.Proofs.YtkpengeaolcjhaaDoor
/- mill's judged. -/
namespace Go.Proofs.YtkpengeaolcjhaaDoor
open Go.RowKit Go.Shelf Go.Lib
set_option maxRecDepth 100000
set_option linter.unusedSimpArgs false

theorem full_at (lt : Nat) (size : Int) (A : Option Addr) (n c m : Nat) (h3 : lt ≤ 3) (w : World) :
    Calls Tryd.prog 107 #[valT (lt : Int) size (.slice A n c) m] w fun e w' => e = .returned (valF (fl lt size 0) (fl lt size 1) (fl lt size 2)) ∧ Ext w w' := by
  refine (full_any lt size _ A n c m rfl h3 w).mono ?_
  rintro e w' ⟨⟨f0, f1, f2, rfl, h⟩, hE⟩
  have h' : [f0, f1, f2] = [fl lt size 0, fl lt size 1, fl lt size 2] := h
  injection h' with h0 h1
  injection h1 with h1 h2
  injection h2 with h2 _
  subst h0 h1 h2
  exact ⟨rfl, hE⟩
/-- What judged returns. -/
def JdT (lots size : Int) (l : List Rc) (p : List Int) (sv tv : Value) (W : World) : Prop :=
  (judgeE (mOf lots size l) p = 0 ∧ ∃ m nn, tv = valT lots size sv m ∧ MapB W m nn (fitTo l l.length)) ∨ (judgeE (mOf lots size l) p ≠ 0 ∧ tv = .agg #[.int .i64 0, .int .i64 0, .slice none 0 0, .map none])
/-- What stands still while judged walks over the plan. -/
structure JdS (lots size : Int) (A : Option Addr) (n c m tb fb : Nat) (w : World) (f1 f2 f3 : Int) (W : World) : Prop where
  e : Ext w W
  b : Blk W w.heap.size 24 #[.int .i64 lots, .int .i64 size, .slice A n c]
  t : Blk W (w.heap.size + 1) 87 #[.int .i64 0, .int .i64 0, .slice none 0 0, .map none]
  tb : Blk W tb 87 #[.int .i64 lots, .int .i64 size, .slice A n c, .map (some m)]
  f : Blk W fb 172 #[.int .i64 f1, .int .i64 f2, .int .i64 f3]
theorem JdS.ext {lots size : Int} {A : Option Addr} {n c m tb fb : Nat} {w : World} {f1 f2 f3 : Int} {W W' : World} (h : JdS lots size A n c m tb fb w f1 f2 f3 W) (e : Ext W W') : JdS lots size A n c m tb fb w f1 f2 f3 W' :=
  ⟨h.e.trans e, h.b.ext e, h.t.ext e, h.tb.ext e, h.f.ext e⟩
section
variable {lots size : Int} {A : Option Addr} {n c m tb fb : Nat} {w : World} {f1 f2 f3 : Int} {W : World}
theorem JdS.put1 (h : JdS lots size A n c m tb fb w f1 f2 f3 W) (h1 : w.heap.size + 1 < tb) (h2 : tb < fb) (y : Int) : JdS lots size A n c m tb fb w y f2 f3 (W.setCell ⟨fb, 0, none⟩ (.int .i64 y)) :=
  ⟨h.e.setCell (by dsimp only; omega) _, h.b.far (by dsimp only; omega) _, h.t.far (by dsimp only; omega) _, h.tb.far (by dsimp only; omega) _, by have := h.f.set_ 0 (.int .i64 y); simpa using this⟩
theorem JdS.put2 (h : JdS lots size A n c m tb fb w f1 f2 f3 W) (h1 : w.heap.size + 1 < tb) (h2 : tb < fb) (y : Int) : JdS lots size A n c m tb fb w f1 y f3 (W.setCell ⟨fb, 1, none⟩ (.int .i64 y)) :=
  ⟨h.e.setCell (by dsimp only; omega) _, h.b.far (by dsimp only; omega) _, h.t.far (by dsimp only; omega) _, h.tb.far (by dsimp only; omega) _, by have := h.f.set_ 1 (.int .i64 y); simpa using this⟩
theorem JdS.put3 (h : JdS lots size A n c m tb fb w f1 f2 f3 W) (h1 : w.heap.size + 1 < tb) (h2 : tb < fb) (y : Int) : JdS lots size A n c m tb fb w f1 f2 y (W.setCell ⟨fb, 2, none⟩ (.int .i64 y)) :=
  ⟨h.e.setCell (by dsimp only; omega) _, h.b.far (by dsimp only; omega) _, h.t.far (by dsimp only; omega) _, h.tb.far (by dsimp only; omega) _, by have := h.f.set_ 2 (.int .i64 y); simpa using this⟩
end
theorem ret_set4A {P : Program} {fn : Func} {R : Ending → World → Prop} {ex : Exit} {a : Act} {w1 : World} {g : Nat} {t : TypeId} {x0 x1 x2 x3 y0 y1 y2 y3 : Value} {o : Obj} (hB : Blk w1 g t #[x0, x1, x2, x3])
    (h : ∀ W, (W.cell? ⟨g, 0, none⟩ = some y0 ∧ W.cell? ⟨g, 1, none⟩ = some y1 ∧ W.cell? ⟨g, 2, none⟩ = some y2 ∧ W.cell? ⟨g, 3, none⟩ = some y3) → w1.grownBy W (some g) → bodyPost P fn R ex a W) :
    bodyPost P fn R ex a (((((w1.setCell ⟨g, 0, none⟩ y0).setCell ⟨g, 1, none⟩ y1).setCell ⟨g, 2, none⟩ y2).setCell ⟨g, 3, none⟩ y3).alloc o) := by
  have K := ((((hB.set_ 0 y0).set_ 1 y1).set_ 2 y2).set_ 3 y3).alloc o
  exact h _ ⟨K.cell 0, K.cell 1, K.cell 2, K.cell 3⟩ (grown_ext (grown_set (grown_set (grown_set (grown_set (World.grownBy.refl _ _) (p := ⟨g, 0, none⟩) (.inl rfl) y0) (p := ⟨g, 1, none⟩) (.inl rfl) y1) (p := ⟨g, 2, none⟩) (.inl rfl) y2) (p := ⟨g, 3, none⟩) (.inl rfl) y3) (Ext.al _ _))
theorem MapB.put {W : World} {m n b i : Nat} {g : Int → Bool} (h : MapB W m n g) (hm : m ≠ b) (u : Value) : MapB (W.setCell ⟨b, i, none⟩ u) m n g :=
  h.at_ ((grown_set (World.grownBy.refl W (some b)) (p := ⟨b, i, none⟩) (.inl rfl) u).block m h.lt (by simpa using hm))
theorem wrap_at {x : Int} (h1 : 0 ≤ x) (h2 : x ≤ 100000) : IntKind.i64.wrap x = x := by
  have := wrap_nat (k := x.toNat) (by omega)
  rwa [show ((x.toNat : Nat) : Int) = x by omega] at this
theorem fit_at {lots size : Int} {l : List Rc} {k : Nat} {r : Rc} (h : l[k]? = some r) : (fitL (mOf lots size l))[k]? = some (fitB r.c) := by simp [fitL, h]
set_option maxHeartbeats 4000000 in
theorem judged_any (lots size : Int) (l : List Rc) (p : List Int) (sv pv : Value) (w : World) (hT : TabM w) (hs : MlC w sv l) (hp : SlI w pv p) (hlen : l.length ≤ 1000) :
    Calls Tryd.prog 52 #[valM lots size sv, pv] w fun e w' => (∃ tv, e = .returned (.tuple #[tv, .int .i64 (judgeE (mOf lots size l) p)]) ∧ JdT lots size l p sv tv w') ∧ Ext w w' := by
  have HS := Lib.hid hs; have HT := Lib.hid hT; have HLN := Lib.hid hlen; have HP := Lib.hid hp
  obtain ⟨A, n, c, rfl, hn, hlc, hcm⟩ := hs.1.form
  obtain ⟨A2, n2, c2, rfl, hn2, hlc2, hcm2⟩ := hp.form
  have HL := Lib.hid (show l.length = n from hn.out.symm)
  have HL2 := Lib.hid (show p.length = n2 from hn2.out.symm)
  have hnb : n ≤ 1000 := by have := hn.out; omega
  clear hs hT hn hn2 hp hlen
  go_enter Tryd.func52, Tryd.ntmps52
  go_wp2_with fail
  obtain ⟨w0, hw0⟩ : ∃ w0, w0 = (w.alloc (.cells #[.int .i64 lots, .int .i64 size, .slice A n c] 24)).alloc (.cells #[.int .i64 0, .int .i64 0, .slice none 0 0, .map none] 87) := ⟨_, rfl⟩
  rw [← hw0]
  have E0 := Lib.hid (show Ext w w0 from hw0 ▸ (Ext.al _ _).alloc _)
  have B0 := Lib.hid (show Blk w0 w.heap.size 24 #[.int .i64 lots, .int .i64 size, .slice A n c] from hw0 ▸ (Blk.new _ _ _).alloc _)
  have T0 := Lib.hid (show Blk w0 (w.heap.size + 1) 87 #[.int .i64 0, .int .i64 0, .slice none 0 0, .map none] from hw0 ▸ Blk.at_ (by simp))
  clear hw0
  refine (checkM_any lots size l _ _ (HT.out.ext E0.out) (HS.out.ext E0.out) HLN.out).mono ?_
  rintro e w1 ⟨rfl, hE⟩
  have E1 := Lib.hid (E0.out.trans hE); have B1 := Lib.hid (B0.out.ext hE); have T1 := Lib.hid (T0.out.ext hE)
  clear hE E0 B0 T0
  obtain ⟨b0, b1, b2, bf, bl⟩ := B1.out.c3
  obtain ⟨t0, t1, t2, t3, tf, tl⟩ := T1.out.c4
  cases hc : checkM (mOf lots size l)
  · have HC := Lib.hid hc
    simp only [errB]
    clear hc
    go_wp2
    refine ret_set4 (T1.out) fun W' ⟨z0, z1, z2, z3⟩ hW => ?_
    refine bodyPost_ret (v := .tuple #[.agg #[.int .i64 0, .int .i64 0, .slice none 0 0, .map none], .int .i64 (90)]) (by simp only [results, Tryd.results52]; simp [go_sem, z0, z1, z2, z3]) rfl ?_
    exact ⟨⟨_, by rw [judgeE_no HC.out], .inr ⟨by rw [judgeE_no HC.out]; decide, rfl⟩⟩, ext_grownP (E1.out) hW (by omega)⟩
  have HC := Lib.hid hc
  simp only [errB]
  clear hc
  go_wp2_with fail
  refine (laid_any lots size l _ _ (HT.out.1.ext E1.out) (HS.out.ext E1.out) HLN.out).mono ?_
  rintro e w2 ⟨⟨m, nn, rfl, hm0, -, hmp⟩, hE⟩
  have E2 := Lib.hid (E1.out.trans hE); have HMP := Lib.hid hmp
  have B2 := Lib.hid (B1.out.ext hE); have T2 := Lib.hid (T1.out.ext hE)
  have hz2 : w.heap.size + 1 < w2.heap.size := T2.out.lt
  have hmw : w.heap.size + 1 < m := by have := T1.out.lt; omega
  clear hE hmp b0 b1 b2 bf bl t0 t1 t2 t3 tf tl B1 T1 E1 hm0
  obtain ⟨b0, b1, b2, bf, bl⟩ := B2.out.c3
  obtain ⟨t0, t1, t2, t3, tf, tl⟩ := T2.out.c4
  by_cases hnn : (n2 : Int) = (n : Int)
  · have h2 : n2 = n := by omega
    subst h2
    clear hnn
    go_wp2_with fail
    obtain ⟨w3, hw3⟩ : ∃ w3, w3 = w2.alloc (.cells #[.int .i64 lots, .int .i64 size, .slice A n2 c, .map (some m)] 87) := ⟨_, rfl⟩
    rw [← hw3]
    have E3 := Lib.hid (show Ext w2 w3 from hw3 ▸ Ext.al _ _)
    have TB3 := Lib.hid (show Blk w3 w2.heap.size 87 #[.int .i64 lots, .int .i64 size, .slice A n2 c, .map (some m)] from hw3 ▸ Blk.new _ _ _)
    clear hw3 b0 b1 b2 bf bl t0 t1 t2 t3 tf tl
    refine (inM_any 0 lots p _ _ (HP.out.ext (E2.out.trans E3.out))).mono ?_
    rintro e w4 ⟨rfl, hE⟩
    have E4 := Lib.hid (E2.out.trans (E3.out.trans hE)); have TB4 := Lib.hid (TB3.out.ext hE)
    have B4 := Lib.hid (B2.out.ext (E3.out.trans hE)); have T4 := Lib.hid (T2.out.ext (E3.out.trans hE)); have HMP4 := Lib.hid (HMP.out.ext (E3.out.trans hE))
    clear hE B2 T2 HMP TB3 E3 E2
    obtain ⟨t0, t1, t2, t3, tf, tl⟩ := T4.out.c4
    cases hin : p.all (inB 0 lots)
    · have HI := Lib.hid (okPlan_in (m := mOf lots size l) hin)
      clear hin
      go_wp2
      refine ret_set4 (T4.out) fun W' ⟨z0, z1, z2, z3⟩ hW => ?_
      refine bodyPost_ret (v := .tuple #[.agg #[.int .i64 0, .int .i64 0, .slice none 0 0, .map none], .int .i64 (91)]) (by simp only [results, Tryd.results52]; simp [go_sem, z0, z1, z2, z3]) rfl ?_
      exact ⟨⟨_, by rw [judgeE_bad HC.out HI.out], .inr ⟨by rw [judgeE_bad HC.out HI.out]; decide, rfl⟩⟩, ext_grownP (E4.out) hW (by omega)⟩
    · have HI := Lib.hid hin
      clear hin
      have hM := mok_of HC.out
      have hl1 : 1 ≤ lots := hM.l1
      have hl3 : lots ≤ 3 := hM.l3
      have hn7 : n2 ≤ 7 := by have h := hM.n7; simp at h; have := HL.out; omega
      clear hM
      go_wp2
      obtain ⟨w5, hw5⟩ : ∃ w5, w5 = w4.alloc (.cells #[.int .i64 0, .int .i64 0, .int .i64 0] 172) := ⟨_, rfl⟩
      rw [← hw5]
      have S5 := Lib.hid (show JdS lots size A n2 c m w2.heap.size w4.heap.size w (cntP p 0 1) (cntP p 0 2) (cntP p 0 3) w5 from hw5 ▸ ⟨E4.out.alloc _, B4.out.alloc _, T4.out.alloc _, TB4.out.alloc _, Blk.new _ _ _⟩)
      have HMP5 := Lib.hid (show MapB w5 m nn (fitTo l l.length) from hw5 ▸ HMP4.out.ext (Ext.al _ _))
      have htb : w2.heap.size < w4.heap.size := TB4.out.lt
      have hmf : m < w4.heap.size := HMP4.out.lt
      clear hw5 E4 TB4 B4 T4 HMP4 t0 t1 t2 t3 tf tl
      have wr0 : IntKind.i64.wrap 0 = 0 := by decide
      have wr1 : IntKind.i64.wrap 1 = 1 := by decide
      have wr2 : IntKind.i64.wrap 2 = 2 := by decide
      generalize hFB : w4.heap.size = fb at *
      clear hFB
      go_loopg [35] n2 (fun gg s wr => ∃ kk : Nat, kk ≤ n2 ∧ n2 - kk ≤ gg ∧ s = .int .i64 (kk : Int) ∧ Aside (∀ (j : Nat) (a : Int) (b : Bool), j < kk → p[j]? = some a → (fitL (mOf lots size l))[j]? = some b → 0 < a → b = true) ∧ Aside (JdS lots size A n2 c m w2.heap.size fb w (cntP p kk 1) (cntP p kk 2) (cntP p kk 3) wr) ∧ Aside (MapB wr m nn (fitTo l l.length)))
      case atStart => exact ⟨0, by omega, by omega, by simp, fun j a b h => absurd h (by omega), S5.out, HMP5.out⟩
      case round =>
        obtain ⟨kk, hkk, hgg, rfl, IV, S, MP⟩ := hrel
        clear S5 HMP5
        obtain ⟨b0, b1, b2, bf, bl⟩ := S.out.b.c3
        obtain ⟨t0, t1, t2, t3, tf, tl⟩ := S.out.t.c4
        obtain ⟨d0, d1, d2, d3, df, dl⟩ := S.out.tb.c4
        obtain ⟨g0, g1, g2, gf, gl⟩ := S.out.f.c3
        by_cases hlt : kk < n2
        · have hltz : (kk : Int) < (n2 : Int) := by omega
          have hin : In64 (kk : Int) := by unfold In64; omega
          obtain ⟨x, hx⟩ : ∃ x, l[kk]? = some x := ⟨_, List.getElem?_eq_getElem (by have := HL.out; omega)⟩
          obtain ⟨bi, offi, y, rfl, hy, hb, hcell⟩ := HP.out.at_ hlt
          have c0 := SlI.cell hcell S.out.e
          have lk := MP.out.look hin
          rw [fitTo_at hx] at lk
          have hyr : 0 ≤ y ∧ y ≤ lots := by
            have := List.all_eq_true.1 HI.out y (List.mem_of_getElem? hy)
            exact inB_iff.1 this
          have hIV : (0 < y → fitB x.c = true) → ∀ (j : Nat) (a : Int) (b : Bool), j < kk + 1 → p[j]? = some a → (fitL (mOf lots size l))[j]? = some b → 0 < a → b = true := by
            intro h j a b hj h1 h2 h3
            by_cases he : j = kk
            · subst he
              rw [hy] at h1; rw [fit_at hx] at h2
              injection h1 with h1; injection h2 with h2
              subst h1 h2
              exact h h3
            · exact IV.out j a b (by omega) h1 h2 h3
          clear hcell hb
          have hy4 : y = 0 ∨ y = 1 ∨ y = 2 ∨ y = 3 := by omega
          rcases hy4 with rfl | rfl | rfl | rfl
          · have hIV2 := Lib.hid (hIV (fun h => absurd h (by decide)))
            clear hIV
            go_wp2
            go_roundg (n2 - (kk + 1))
            case measure => omega
            case rel => exact ⟨kk + 1, by omega, by omega, by simp, hIV2.out, by rw [cntP_succ hy 1, cntP_succ hy 2, cntP_succ hy 3]; show JdS _ _ _ _ _ _ _ _ _ _ _ _ _; simpa using S.out, MP.out⟩
          · replace hIV := fun h => hIV (fun _ => h)
            have h1 := cntP_bd p kk (1)
            have hw : IntKind.i64.wrap (cntP p kk (1) + 1) = cntP p kk (1) + 1 := wrap_at (by omega) (by omega)
            have hS := Lib.hid (S.out.put1 hz2 htb (cntP p kk (1) + 1))
            have hMP := Lib.hid (MP.out.put (b := fb) (i := 0) (by omega) (.int .i64 (cntP p kk (1) + 1)))
            replace lk := hMP.out.look hin
            rw [fitTo_at hx] at lk
            clear h1
            cases hfx : fitB x.c
            · have HF := Lib.hid (okPlan_fit (m := mOf lots size l) (fitOk_no hy (fit_at hx) (by decide) hfx))
              rw [hfx] at lk
              clear hfx
              go_wp2
              refine ret_set4 (hS.out.t) fun W' ⟨z0, z1, z2, z3⟩ hW => ?_
              refine bodyPost_ret (v := .tuple #[.agg #[.int .i64 0, .int .i64 0, .slice none 0 0, .map none], .int .i64 (91)]) (by simp only [results, Tryd.results52]; simp [go_sem, z0, z1, z2, z3]) rfl ?_
              exact ⟨⟨_, by rw [judgeE_bad HC.out HF.out], .inr ⟨by rw [judgeE_bad HC.out HF.out]; decide, rfl⟩⟩, ext_grownP (hS.out.e) hW (by omega)⟩
            · have HFX := Lib.hid hfx
              rw [hfx] at lk
              clear hfx
              go_wp2
              go_roundg (n2 - (kk + 1))
              case measure => omega
              case rel => exact ⟨kk + 1, by omega, by omega, by simp, hIV HFX.out, by rw [cntP_succ hy 1, cntP_succ hy 2, cntP_succ hy 3]; show JdS _ _ _ _ _ _ _ _ _ _ _ _ _; simpa using hS.out, hMP.out⟩
          · replace hIV := fun h => hIV (fun _ => h)
            have h1 := cntP_bd p kk (2)
            have hw : IntKind.i64.wrap (cntP p kk (2) + 1) = cntP p kk (2) + 1 := wrap_at (by omega) (by omega)
            have hS := Lib.hid (S.out.put2 hz2 htb (cntP p kk (2) + 1))
            have hMP := Lib.hid (MP.out.put (b := fb) (i := 1) (by omega) (.int .i64 (cntP p kk (2) + 1)))
            replace lk := hMP.out.look hin
            rw [fitTo_at hx] at lk
            clear h1
            cases hfx : fitB x.c
            · have HF := Lib.hid (okPlan_fit (m := mOf lots size l) (fitOk_no hy (fit_at hx) (by decide) hfx))
              rw [hfx] at lk
              clear hfx
              go_wp2
              refine ret_set4 (hS.out.t) fun W' ⟨z0, z1, z2, z3⟩ hW => ?_
              refine bodyPost_ret (v := .tuple #[.agg #[.int .i64 0, .int .i64 0, .slice none 0 0, .map none], .int .i64 (91)]) (by simp only [results, Tryd.results52]; simp [go_sem, z0, z1, z2, z3]) rfl ?_
              exact ⟨⟨_, by rw [judgeE_bad HC.out HF.out], .inr ⟨by rw [judgeE_bad HC.out HF.out]; decide, rfl⟩⟩, ext_grownP (hS.out.e) hW (by omega)⟩
            · have HFX := Lib.hid hfx
              rw [hfx] at lk
              clear hfx
              go_wp2
              go_roundg (n2 - (kk + 1))
              case measure => omega
              case rel => exact ⟨kk + 1, by omega, by omega, by simp, hIV HFX.out, by rw [cntP_succ hy 1, cntP_succ hy 2, cntP_succ hy 3]; show JdS _ _ _ _ _ _ _ _ _ _ _ _ _; simpa using hS.out, hMP.out⟩
          · replace hIV := fun h => hIV (fun _ => h)
            have h1 := cntP_bd p kk (3)
            have hw : IntKind.i64.wrap (cntP p kk (3) + 1) = cntP p kk (3) + 1 := wrap_at (by omega) (by omega)
            have hS := Lib.hid (S.out.put3 hz2 htb (cntP p kk (3) + 1))
            have hMP := Lib.hid (MP.out.put (b := fb) (i := 2) (by omega) (.int .i64 (cntP p kk (3) + 1)))
            replace lk := hMP.out.look hin
            rw [fitTo_at hx] at lk
            clear h1
            cases hfx : fitB x.c
            · have HF := Lib.hid (okPlan_fit (m := mOf lots size l) (fitOk_no hy (fit_at hx) (by decide) hfx))
              rw [hfx] at lk
              clear hfx
              go_wp2
              refine ret_set4 (hS.out.t) fun W' ⟨z0, z1, z2, z3⟩ hW => ?_
              refine bodyPost_ret (v := .tuple #[.agg #[.int .i64 0, .int .i64 0, .slice none 0 0, .map none], .int .i64 (91)]) (by simp only [results, Tryd.results52]; simp [go_sem, z0, z1, z2, z3]) rfl ?_
              exact ⟨⟨_, by rw [judgeE_bad HC.out HF.out], .inr ⟨by rw [judgeE_bad HC.out HF.out]; decide, rfl⟩⟩, ext_grownP (hS.out.e) hW (by omega)⟩
            · have HFX := Lib.hid hfx
              rw [hfx] at lk
              clear hfx
              go_wp2
              go_roundg (n2 - (kk + 1))
              case measure => omega
              case rel => exact ⟨kk + 1, by omega, by omega, by simp, hIV HFX.out, by rw [cntP_succ hy 1, cntP_succ hy 2, cntP_succ hy 3]; show JdS _ _ _ _ _ _ _ _ _ _ _ _ _; simpa using hS.out, hMP.out⟩
        · have hke : kk = n2 := by omega
          subst hke
          have e1 := cntP_full (p := p) (k := kk) (by have := HL2.out; omega) 1
          have e2 := cntP_full (p := p) (k := kk) (by have := HL2.out; omega) 2
          have e3 := cntP_full (p := p) (k := kk) (by have := HL2.out; omega) 3
          rw [e1, e2, e3] at S
          rw [e1] at g0
          rw [e2] at g1
          rw [e3] at g2
          obtain ⟨lt, rfl⟩ : ∃ lt : Nat, lots = (lt : Int) := ⟨lots.toNat, by omega⟩
          have hfit := Lib.hid (fitOk_yes (p := p) (fit := fitL (mOf lt size l)) fun j a b h1 h2 h3 => IV.out j a b (by have := (List.getElem?_eq_some_iff.1 h1).1; have := HL2.out; omega) h1 h2 h3)
          have HFF := Lib.hid (show [fl lt size 0, fl lt size 1, fl lt size 2] = fullF lt size from rfl)
          have hlt3 : lt ≤ 3 := by omega
          clear e1 e2 e3 IV b0 b1 b2 bf bl t0 t1 t2 t3 tf tl d0 d1 d2 d3 df dl g0 g1 g2 gf gl
          generalize hc1 : inLot p 1 = i1 at *
          generalize hc2 : inLot p 2 = i2 at *
          generalize hc3 : inLot p 3 = i3 at *
          have HCN := Lib.hid (show [inLot p 1, inLot p 2, inLot p 3] = [i1, i2, i3] by rw [hc1, hc2, hc3])
          clear hc1 hc2 hc3
          obtain ⟨F0, F1, F2, HFA, HFE⟩ : ∃ F0 F1 F2, Hid (∀ w, Calls Tryd.prog 107 #[valT (lt : Int) size (.slice A kk c) m] w fun e w' => e = .returned (valF F0 F1 F2) ∧ Ext w w') ∧ Hid ([F0, F1, F2] = fullF lt size) :=
            ⟨_, _, _, Lib.hid (fun w => full_at lt size A kk c m hlt3 w), HFF⟩
          obtain ⟨bq, HBQ⟩ : ∃ bq, Hid ((!decide ([i1, i2, i3] = [F0, F1, F2])) = bq) := ⟨_, Lib.hid rfl⟩
          have nq : ∀ W, (binOp .neq 172 (valF i1 i2 i3) (valF F0 F1 F2)).run Tryd.prog W = .ok (.bool bq) W := fun W => by rw [← HBQ.out]; exact neqF i1 i2 i3 F0 F1 F2 W
          have m0 := fun W (h : Ext wr W) => (S.out.ext h).f.c3
          have m1 := fun W (h : Ext wr W) => (S.out.ext h).tb.c4
          go_wp2
          refine wp_region_tame (fun W => Ext wr W) (fun W W' => Ext W W') (by kernel_rfl) 65 rfl (by decide +kernel) (Ext.refl _).drew ?_
          repeat (apply tame_q rfl; (intro ρ W hC hr hD; (obtain ⟨hrc, hrg, hrf, hrs⟩ := hr); (simp [go_sem] at hD); go_simp; first | exact ⟨⟨hC, Ext.refl _⟩, rfl⟩ | exact ⟨⟨hC, RS.refl _⟩, rfl⟩ | exact rfl); simp only [List.nil_append, List.cons_append])
          apply tame_q rfl
          · intro ρ W hC hr hD
            obtain ⟨hrc, hrg, hrf, hrs⟩ := hr
            simp [go_sem] at hD
            go_simp
            refine (HFA.out W).mono ?_
            rintro e w' ⟨rfl, hE⟩
            exact ⟨_, rfl, ⟨hC.trans hE, hE⟩, rfl⟩
          simp only [List.nil_append, List.cons_append]
          repeat (apply tame_q rfl; (intro ρ W hC hr hD; (obtain ⟨hrc, hrg, hrf, hrs⟩ := hr); (simp [go_sem] at hD); go_simp; first | exact ⟨⟨hC, Ext.refl _⟩, rfl⟩ | exact ⟨⟨hC, RS.refl _⟩, rfl⟩ | exact rfl); simp only [List.nil_append, List.cons_append])
          refine tame_end_put rfl rfl (fun ρ W hC hr hF => ?_)
          simp [go_sem] at hF
          simp only [putF, hF, List.set_cons_succ, List.set_cons_zero]
          clear hF hr
          have S2 := Lib.hid (S.out.ext hC); have MP2 := Lib.hid (MP.out.ext hC)
          clear hC m0 m1 nq S MP
          obtain ⟨t0, t1, t2, t3, tf, tl⟩ := S2.out.t.c4
          obtain ⟨d0, d1, d2, d3, df, dl⟩ := S2.out.tb.c4
          cases bq
          · have HO := Lib.hid (okPlan_yes (m := mOf lt size l) (p := p) (by simp; have := HL.out; have := HL2.out; omega) HI.out hfit.out (by rw [HCN.out]; have := HBQ.out; simp only [Bool.not_eq_false', decide_eq_true_eq] at this; rw [this, HFE.out]; rfl))
            go_wp2
            refine ret_set4 S2.out.t fun W' ⟨z0, z1, z2, z3⟩ hW => ?_
            refine bodyPost_ret (v := .tuple #[valT lt size (.slice A kk c) m, .int .i64 0]) (by simp only [results, Tryd.results52]; simp [go_sem, z0, z1, z2, z3]) rfl ?_
            exact ⟨⟨_, by rw [judgeE_ok HC.out HO.out], .inl ⟨judgeE_ok HC.out HO.out, m, nn, rfl, MP2.out.at_ (hW.block m MP2.out.lt (by simp; omega))⟩⟩, ext_grownP S2.out.e hW (by omega)⟩
          · have HO := Lib.hid (okPlan_cnt (m := mOf lt size l) (p := p) (by rw [HCN.out]; have := HBQ.out; simp only [Bool.not_eq_true', decide_eq_false_iff_not] at this; rw [HFE.out] at this; exact this))
            go_wp2
            refine ret_set4 (S2.out.t) fun W' ⟨z0, z1, z2, z3⟩ hW => ?_
            refine bodyPost_ret (v := .tuple #[.agg #[.int .i64 0, .int .i64 0, .slice none 0 0, .map none], .int .i64 (91)]) (by simp only [results, Tryd.results52]; simp [go_sem, z0, z1, z2, z3]) rfl ?_
            exact ⟨⟨_, by rw [judgeE_bad HC.out HO.out], .inr ⟨by rw [judgeE_bad HC.out HO.out]; decide, rfl⟩⟩, ext_grownP (S2.out.e) hW (by omega)⟩
  · have HN := Lib.hid (okPlan_len (m := mOf lots size l) (p := p) (by simp; have := HL.out; have := HL2.out; omega))
    go_wp2
    refine ret_set4A T2.out fun W' ⟨z0, z1, z2, z3⟩ hW => ?_
    refine bodyPost_ret (v := .tuple #[.agg #[.int .i64 0, .int .i64 0, .slice none 0 0, .map none], .int .i64 (91)]) (by simp only [results, Tryd.results52]; simp [go_sem, z0, z1, z2, z3]) rfl ?_
    exact ⟨⟨_, by rw [judgeE_bad HC.out HN.out], .inr ⟨by rw [judgeE_bad HC.out HN.out]; decide, rfl⟩⟩, ext_grownP (E2.out) hW (by omega)⟩
end Go.Proofs.YtkpengeaolcjhaaDoor
/- mill's exchanges: the sequence is made. -/
namespace Go.Proofs.YtkpengeaolcjhaaDoor
open Go.RowKit Go.Shelf Go.Lib
set_option maxRecDepth 100000
set_option linter.unusedSimpArgs false

set_option maxHeartbeats 2000000 in
theorem exchanges_any (lt : Nat) (size : Int) (l : List Rc) (p : List Int) (A A2 : Option Addr) (n c n2 c2 m : Nat) (w : World) (hm : Mok (mOf lt size l)) (hs : SlC w (.slice A n c) l) (hp : SlI w (.slice A2 n2 c2) p) (hpo : POk lt l.length p) :
    Calls Tryd.prog 58 #[valT (lt : Int) size (.slice A n c) m, .slice A2 n2 c2] w fun e w' => (∃ bu, e = .returned (.func (.func 108) #[] #[.pointer (some ⟨w.heap.size + 1, 0, none⟩), .pointer (some ⟨w.heap.size, 0, none⟩), .pointer (some ⟨bu, 0, none⟩)]) ∧ w.heap.size + 1 < bu ∧
      Blk w' w.heap.size 87 #[.int .i64 (lt : Int), .int .i64 size, .slice A n c, .map (some m)] ∧ Blk w' (w.heap.size + 1) 27 #[.slice A2 n2 c2] ∧ Blk w' bu 99 #[.int .i64 (unev (mOf lt size l) p).1, .int .i64 (unev (mOf lt size l) p).2]) ∧ Ext w w' := by
  have hmf := hmf Tryd.prog
  have HS := Lib.hid hs; have HP := Lib.hid hp; have HM := Lib.hid hm; have HPO := Lib.hid hpo
  clear hs hp hm hpo
  go_enter Tryd.func58, Tryd.ntmps58
  go_wp2_with fail
  obtain ⟨w2, hw2⟩ : ∃ w2, w2 = (w.alloc (.cells #[.int .i64 (lt : Int), .int .i64 size, .slice A n c, .map (some m)] 87)).alloc (.cells #[.slice A2 n2 c2] 27) := ⟨_, rfl⟩
  rw [← hw2]
  have E2 := Lib.hid (show Ext w w2 from hw2 ▸ (Ext.al _ _).alloc _)
  have B0 := Lib.hid (show Blk w2 w.heap.size 87 #[.int .i64 (lt : Int), .int .i64 size, .slice A n c, .map (some m)] from hw2 ▸ (Blk.new _ _ _).alloc _)
  have B1 := Lib.hid (show Blk w2 (w.heap.size + 1) 27 #[.slice A2 n2 c2] from hw2 ▸ Blk.at_ (by simp))
  clear hw2
  refine (of_any lt size l p _ _ (some m) _ HM.out (HS.out.ext E2.out) (HP.out.ext E2.out) HPO.out).mono ?_
  rintro e w3 ⟨rfl, hE⟩
  have E3 := Lib.hid (E2.out.trans hE)
  have K0 := Lib.hid (B0.out.ext hE); have K1 := Lib.hid (B1.out.ext hE)
  clear hE E2 B0 B1
  obtain ⟨u, hu⟩ : ∃ u, unev (mOf lt size l) p = u := ⟨_, rfl⟩
  rw [hu]
  have HU := Lib.hid hu
  clear hu
  go_wp2
  go_ret
  exact ⟨⟨w3.heap.size, rfl, K1.out.lt, K0.out.alloc _, K1.out.alloc _, by rw [HU.out]; exact Blk.new _ _ _⟩, E3.out.alloc _⟩
end Go.Proofs.YtkpengeaolcjhaaDoor
/- A number is put into a list of the call's own. -/
namespace Go.Proofs.YtkpengeaolcjhaaDoor
open Go.RowKit Go.Shelf
set_option linter.unusedSimpArgs false

/-- The list lies in the block g, whose cells are known. -/
structure OwB (g : Nat) (cap : Nat) (l : List Int) (W : World) : Prop where
  blk : ∃ cur : Array Value, Blk W g 3 cur ∧ cur.size = cap ∧ cur.toList.take l.length = l.flatMap encI
  le : l.length ≤ cap
  mx : cap ≤ maxLen
theorem OwB.of {base : Nat} {v : Value} {l : List Int} {W : World} (h : Own encI 3 1 W base v l) (h0 : 0 < l.length) : ∃ g cap, v = .slice (some ⟨g, 0, none⟩) l.length cap ∧ base ≤ g ∧ OwB g cap l W := by
  rcases own_form h with ⟨-, rfl⟩ | ⟨g, cap, cur, rfl, hb, hh, h1, h2, h3, h4⟩
  · simp at h0
  · exact ⟨g, cap, rfl, hb, ⟨cur, hh, h3, h4⟩, h1, h2⟩
theorem flat_encI : ∀ (l : List Int), l.flatMap encI = l.map (Value.int .i64)
  | [] => rfl
  | x :: l => by rw [List.flatMap_cons, flat_encI l]; rfl
theorem OwB.set {g cap i : Nat} {l : List Int} {W : World} (h : OwB g cap l W) (y : Int) : OwB g cap (l.set i y) (W.setCell ⟨g, i, none⟩ (.int .i64 y)) := by
  obtain ⟨⟨cur, hB, hc, ht⟩, hle, hmx⟩ := h
  refine ⟨⟨_, hB.set_ i (.int .i64 y), by simp [hc], ?_⟩, by simpa using hle, hmx⟩
  rw [flat_encI] at ht ⊢
  rw [List.length_set, List.map_set, ← ht]
  simp [List.take_set]
theorem OwB.far {g cap b i : Nat} {l : List Int} {W : World} (h : OwB g cap l W) (hb : g ≠ b) (u : Value) : OwB g cap l (W.setCell ⟨b, i, none⟩ u) := by
  obtain ⟨⟨cur, hB, hc, ht⟩, hle, hmx⟩ := h
  exact ⟨⟨cur, hB.far (by simpa using hb) u, hc, ht⟩, hle, hmx⟩
theorem OwB.ext {g cap : Nat} {l : List Int} {W W' : World} (h : OwB g cap l W) (e : Ext W W') : OwB g cap l W' := by
  obtain ⟨⟨cur, hB, hc, ht⟩, hle, hmx⟩ := h
  exact ⟨⟨cur, hB.ext e, hc, ht⟩, hle, hmx⟩
theorem OwB.sl {g cap : Nat} {l : List Int} {W : World} (h : OwB g cap l W) : SlI W (.slice (some ⟨g, 0, none⟩) l.length cap) l := by
  obtain ⟨⟨cur, hB, hc, ht⟩, hle, hmx⟩ := h
  refine ⟨_, cap, rfl, hle, hmx, fun _ => ⟨g, 0, rfl, hB.lt, fun k x hk j u hu => ?_⟩⟩
  match j, hu with
  | 0, hu =>
    simp at hu
    subst hu
    have h1 := hB.cell k
    have h2 : (l.flatMap encI)[k]? = some (.int .i64 x) := by rw [flat_encI, List.getElem?_map, hk]; rfl
    have hkl := (List.getElem?_eq_some_iff.1 hk).1
    rw [← ht, List.getElem?_take, if_pos hkl] at h2
    simp only [Nat.zero_add, Nat.mul_one, Nat.add_zero]
    rw [h1]
    simpa using h2
  | j + 1, hu => simp at hu
theorem OwB.cell {g cap k : Nat} {l : List Int} {W : World} {x : Int} (h : OwB g cap l W) (hk : l[k]? = some x) : W.cell? ⟨g, k, none⟩ = some (.int .i64 x) ∧ W.frozen? ⟨g, k, none⟩ = false ∧ g < W.heap.size := by
  obtain ⟨⟨cur, hB, hc, ht⟩, hle, hmx⟩ := h
  refine ⟨?_, hB.frozen k, hB.lt⟩
  have h2 : (l.flatMap encI)[k]? = some (.int .i64 x) := by rw [flat_encI, List.getElem?_map, hk]; rfl
  have hkl := (List.getElem?_eq_some_iff.1 hk).1
  rw [← ht, List.getElem?_take, if_pos hkl] at h2
  rw [hB.cell k]
  simpa using h2
theorem OwB.make {n : Nat} (hn : n ≤ maxLen) (W : World) : OwB W.heap.size n (List.replicate n 0) (W.alloc (.cells (Array.replicate n (Value.int .i64 0)) 3)) := by
  refine ⟨⟨_, Blk.new _ _ _, by simp, ?_⟩, by simp, hn⟩
  rw [flat_encI]
  simp
end Go.Proofs.YtkpengeaolcjhaaDoor
/- The reference's sums of lots. -/
namespace Go.Proofs.YtkpengeaolcjhaaDoor
open Go.RowKit Go.Shelf Go.Lib
set_option maxRecDepth 100000
set_option linter.unusedSimpArgs false

theorem run_makeIM {n : Nat} (hn : n ≤ 1000) (w : World) : (Instr.makeSlice 27 (.int .i64 (n : Int)) (.int .i64 (n : Int))).run Tryd.prog w = .ok (.slice (some ⟨w.heap.size, 0, none⟩) n n) (w.alloc (.cells (Array.replicate n (Value.int .i64 0)) 3)) := by
  obtain ⟨i0, hi, hz0, hz1, hz2⟩ := info_parts info3x
  have h := run_make (P := Tryd.prog) w 27 3 i0 (.int .i64 0) Tryd.underlying27 hi hz0 .i64 .i64 (n : Int) (n : Int) (by omega) (Int.le_refl _) (by rw [hz2]; omega) (by omega)
  rw [h, hz1]
  have e : madeCells (Value.int .i64 0).cells ((n : Int).toNat * 1) = Array.replicate n (Value.int .i64 0) := by
    apply Array.ext
    · simp [madeCells]
    · intro i h1 h2
      simp [madeCells, Value.cells, Nat.mod_one]
  rw [e]
  rfl
theorem sumAt_snoc {p v : List Int} {a x lot : Int} (h : p.length = v.length) : sumAt (p ++ [a]) (v ++ [x]) lot = sumAt p v lot + (if a = lot then x else 0) := by
  unfold sumAt
  rw [lotL_snoc h]
  split
  · rw [List.sum_append]; simp
  · simp
/-- The reference's sums of the first bales: of those that are left, and of all lots. -/
def sumsR (lt : Nat) (p v : List Int) (k : Nat) : List Int := (List.range (lt + 1)).map fun (j : Nat) => sumAt (p.take k) (v.take k) (j : Int)
theorem sumsR_at {lt : Nat} {p v : List Int} {k i : Nat} (h : i ≤ lt) : (sumsR lt p v k)[i]? = some (sumAt (p.take k) (v.take k) (i : Int)) := by
  unfold sumsR
  rw [List.getElem?_map, List.getElem?_range (by omega)]
  rfl
theorem sumsR_len (lt : Nat) (p v : List Int) (k : Nat) : (sumsR lt p v k).length = lt + 1 := by unfold sumsR; simp
theorem sumsR_zero (lt : Nat) (p v : List Int) : sumsR lt p v 0 = List.replicate (lt + 1) 0 := by
  apply List.ext_getElem?
  intro j
  by_cases hj : j ≤ lt
  · rw [sumsR_at hj, List.getElem?_replicate, if_pos (by omega)]
    simp [sumAt, lotL]
  · rw [List.getElem?_eq_none (by rw [sumsR_len]; omega), List.getElem?_eq_none (by simp; omega)]
theorem sumsR_succ {lt : Nat} {p v : List Int} {k i : Nat} {a x : Int} (ha : p[k]? = some a) (hx : v[k]? = some x) (h : a = (i : Int)) : sumsR lt p v (k + 1) = (sumsR lt p v k).set i (sumAt (p.take k) (v.take k) (i : Int) + x) := by
  have h1 := (List.getElem?_eq_some_iff.1 ha).1
  have h2 := (List.getElem?_eq_some_iff.1 hx).1
  apply List.ext_getElem?
  intro j
  rw [List.getElem?_set]
  by_cases hj : j ≤ lt
  · rw [sumsR_at hj, sumsR_at hj, List.take_add_one, ha, List.take_add_one, hx]
    show some (sumAt (p.take k ++ [a]) (v.take k ++ [x]) _) = _
    rw [sumAt_snoc (by rw [List.length_take, List.length_take]; omega)]
    by_cases e : i = j
    · subst e
      rw [if_pos h, if_pos rfl, if_pos (by rw [sumsR_len]; omega)]
    · rw [if_neg (by omega), if_neg e, Int.add_zero]
  · rw [List.getElem?_eq_none (by rw [sumsR_len]; omega), List.getElem?_eq_none (by rw [sumsR_len]; omega)]
    split
    · rw [if_neg (by rw [sumsR_len]; omega)]
    · rfl
theorem sumsR_full {lt : Nat} {p v : List Int} {k : Nat} (h1 : p.length ≤ k) (h2 : v.length ≤ k) : sumsR lt p v k = (List.range (lt + 1)).map fun (j : Nat) => sumAt p v (j : Int) := by
  unfold sumsR
  rw [List.take_of_length_le h1, List.take_of_length_le h2]
/-- The reference's sums. -/
abbrev sumsF (lt : Nat) (p v : List Int) : List Int := (List.range (lt + 1)).map fun (j : Nat) => sumAt p v (j : Int)

set_option maxHeartbeats 4000000 in
theorem sums_any (lt : Nat) (size : Int) (l : List Rc) (p : List Int) (sv pv : Value) (w : World) (hm : Mok (mOf lt size l)) (hs : SlC w sv l) (hp : SlI w pv p) (hpo : POk lt l.length p) :
    Calls Tryd.prog 70 #[valM (lt : Int) size sv, pv] w fun e w' => (∃ g, e = .returned (.slice (some ⟨g, 0, none⟩) (lt + 1) (lt + 1)) ∧ w.heap.size ≤ g ∧ SlI w' (.slice (some ⟨g, 0, none⟩) (lt + 1) (lt + 1)) (sumsF lt p (l.map (·.c.len)))) ∧ Ext w w' := by
  have HS := Lib.hid hs; have HP := Lib.hid hp; have HPO := Lib.hid hpo
  obtain ⟨A, n, c, rfl, hn, hlc, hcm⟩ := hs.form
  obtain ⟨A2, n2, c2, rfl, hn2, hlc2, hcm2⟩ := hp.form
  have hl3 : lt ≤ 3 := by have h : (lt : Int) ≤ 3 := hm.l3; omega
  have hn7 : n2 ≤ 7 := by have h := hm.n7; simp at h; have := hpo.len; have := hn2.out; omega
  have HL := Lib.hid (show n = n2 by have := hn.out; have := hn2.out; have := hpo.len; omega)
  have HLL := Lib.hid (show l.length = n2 by have := hn2.out; have := hpo.len; omega)
  have HPL := Lib.hid (show p.length = n2 by have := hn2.out; omega)
  have HLB := Lib.hid (show ∀ x ∈ l.map (·.c.len), 0 ≤ x ∧ x ≤ 999 from fun x hx => by
    rw [List.mem_map] at hx
    obtain ⟨y, hy, rfl⟩ := hx
    have := hm.len y.c (List.mem_map_of_mem hy); omega)
  have rm := fun w => (show (Instr.makeSlice 27 (.int .i64 ((lt : Int) + 1)) (.int .i64 ((lt : Int) + 1))).run Tryd.prog w = .ok (.slice (some ⟨w.heap.size, 0, none⟩) (lt + 1) (lt + 1)) (w.alloc (.cells (Array.replicate (lt + 1) (Value.int .i64 0)) 3)) from run_makeIM (n := lt + 1) (by omega) w)
  have hw1 : IntKind.i64.wrap ((lt : Int) + 1) = (lt : Int) + 1 := by rw [IntKind.wrap_i64]; omega
  clear hs hp hpo hn hn2 hm
  go_enter Tryd.func70, Tryd.ntmps70
  go_wp2
  obtain ⟨w4, hw4⟩ : ∃ w4, w4 = (w.alloc (.cells #[.int .i64 (lt : Int), .int .i64 size, .slice A n c] 24)).alloc (.cells (Array.replicate (lt + 1) (Value.int .i64 0)) 3) := ⟨_, rfl⟩
  rw [← hw4]
  have B0 := Lib.hid (show Blk w4 w.heap.size 24 #[.int .i64 (lt : Int), .int .i64 size, .slice A n c] from hw4 ▸ (Blk.new _ _ _).alloc _)
  have O0 := Lib.hid (show OwB (w.heap.size + 1) (lt + 1) (sumsR lt p (l.map (·.c.len)) 0) w4 by
    rw [hw4, sumsR_zero]
    have := OwB.make (n := lt + 1) (by unfold maxLen; omega) (w.alloc (.cells #[.int .i64 (lt : Int), .int .i64 size, .slice A n c] 24))
    simpa using this)
  have E0 := Lib.hid (show Ext w w4 from hw4 ▸ (Ext.al _ _).alloc _)
  clear hw4 rm
  go_loopg [14] n2 (fun gg s wr => ∃ k : Nat, k ≤ n2 ∧ n2 - k ≤ gg ∧ s = .int .i64 (k : Int) ∧ Aside (OwB (w.heap.size + 1) (lt + 1) (sumsR lt p (l.map (·.c.len)) k) wr) ∧ Aside (Ext w wr) ∧ Aside (Blk wr w.heap.size 24 #[.int .i64 (lt : Int), .int .i64 size, .slice A n c]))
  case atStart => exact ⟨0, by omega, by omega, by simp, O0.out, E0.out, B0.out⟩
  case round =>
    obtain ⟨k, hk, hgg, rfl, OQ, EQ, BQ⟩ := hrel
    clear O0 E0 B0
    by_cases hlt : k < n2
    · have hltz : (k : Int) < (n2 : Int) := by omega
      have hltn : (k : Int) < (n : Int) := by have := HL.out; omega
      obtain ⟨b, off, x, rfl, hx, hb, hcell⟩ := HS.out.at_ (show k < n by have := HL.out; omega)
      obtain ⟨bp, offp, a, rfl, ha, hbp, hcellp⟩ := HP.out.at_ hlt
      have har := HPO.out.rng a (List.mem_of_getElem? ha)
      obtain ⟨i, rfl⟩ : ∃ i : Nat, a = (i : Int) := ⟨a.toNat, by omega⟩
      have hil : i ≤ lt := by omega
      have hiz : (i : Int) < (lt : Int) + 1 := by omega
      have hxn : (l.map (·.c.len))[k]? = some x.c.len := by rw [List.getElem?_map, hx]; rfl
      have HSU := Lib.hid (sumsR_succ (lt := lt) ha hxn rfl)
      have hsa := sumAt_bd (p := p.take k) (vals := (l.map (·.c.len)).take k) (lot := (i : Int)) (by rw [List.length_take]; have := HPL.out; omega) (fun y hy => HLB.out y (List.mem_of_mem_take hy))
      have hxb := HLB.out x.c.len (List.mem_of_getElem? hxn)
      have hsq := sumsR_at (lt := lt) (p := p) (v := l.map (·.c.len)) (k := k) hil
      generalize sumAt (p.take k) ((l.map (·.c.len)).take k) (i : Int) = z at HSU hsa hsq
      have hcs := OQ.out.cell hsq
      have HSQ := Lib.hid hsq
      have hwz : IntKind.i64.wrap (z + x.c.len) = z + x.c.len := by rw [IntKind.wrap_i64]; omega
      have HCS := Lib.hid hcs
      have q0 := SlI.cell hcellp EQ.out
      have m0 := fun V (h : Ext wr V) => (BQ.out.ext h).c3.2.2.1
      have m1 := fun V (h : Ext wr V) => h.cell1 HCS.out.1
      have m2 := fun V (h : Ext wr V) => (SlC.cells hcell (EQ.out.trans h)).2.2.2.2.2.2.1
      clear hcs hsq hx ha hcell hcellp hxn har hsa hxb hb hbp
      go_wp2_with fail
      refine wp_region_tame_cut (fun V => Ext wr V) (fun V V' => Ext V V') (by kernel_rfl) 33 rfl _ rfl (by decide +kernel) (by decide +kernel) (by decide +kernel) rfl (Ext.refl _).drew ?_
      simp only [List.dropLast]
      repeat (apply tame_q rfl; (intro ρ W hC hr hD; (obtain ⟨hrc, hrg, hrf, hrs⟩ := hr); (simp [go_sem] at hD); go_simp; first | exact ⟨⟨hC, Ext.refl _⟩, rfl⟩ | exact ⟨⟨hC, RS.refl _⟩, rfl⟩ | exact rfl); simp only [List.nil_append, List.cons_append])
      refine tame_end 33 rfl rfl (fun ρ W hC hr hF => ?_)
      obtain ⟨hrc, hrg, hrf, hrs⟩ := hr
      simp [go_sem] at hF
      apply frame_to
      · go_simp
        exact rfl
      clear hF hrs hrc hrg hrf
      have OW := Lib.hid (OQ.out.ext hC); have EW := Lib.hid (EQ.out.trans hC); have BW := Lib.hid (BQ.out.ext hC)
      obtain ⟨c0, cf, cl⟩ := OW.out.cell HSQ.out
      have HLT := Lib.hid (show w.heap.size < w.heap.size + 1 by omega)
      clear m0 m1 m2 hC
      go_wp2
      go_roundg (n2 - (k + 1))
      case measure => omega
      case rel => exact ⟨k + 1, by omega, by omega, by simp, by rw [HSU.out]; exact OW.out.set _, EW.out.setCell (by dsimp only; omega) _, BW.out.far (by dsimp only; omega) _⟩
    · have hke : k = n2 := by omega
      subst hke
      have HF := Lib.hid (sumsR_full (lt := lt) (p := p) (v := l.map (·.c.len)) (k := k) (by have := HPL.out; omega) (by rw [List.length_map]; have := HLL.out; omega))
      have HSL := Lib.hid (show SlI wr (.slice (some ⟨w.heap.size + 1, 0, none⟩) (lt + 1) (lt + 1)) (sumsF lt p (l.map (·.c.len))) by
        have h := OQ.out.sl
        rw [HF.out] at h
        simpa using h)
      go_wp2
      go_ret
      exact ⟨⟨_, rfl, by omega, HSL.out⟩, EQ.out⟩
end Go.Proofs.YtkpengeaolcjhaaDoor
/- The reference's runs: a call with all lots in order. -/
namespace Go.Proofs.YtkpengeaolcjhaaDoor
open Go.RowKit Go.Shelf Go.Lib
set_option maxRecDepth 100000
set_option linter.unusedSimpArgs false

abbrev RnT := Option (List Int) × Int
def runP (f : Int → Int) (n k : Nat) (pre : List Int) (s : RnT) : RnT := (runsF n k pre).foldl (runStep f) s
def runPk (f : Int → Int) (n k : Nat) (pre : List Int) (s : RnT) (j : Nat) : RnT := (rnk n k pre j).foldl (runStep f) s
theorem runPk_succ (f : Int → Int) (n k : Nat) (pre : List Int) (s : RnT) (j : Nat) : runPk f n k pre s (j + 1) = if pre.contains ((j : Int) + 1) then runPk f n k pre s j else runP f n k (pre ++ [(j : Int) + 1]) (runPk f n k pre s j) := by
  unfold runPk
  rw [rnk_succ, List.foldl_append]
  split <;> rfl
theorem runP_succ (f : Int → Int) (n k : Nat) (pre : List Int) (s : RnT) : runP f n (k + 1) pre s = runPk f n k pre s n := rfl
theorem runP_zero (f : Int → Int) (n : Nat) (pre : List Int) (s : RnT) : runP f n 0 pre s = runStep f s pre := rfl
theorem runStep_yes {f : Int → Int} {s : RnT} {x : List Int} (h : s.1 = none ∨ stepL f x < s.2) : runStep f s x = (some x, stepL f x) := by
  unfold runStep
  rcases h with h | h
  · rw [h]; rfl
  · rw [decide_eq_true h, Bool.or_true]; rfl
theorem runStep_no {f : Int → Int} {s : RnT} {x b : List Int} (h : s.1 = some b) (h2 : ¬ stepL f x < s.2) : runStep f s x = s := by
  unfold runStep
  rw [h, decide_eq_false h2]
  rfl
/-- A list that lies outside of two blocks. -/
def SlP (g : Nat) (W : World) (v : Value) (p : List Int) : Prop := SlI W v p ∧ ∀ b o n c, v = .slice (some ⟨b, o, none⟩) n c → 0 < p.length → g + 2 ≤ b
theorem SlP.gap {g : Nat} {W W' : World} {v : Value} {p : List Int} (h : SlP g W v p) (k : Gap g (g + 2) W W') : SlP g W' v p := by
  obtain ⟨A, n, c, rfl, -, -, -⟩ := h.1.form
  exact ⟨h.1.gap k fun h0 b o e => .inr (h.2 b o n c (by rw [e]) h0), h.2⟩
theorem SlP.ext {g : Nat} {W W' : World} {v : Value} {p : List Int} (h : SlP g W v p) (k : Ext W W') : SlP g W' v p := ⟨h.1.ext k, h.2⟩
theorem SlP.nil (g : Nat) (W : World) : SlP g W (.slice none 0 0) [] := ⟨Sl.nil W, fun b o n c e h => by simp at h⟩
theorem SlP.own {g base : Nat} {W : World} {v : Value} {p : List Int} (h : Own encI 3 1 W base v p) (hb : g + 2 ≤ base) : SlP g W v p := by
  refine ⟨h.sl (fun _ => rfl), fun b o n c e h0 => ?_⟩
  rcases own_formG h with ⟨-, h1⟩ | ⟨g', cap, cur, h1, h3, -⟩
  · rw [h1] at h0; simp at h0
  · rw [h1] at e; injection e with e; injection e with e; injection e with e; omega
theorem SlP.some {g : Nat} {W : World} {v : Value} {p : List Int} (h : SlP g W v p) (h0 : 0 < p.length) : ∃ b o n c, v = .slice (some ⟨b, o, none⟩) n c := by
  obtain ⟨A, c, hv, -, -, hx⟩ := h.1
  obtain ⟨b, off, hA, -⟩ := hx h0
  exact ⟨b, off, _, c, by rw [hv, hA]⟩
/-- The two blocks in which the best is kept. -/
structure Rk (g : Nat) (s : RnT) (W : World) : Prop where
  best : ∃ v, Blk W g 27 #[v] ∧ ((s.1 = none ∧ v = .slice none 0 0) ∨ ∃ l b o n c, s.1 = some l ∧ v = .slice (some ⟨b, o, none⟩) n c ∧ SlP g W v l)
  least : Blk W (g + 1) 3 #[.int .i64 s.2]
theorem Rk.ext {g : Nat} {s : RnT} {W W' : World} (h : Rk g s W) (k : Ext W W') : Rk g s W' := by
  obtain ⟨⟨v, h1, h2⟩, h3⟩ := h
  refine ⟨⟨v, h1.ext k, ?_⟩, h3.ext k⟩
  rcases h2 with h2 | ⟨l, b, o, n, c, e1, e2, h2⟩
  · exact .inl h2
  · exact .inr ⟨l, b, o, n, c, e1, e2, h2.ext k⟩
theorem Rk.put {g : Nat} {s : RnT} {W : World} (h : Rk g s W) {b o n c : Nat} {p : List Int} (hp : SlP g W (.slice (some ⟨b, o, none⟩) n c) p) (y : Int) :
    Rk g (some p, y) ((W.setCell ⟨g, 0, none⟩ (.slice (some ⟨b, o, none⟩) n c)).setCell ⟨g + 1, 0, none⟩ (.int .i64 y)) ∧ Gap g (g + 2) W ((W.setCell ⟨g, 0, none⟩ (.slice (some ⟨b, o, none⟩) n c)).setCell ⟨g + 1, 0, none⟩ (.int .i64 y)) := by
  obtain ⟨⟨v, h1, -⟩, h3⟩ := h
  have hG : Gap g (g + 2) W ((W.setCell ⟨g, 0, none⟩ (.slice (some ⟨b, o, none⟩) n c)).setCell ⟨g + 1, 0, none⟩ (.int .i64 y)) := ((Gap.refl _ _ _).setCell (by dsimp only; omega) (by dsimp only; omega) _).setCell (by dsimp only; omega) (by dsimp only; omega) _
  refine ⟨⟨⟨_, ?_, .inr ⟨p, b, o, n, c, rfl, rfl, hp.gap hG⟩⟩, ?_⟩, hG⟩
  · have := (h1.set_ 0 (.slice (some ⟨b, o, none⟩) n c)).far (p := ⟨g + 1, 0, none⟩) (by dsimp only; omega) (.int .i64 y)
    simpa using this
  · have := (h3.far (p := ⟨g, 0, none⟩) (by dsimp only; omega) (.slice (some ⟨b, o, none⟩) n c)).set_ 0 (.int .i64 y)
    simpa using this
/-- What a call of runs does. -/
def RunsC (n : Nat) (f : Int → Int) (g gs k : Nat) : Prop :=
  ∀ (pre : List Int) (pv : Value) (s : RnT) (W : World), pre.length + k = n → (∀ y ∈ pre, 1 ≤ y ∧ y ≤ (n : Int)) → SlP g W pv pre → SlI W (.slice (some ⟨gs, 0, none⟩) (n + 1) (n + 1)) ((List.range (n + 1)).map fun (j : Nat) => f (j : Int)) → g + 2 ≤ gs → Rk g s W →
    Calls Tryd.prog 69 #[.slice (some ⟨gs, 0, none⟩) (n + 1) (n + 1), pv, .int .i64 (stepL f pre), .pointer (some ⟨g, 0, none⟩), .pointer (some ⟨g + 1, 0, none⟩)] W
      fun e W' => (∃ v, e = .returned v) ∧ Rk g (runP f n k pre s) W' ∧ Gap g (g + 2) W W'
set_option maxHeartbeats 4000000 in
theorem runs_leaf {n g gs : Nat} {f : Int → Int} (hn1 : 1 ≤ n) (hn3 : n ≤ 3) : RunsC n f g gs 0 := by
  intro pre pv s w hlen hr hp hs hgs hk
  have HK := Lib.hid hk; have HP := Lib.hid hp
  have HRZ := Lib.hid (runP_zero f n pre s)
  obtain ⟨b, o, np, c, rfl⟩ := hp.some (by omega)
  obtain rfl : np = n := by obtain ⟨A', c', e, -⟩ := hp.1; injection e with _ e; omega
  have hw1 : IntKind.i64.wrap (((np : Int) + 1) - 1) = (np : Int) := by rw [IntKind.wrap_i64]; omega
  have hw2 : IntKind.i64.wrap (np : Int) = (np : Int) := by rw [IntKind.wrap_i64]; omega
  obtain ⟨⟨v, hb, hv⟩, hl⟩ := hk
  obtain ⟨x0, xf, xl⟩ := hb.c1
  obtain ⟨y0, yf, yl⟩ := hl.c1
  clear hr hp hs hb hl
  generalize hst : stepL f pre = st at *
  have HST := Lib.hid hst
  clear hst
  rcases hv with ⟨hv1, rfl⟩ | ⟨lb, b2, o2, n2, c2, hv1, rfl, hv2⟩
  · have HY := Lib.hid (runStep_yes (f := f) (s := s) (x := pre) (.inl hv1))
    have HR := Lib.hid (HK.out.put HP.out st)
    clear hv1
    go_enter Tryd.func69, Tryd.ntmps69
    go_wp2
    refine bodyPost_ret (results_none rfl _ _ _) rfl ?_
    exact ⟨⟨_, rfl⟩, by rw [HRZ.out, HY.out, HST.out]; exact HR.out.1, HR.out.2⟩
  · by_cases hlt : st < s.2
    · have HY := Lib.hid (runStep_yes (f := f) (s := s) (x := pre) (.inr (by rw [HST.out]; exact hlt)))
      have HR := Lib.hid (HK.out.put HP.out st)
      clear hv1 hv2
      go_enter Tryd.func69, Tryd.ntmps69
      go_wp2
      refine bodyPost_ret (results_none rfl _ _ _) rfl ?_
      exact ⟨⟨_, rfl⟩, by rw [HRZ.out, HY.out, HST.out]; exact HR.out.1, HR.out.2⟩
    · have HY := Lib.hid (runStep_no (f := f) (s := s) (x := pre) hv1 (by rw [HST.out]; exact hlt))
      clear hv1 hv2
      go_enter Tryd.func69, Tryd.ntmps69
      go_wp2
      refine bodyPost_ret (results_none rfl _ _ _) rfl ?_
      exact ⟨⟨_, rfl⟩, by rw [HRZ.out, HY.out]; exact HK.out, Gap.refl _ _ _⟩
end Go.Proofs.YtkpengeaolcjhaaDoor
