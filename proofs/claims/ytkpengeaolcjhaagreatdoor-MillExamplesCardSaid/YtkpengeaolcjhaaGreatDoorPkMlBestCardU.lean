/- Exchanges of a plan: plain. -/
import Derived.Test.YtkpengeaolcjhaaGreatDoorPkMlBestCardT
import Derived.Test.YtkpengeaolcjhaaGreatDoorPkMlBestCardQ
import Derived.Test.YtkpengeaolcjhaaGreatDoorPkMlBestCardS
import Derived.Test.YtkpengeaolcjhaaGreatDoorPkMlBestCardE
import Derived.Test.YtkpengeaolcjhaaGreatDoorPkMlBestCardN
import Derived.Test.YtkpengeaolcjhaaGreatDoorPkMlBestCardO
import Derived.Laws.StructEq
namespace Go.Proofs.YtkpengeaolcjhaaGreatDoor
open Go.RowKit Go.Shelf
set_option linter.unusedSimpArgs false

theorem inLot_set : ∀ (p : List Int) (i : Nat) (x a lot : Int), p[i]? = some x → inLot (p.set i a) lot + (if x = lot then 1 else 0) = inLot p lot + (if a = lot then 1 else 0)
  | [], i, x, a, lot, h => by simp at h
  | y :: p, 0, x, a, lot, h => by
    simp at h
    subst h
    rw [List.set_cons_zero, inLot_cons, inLot_cons]
    omega
  | y :: p, i + 1, x, a, lot, h => by
    rw [List.set_cons_succ, inLot_cons, inLot_cons]
    have := inLot_set p i x a lot (by simpa using h)
    omega
/-- The plan with a bale left, and one in its place. -/
def swapP (p : List Int) (i k : Nat) : List Int := (p.set i 0).set k (p[i]?.getD 0)
/-- The bales may be exchanged. -/
def mayX (m : Mll) (p : List Int) (i k : Nat) : Bool := !(decide (p[i]?.getD 0 = 0) || !decide (p[k]?.getD 0 = 0)) && (fitL m)[k]?.getD false
theorem swap_ok {m : Mll} {p : List Int} {i k : Nat} {a : Int} (ho : okPlan m p = true) (hi : p[i]? = some a) (ha : a ≠ 0) (hk : p[k]? = some 0) (hf : (fitL m)[k]? = some true) : okPlan m (swapP p i k) = true := by
  unfold okPlan at ho
  simp only [Bool.and_eq_true, decide_eq_true_eq] at ho
  obtain ⟨h1, h2, h3, h4⟩ := ho
  have hik : i ≠ k := by rintro rfl; rw [hi] at hk; injection hk with hk; exact ha hk
  have e : swapP p i k = (p.set i 0).set k a := by unfold swapP; rw [hi]; rfl
  have ar := inB_iff.1 (List.all_eq_true.1 h2 a (List.mem_of_getElem? hi))
  have hk2 : (p.set i 0)[k]? = some 0 := by rw [List.getElem?_set_ne hik]; exact hk
  have cnt : ∀ lot : Int, 1 ≤ lot → inLot (swapP p i k) lot = inLot p lot := by
    intro lot hl
    have c1 := inLot_set p i a 0 lot hi
    have c2 := inLot_set (p.set i 0) k 0 a lot hk2
    rw [if_neg (show ¬ (0 : Int) = lot by omega)] at c1 c2
    rw [e]
    omega
  refine okPlan_yes (by rw [e]; simpa using h1) ?_ ?_ (by rw [cnt 1 (by decide), cnt 2 (by decide), cnt 3 (by decide)]; exact h4)
  · rw [List.all_eq_true] at h2 ⊢
    intro x hx
    rw [e] at hx
    rcases List.mem_or_eq_of_mem_set hx with hx | rfl
    · rcases List.mem_or_eq_of_mem_set hx with hx | rfl
      · exact h2 x hx
      · exact inB_iff.2 ⟨by omega, by omega⟩
    · exact inB_iff.2 ar
  · refine fitOk_yes fun j x b hj hb hx => ?_
    rw [e] at hj
    by_cases hjk : j = k
    · subst hjk
      rw [hf] at hb
      injection hb with hb
      exact hb.symm
    · rw [List.getElem?_set_ne (Ne.symm hjk)] at hj
      by_cases hji : j = i
      · subst hji
        rw [List.getElem?_set_self (List.getElem?_eq_some_iff.1 hi).1] at hj
        injection hj with hj
        omega
      · rw [List.getElem?_set_ne (Ne.symm hji)] at hj
        unfold fitOk at h3
        have h5 := List.all_eq_true.1 h3 (x, b) (List.mem_of_getElem? (i := j) (by rw [List.getElem?_zip_eq_some]; exact ⟨hj, hb⟩))
        simpa [hx] using h5
/-! All exchanges in order: those that may be, with how uneven the plan is then. -/
abbrev Exg := Nat × Nat × (Int × Int)
def exAll (m : Mll) (p : List Int) : List Exg := (List.range p.length).flatMap fun i => (List.range p.length).flatMap fun k => if mayX m p i k then [(i, k, unev m (swapP p i k))] else []
/-- The program's: those that make the plan more even. -/
def exL (m : Mll) (p : List Int) : List Exg := (exAll m p).filter fun x => lessU x.2.2 (unev m p)
/-- The reference keeps the best one, and how uneven the plan is with it. -/
def exStep (s : Option Exg × (Int × Int)) (x : Exg) : Option Exg × (Int × Int) := if lessU x.2.2 s.2 then (some x, x.2.2) else s
def exR (m : Mll) (p : List Int) : Option Exg × (Int × Int) := (exAll m p).foldl exStep (none, unev m p)
theorem lessU_trans {a b c : Int × Int} (h1 : lessU a b = true) (h2 : lessU b c = true) : lessU a c = true := by
  unfold lessU at *
  simp only [Bool.or_eq_true, Bool.and_eq_true, decide_eq_true_eq] at *
  omega
theorem ex_eq (u0 : Int × Int) : ∀ (L : List Exg) (o : Option Exg) (u : Int × Int), (o = none → u = u0) → (∀ b, o = some b → u = b.2.2 ∧ lessU b.2.2 u0 = true) →
    (L.foldl exStep (o, u)).1 = (L.filter fun x => lessU x.2.2 u0).foldl (firstStep fun a b => lessU a.2.2 b.2.2) o
  | [], o, u, _, _ => rfl
  | x :: L, o, u, h0, h1 => by
    rw [List.foldl_cons, List.filter_cons]
    unfold exStep
    cases o with
    | none =>
      have hu := h0 rfl
      subst hu
      cases hl : lessU x.2.2 u with
      | true =>
        simp only [if_true, List.foldl_cons, firstStep]
        exact ex_eq u L _ _ (fun h => by cases h) (fun b hb => by injection hb with hb; subst hb; exact ⟨rfl, hl⟩)
      | false =>
        simp only [Bool.false_eq_true, if_false]
        exact ex_eq u L _ _ (fun _ => rfl) (fun b hb => by cases hb)
    | some b =>
      obtain ⟨hu, hb⟩ := h1 b rfl
      subst hu
      cases hl : lessU x.2.2 b.2.2 with
      | true =>
        have hx := lessU_trans hl hb
        rw [if_pos hx]
        simp only [if_true, List.foldl_cons, firstStep, hl]
        exact ex_eq u0 L _ _ (fun h => by cases h) (fun c hc => by injection hc with hc; subst hc; exact ⟨rfl, hx⟩)
      | false =>
        simp only [Bool.false_eq_true, if_false]
        cases hx : lessU x.2.2 u0 with
        | true =>
          simp only [if_true, List.foldl_cons, firstStep, hl, Bool.false_eq_true, if_false]
          exact ex_eq u0 L _ _ (fun h => by cases h) (fun c hc => by injection hc with hc; subst hc; exact ⟨rfl, hb⟩)
        | false =>
          simp only [Bool.false_eq_true, if_false]
          exact ex_eq u0 L _ _ (fun h => by cases h) (fun c hc => by injection hc with hc; subst hc; exact ⟨rfl, hb⟩)
/-- **Both find the same exchange.** -/
theorem exR_eq (m : Mll) (p : List Int) : (exR m p).1 = firstM (fun a b => lessU a.2.2 b.2.2) (exL m p) :=
  ex_eq (unev m p) (exAll m p) none _ (fun _ => rfl) (fun b hb => by cases hb)
end Go.Proofs.YtkpengeaolcjhaaGreatDoor
/- The order of exchanges: plain. -/
namespace Go.Proofs.YtkpengeaolcjhaaGreatDoor
open Go.RowKit Go.Shelf
set_option linter.unusedSimpArgs false

theorem firstM_two {α : Type} {R : α → α → Prop} {f g : α → α → Bool} (h : ∀ b x, R b x → f x b = g x b) : ∀ (L : List α) (o : Option α), L.Pairwise R → (∀ b, o = some b → ∀ x ∈ L, R b x) → L.foldl (firstStep f) o = L.foldl (firstStep g) o
  | [], _, _, _ => rfl
  | x :: L, o, hp, ho => by
    rw [List.pairwise_cons] at hp
    rw [List.foldl_cons, List.foldl_cons]
    cases o with
    | none =>
      simp only [firstStep]
      exact firstM_two h L _ hp.2 (fun b hb y hy => by injection hb with hb; subst hb; exact hp.1 y hy)
    | some b =>
      have e := h b x (ho b rfl x (by simp))
      simp only [firstStep, e]
      split
      · exact firstM_two h L _ hp.2 (fun c hc y hy => by injection hc with hc; subst hc; exact hp.1 y hy)
      · exact firstM_two h L _ hp.2 (fun c hc y hy => by injection hc with hc; subst hc; exact ho _ rfl y (by simp [hy]))
/-- Earlier among the exchanges. -/
def ExB (a b : Exg) : Prop := a.1 < b.1 ∨ a.1 = b.1 ∧ a.2.1 < b.2.1
theorem exAll_pair (m : Mll) (p : List Int) : (exAll m p).Pairwise ExB := by
  unfold exAll
  rw [List.pairwise_flatMap]
  refine ⟨fun i _ => ?_, List.pairwise_lt_range.imp fun {i j} hij x hx y hy => ?_⟩
  · rw [List.pairwise_flatMap]
    refine ⟨fun k _ => ?_, List.pairwise_lt_range.imp fun {k j} hkj x hx y hy => ?_⟩
    · split <;> simp
    · split at hx
      · split at hy
        · simp at hx hy
          subst hx hy
          exact .inr ⟨rfl, hkj⟩
        · simp at hy
      · simp at hx
  · obtain ⟨k, -, hx⟩ := List.mem_flatMap.1 hx
    obtain ⟨k', -, hy⟩ := List.mem_flatMap.1 hy
    split at hx
    · split at hy
      · simp at hx hy
        subst hx hy
        exact .inl hij
      · simp at hy
    · simp at hx
/-- The program's order of exchanges. -/
def ordX (a b : Exg) : Int := orL [ordU a.2.2 b.2.2, cmpI a.1 b.1, cmpI a.2.1 b.2.1]
theorem ordX_less {a b : Exg} (h : ExB b a) : decide (ordX a b < 0) = lessU a.2.2 b.2.2 := by
  rw [← ordU_neg]
  obtain ⟨i, k, u⟩ := a
  obtain ⟨j, q, v⟩ := b
  unfold ordX
  by_cases h0 : ordU u v = 0
  · simp only [h0]
    rcases h with h | ⟨h, h2⟩
    · simp only at h
      have e : cmpI (i : Int) (j : Int) = 1 := by unfold cmpI; rw [if_neg (by omega), if_pos (by omega)]
      simp [orL, e]
    · simp only at h h2
      subst h
      have e : cmpI (j : Int) (j : Int) = 0 := by unfold cmpI; rw [if_neg (by omega), if_neg (by omega)]
      have e2 : cmpI (k : Int) (q : Int) = 1 := by unfold cmpI; rw [if_neg (by omega), if_pos (by omega)]
      simp [orL, e, e2]
  · simp [orL, h0]
theorem exL_first (m : Mll) (p : List Int) : firstM (fun a b => decide (ordX a b < 0)) (exL m p) = (exR m p).1 := by
  rw [exR_eq]
  exact firstM_two (R := ExB) (fun b x h => ordX_less h) _ none ((exAll_pair m p).sublist List.filter_sublist) (fun b hb => by cases hb)
end Go.Proofs.YtkpengeaolcjhaaGreatDoor
/- The best plan is the first of the most even ones, and an exchange that is told makes a plan the most even: plain laws, no program in sight. -/
namespace Go.Proofs.YtkpengeaolcjhaaGreatDoor
set_option linter.unusedSimpArgs false

/-! Lists of numbers, one before the other. -/
def befL : List Int → List Int → Bool
  | a :: l, b :: r => if a = b then befL l r else decide (a < b)
  | _, _ => false
theorem befL_irr : ∀ (l : List Int), befL l l = false
  | [] => rfl
  | a :: l => by rw [befL, if_pos rfl, befL_irr l]
theorem befL_asym : ∀ {l r : List Int}, befL l r = true → befL r l = false
  | [], _, h => by simp [befL] at h
  | _ :: _, [], h => by simp [befL] at h
  | a :: l, b :: r, h => by
    rw [befL] at h ⊢
    by_cases e : a = b
    · rw [if_pos e] at h
      rw [if_pos e.symm]
      exact befL_asym h
    · rw [if_neg e] at h
      rw [if_neg fun e2 => e e2.symm]
      simp at h ⊢
      omega
theorem plansF_pw {lots : Nat} {size : Int} : ∀ (fit : List Bool) (f : List Int), (plansF lots size fit f).Pairwise fun a b => befL a b = true
  | [], f => by unfold plansF; split <;> simp
  | b :: r, f => by
    unfold plansF
    rw [List.pairwise_flatMap]
    refine ⟨fun i _ => ?_, (List.pairwise_lt_range (n := lots + 1)).imp fun {i j} hij x hx y hy => ?_⟩
    · split
      · rw [List.pairwise_map]
        refine (plansF_pw r _).imp fun h => ?_
        rw [befL, if_pos rfl]
        exact h
      · simp
    · split at hx
      · split at hy
        · obtain ⟨p, -, rfl⟩ := List.mem_map.1 hx
          obtain ⟨q, -, rfl⟩ := List.mem_map.1 hy
          rw [befL, if_neg (by omega)]
          simp; omega
        · simp at hy
      · simp at hx
theorem lessU_irr (a : Int × Int) : lessU a a = false := by unfold lessU; simp
theorem lessU_neg {a b c : Int × Int} (h1 : lessU a b = false) (h2 : lessU b c = false) : lessU a c = false := by
  unfold lessU at *
  simp only [Bool.or_eq_false_iff, Bool.and_eq_false_iff, decide_eq_false_iff_not] at *
  omega
theorem lessU_asym {a b : Int × Int} (h : lessU a b = true) : lessU b a = false := by
  unfold lessU at *
  simp only [Bool.or_eq_true, Bool.and_eq_true, decide_eq_true_eq, Bool.or_eq_false_iff, Bool.and_eq_false_iff, decide_eq_false_iff_not] at *
  omega
theorem first_from {α : Type} {less : α → α → Bool} (tr : ∀ a b c, less a b = true → less b c = true → less a c = true) (nt : ∀ a b c, less a b = false → less b c = false → less a c = false) {b : α} : ∀ (L : List α) (c : α), L.foldl (firstStep less) (some c) = some b →
    (b = c ∧ ∀ x ∈ L, less x c = false) ∨ ∃ A B, L = A ++ b :: B ∧ less b c = true ∧ (∀ x ∈ A, less b x = true) ∧ ∀ x ∈ B, less x b = false
  | [], c, h => .inl ⟨by simpa using h.symm, fun x hx => by simp at hx⟩
  | x :: L, c, h => by
    rw [List.foldl_cons] at h
    simp only [firstStep] at h
    split at h
    · rename_i hx
      rcases first_from tr nt L x h with ⟨rfl, h2⟩ | ⟨A, B, rfl, h2, h3, h4⟩
      · exact .inr ⟨[], L, rfl, hx, fun y hy => by simp at hy, h2⟩
      · refine .inr ⟨x :: A, B, rfl, tr _ _ _ h2 hx, fun y hy => ?_, h4⟩
        rcases List.mem_cons.1 hy with rfl | hy
        · exact h2
        · exact h3 y hy
    · rename_i hx
      have hx : less x c = false := by simpa using hx
      rcases first_from tr nt L c h with ⟨rfl, h2⟩ | ⟨A, B, rfl, h2, h3, h4⟩
      · refine .inl ⟨rfl, fun y hy => ?_⟩
        rcases List.mem_cons.1 hy with rfl | hy
        · exact hx
        · exact h2 y hy
      · refine .inr ⟨x :: A, B, rfl, h2, fun y hy => ?_, h4⟩
        rcases List.mem_cons.1 hy with rfl | hy
        · cases hb : less b y with
          | true => rfl
          | false => have := nt _ _ _ hb hx; rw [h2] at this; cases this
        · exact h3 y hy
theorem firstM_spec {α : Type} {less : α → α → Bool} (tr : ∀ a b c, less a b = true → less b c = true → less a c = true) (nt : ∀ a b c, less a b = false → less b c = false → less a c = false) (_irr : ∀ a, less a a = false) {L : List α} {b : α} (h : firstM less L = some b) :
    ∃ A B, L = A ++ b :: B ∧ (∀ x ∈ A, less b x = true) ∧ ∀ x ∈ B, less x b = false := by
  cases L with
  | nil => cases h
  | cons x L =>
    unfold firstM at h
    rw [List.foldl_cons] at h
    simp only [firstStep] at h
    rcases first_from tr nt L x h with ⟨rfl, h2⟩ | ⟨A, B, rfl, h2, h3, h4⟩
    · exact ⟨[], L, rfl, fun y hy => by simp at hy, h2⟩
    · refine ⟨x :: A, B, rfl, fun y hy => ?_, h4⟩
      rcases List.mem_cons.1 hy with rfl | hy
      · exact h2
      · exact h3 y hy
theorem firstM_none {α : Type} {less : α → α → Bool} {L : List α} : firstM less L = none ↔ L = [] := by
  have h : ∀ (L : List α) (c : α), L.foldl (firstStep less) (some c) ≠ none := by
    intro L
    induction L with
    | nil => intro c h; cases h
    | cons x L ih =>
      intro c
      rw [List.foldl_cons]
      simp only [firstStep]
      split <;> exact ih _
  cases L with
  | nil => exact ⟨fun _ => rfl, fun _ => rfl⟩
  | cons x L => exact ⟨fun e => absurd e (h L x), fun e => by cases e⟩
/-- **No allowed plan is more even than the best one; one that is as even is not before it.** -/
theorem best_first {m : Mll} {b p : List Int} (h : bestP m = some b) (hp : p ∈ plansL m) : lessU (unev m p) (unev m b) = false ∧ (unev m p = unev m b → befL p b = false) := by
  obtain ⟨A, B, e, h1, h2⟩ := firstM_spec (less := fun a b => lessU (unev m a) (unev m b)) (fun _ _ _ => lessU_trans) (fun _ _ _ => lessU_neg) (fun _ => lessU_irr _) h
  have hpw := plansF_pw (lots := m.lots.toNat) (size := m.size) (fitL m) [0, 0, 0]
  change (plansL m).Pairwise _ at hpw
  rw [e] at hpw hp
  rcases List.mem_append.1 hp with hp | hp
  · refine ⟨lessU_asym (h1 p hp), fun he => ?_⟩
    have := h1 p hp
    rw [he, lessU_irr] at this
    cases this
  · rcases List.mem_cons.1 hp with rfl | hp
    · exact ⟨lessU_irr _, fun _ => befL_irr _⟩
    · refine ⟨h2 p hp, fun _ => befL_asym ?_⟩
      exact (List.pairwise_cons.1 (List.pairwise_append.1 hpw).2.1).1 p hp
theorem best_none {m : Mll} : bestP m = none ↔ plansL m = [] := firstM_none
theorem okPlan_mem {m : Mll} (hm : Mok m) {p : List Int} (h : p ∈ plansL m) : okPlan m p = true := by
  have := hm.l1; have := hm.l3
  obtain ⟨h1, h2, h3⟩ := plans_mem hm h
  refine okPlan_yes h1 (List.all_eq_true.2 fun x hx => by have := h2 x hx; exact inB_iff.2 (by omega)) (plansF_fit h) ?_
  have a := h3 0 (by omega); have b := h3 1 (by omega); have c := h3 2 (by omega)
  unfold fullF
  have e : (List.range 3).map (fun i => if i < m.lots.toNat then m.size else 0) = [if 0 < m.lots.toNat then m.size else 0, if 1 < m.lots.toNat then m.size else 0, if 2 < m.lots.toNat then m.size else 0] := rfl
  rw [e]
  have t : ∀ i : Nat, (if (i : Int) < m.lots then m.size else 0) = if i < m.lots.toNat then m.size else 0 := fun i => by
    by_cases h : i < m.lots.toNat
    · rw [if_pos h, if_pos (by omega)]
    · rw [if_neg h, if_neg (by omega)]
  rw [t] at a b c
  rw [← a, ← b, ← c]
  rfl
/-! Exchanges. -/
theorem exAll_mem {m : Mll} {p : List Int} {x : Exg} : x ∈ exAll m p ↔ x.1 < p.length ∧ x.2.1 < p.length ∧ mayX m p x.1 x.2.1 = true ∧ x.2.2 = unev m (swapP p x.1 x.2.1) := by
  obtain ⟨i, k, u⟩ := x
  unfold exAll
  rw [List.mem_flatMap]
  constructor
  · rintro ⟨a, ha, h⟩
    obtain ⟨b, hb, h⟩ := List.mem_flatMap.1 h
    rw [List.mem_range] at ha hb
    split at h
    · rename_i hx
      simp at h
      obtain ⟨rfl, rfl, rfl⟩ := h
      exact ⟨ha, hb, hx, rfl⟩
    · simp at h
  · rintro ⟨h1, h2, h3, h4⟩
    refine ⟨i, List.mem_range.2 h1, List.mem_flatMap.2 ⟨k, List.mem_range.2 h2, ?_⟩⟩
    rw [if_pos h3]
    simp only at h4
    simp [h4]
/-- **An exchange that is told makes the plan more even, none does more; none is told just if none makes it more even.** -/
theorem ex_best (m : Mll) (p : List Int) : (∀ x, (exR m p).1 = some x → x ∈ exAll m p ∧ lessU x.2.2 (unev m p) = true ∧ ∀ y ∈ exAll m p, lessU y.2.2 x.2.2 = false) ∧ ((exR m p).1 = none → ∀ y ∈ exAll m p, lessU y.2.2 (unev m p) = false) := by
  rw [exR_eq]
  refine ⟨fun x h => ?_, fun h y hy => ?_⟩
  · obtain ⟨A, B, e, h1, h2⟩ := firstM_spec (less := fun a b : Exg => lessU a.2.2 b.2.2) (fun _ _ _ => lessU_trans) (fun _ _ _ => lessU_neg) (fun _ => lessU_irr _) h
    have hx : x ∈ exL m p := by rw [e]; simp
    have hx' := List.mem_filter.1 hx
    refine ⟨hx'.1, hx'.2, fun y hy => ?_⟩
    cases hl : lessU y.2.2 x.2.2 with
    | false => rfl
    | true =>
      have hyL : y ∈ exL m p := List.mem_filter.2 ⟨hy, lessU_trans hl hx'.2⟩
      rw [e] at hyL
      rcases List.mem_append.1 hyL with h3 | h3
      · rw [lessU_asym (h1 y h3)] at hl; cases hl
      · rcases List.mem_cons.1 h3 with rfl | h3
        · rw [lessU_irr] at hl; cases hl
        · rw [h2 y h3] at hl; cases hl
  · rw [firstM_none] at h
    cases hl : lessU y.2.2 (unev m p) with
    | false => rfl
    | true =>
      have : y ∈ exL m p := List.mem_filter.2 ⟨hy, hl⟩
      rw [h] at this; simp at this
theorem mayX_iff {m : Mll} {p : List Int} {i k : Nat} (hi : i < p.length) (hk : k < p.length) : mayX m p i k = true ↔ ∃ a, p[i]? = some a ∧ a ≠ 0 ∧ p[k]? = some 0 ∧ (fitL m)[k]? = some true := by
  unfold mayX
  rw [List.getElem?_eq_getElem hi, List.getElem?_eq_getElem hk]
  simp only [Option.getD_some, Bool.and_eq_true, Bool.not_eq_true', Bool.or_eq_false_iff, decide_eq_false_iff_not, Bool.not_eq_false', decide_eq_true_eq, Option.some.injEq]
  constructor
  · rintro ⟨⟨h1, h2⟩, h3⟩
    refine ⟨_, rfl, h1, h2, ?_⟩
    cases h : (fitL m)[k]? with
    | none => rw [h] at h3; cases h3
    | some b => rw [h] at h3; simp at h3; rw [h3]
  · rintro ⟨a, rfl, h1, h2, h3⟩
    rw [h3]
    exact ⟨⟨h1, h2⟩, rfl⟩
theorem swap_plan {m : Mll} {p : List Int} {i k : Nat} (ho : okPlan m p = true) (hi : i < p.length) (hk : k < p.length) (h : mayX m p i k = true) : okPlan m (swapP p i k) = true := by
  obtain ⟨a, h1, h2, h3, h4⟩ := (mayX_iff hi hk).1 h
  exact swap_ok ho h1 h2 h3 h4
/-- No exchange makes the best plan more even. -/
theorem best_swap {m : Mll} (hm : Mok m) {b : List Int} (h : bestP m = some b) : (exR m b).1 = none := by
  cases hx : (exR m b).1 with
  | none => rfl
  | some x =>
    obtain ⟨h1, h2, -⟩ := (ex_best m b).1 x hx
    obtain ⟨h3, h4, h5, h6⟩ := exAll_mem.1 h1
    have := (best_first h (plan_of_ok hm (swap_plan (okPlan_mem hm (bestP_mem h)) h3 h4 h5))).1
    rw [← h6, h2] at this
    cases this

/-! Too few bales are fit. -/
def nzP (p : List Int) : Nat := (p.filter fun x => !decide (x = 0)).length
def cntT (fit : List Bool) : Nat := (fit.filter fun b => b).length
theorem nz_sum : ∀ (p : List Int), (∀ x ∈ p, 0 ≤ x ∧ x ≤ 3) → (nzP p : Int) = inLot p 1 + inLot p 2 + inLot p 3
  | [], _ => rfl
  | a :: p, h => by
    have ih := nz_sum p (fun x hx => h x (by simp [hx]))
    have ha := h a (by simp)
    rw [inLot_cons, inLot_cons, inLot_cons]
    unfold nzP at ih ⊢
    rw [List.filter_cons]
    by_cases h0 : a = 0
    · rw [if_neg (by simp [h0]), if_neg (by omega), if_neg (by omega), if_neg (by omega), ih]; omega
    · rw [if_pos (by simp [h0]), List.length_cons]
      by_cases h1 : a = 1
      · rw [if_pos h1, if_neg (by omega), if_neg (by omega)]; omega
      · rw [if_neg h1]
        by_cases h2 : a = 2
        · rw [if_pos h2, if_neg (by omega)]; omega
        · rw [if_neg h2, if_pos (by omega)]; omega
theorem nz_le : ∀ {p : List Int} {fit : List Bool}, p.length = fit.length → (∀ x ∈ p, 0 ≤ x) → fitOk p fit = true → nzP p ≤ cntT fit
  | [], [], _, _, _ => Nat.le_refl _
  | a :: p, b :: r, h, h0, hf => by
    rw [fitOk_cons, Bool.and_eq_true] at hf
    have ih := nz_le (p := p) (fit := r) (by simpa using h) (fun x hx => h0 x (by simp [hx])) hf.2
    unfold nzP cntT at ih ⊢
    rw [List.filter_cons, List.filter_cons]
    have ha := h0 a (by simp)
    by_cases hz : a = 0
    · rw [if_neg (by simp [hz])]
      split
      · rw [List.length_cons]; omega
      · exact ih
    · have hb : b = true := by
        have := hf.1
        simp at this
        rcases this with h | h
        · omega
        · exact h
      rw [if_pos (by simp [hz]), if_pos hb, List.length_cons, List.length_cons]
      omega
theorem le_nz : ∀ {p : List Int} {fit : List Bool}, p.length = fit.length → (∀ (i : Nat) (a : Int), fit[i]? = some true → p[i]? = some a → a ≠ 0) → cntT fit ≤ nzP p
  | [], [], _, _ => Nat.le_refl _
  | a :: p, b :: r, h, hf => by
    have ih := le_nz (p := p) (fit := r) (by simpa using h) (fun i x h1 h2 => hf (i + 1) x (by simpa using h1) (by simpa using h2))
    unfold nzP cntT at ih ⊢
    rw [List.filter_cons, List.filter_cons]
    by_cases hb : b = true
    · have := hf 0 a (by simp [hb]) rfl
      rw [if_pos hb, if_pos (by simp [this]), List.length_cons, List.length_cons]
      omega
    · rw [if_neg hb]
      split
      · rw [List.length_cons]; omega
      · exact ih
theorem plan_nz {m : Mll} (hm : Mok m) {p : List Int} (h : p ∈ plansL m) : (nzP p : Int) = m.lots * m.size := by
  have := hm.l1; have := hm.l3
  obtain ⟨h1, h2, h3⟩ := plans_mem hm h
  rw [nz_sum p fun x hx => by have := h2 x hx; omega]
  have a := h3 0 (by omega); have b := h3 1 (by omega); have c := h3 2 (by omega)
  have a' : inLot p 1 = if (0 : Int) < m.lots then m.size else 0 := a
  have b' : inLot p 2 = if (1 : Int) < m.lots then m.size else 0 := b
  have c' : inLot p 3 = if (2 : Int) < m.lots then m.size else 0 := c
  rw [a', b', c', if_pos (by omega)]
  rcases (by omega : m.lots = 1 ∨ m.lots = 2 ∨ m.lots = 3) with e | e | e
  · rw [e, if_neg (by omega), if_neg (by omega)]; omega
  · rw [e, if_pos (by omega), if_neg (by omega)]; omega
  · rw [e, if_pos (by omega), if_pos (by omega)]; omega
/-- Where all fit bales are taken ahead of the last lot's last one there is no plan. -/
theorem few_none {m : Mll} (hm : Mok m) {q : List Int} (hq : q.length = m.cots.length) (hf : ∀ (i : Nat) (a : Int), (fitL m)[i]? = some true → q[i]? = some a → a ≠ 0) (hn : (nzP q : Int) < m.lots * m.size) : plansL m = [] := by
  cases h : plansL m with
  | nil => rfl
  | cons p L =>
    have hp : p ∈ plansL m := by rw [h]; simp
    have h1 := plan_nz hm hp
    have h2 := nz_le (p := p) (fit := fitL m) (by rw [(plans_mem hm hp).1]; simp [fitL]) (fun x hx => ((plans_mem hm hp).2.1 x hx).1) (plansF_fit hp)
    have h3 := le_nz (p := q) (fit := fitL m) (by rw [hq]; simp [fitL]) hf
    omega
end Go.Proofs.YtkpengeaolcjhaaGreatDoor
/- Plain law of Put: the sort of the program lays a cotton where the reference lays it, unless an id is there twice. -/
namespace Go.Proofs.YtkpengeaolcjhaaGreatDoor
open Go.RowKit Go.Shelf Go.Lib
set_option linter.unusedSimpArgs false

theorem ids_pw : ∀ (l : List Int), notDown l = true → noTwins l = true → l.Pairwise (· < ·)
  | [], _, _ => List.Pairwise.nil
  | [x], _, _ => by simp
  | x :: y :: l, h1, h2 => by
    rw [notDown, Bool.and_eq_true, decide_eq_true_eq] at h1
    rw [noTwins, Bool.and_eq_true] at h2
    have h3 : ¬ y = x := by have := h2.1; simpa using this
    have ih := ids_pw (y :: l) h1.2 h2.2
    refine List.Pairwise.cons (fun z hz => ?_) ih
    rcases List.mem_cons.1 hz with rfl | hz
    · have := h1.1; omega
    · have := List.rel_of_pairwise_cons ih hz
      have := h1.1
      omega
abbrev Below2 (a b : Cot) : Prop := a.b.id < b.b.id
theorem cots_pw {m : Mll} (h : checkM m = true) : m.cots.Pairwise Below2 := by
  unfold checkM ck2 at h
  simp only [Bool.and_eq_true] at h
  have h1 := ids_pw _ h.1.2.1 h.1.2.2
  unfold idsL at h1
  exact (List.pairwise_map (f := fun x : Cot => x.b.id) (R := fun (a b : Int) => a < b)).1 h1
theorem pw_at {l : List Cot} (h : l.Pairwise Below2) {i j : Nat} {a b : Cot} (hij : i < j) (ha : l[i]? = some a) (hb : l[j]? = some b) : a.b.id < b.b.id := by
  obtain ⟨hi, rfl⟩ := List.getElem?_eq_some_iff.1 ha
  obtain ⟨hj, rfl⟩ := List.getElem?_eq_some_iff.1 hb
  exact List.pairwise_iff_getElem.1 h i j hi hj hij
end Go.Proofs.YtkpengeaolcjhaaGreatDoor
/- One bale more never makes the best plan less even, one less never more: plain laws, no program in sight. -/
namespace Go.Proofs.YtkpengeaolcjhaaGreatDoor
set_option linter.unusedSimpArgs false

/-! A mill with a bale less is valid. -/
theorem place_at {m : Mll} {i : Nat} {x : Cot} (hc : checkM m = true) (h : m.cots[i]? = some x) : placeM m x.b.id = i := by
  have hp := cots_pw hc
  have hl := (List.getElem?_eq_some_iff.1 h).1
  unfold placeM
  refine idxF_some _ _ i x.b.id (by rw [List.getElem?_map, h]; rfl) (by simp) fun j y hj hy => ?_
  rw [List.getElem?_map] at hy
  cases hz : m.cots[j]? with
  | none => rw [hz] at hy; cases hy
  | some z =>
    rw [hz] at hy
    have hy : z.b.id = y := by injection hy
    have := pw_at hp hj hz h
    rw [← hy]
    simp
    omega
end Go.Proofs.YtkpengeaolcjhaaGreatDoor
/- Without of both: a mill without a bale. -/
namespace Go.Proofs.YtkpengeaolcjhaaGreatDoor
open Go.RowKit Go.Shelf Go.Lib
set_option maxRecDepth 100000
set_option linter.unusedSimpArgs false

def lostM (m : Mll) (id : Int) : Int × Int × Int := if takeME m id = 0 then ((evenU (takeM m id)).1, (evenU (takeM m id)).2, bestE (takeM m id)) else (0, 0, takeME m id)
theorem takeK_len (l : List Cot) (i : Nat) : (takeK l i).length ≤ l.length := by
  unfold takeK
  rw [List.length_append, List.length_take, List.length_drop]
  omega
set_option maxHeartbeats 4000000 in
theorem withoutM_any (lots size id : Int) (l : List Rc) (sv : Value) (w : World) (hT : TabM w) (hs : MlC w sv l) (hlen : l.length ≤ 900) :
    Calls Tryz.prog 16 #[valM lots size sv, .int .i64 id] w fun e w' => e = .returned (.tuple #[.int .i64 (lostM (mOf lots size l) id).1, .int .i64 (lostM (mOf lots size l) id).2.1, .int .i64 (lostM (mOf lots size l) id).2.2]) ∧ Ext w w' := by
  have HS := Lib.hid hs; have HT := Lib.hid hT; have HLN := Lib.hid hlen
  obtain ⟨A, n, c, rfl, hn, hlc, hcm⟩ := hs.1.form
  have HL := Lib.hid (show l.length = n from hn.out.symm)
  clear hs hT hn hlen
  go_enter Tryz.func16, Tryz.ntmps16
  go_wp2_with fail
  obtain ⟨w2, hw2⟩ : ∃ w2, w2 = w.alloc (.cells #[.int .i64 lots, .int .i64 size, .slice A n c] 24) := ⟨_, rfl⟩
  rw [← hw2]
  have E2 := Lib.hid (show Ext w w2 from hw2 ▸ Ext.al _ _)
  clear hw2
  refine (takeM_any lots size id l _ w2 (HT.out.ext E2.out) (HS.out.ext E2.out) (by have := HLN.out; omega)).mono ?_
  rintro e w3 ⟨⟨v, rfl, hv⟩, hE⟩
  have E3 := Lib.hid (E2.out.trans hE)
  rcases hv with ⟨he, v0, L, rfl, tv⟩ | ⟨he, rfl⟩
  · rw [he]
    have HH := Lib.hid (show lostM (mOf lots size l) id = ((evenU (takeM (mOf lots size l) id)).1, (evenU (takeM (mOf lots size l) id)).2, bestE (takeM (mOf lots size l) id)) by unfold lostM; rw [if_pos he])
    have TW := Lib.hid tv
    have HLL := Lib.hid (show L.length ≤ 1000 by
      have h := congrArg List.length tv.map
      have h2 := takeK_len (mOf lots size l).cots (placeM (mOf lots size l) id).toNat
      have h3 : (takeM (mOf lots size l) id).cots = takeK (mOf lots size l).cots (placeM (mOf lots size l) id).toNat := rfl
      rw [h3] at h
      simp at h h2
      have := HLN.out
      omega)
    clear he tv hE E2
    obtain ⟨A2, n2, c2, rfl, -, -, -⟩ := TW.out.mlc.1.form
    go_wp2_with fail
    refine (evenM_any lots size L _ _ ((HT.out.ext E3.out).ext (Ext.al _ _)) (TW.out.mlc.ext (Ext.al _ _)) HLL.out).mono ?_
    rintro e w4 ⟨rfl, hE⟩
    have E4 := Lib.hid (E3.out.trans ((Ext.al _ _).trans hE))
    rw [show mOf lots size L = takeM (mOf lots size l) id by show (⟨lots, size, L.map (·.c)⟩ : Mll) = _; rw [TW.out.map]; rfl]
    clear hE E3
    go_wp2
    refine bodyPost_ret (v := .tuple #[.int .i64 (lostM (mOf lots size l) id).1, .int .i64 (lostM (mOf lots size l) id).2.1, .int .i64 (lostM (mOf lots size l) id).2.2]) (by rw [HH.out]; simp [results, Tryz.results16, go_sem]) rfl ?_
    exact ⟨rfl, E4.out⟩
  · obtain ⟨er, her⟩ : ∃ er, er = takeME (mOf lots size l) id := ⟨_, rfl⟩
    have HH := Lib.hid (show lostM (mOf lots size l) id = (0, 0, er) by unfold lostM; rw [if_neg he, her])
    rw [← her] at he ⊢
    have he' : (er == 0) = false := by simpa using he
    clear her hE E2
    go_wp2
    refine bodyPost_ret (v := .tuple #[.int .i64 (lostM (mOf lots size l) id).1, .int .i64 (lostM (mOf lots size l) id).2.1, .int .i64 (lostM (mOf lots size l) id).2.2]) (by rw [HH.out]; simp [results, Tryz.results16, go_sem]) rfl ?_
    exact ⟨rfl, E3.out.trans (Ext.al _ _)⟩
end Go.Proofs.YtkpengeaolcjhaaGreatDoor
/- The reference's choices of lots by what is used already: plain laws, no program in sight. -/
namespace Go.Proofs.YtkpengeaolcjhaaGreatDoor
set_option linter.unusedSimpArgs false

/-! Numbers in order. -/
def spotI (l : List Int) (n : Int) : Nat := (l.takeWhile fun y => decide (y ≤ n)).length
def insI (l : List Int) (n : Int) : List Int := l.take (spotI l n) ++ n :: l.drop (spotI l n)
theorem spotI_le (l : List Int) (n : Int) : spotI l n ≤ l.length := (List.takeWhile_sublist _).length_le
theorem insI_perm (l : List Int) (n : Int) : (insI l n).Perm (n :: l) := by
  unfold insI
  have := (List.perm_middle (a := n) (l₁ := l.take (spotI l n)) (l₂ := l.drop (spotI l n)))
  rw [List.take_append_drop] at this
  exact this
theorem spotI_lt {n : Int} : ∀ {l : List Int} {i : Nat} {y : Int}, i < spotI l n → l[i]? = some y → y ≤ n
  | [], _, _, h, _ => by simp [spotI] at h
  | x :: l, i, y, h, hy => by
    unfold spotI at h
    rw [List.takeWhile_cons] at h
    split at h
    · rename_i hx
      cases i with
      | zero => simp at hy hx; omega
      | succ i => exact spotI_lt (l := l) (i := i) (by unfold spotI; simp at h; omega) (by simpa using hy)
    · simp at h
theorem spotI_at {n : Int} : ∀ {l : List Int} {y : Int}, l[spotI l n]? = some y → n < y
  | [], _, h => by simp at h
  | x :: l, y, h => by
    unfold spotI at h
    rw [List.takeWhile_cons] at h
    split at h
    · rw [List.length_cons, List.getElem?_cons_succ] at h
      exact spotI_at (l := l) h
    · rename_i hx
      simp at h hx
      omega
theorem spotI_of {n : Int} {l : List Int} {k : Nat} (h1 : ∀ i y, i < k → l[i]? = some y → y ≤ n) (hk : k ≤ l.length) (h2 : ∀ y, l[k]? = some y → n < y) : spotI l n = k := by
  have hle := spotI_le l n
  rcases Nat.lt_trichotomy (spotI l n) k with h | h | h
  · obtain ⟨y, hy⟩ : ∃ y, l[spotI l n]? = some y := ⟨_, List.getElem?_eq_getElem (by omega)⟩
    have := spotI_at hy
    have := h1 _ _ h hy
    omega
  · exact h
  · obtain ⟨y, hy⟩ : ∃ y, l[k]? = some y := ⟨_, List.getElem?_eq_getElem (by omega)⟩
    have := spotI_lt h hy
    have := h2 _ hy
    omega
theorem insI_sorted {l : List Int} (h : l.Pairwise (· ≤ ·)) (n : Int) : (insI l n).Pairwise (· ≤ ·) := by
  unfold insI
  rw [List.pairwise_append]
  refine ⟨h.sublist (List.take_sublist _ _), List.pairwise_cons.2 ⟨fun y hy => ?_, h.sublist (List.drop_sublist _ _)⟩, fun a ha b hb => ?_⟩
  · obtain ⟨i, hi⟩ := List.mem_iff_getElem?.1 hy
    rw [List.getElem?_drop] at hi
    have hl := (List.getElem?_eq_some_iff.1 hi).1
    obtain ⟨z, hz⟩ : ∃ z, l[spotI l n]? = some z := ⟨_, List.getElem?_eq_getElem (by omega)⟩
    have := spotI_at hz
    have := pair_le h hz hi (by omega)
    omega
  · obtain ⟨i, hi⟩ := List.mem_iff_getElem?.1 ha
    have hl := (List.getElem?_eq_some_iff.1 hi).1
    rw [List.length_take] at hl
    rw [List.getElem?_take_of_lt (by omega)] at hi
    have := spotI_lt (n := n) (l := l) (i := i) (by omega) hi
    rcases List.mem_cons.1 hb with rfl | hb
    · exact this
    · obtain ⟨j, hj⟩ := List.mem_iff_getElem?.1 hb
      rw [List.getElem?_drop] at hj
      exact pair_le h hi hj (by omega)
/-- The lengths of the fit bales, in order. -/
def sortedTo (l : List Cot) (k : Nat) : List Int := (l.take k).foldl (fun s x => if fitB x then insI s x.len else s) []
theorem sorted_fold : ∀ (l : List Cot) (s : List Int), s.Pairwise (· ≤ ·) → (l.foldl (fun s x => if fitB x then insI s x.len else s) s).Pairwise (· ≤ ·) ∧ (l.foldl (fun s x => if fitB x then insI s x.len else s) s).Perm ((l.filter fitB).map (·.len) ++ s)
  | [], s, h => ⟨h, List.Perm.refl _⟩
  | x :: l, s, h => by
    rw [List.foldl_cons, List.filter_cons]
    by_cases hx : fitB x = true
    · rw [if_pos hx, if_pos hx]
      obtain ⟨h1, h2⟩ := sorted_fold l (insI s x.len) (insI_sorted h _)
      refine ⟨h1, h2.trans ?_⟩
      rw [List.map_cons, List.cons_append]
      exact ((insI_perm s x.len).append_left _).trans List.perm_middle
    · rw [if_neg hx, if_neg hx]
      exact sorted_fold l s h
def sortedL (m : Mll) : List Int := sortedTo m.cots m.cots.length
theorem sortedL_ok (m : Mll) : (sortedL m).Pairwise (· ≤ ·) ∧ (sortedL m).Perm (fitLens m) := by
  have := sorted_fold m.cots [] List.Pairwise.nil
  unfold sortedL sortedTo
  rw [List.take_length]
  simpa [fitLens] using this
/-- How many lots there can be. -/
def mostN (m : Mll) (L : Int) : Int := (gr L m.size.toNat (sortedL m) : Nat)
def mostE (m : Mll) (L : Int) : Int := if checkM m then (if L < 0 then 2 else 0) else 90
def mostV (m : Mll) (L : Int) : Int := if mostE m L = 0 then mostN m L else 0
end Go.Proofs.YtkpengeaolcjhaaGreatDoor
/- slices.Sort at a few ints: insertion sort (and the few steps that lead there). -/
namespace Go.Proofs.YtkpengeaolcjhaaGreatDoor
open Go.RowKit Go.Shelf Go.Lib
set_option maxRecDepth 100000
set_option linter.unusedSimpArgs false

theorem flat_setI : ∀ (l : List Int) (i : Nat) (x : Int), (l.flatMap encI).set i (.int .i64 x) = (l.set i x).flatMap encI
  | [], i, x => by simp
  | y :: l, 0, x => rfl
  | y :: l, i + 1, x => by
    have ih := flat_setI l i x
    rw [List.set_cons_succ, List.flatMap_cons, List.flatMap_cons, ← ih]
    rfl
theorem own_putI {w : World} {base g n cap i : Nat} {m : List Int} {x : Int} (h : Own encI 3 1 w base (.slice (some ⟨g, 0, none⟩) n cap) m) :
    Own encI 3 1 (w.setCell ⟨g, i, none⟩ (.int .i64 x)) base (.slice (some ⟨g, 0, none⟩) n cap) (m.set i x) := by
  have hn : n = m.length := by
    obtain ⟨_, _, e, _⟩ := h.sl (enc := encI) (fun _ => rfl)
    injection e with _ e _
  unfold Own at *
  rw [List.length_set, ← hn, ← flat_setI m i x]
  rw [← hn] at h
  exact own_cellset h
theorem own_atI {W : World} {base g n c k : Nat} {m : List Int} {y : Int} (h : Own encI 3 1 W base (.slice (some ⟨g, 0, none⟩) n c) m) (hy : m[k]? = some y) :
    W.cell? ⟨g, k, none⟩ = some (.int .i64 y) ∧ g < W.heap.size := by
  have hsl : SlI W (.slice (some ⟨g, 0, none⟩) n c) m := Own.sl (enc := encI) (fun _ => rfl) h
  have hk : k < n := by
    have h1 := (List.getElem?_eq_some_iff.1 hy).1
    obtain ⟨_, _, e, _⟩ := hsl
    injection e with _ e _
    omega
  obtain ⟨bb, off, y', e1, hy', hb, hc⟩ := hsl.at_ hk
  obtain ⟨rfl, rfl⟩ : g = bb ∧ 0 = off := by simpa using e1
  rw [hy] at hy'
  injection hy' with hy'
  subst hy'
  have := SlI.cell hc (Ext.refl _)
  rw [Nat.zero_add] at this
  exact ⟨this, hb⟩
def putI (S : List Int) (x : Int) (j : Nat) : List Int := S.take j ++ x :: S.drop j
theorem putI_at (S T : List Int) (x : Int) {j : Nat} (hj : j ≤ S.length) : (putI S x j ++ T)[j]? = some x := by
  unfold putI
  rw [List.append_assoc, List.getElem?_append_right (by simp; omega)]
  simp [List.length_take, Nat.min_eq_left hj]
theorem putI_before (S T : List Int) (x : Int) {j : Nat} (hj : j < S.length) : (putI S x (j + 1) ++ T)[j]? = S[j]? := by
  unfold putI
  rw [List.append_assoc, List.getElem?_append_left (by simp; omega), List.getElem?_take, if_pos (by omega)]
theorem putI_swap (S T : List Int) (x y : Int) {j : Nat} (hy : S[j]? = some y) : ((putI S x (j + 1) ++ T).set (j + 1) y).set j x = putI S x j ++ T := by
  have hj : j < S.length := (List.getElem?_eq_some_iff.1 hy).1
  have h1 : S.take (j + 1) = S.take j ++ [y] := by rw [List.take_add_one, hy]; rfl
  have h2 : S.drop j = y :: S.drop (j + 1) := drop_at hy
  unfold putI
  rw [h1, h2]
  have hl : (S.take j).length = j := by simp; omega
  rw [show List.take j S ++ [y] ++ x :: List.drop (j + 1) S ++ T = List.take j S ++ (y :: x :: (List.drop (j + 1) S ++ T)) by simp]
  rw [List.set_append_right (j + 1) y (by omega), List.set_append_right j x (by omega), hl]
  rw [show j + 1 - j = 1 by omega, Nat.sub_self]
  simp
theorem putI_end (S T : List Int) (x : Int) : putI S x S.length ++ T = S ++ (x :: T) := by unfold putI; simp
/-- The first numbers, in order. -/
def ordI (l : List Int) (k : Nat) : List Int := (l.take k).foldl insI []
theorem ordI_succ {l : List Int} {k : Nat} {x : Int} (h : l[k]? = some x) : ordI l (k + 1) = insI (ordI l k) x := by
  unfold ordI
  rw [List.take_add_one, h, List.foldl_append]
  rfl
theorem ins_fold : ∀ (l s : List Int), s.Pairwise (· ≤ ·) → (l.foldl insI s).Pairwise (· ≤ ·) ∧ (l.foldl insI s).Perm (l ++ s)
  | [], s, h => ⟨h, List.Perm.refl _⟩
  | x :: l, s, h => by
    rw [List.foldl_cons]
    obtain ⟨h1, h2⟩ := ins_fold l (insI s x) (insI_sorted h x)
    exact ⟨h1, h2.trans (((insI_perm s x).append_left l).trans List.perm_middle)⟩
theorem ordI_ok (l : List Int) (k : Nat) : (ordI l k).Pairwise (· ≤ ·) ∧ (ordI l k).Perm (l.take k) := by
  have := ins_fold (l.take k) [] List.Pairwise.nil
  rw [List.append_nil] at this
  exact this
theorem ordI_len {l : List Int} {k : Nat} (h : k ≤ l.length) : (ordI l k).length = k := by rw [(ordI_ok l k).2.length_eq, List.length_take]; omega
/-- All behind j are greater. -/
def Gt (S : List Int) (x : Int) (j : Nat) : Prop := ∀ i y, j ≤ i → S[i]? = some y → x < y
theorem stopI {S : List Int} {x : Int} {j : Nat} (hs : S.Pairwise (· ≤ ·)) (hj : j ≤ S.length) (hg : Gt S x j) (h : ∀ y, j ≠ 0 → S[j - 1]? = some y → y ≤ x) : putI S x j = insI S x := by
  have e : spotI S x = j := spotI_of (fun i y hi hy => by
    obtain ⟨z, hz⟩ : ∃ z, S[j - 1]? = some z := ⟨_, List.getElem?_eq_getElem (by omega)⟩
    have := h z (by omega) hz
    have := pair_le hs hy hz (by omega)
    omega) hj fun y hy => hg j y (Nat.le_refl _) hy
  unfold insI
  rw [e]
  rfl

set_option maxHeartbeats 2000000 in
theorem insSort_any (l : List Int) (g n c base : Nat) (w : World) (hn : n = l.length) (hn0 : 0 < n) (hn20 : n ≤ 12) (ho : Own encI 3 1 w base (.slice (some ⟨g, 0, none⟩) n c) l) :
    Calls Tryz.prog 118 #[.slice (some ⟨g, 0, none⟩) n c, .int .i64 0, .int .i64 (n : Int)] w fun e w' => (∃ v, e = .returned v) ∧ Own encI 3 1 w' base (.slice (some ⟨g, 0, none⟩) n c) (ordI l n) ∧ w.grownBy w' (some g) := by
  have HO := Lib.hid ho
  have HN := Lib.hid hn
  clear ho hn
  go_enter Tryz.func118, Tryz.ntmps118
  go_wp2
  go_loopg [6, 7] n (fun gg s8 _ wr => ∃ i : Nat, 1 ≤ i ∧ i ≤ n ∧ n - i ≤ gg ∧ s8 = .int .i64 (i : Int) ∧ Aside (Own encI 3 1 wr base (.slice (some ⟨g, 0, none⟩) n c) (ordI l i ++ l.drop i)) ∧ Aside (w.grownBy wr (some g)))
  case atStart => exact ⟨1, by omega, by omega, by omega, rfl, by
    have h0 : 0 < l.length := by have := HN.out; omega
    have : ordI l 1 ++ l.drop 1 = l := by
      match l, h0 with
      | x :: r, _ => simp [ordI, insI, spotI]
    rw [this]; exact HO.out, World.grownBy.refl _ _⟩
  case round =>
    obtain ⟨i, hi1, hin, hgg, rfl, OW, GW⟩ := hrel
    by_cases hiN : i < n
    · have hiz : (i : Int) < (n : Int) := by omega
      obtain ⟨x, hx⟩ : ∃ x, l[i]? = some x := ⟨_, List.getElem?_eq_getElem (by have := HN.out; omega)⟩
      have HX := Lib.hid hx
      have HSL := Lib.hid (ordI_len (l := l) (k := i) (by have := HN.out; omega))
      have HSS := Lib.hid (ordI_succ hx)
      have HSP := Lib.hid (ordI_ok l i).1
      have HDR := Lib.hid (show ordI l i ++ l.drop i = putI (ordI l i) x i ++ l.drop (i + 1) by
        rw [drop_at hx]
        have := putI_end (ordI l i) (l.drop (i + 1)) x
        rw [HSL.out] at this
        exact this.symm)
      rw [HDR.out] at OW
      clear hx
      generalize ordI l i = S at *
      generalize hTT : l.drop (i + 1) = T at *
      have HTT := Lib.hid hTT; clear hTT
      obtain ⟨wo, hwo⟩ : ∃ wo : World, wo = wr := ⟨_, rfl⟩
      subst hwo
      go_wp2_with fail
      go_loopg [7] i (fun gg s9 wr => ∃ j : Nat, j ≤ i ∧ j ≤ gg ∧ s9 = .int .i64 (j : Int) ∧ Aside (Own encI 3 1 wr base (.slice (some ⟨g, 0, none⟩) n c) (putI S x j ++ T)) ∧ Aside (Gt S x j) ∧ Aside (w.grownBy wr (some g)))
      case atStart => exact ⟨i, by omega, by omega, rfl, OW.out, (show Gt S x i from fun k y hk hy => by have := (List.getElem?_eq_some_iff.1 hy).1; have := HSL.out; omega), GW.out⟩
      case round =>
        obtain ⟨j, hji, hgj, rfl, OJ, ST, GJ⟩ := hrel
        by_cases hj0 : j = 0
        · subst hj0
          have HFI := Lib.hid (show Own encI 3 1 wr base (.slice (some ⟨g, 0, none⟩) n c) (ordI l (i + 1) ++ T) by rw [HSS.out, ← stopI HSP.out (Nat.zero_le _) ST.out (fun y h _ => absurd rfl h)]; exact OJ.out)
          go_wp2_with fail
          refine wp_region_tame (fun W => Ext wr W) (fun W W' => Ext W W') (by kernel_rfl) 49 rfl (by decide +kernel) (Ext.refl _).drew ?_
          repeat (apply tame_q rfl; (intro ρ W hC hr hD; (obtain ⟨hrc, hrg, hrf, hrs⟩ := hr); (simp [go_sem] at hD); go_simp; first | exact ⟨⟨hC, Ext.refl _⟩, rfl⟩ | exact ⟨⟨hC, RS.refl _⟩, rfl⟩ | exact rfl); simp only [List.nil_append, List.cons_append])
          refine tame_end 49 rfl rfl (fun ρ W hC hr hF => ?_)
          obtain ⟨hrc, hrg, hrf, hrs⟩ := hr
          simp [go_sem] at hF
          apply frame_to
          · go_simp
            exact rfl
          have HFI := Lib.hid (HFI.out.ext hC)
          have GJ2 := Lib.hid (grown_ext GJ.out hC)
          clear hF hrs hrc hrg hrf hC
          go_wp2
          go_roundg (n - (i + 1))
          case measure => omega
          case rel => exact ⟨i + 1, by omega, by omega, by omega, by simp, by rw [HTT.out]; exact HFI.out, GJ2.out⟩
        · obtain ⟨k, hk⟩ : ∃ k, j = k + 1 := ⟨j - 1, by omega⟩
          have HK := Lib.hid hk
          have hkn : k < n := by omega
          have hjn : j < n := by omega
          have hjS : j ≤ S.length := by have := HSL.out; omega
          obtain ⟨y, hy⟩ : ∃ y, S[k]? = some y := ⟨_, List.getElem?_eq_getElem (by omega)⟩
          have HY := Lib.hid hy
          have hmj : (putI S x j ++ T)[j]? = some x := putI_at S T x hjS
          have hmk : (putI S x j ++ T)[k]? = some y := by rw [HK.out, putI_before S T x (by have := HK.out; omega)]; exact HY.out
          have hml : (putI S x j ++ T).length = n := by have := OJ.out.sl (fun _ => rfl) (enc := encI); obtain ⟨_, _, e, _⟩ := this; injection e with _ e _; exact e.symm
          have cx := fun W (h : Ext wr W) => own_atI (OJ.out.ext h) hmj
          have cy := fun W (h : Ext wr W) => own_atI (OJ.out.ext h) hmk
          have x0 := fun W (h : Ext wr W) => (cx W h).1
          have y0 := fun W (h : Ext wr W) => (cy W h).1
          have hjz : (0 : Int) < (j : Int) := by omega
          have hjp : 0 < j := by omega
          have hjz2 : (j : Int) < (n : Int) := by omega
          have hjs : (j : Int) - 1 = (k : Int) := by omega
          have hkz2 : (k : Int) < (n : Int) := by omega
          clear hk hy cx cy
          have hwk := wrap_nat (k := k) (by omega)
          by_cases hxy : x < y
          · have HST := Lib.hid (show Gt S x k from fun q z hq hz => by
              by_cases hqk : q = k
              · subst hqk
                rw [HY.out] at hz
                injection hz with hz
                omega
              · exact ST.out q z (by have := HK.out; omega) hz)
            have HSW := Lib.hid (show ((putI S x j ++ T).set j y).set k x = putI S x k ++ T by rw [HK.out]; exact putI_swap S T x y HY.out)
            go_wp2_with fail
            refine wp_region_tame (fun W => Ext wr W) (fun W W' => Ext W W') (by kernel_rfl) 49 rfl (by decide +kernel) (Ext.refl _).drew ?_
            repeat (apply tame_q rfl; (intro ρ W hC hr hD; (obtain ⟨hrc, hrg, hrf, hrs⟩ := hr); (simp [go_sem] at hD); go_simp; first | exact ⟨⟨hC, Ext.refl _⟩, rfl⟩ | exact ⟨⟨hC, RS.refl _⟩, rfl⟩ | exact rfl); simp only [List.nil_append, List.cons_append])
            apply tame_q rfl
            · intro ρ W hC hr hD
              obtain ⟨hrc, hrg, hrf, hrs⟩ := hr
              simp [go_sem] at hD
              go_simp
              refine (less_any x y W).mono ?_
              rintro e w' ⟨rfl, hE⟩
              rw [decide_eq_true hxy]
              exact ⟨_, rfl, ⟨hC.trans hE, hE⟩, rfl⟩
            simp only [List.nil_append, List.cons_append]
            repeat (apply tame_q rfl; (intro ρ W hC hr hD; (obtain ⟨hrc, hrg, hrf, hrs⟩ := hr); (simp [go_sem] at hD); go_simp; first | exact ⟨⟨hC, Ext.refl _⟩, rfl⟩ | exact ⟨⟨hC, RS.refl _⟩, rfl⟩ | exact rfl); simp only [List.nil_append, List.cons_append])
            refine tame_end 49 rfl rfl (fun ρ W hC hr hF => ?_)
            obtain ⟨hrc, hrg, hrf, hrs⟩ := hr
            simp [go_sem] at hF
            apply frame_to
            · go_simp
              exact rfl
            have OJ2 := Lib.hid (OJ.out.ext hC)
            have GJ2 := Lib.hid (grown_ext GJ.out hC)
            clear hF hrs hrc hrg hrf x0 y0 hC
            generalize hm0 : putI S x j ++ T = m0 at *
            go_wp2_with fail
            refine wp_region_tameN_cut (fun W' => W.grownBy W' (some g) ∧ ∃ m, Own encI 3 1 W' base (.slice (some ⟨g, 0, none⟩) n c) m ∧ m.length = n) (fun A B => Own encI 3 1 A base (.slice (some ⟨g, 0, none⟩) n c) (m0.set j y) → Own encI 3 1 B base (.slice (some ⟨g, 0, none⟩) n c) (m0.set j y)) (fun W' => Own encI 3 1 W' base (.slice (some ⟨g, 0, none⟩) n c) m0) 15 (by kernel_rfl) 49 rfl _ rfl (by decide +kernel) (by decide +kernel) (by decide +kernel) rfl ⟨⟨rfl, rfl, rfl, Nat.le_refl _, fun _ _ _ => rfl⟩, m0, OJ2.out, hml⟩ OJ2.out ?_
            simp only [List.dropLast]
            repeat (apply tameN_q rfl; (intro ρ W hC hN hr hD; (obtain ⟨hrc, hrg, hrf, hrs⟩ := hr); (simp [go_sem] at hD); go_simp; first | exact ⟨⟨hC, fun h => h, fun _ h => h⟩, rfl⟩ | exact ⟨hC, fun h => h, fun _ h => h⟩ | exact ⟨⟨hC, ⟨fun h => h, fun h => h⟩, fun _ h => h⟩, rfl⟩ | exact ⟨hC, ⟨fun h => h, fun h => h⟩, fun _ h => h⟩ | exact rfl); simp only [List.nil_append, List.cons_append])
            apply tameN_q rfl
            · intro ρ W' hC hN hr hD
              obtain ⟨hrc, hrg, hrf, hrs⟩ := hr
              simp [go_sem] at hD
              obtain ⟨b0, bl⟩ := own_atI (hN rfl) hmk
              go_simp
              first | exact ⟨⟨hC, fun h => h, fun _ h => h⟩, rfl⟩ | exact ⟨hC, fun h => h, fun _ h => h⟩
            simp only [List.nil_append, List.cons_append]
            repeat (apply tameN_q rfl; (intro ρ W hC hN hr hD; (obtain ⟨hrc, hrg, hrf, hrs⟩ := hr); (simp [go_sem] at hD); go_simp; first | exact ⟨⟨hC, fun h => h, fun _ h => h⟩, rfl⟩ | exact ⟨hC, fun h => h, fun _ h => h⟩ | exact ⟨⟨hC, ⟨fun h => h, fun h => h⟩, fun _ h => h⟩, rfl⟩ | exact ⟨hC, ⟨fun h => h, fun h => h⟩, fun _ h => h⟩ | exact rfl); simp only [List.nil_append, List.cons_append])
            apply tameN_q rfl
            · intro ρ W' hC hN hr hD
              obtain ⟨hrc, hrg, hrf, hrs⟩ := hr
              simp [go_sem] at hD
              obtain ⟨b0, bl⟩ := own_atI (hN rfl) hmj
              go_simp
              first | exact ⟨⟨hC, fun h => h, fun _ h => h⟩, rfl⟩ | exact ⟨hC, fun h => h, fun _ h => h⟩
            simp only [List.nil_append, List.cons_append]
            repeat (apply tameN_q rfl; (intro ρ W hC hN hr hD; (obtain ⟨hrc, hrg, hrf, hrs⟩ := hr); (simp [go_sem] at hD); go_simp; first | exact ⟨⟨hC, fun h => h, fun _ h => h⟩, rfl⟩ | exact ⟨hC, fun h => h, fun _ h => h⟩ | exact ⟨⟨hC, ⟨fun h => h, fun h => h⟩, fun _ h => h⟩, rfl⟩ | exact ⟨hC, ⟨fun h => h, fun h => h⟩, fun _ h => h⟩ | exact rfl); simp only [List.nil_append, List.cons_append])
            apply tameN_n (fun _ W' => Own encI 3 1 W' base (.slice (some ⟨g, 0, none⟩) n c) (m0.set j y)) (fun _ A B _ hR h => hR h)
            · intro ρ W' hC hN hr hD
              obtain ⟨hrc, hrg, hrf, hrs⟩ := hr
              simp [go_sem] at hD
              have h0 := hN rfl
              obtain ⟨a0, al⟩ := own_atI h0 hmj
              have df : ∀ k, W'.frozen? ⟨g, k, none⟩ = false := fun k => own_frozen h0 k
              have h4 := own_putI (x := y) (i := j) h0
              have H4 := Lib.hid h4; have HC := Lib.hid hC.1
              clear h4 h0 hN hC
              go_simp
              exact ⟨⟨⟨grown_set HC.out (p := ⟨g, j, none⟩) (.inl rfl) _, _, H4.out, by rw [List.length_set]; exact hml⟩, fun _ => H4.out, fun h => by cases h⟩, H4.out⟩
            simp only [List.nil_append, List.cons_append]
            repeat (apply tameN_q rfl; (intro ρ W hC hN hr hD; (obtain ⟨hrc, hrg, hrf, hrs⟩ := hr); (simp [go_sem] at hD); go_simp; first | exact ⟨⟨hC, fun h => h, fun _ h => h⟩, rfl⟩ | exact ⟨hC, fun h => h, fun _ h => h⟩ | exact ⟨⟨hC, ⟨fun h => h, fun h => h⟩, fun _ h => h⟩, rfl⟩ | exact ⟨hC, ⟨fun h => h, fun h => h⟩, fun _ h => h⟩ | exact rfl); simp only [List.nil_append, List.cons_append])
            refine tameN_end 49 rfl rfl (fun ρ W' hC hr hF => ?_)
            obtain ⟨hrc, hrg, hrf, hrs⟩ := hr
            simp [go_sem] at hF
            obtain ⟨f37, f38, f39, f40, f41, f42, f43, f44, f45, f46, f47, f48, f49, f50, f51, fS, f52⟩ := hF
            apply frame_to
            · go_simp
              exact rfl
            have OJ4 := Lib.hid fS
            have GJ3 := Lib.hid (grown_tr GJ2.out hC.1)
            clear f37 f38 f39 f40 f41 f42 f43 f44 f45 f46 f47 f48 f49 f50 f51 fS f52 hrs hrc hrg hrf hC
            have hne : ¬ j = k := by have := HK.out; omega
            obtain ⟨b0, bl⟩ := own_atI OJ4.out (show (m0.set j y)[k]? = some y by rw [List.getElem?_set, if_neg hne]; exact hmk)
            have df : ∀ k, W'.frozen? ⟨g, k, none⟩ = false := fun k => own_frozen OJ4.out k
            have OJ5 := Lib.hid (own_putI (x := x) (i := k) OJ4.out)
            rw [HSW.out] at OJ5
            clear hmj hmk
            go_wp2
            go_roundg k
            case measure => have := HK.out; omega
            case rel => exact ⟨k, by have := HK.out; omega, by omega, rfl, OJ5.out, HST.out, grown_set GJ3.out (p := ⟨g, k, none⟩) (.inl rfl) _⟩
          · have hcd : decide (x < y) = false := decide_eq_false hxy
            have HFI := Lib.hid (show Own encI 3 1 wr base (.slice (some ⟨g, 0, none⟩) n c) (ordI l (i + 1) ++ T) by
              rw [HSS.out, ← stopI HSP.out hjS ST.out (fun z _ hz => by
                rw [HK.out, Nat.add_sub_cancel, HY.out] at hz
                injection hz with hz
                omega)]
              exact OJ.out)
            go_wp2_with fail
            refine wp_region_tame (fun W => Ext wr W) (fun W W' => Ext W W') (by kernel_rfl) 49 rfl (by decide +kernel) (Ext.refl _).drew ?_
            repeat (apply tame_q rfl; (intro ρ W hC hr hD; (obtain ⟨hrc, hrg, hrf, hrs⟩ := hr); (simp [go_sem] at hD); go_simp; first | exact ⟨⟨hC, Ext.refl _⟩, rfl⟩ | exact ⟨⟨hC, RS.refl _⟩, rfl⟩ | exact rfl); simp only [List.nil_append, List.cons_append])
            apply tame_q rfl
            · intro ρ W hC hr hD
              obtain ⟨hrc, hrg, hrf, hrs⟩ := hr
              simp [go_sem] at hD
              go_simp
              refine (less_any x y W).mono ?_
              rintro e w' ⟨rfl, hE⟩
              rw [hcd]
              exact ⟨_, rfl, ⟨hC.trans hE, hE⟩, rfl⟩
            simp only [List.nil_append, List.cons_append]
            repeat (apply tame_q rfl; (intro ρ W hC hr hD; (obtain ⟨hrc, hrg, hrf, hrs⟩ := hr); (simp [go_sem] at hD); go_simp; first | exact ⟨⟨hC, Ext.refl _⟩, rfl⟩ | exact ⟨⟨hC, RS.refl _⟩, rfl⟩ | exact rfl); simp only [List.nil_append, List.cons_append])
            refine tame_end 49 rfl rfl (fun ρ W hC hr hF => ?_)
            obtain ⟨hrc, hrg, hrf, hrs⟩ := hr
            simp [go_sem] at hF
            apply frame_to
            · go_simp
              exact rfl
            have HFI := Lib.hid (HFI.out.ext hC)
            have GJ2 := Lib.hid (grown_ext GJ.out hC)
            clear hF hrs hrc hrg hrf x0 y0 hC
            go_wp2
            go_roundg (n - (i + 1))
            case measure => omega
            case rel => exact ⟨i + 1, by omega, by omega, by omega, by simp, by rw [HTT.out]; exact HFI.out, GJ2.out⟩
    · have hie : i = n := by omega
      subst hie
      have HF := Lib.hid (show ordI l i ++ l.drop i = ordI l i by rw [List.drop_eq_nil_of_le (by have := HN.out; omega), List.append_nil])
      go_wp2
      refine bodyPost_end (results_none rfl _ _ _) rfl ?_
      exact ⟨⟨_, rfl⟩, by rw [← HF.out]; exact OW.out, GW.out⟩
end Go.Proofs.YtkpengeaolcjhaaGreatDoor
/- slices.DeleteFunc at ints; mill.Needs and the reference's; Without of both. -/
namespace Go.Proofs.YtkpengeaolcjhaaGreatDoor
open Go.RowKit Go.Shelf Go.Lib
set_option maxRecDepth 100000
set_option linter.unusedSimpArgs false

theorem deleteI_any (tf : FuncId) (tlb : Array Value) (et : ∀ args w, (callFunc tf args).run Tryz.prog w = .ok (.enter tf args) w) (p : Int → Bool) (l : List Int) (v : Value) (base : Nat) (w : World) (hb : base ≤ w.heap.size) (ho : Own encI 3 1 w base v l)
    (hp : ∀ W x, Below base w W → Calls Tryz.prog tf (#[Value.int .i64 x] ++ tlb) W fun e W' => e = .returned (.bool (p x)) ∧ Ext W W') :
    Calls Tryz.prog 58 #[v, .func (.func tf) #[] tlb] w fun e w' => ∃ v', e = .returned v' ∧ Own encI 3 1 w' base v' (l.filter fun x => !p x) ∧ w.grownBy w' v.ownBlock := by
  have HP := Lib.hid hp
  have HO := Lib.hid ho
  have hsl : SlI w v l := Own.sl (enc := encI) (fun _ => rfl) ho
  obtain ⟨A, n, c, rfl, hn, hlc, hcm⟩ := hsl.form
  have HSL := Lib.hid hsl
  have HPR := Lib.hid (show Pred (fun n => .int .i64 n) tf tlb p l w from fun W x _ hE => hp W x (Below.mono hE hb))
  clear hp ho hsl
  go_enter Tryz.func58, Tryz.ntmps58
  go_wp2_with fail
  refine (f96_any tf tlb et p l _ w HSL.out HPR.out).mono ?_
  rintro e w1 ⟨rfl, hE⟩
  have HB1 := Lib.hid hE
  have HO1 := Lib.hid (HO.out.ext hE)
  have hz1 := hE.size
  rcases idxF_cases p l with ⟨hi, hall⟩ | ⟨k, x, hi, hx, hpx, hlt⟩
  · rw [hi]
    have HF := Lib.hid (show (l.filter fun x => !p x) = l from List.filter_eq_self.2 fun x hx => by rw [hall x hx]; rfl)
    clear hE hall
    go_wp2
    go_ret
    exact ⟨_, rfl, by rw [HF.out]; exact HO1.out, ext_row HB1.out _⟩
  · rw [hi]
    have hkn : k < n := by rw [hn.out]; exact (List.getElem?_eq_some_iff.1 hx).1
    have hnz : (n : Int) ≤ 9223372036854775807 := by omega
    have hk1 : ¬ ((k : Int) = -1) := by omega
    have HF0 := Lib.hid (show l.take k = (l.take (k + 1)).filter fun x => !p x by
      rw [List.take_add_one, hx, List.filter_append]
      have h1 : (l.take k).filter (fun x => !p x) = l.take k := List.filter_eq_self.2 fun y hy => by
        obtain ⟨j, hj⟩ := List.mem_iff_getElem?.1 hy
        rw [List.getElem?_take] at hj
        split at hj
        · rename_i hjk
          rw [hlt j y hjk hj]; rfl
        · cases hj
      rw [h1]
      simp [hpx])
    obtain ⟨g, cap, hv, hbg⟩ : ∃ g cap, (Value.slice A n c) = .slice (some ⟨g, 0, none⟩) n cap ∧ base ≤ g := by
      obtain ⟨m, rfl⟩ : ∃ m, n = m + 1 := ⟨n - 1, by omega⟩
      have h9 := HO.out
      unfold Own at h9
      rw [← hn.out] at h9
      obtain ⟨g, cap, e1, e2⟩ := own_succ h9
      exact ⟨g, cap, e1, e2⟩
    injection hv with hv1 _ hv3
    subst hv1 hv3
    clear hE hi hx hpx hlt
    go_wp2
    go_loopg [5, 6, 7] n (fun gg s5 s6 _ wr => ∃ (i j : Nat) (m : List Int), i < j ∧ j ≤ n ∧ n - j ≤ gg ∧ s5 = .int .i64 (i : Int) ∧ s6 = .int .i64 (j : Int) ∧ m.length = n ∧ Aside (Own encI 3 1 wr base (.slice (some ⟨g, 0, none⟩) n c) m) ∧ Aside (m.take i = (l.take j).filter fun x => !p x) ∧ Aside (∀ t, j ≤ t → m[t]? = l[t]?) ∧ Aside (w.grownBy wr (some g)))
    case atStart => exact ⟨k, k + 1, l, by omega, by omega, by omega, rfl, by simp, hn.out.symm, HO1.out, HF0.out, fun t _ => rfl, ext_row HB1.out _⟩
    case round =>
      obtain ⟨i, j, m, hij, hj, hgg, rfl, rfl, hml, OM, MT, MD, BW⟩ := hrel
      have hbs := BW.out.size
      by_cases hjn : j < n
      · have hjz : (j : Int) < (n : Int) := by omega
        have hslm : SlI wr (.slice (some ⟨g, 0, none⟩) n c) m := Own.sl (enc := encI) (fun _ => rfl) OM.out
        obtain ⟨bb, off, x, e1, hx, hbb, hxc⟩ := hslm.at_ hjn
        injection e1 with e1
        injection e1 with e1 e2 _
        subst e1 e2
        have c0 := SlI.cell hxc (Ext.refl _)
        simp only [Nat.zero_add] at c0
        have HC := Lib.hid (HP.out wr x (row_below BW.out hb hbg))
        have hlx : l[j]? = some x := by rw [← MD.out j (Nat.le_refl _)]; exact hx
        have hxx : m[j]? = some x := hx
        cases hpx : p x with
        | true =>
          rw [hpx] at HC
          have HMT := Lib.hid (show m.take i = (l.take (j + 1)).filter fun x => !p x by rw [MT.out, List.take_add_one, hlx, List.filter_append]; simp [hpx])
          clear hxc hslm hx
          go_wp2_with (go_at_fn tf; refine HC.out.mono ?_; rintro e w' ⟨rfl, hE'⟩)
          have EX := Lib.hid hE'
          go_wp2
          go_roundg (n - (j + 1))
          case measure => omega
          case rel => exact ⟨i, j + 1, m, by omega, by omega, by omega, rfl, by simp, hml, OM.out.ext EX.out, HMT.out, fun t ht => MD.out t (by omega), grown_ext BW.out EX.out⟩
        | false =>
          rw [hpx] at HC
          have HMT := Lib.hid (show (m.set i x).take (i + 1) = (l.take (j + 1)).filter fun x => !p x by
            rw [List.take_add_one, List.getElem?_set, if_pos rfl, if_pos (by omega), List.take_set_of_le (Nat.le_refl _), MT.out, List.take_add_one, hlx, List.filter_append]
            simp [hpx])
          have hin : i < n := by omega
          have hiz : (i : Int) < (n : Int) := by omega
          clear hxc hslm hx
          go_wp2_with fail
          refine HC.out.mono ?_
          rintro e w' ⟨rfl, hE'⟩
          have EX := Lib.hid hE'
          have OM2 := OM.out.ext EX.out
          have hslm : SlI w' (.slice (some ⟨g, 0, none⟩) n c) m := Own.sl (enc := encI) (fun _ => rfl) OM2
          obtain ⟨bb, off, y, e1, hy, hbb2, hyc⟩ := hslm.at_ hin
          injection e1 with e1
          injection e1 with e1 e2 _
          subst e1 e2
          have d0 := SlI.cell hyc (Ext.refl _)
          simp only [Nat.zero_add] at d0
          have df : ∀ k, w'.frozen? ⟨g, k, none⟩ = false := fun k => own_frozen OM2 k
          have HOM2 := Lib.hid OM2
          clear hslm hyc hy OM2 c0 hE'
          go_wp2
          go_roundg (n - (j + 1))
          case measure => omega
          case rel => exact ⟨i + 1, j + 1, m.set i x, by omega, by omega, by omega, by simp, by simp, by rw [List.length_set]; exact hml, own_putI (x := x) (i := i) HOM2.out, HMT.out, fun t ht => by rw [List.getElem?_set, if_neg (by omega)]; exact MD.out t (by omega), grown_set (grown_ext BW.out EX.out) (p := ⟨g, i, none⟩) (.inl rfl) _⟩
      · have hje : j = n := by omega
        subst hje
        obtain ⟨w', hr, HOC, hgr⟩ := run_clear_own (enc := encI) (sz := 1) (fun _ => rfl) (t := 36) (e := 3) (ty := 0) (z := .int .i64 0) Tryz.underlying36 (fun _ => by kernel_rfl) rfl (by decide) (by decide) (k := i) (c := c - i) OM.out hml.symm (by omega)
        rw [Nat.mul_one] at hr
        have HOC := Lib.hid HOC
        have HF := Lib.hid (show m.take i = l.filter fun x => !p x by rw [MT.out, List.take_of_length_le (by have := hn.out; omega)])
        have HBE := Lib.hid (show w.grownBy w' (some g) from grown_tr BW.out hgr)
        have hin : i ≤ j := by omega
        have hiz : (i : Int) ≤ (j : Int) := by omega
        clear hgr
        go_wp2
        go_ret
        exact ⟨_, rfl, by rw [← HF.out]; exact HOC.out, HBE.out⟩
end Go.Proofs.YtkpengeaolcjhaaGreatDoor
/- mill.Needs: the bales without which the best plan is less even, or there is none. -/
namespace Go.Proofs.YtkpengeaolcjhaaGreatDoor
open Go.RowKit Go.Shelf Go.Lib
set_option maxRecDepth 100000
set_option linter.unusedSimpArgs false

/-- Without the bale the best plan is as even. -/
def keepsB (m : Mll) (id : Int) : Bool := decide ((lostM m id).2.2 = 0) && decide (evenU m = ((lostM m id).1, (lostM m id).2.1))
def needL (m : Mll) : List Int := if bestE m = 0 then (idsL m).filter (fun id => !keepsB m id) else []
theorem und106 : Tryz.prog.underlying 106 = some (.struct (Tryz.prog.fieldsOf 106)) := by kernel_rfl
theorem held106 : Tryz.prog.stoodInHeld 106 = false := by kernel_rfl
theorem eqlU (a b : Int × Int) (w : World) : (binOp .eql 106 (valU a) (valU b)).run Tryz.prog w = .ok (.bool (decide (a = b))) w := by
  have u3 := Tryz.underlying3
  have a3 := Tryz.isAgg3
  have z3 := Tryz.sizeOf3
  rw [run_eql_struct, show (10000 : Nat) = 9999 + 1 from rfl, run_equalIn_agg w 9999 106 _ _ und106 held106]
  simp only [Program.fieldsOf, Tryz.underlying106]
  obtain ⟨a1, a2⟩ := a
  obtain ⟨b1, b2⟩ := b
  go_simp
  by_cases h0 : a1 = b1 <;> by_cases h1 : a2 = b2 <;> simp [h0, h1]
set_option maxHeartbeats 4000000 in
theorem f60_any (lots size id : Int) (l : List Rc) (A : Option Addr) (n c bm ba bb : Nat) (a b : Int) (w : World) (hT : TabM w) (hs : MlC w (.slice A n c) l) (hlen : l.length ≤ 900) (hB : Blk w bm 24 #[.int .i64 lots, .int .i64 size, .slice A n c]) (ha : Blk w ba 3 #[.int .i64 a]) (hb : Blk w bb 3 #[.int .i64 b])
    (hab : evenU (mOf lots size l) = (a, b)) :
    Calls Tryz.prog 60 #[.int .i64 id, .pointer (some ⟨bm, 0, none⟩), .pointer (some ⟨ba, 0, none⟩), .pointer (some ⟨bb, 0, none⟩)] w fun e w' => e = .returned (.bool (keepsB (mOf lots size l) id)) ∧ Ext w w' := by
  have HW := Lib.hid (withoutM_any lots size id l (.slice A n c) w hT hs hlen)
  obtain ⟨b0, b1, b2, bf, bl⟩ := hB.c3
  have HKB := Lib.hid (show keepsB (mOf lots size l) id = (decide ((lostM (mOf lots size l) id).2.2 = 0) && decide ((a, b) = ((lostM (mOf lots size l) id).1, (lostM (mOf lots size l) id).2.1))) by unfold keepsB; rw [hab])
  have HA := Lib.hid ha; have HBB := Lib.hid hb
  obtain ⟨p, q, e0, hlo⟩ : ∃ p q e0, lostM (mOf lots size l) id = (p, q, e0) := ⟨_, _, _, rfl⟩
  rw [HKB.out]
  rw [hlo] at HW ⊢
  have eq1 := fun w => eqlU (a, b) (p, q) w
  clear hT hs hlen hB ha hb hab HKB hlo
  go_enter Tryz.func60, Tryz.ntmps60
  go_wp2_with fail
  refine HW.out.mono ?_
  rintro e w1 ⟨rfl, hE⟩
  have E1 := Lib.hid hE
  have a0 := (HA.out.ext hE).cell 0
  have a1 := (HBB.out.ext hE).cell 0
  simp at a0 a1
  clear hE HW b0 b1 b2 bf
  by_cases h0 : e0 = 0
  · subst h0
    go_wp2
    go_ret
    exact ⟨by simp, E1.out⟩
  · have h0b : (e0 == 0) = false := by simpa using h0
    go_wp2
    go_ret
    exact ⟨by simp [h0], E1.out⟩
set_option maxHeartbeats 4000000 in
theorem needsM_any (lots size : Int) (l : List Rc) (sv : Value) (w : World) (hT : TabM w) (hs : MlC w sv l) (hlen : l.length ≤ 900) :
    Calls Tryz.prog 18 #[valM lots size sv] w fun e w' => (∃ v, e = .returned (.tuple #[v, .int .i64 (bestE (mOf lots size l))]) ∧ SlI w' v (needL (mOf lots size l))) ∧ Ext w w' := by
  have HS := Lib.hid hs; have HT := Lib.hid hT; have HLN := Lib.hid hlen
  obtain ⟨A, n, c, rfl, hn, hlc, hcm⟩ := hs.1.form
  have HL := Lib.hid (show l.length = n from hn.out.symm)
  have eg : ∀ args w, (callFunc 60 args).run Tryz.prog w = .ok (.enter 60 args) w := enters_of Tryz.func60 (by kernel_rfl) rfl
  clear hs hT hn hlen
  go_enter Tryz.func18, Tryz.ntmps18
  go_wp2_with fail
  have E0 := Lib.hid (Ext.al w (.cells #[.int .i64 lots, .int .i64 size, .slice A n c] 24))
  have B0 := Lib.hid (Blk.new w 24 #[.int .i64 lots, .int .i64 size, .slice A n c])
  refine (evenM_any lots size l _ _ (HT.out.ext E0.out) (HS.out.ext E0.out) (by have := HLN.out; omega)).mono ?_
  rintro e w1 ⟨rfl, hE⟩
  have E1 := Lib.hid (E0.out.trans hE)
  have B1 := Lib.hid (B0.out.ext hE)
  clear hE E0 B0
  obtain ⟨er, her⟩ : ∃ er, bestE (mOf lots size l) = er := ⟨_, rfl⟩
  obtain ⟨a, b, hab⟩ : ∃ a b, evenU (mOf lots size l) = (a, b) := ⟨_, _, rfl⟩
  rw [her, hab]
  have HER := Lib.hid her; have HAB := Lib.hid hab
  clear her hab
  dsimp only
  by_cases h0 : er = 0
  · subst h0
    go_upto_region 4 with (fail)
    obtain ⟨w3, hw3⟩ : ∃ w3, w3 = (w1.alloc (.cells #[.int .i64 a] 3)).alloc (.cells #[.int .i64 b] 3) := ⟨_, rfl⟩
    rw [← hw3]
    have E3 := Lib.hid (show Ext w w3 from hw3 ▸ (E1.out.alloc _).alloc _)
    have B3 := Lib.hid (show Blk w3 w.heap.size 24 #[.int .i64 lots, .int .i64 size, .slice A n c] from hw3 ▸ (B1.out.alloc _).alloc _)
    have BA := Lib.hid (show Blk w3 w1.heap.size 3 #[.int .i64 a] from hw3 ▸ (Blk.new _ _ _).alloc _)
    have BB := Lib.hid (show Blk w3 (w1.heap.size + 1) 3 #[.int .i64 b] from hw3 ▸ Blk.at_ (by simp))
    clear hw3 B1 E1
    obtain ⟨b0, b1, b2, bf, bl⟩ := B3.out.c3
    go_wp2_with fail
    refine (ids_any lots size l _ _ (HS.out.1.ext E3.out) (by have := HLN.out; omega)).mono ?_
    rintro e w4 ⟨⟨iv, rfl, hiv⟩, hE⟩
    have E4 := Lib.hid hE
    have HIV := Lib.hid hiv
    clear hE hiv b0 b1 b2 bf bl
    have HD := Lib.hid (deleteI_any 60 #[.pointer (some ⟨w.heap.size, 0, none⟩), .pointer (some ⟨w1.heap.size, 0, none⟩), .pointer (some ⟨w1.heap.size + 1, 0, none⟩)] eg (keepsB (mOf lots size l)) (l.map (·.c.b.id)) iv w3.heap.size w4 E4.out.size HIV.out fun W x hW => by
      have hX : Ext w3 W := Below.trans E4.out hW
      exact f60_any lots size x l A n c _ _ _ a b W (HT.out.ext (E3.out.trans hX)) (HS.out.ext (E3.out.trans hX)) HLN.out (B3.out.ext hX) (BA.out.ext hX) (BB.out.ext hX) HAB.out)
    go_wp2_with fail
    refine HD.out.mono ?_
    rintro e w5 ⟨v', rfl, hO, hG⟩
    have HO := Lib.hid (show SlI w5 v' (needL (mOf lots size l)) by
      have h := hO.sl (enc := encI) (fun _ => rfl)
      rw [show needL (mOf lots size l) = (l.map (·.c.b.id)).filter fun id => !keepsB (mOf lots size l) id by unfold needL; rw [HER.out, if_pos rfl]; simp [idsL, Function.comp_def]]
      exact h)
    have HE5 := Lib.hid (show Ext w w5 from E3.out.trans (Below.trans E4.out ((Below.refl _ w4).grown hG E4.out.size (fun k hk => (World.ownsRow.lt HIV.out k hk).1))))
    clear hO hG HD
    go_wp2
    go_ret2
    exact ⟨⟨_, by rw [HER.out]; rfl, HO.out⟩, HE5.out⟩
  · have h0b : (er == 0) = false := by simpa using h0
    have HNO := Lib.hid (show needL (mOf lots size l) = [] by unfold needL; rw [HER.out, if_neg h0])
    have HE1 := Lib.hid ((E1.out.alloc (.cells #[.int .i64 a] 3)).alloc (.cells #[.int .i64 b] 3))
    go_wp2
    go_ret2
    exact ⟨⟨_, by rw [HER.out]; rfl, by rw [HNO.out]; exact Sl.nil _⟩, HE1.out⟩
end Go.Proofs.YtkpengeaolcjhaaGreatDoor
