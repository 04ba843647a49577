/- ChainStops, plain: what is lost lies between what is told; the worst. -/
import Derived.Test.YtafdbgielmlihaaDoorPkChClosedCardO
namespace Go.Proofs.YtafdbgielmlihaaDoor
open Go.RowKit Go.Shelf
set_option linter.unusedSimpArgs false

theorem claim_line (c : Chn) (h st : Int) : ∀ k : Nat, ∃ A B : Int, ∀ p, claimTo c h st p k = A + B * p
  | 0 => ⟨0, 0, fun p => by simp [claimTo]⟩
  | k + 1 => by
    obtain ⟨A, B, ih⟩ := claim_line c h st k
    cases hx : c.sales[k]? with
    | none =>
      refine ⟨A, B, fun p => ?_⟩
      rw [← ih p]
      unfold claimTo
      rw [List.take_add_one, hx]
      simp
    | some x =>
      by_cases h1 : x.seller = st ∧ x.buyer = h
      · refine ⟨A - x.price * x.bales, B + x.bales, fun p => ?_⟩
        rw [claimTo_succ hx, ih]
        unfold claimX
        rw [if_pos h1, Int.sub_mul, Int.add_mul, Int.mul_comm p]
        omega
      · by_cases h2 : x.buyer = st ∧ x.seller = h
        · refine ⟨A + x.price * x.bales, B - x.bales, fun p => ?_⟩
          rw [claimTo_succ hx, ih]
          unfold claimX
          rw [if_neg h1, if_pos h2, Int.sub_mul, Int.sub_mul, Int.mul_comm p]
          omega
        · refine ⟨A, B, fun p => ?_⟩
          rw [claimTo_succ hx, ih]
          unfold claimX
          rw [if_neg h1, if_neg h2]
          omega
theorem claim_mid (c : Chn) (h st : Int) {a p b : Int} (h1 : a ≤ p) (h2 : p ≤ b) : (claimI c h st a ≤ claimI c h st p ∧ claimI c h st p ≤ claimI c h st b) ∨ (claimI c h st b ≤ claimI c h st p ∧ claimI c h st p ≤ claimI c h st a) := by
  obtain ⟨A, B, hl⟩ := claim_line c h st c.sales.length
  unfold claimI
  rw [hl, hl, hl]
  rcases Int.le_total 0 B with hB | hB
  · left
    have e1 := Int.mul_le_mul_of_nonneg_left h1 hB
    have e2 := Int.mul_le_mul_of_nonneg_left h2 hB
    omega
  · right
    have e1 := Int.mul_le_mul_of_nonpos_left hB h1
    have e2 := Int.mul_le_mul_of_nonpos_left hB h2
    omega
theorem claim_none {c : Chn} {h st : Int} (hn : ∀ x ∈ c.sales, ¬ (x.seller = st ∧ x.buyer = h) ∧ ¬ (x.buyer = st ∧ x.seller = h)) (p : Int) : claimI c h st p = 0 := by
  have key : ∀ k : Nat, claimTo c h st p k = 0 := fun k => by
    induction k with
    | zero => simp [claimTo]
    | succ k ih =>
      cases hx : c.sales[k]? with
      | none =>
        rw [← ih]
        unfold claimTo
        rw [List.take_add_one, hx]
        simp
      | some x =>
        obtain ⟨h1, h2⟩ := hn x (List.mem_of_getElem? hx)
        rw [claimTo_succ hx, ih]
        unfold claimX
        rw [if_neg h1, if_neg h2]
        rfl
  exact key _
theorem claim_self {c : Chn} (hR : Right c) (h p : Int) : claimI c h h p = 0 :=
  claim_none (fun x hx => by
    have := (hR.sale x hx).1
    exact ⟨fun e => this (e.1.trans e.2.symm), fun e => this (e.2.trans e.1.symm)⟩) p
theorem hiTo_zero {l : List Span} (h : ∀ x ∈ l, x.hi = 0) : ∀ k : Nat, hiTo l k = 0
  | 0 => by simp [hiTo]
  | k + 1 => by
    have ih := hiTo_zero h k
    cases hx : l[k]? with
    | none =>
      rw [← ih]
      unfold hiTo
      rw [List.take_add_one, hx]
      simp
    | some x => rw [hiTo_succ hx, ih, h x (List.mem_of_getElem? hx)]; rfl
/-- The worst is the first of those by which most is lost. -/
theorem worst_most {c : Chn} {s : Span} (hR : Right c) (hN : c.sales.length ≤ 10) (hs : pricedB s = true) :
    ∀ k : Nat, k ≤ c.houses.length → (∀ (j : Nat) (h : Int), j < k → c.houses[j]? = some h → hiI (losesAll c h s) ≤ (worstTo c s k).2 ∧ (hiI (losesAll c h s) = (worstTo c s k).2 → (worstTo c s k).1 ≤ h)) ∧
      ((0 < k → (worstTo c s k).1 ∈ c.houses.take k ∧ hiI (losesAll c (worstTo c s k).1 s) = (worstTo c s k).2) ∧ (k = 0 → (worstTo c s k).2 = -1))
  | 0, _ => ⟨fun j h hj => by omega, fun h => by omega, fun _ => rfl⟩
  | k + 1, hk => by
    obtain ⟨i1, i2, i3⟩ := worst_most hR hN hs k (by omega)
    have hx : c.houses[k]? = some c.houses[k] := List.getElem?_eq_getElem (by omega)
    have hp := rising_pair hR.hr
    have ht : c.houses.take (k + 1) = c.houses.take k ++ [c.houses[k]] := by rw [List.take_add_one, hx]; rfl
    have hb := (hiI_bd (st := c.houses[k]) hR hN hs).1
    rw [worstTo_succ hx]
    by_cases hlt : (worstTo c s k).2 < hiI (losesAll c c.houses[k] s)
    · rw [if_pos hlt]
      refine ⟨fun j h hj hh => ?_, fun _ => ⟨?_, rfl⟩, fun h => by omega⟩
      · rcases Nat.lt_or_ge j k with h1 | h1
        · have := (i1 j h h1 hh).1
          refine ⟨by simp only; omega, fun e => ?_⟩
          simp only at e
          omega
        · have : j = k := by omega
          subst this
          rw [hx] at hh
          injection hh with hh
          subst hh
          exact ⟨Int.le_refl _, fun _ => Int.le_refl _⟩
      · show c.houses[k] ∈ _
        rw [ht]
        exact List.mem_append_right _ (List.mem_singleton.2 rfl)
    · rw [if_neg hlt]
      rcases Nat.eq_zero_or_pos k with h0 | h0
      · have := i3 h0; omega
      · obtain ⟨m1, m2⟩ := i2 h0
        refine ⟨fun j h hj hh => ?_, fun _ => ⟨?_, m2⟩, fun h => by omega⟩
        · rcases Nat.lt_or_ge j k with h1 | h1
          · exact i1 j h h1 hh
          · have : j = k := by omega
            subst this
            rw [hx] at hh
            injection hh with hh
            subst hh
            refine ⟨by omega, fun _ => ?_⟩
            have hsp : (c.houses.take j ++ [c.houses[j]]).Pairwise (· < ·) := by
              rw [← ht]; exact hp.sublist (List.take_sublist _ _)
            have := (List.pairwise_append.1 hsp).2.2 _ m1 c.houses[j] (by simp)
            omega
        · rw [ht]; exact List.mem_append_left _ m1
end Go.Proofs.YtafdbgielmlihaaDoor
