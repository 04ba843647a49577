/- The plain law: Aside. -/
import Derived.Test.YtcoiahjehlplfaaDoorAside
namespace Go.Proofs.YtcoiahjehlplfaaDoor
open Go.RowKit Go.Shelf
set_option linter.unusedSimpArgs false

theorem hitsR_eq {b : Bale} (hb : Bds b) {d : Int} {x : Weigh} (hd : d ∈ dries b) (hx : x ∈ b.weighs) : hitsR d x = ⟨dLo d x, dHi d x⟩ := by
  have hf := bds_fit hb hd hx
  have h1 := dLo_spec hf
  have h2 := dHi_spec hf
  have h3 := hb.w x hx
  unfold hitsR
  rw [hitsTo_full hf]
  simp only [Span.mk.injEq]
  omega
theorem any_congr' {α : Type} {l : List α} {p q : α → Bool} (h : ∀ x ∈ l, p x = q x) : l.any p = l.any q := by
  induction l with
  | nil => rfl
  | cons a l ih => rw [List.any_cons, List.any_cons, h a (by simp), ih (fun x hx => h x (by simp [hx]))]
theorem all_congr' {α : Type} {l : List α} {p q : α → Bool} (h : ∀ x ∈ l, p x = q x) : l.all p = l.all q := by
  induction l with
  | nil => rfl
  | cons a l ih => rw [List.all_cons, List.all_cons, h a (by simp), ih (fun x hx => h x (by simp [hx]))]
theorem surely_eq {b : Bale} (hb : Bds b) (r : Int) : surelyR b r = surelyL b r := by
  unfold surelyR surelyL
  refine all_congr' fun d hd => ?_
  unfold wetR
  refine any_congr' fun x hx => ?_
  rw [hitsR_eq hb hd hx]
theorem never_eq {b : Bale} (hb : Bds b) (r : Int) : neverR b r = !mayL b r := by
  unfold neverR mayL
  have h1 : ∀ {α : Type} (l : List α) (p q : α → Bool), (∀ x ∈ l, p x = !q x) → l.all p = !l.any q := by
    intro α l p q h
    induction l with
    | nil => rfl
    | cons a l ih => rw [List.all_cons, List.any_cons, h a (by simp), ih (fun x hx => h x (by simp [hx]))]; simp
  refine h1 _ _ _ fun d hd => ?_
  unfold dryR
  refine h1 _ _ _ fun x hx => ?_
  rw [hitsR_eq hb hd hx]
  by_cases h : dHi d x ≤ r
  · simp [h]
    try omega
  · simp [h]
    try omega
theorem has1_num (s : S4) (h : s.has 1 = true) : 1 ≤ s.num := by
  obtain ⟨a, b, c, d⟩ := s
  cases a <;> simp [S4.has, S4.num] at h ⊢
  omega
theorem aside_eq (b : Bale) (r : Int) : asideR b r = asideB b r := by
  unfold asideR asideB
  split
  · rename_i hz
    obtain ⟨h1, h2, h3⟩ := askE_zero hz (by decide)
    have hb := valid_bds h1
    rw [surely_eq hb, never_eq hb]
    unfold asideOf asideL kindK
    have hn := has1_num (kindS b)
    cases hh : (kindS b).has 1
    · simp
    · have := hn hh
      by_cases h1 : (kindS b).num = 1
      · cases surelyL b r <;> cases mayL b r <;> simp [h1]
      · have h2 : 1 < (kindS b).num := by omega
        cases surelyL b r <;> cases mayL b r <;> simp [h1, h2]
  · rfl
end Go.Proofs.YtcoiahjehlplfaaDoor
