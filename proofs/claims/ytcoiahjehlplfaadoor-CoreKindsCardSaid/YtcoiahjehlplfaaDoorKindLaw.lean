/- The plain law: the reference's kinds are core's. -/
import Derived.Test.YtcoiahjehlplfaaDoorMany
namespace Go.Proofs.YtcoiahjehlplfaaDoor
open Go.RowKit Go.Shelf
set_option linter.unusedSimpArgs false

theorem spanAt_bd (l : List Draw) (i : Int) (hd : ∀ x ∈ l, 1 ≤ x.grade.lo ∧ x.grade.lo ≤ x.grade.hi ∧ x.grade.hi ≤ 9) : 1 ≤ (spanAt l i).lo ∧ (spanAt l i).lo ≤ 9 ∧ (spanAt l i).hi ≤ 9 ∧ 1 ≤ (spanAt l i).hi := by
  unfold spanAt
  have : ∀ (l : List Draw) (s : Span), (∀ x ∈ l, 1 ≤ x.grade.lo ∧ x.grade.lo ≤ x.grade.hi ∧ x.grade.hi ≤ 9) → (1 ≤ s.lo ∧ s.lo ≤ 9 ∧ s.hi ≤ 9 ∧ 1 ≤ s.hi) → (1 ≤ (l.foldl (spanStep i) s).lo ∧ (l.foldl (spanStep i) s).lo ≤ 9 ∧ (l.foldl (spanStep i) s).hi ≤ 9 ∧ 1 ≤ (l.foldl (spanStep i) s).hi) := by
    intro l
    induction l with
    | nil => intro s _ h; exact h
    | cons x l ih =>
      intro s hd h
      rw [List.foldl_cons]
      refine ih _ (fun y hy => hd y (List.mem_cons_of_mem _ hy)) ?_
      have hx := hd x (List.mem_cons_self ..)
      unfold spanStep
      split
      · dsimp only; omega
      · exact h
  exact this l ⟨1, 9⟩ hd (by decide)
theorem spans_bd {b : Bale} (h : valid b = true) : ∀ x ∈ spans b, 1 ≤ x.lo ∧ x.lo ≤ 9 ∧ x.hi ≤ 9 ∧ 1 ≤ x.hi := by
  intro x hx
  have hB := valid_bds h
  unfold spans spansTo at hx
  rw [List.mem_map] at hx
  obtain ⟨i, _, rfl⟩ := hx
  exact spanAt_bd _ _ (fun y hy => by have := hB.d y hy; omega)

theorem foldl_max_ge : ∀ (l : List Int) (x : Int), x ≤ l.foldl max x ∧ ∀ y ∈ l, y ≤ l.foldl max x
  | [], x => ⟨by simp, by simp⟩
  | y :: l, x => by
    obtain ⟨h1, h2⟩ := foldl_max_ge l (max x y)
    refine ⟨by rw [List.foldl_cons]; omega, fun z hz => ?_⟩
    rw [List.foldl_cons]
    rcases List.mem_cons.1 hz with rfl | hz
    · omega
    · exact h2 z hz
theorem foldl_min_le : ∀ (l : List Int) (x : Int), l.foldl min x ≤ x ∧ ∀ y ∈ l, l.foldl min x ≤ y
  | [], x => ⟨by simp, by simp⟩
  | y :: l, x => by
    obtain ⟨h1, h2⟩ := foldl_min_le l (min x y)
    refine ⟨by rw [List.foldl_cons]; omega, fun z hz => ?_⟩
    rw [List.foldl_cons]
    rcases List.mem_cons.1 hz with rfl | hz
    · omega
    · exact h2 z hz
theorem max_eq {l : List Int} (h0 : 0 < l.length) {x : Int} (hx : ∀ y ∈ l, x ≤ y) : l.foldl max x = maxs l := by
  have h1 := foldl_max_ge l x
  have h2 := maxs_mem h0
  have h3 := foldl_max_ge l ((l[0]?).getD 0)
  have h4 : (l[0]?).getD 0 ∈ l := by rw [List.getElem?_eq_getElem h0]; exact List.getElem_mem _
  show _ = l.foldl max ((l[0]?).getD 0)
  rcases foldl_max_mem l x with e | e
  · have := h1.2 _ h4; have := hx _ h4; have := h1.2 _ h2
    unfold maxs at this
    omega
  · have := h3.2 _ e; have := h1.2 _ h2
    unfold maxs at this
    omega
theorem min_eq {l : List Int} (h0 : 0 < l.length) {x : Int} (hx : ∀ y ∈ l, y ≤ x) : l.foldl min x = mins l := by
  have h1 := foldl_min_le l x
  have h2 := mins_mem h0
  have h3 := foldl_min_le l ((l[0]?).getD 0)
  have h4 : (l[0]?).getD 0 ∈ l := by rw [List.getElem?_eq_getElem h0]; exact List.getElem_mem _
  show _ = l.foldl min ((l[0]?).getD 0)
  rcases foldl_min_mem l x with e | e
  · have := h1.2 _ h4; have := hx _ h4; have := h1.2 _ h2
    unfold mins at this
    omega
  · have := h3.2 _ e; have := h1.2 _ h2
    unfold mins at this
    omega
def Gr (l : List Int) : Prop := ∀ n ∈ l, 1 ≤ n ∧ n ≤ 9
theorem alike_eq {l : List Int} (h0 : 0 < l.length) (h : Gr l) : alikeR l = alikeL l := by
  unfold alikeR alikeL
  rw [max_eq h0 (fun y hy => (h y hy).1), min_eq h0 (fun y hy => (h y hy).2)]
theorem cut_eq {l : List Int} {k : Nat} (h1 : 1 ≤ k) (h2 : k < l.length) (h : Gr l) : cutR l k = cutAt l k := by
  unfold cutR cutAt
  rw [alike_eq (by simp; omega) (fun n hn => h n (List.mem_of_mem_take hn)), alike_eq (by simp; omega) (fun n hn => h n (List.mem_of_mem_drop hn))]
  simp [h1]
theorem cutsTo_pos {l : List Int} : ∀ m : Nat, 0 < (cutsTo l m).length ↔ ∃ k, k < m ∧ cutAt l k = true
  | 0 => by simp [cutsTo]
  | m + 1 => by
    rw [cutsTo, List.length_append]
    have ih := cutsTo_pos (l := l) m
    constructor
    · intro h
      by_cases hm : cutAt l m = true
      · exact ⟨m, by omega, hm⟩
      · rw [if_neg hm] at h
        obtain ⟨k, h1, h2⟩ := ih.1 (by simpa using h)
        exact ⟨k, by omega, h2⟩
    · rintro ⟨k, h1, h2⟩
      by_cases hk : k = m
      · subst hk; rw [if_pos h2]; simp
      · have := ih.2 ⟨k, by omega, h2⟩
        omega
theorem hasCut_eq {l : List Int} (h : Gr l) (ha : alikeL l = false) : hasCut l = decide (0 < (cutsL l).length) := by
  have h1 : cutsL l = cutsTo l l.length := by unfold cutsL; rw [ha]; rfl
  rw [h1, Bool.eq_iff_iff, decide_eq_true_eq, cutsTo_pos]
  unfold hasCut
  rw [List.any_eq_true]
  constructor
  · rintro ⟨k, hk, he⟩
    simp only [List.mem_range, Bool.and_eq_true, decide_eq_true_eq] at hk he
    exact ⟨k, hk, by rw [← cut_eq he.1 hk h]; exact he.2⟩
  · rintro ⟨k, hk, he⟩
    have h1 : 1 ≤ k := by unfold cutAt at he; simp at he; exact he.1
    exact ⟨k, by simpa using hk, by simp [h1, cut_eq h1 hk h, he]⟩
theorem any_lt {l : List Int} (h0 : 0 < l.length) (x : Int) : l.any (fun y => decide (y < x)) = !decide (x ≤ mins l) := by
  have h2 := mins_mem h0
  have h3 := foldl_min_le l ((l[0]?).getD 0)
  rw [Bool.eq_iff_iff, List.any_eq_true]
  simp only [decide_eq_true_eq, Bool.not_eq_true', decide_eq_false_iff_not]
  constructor
  · rintro ⟨y, hy, h⟩
    have := h3.2 _ hy
    unfold mins; omega
  · intro h
    exact ⟨_, h2, by omega⟩
theorem kindR_eq {l : List Int} (h0 : 0 < l.length) (h : Gr l) : kindR l = kindL l := by
  unfold kindR kindL
  rw [alike_eq h0 h]
  cases ha : alikeL l with
  | true => rfl
  | false =>
    rw [hasCut_eq h ha]
    by_cases hc : 0 < (cutsL l).length
    · simp [hc]
    · have hl := long_of h0 ha (by omega)
      simp only [hc, decide_false, Bool.false_eq_true, if_false]
      have hf : Gr [firstL l, lastL l] := by
        intro n hn
        have h1 : firstL l ∈ l := by unfold firstL; rw [List.getElem?_eq_getElem h0]; exact List.getElem_mem _
        have h2 : lastL l ∈ l := by unfold lastL; rw [List.getElem?_eq_getElem (by omega)]; exact List.getElem_mem _
        simp at hn
        rcases hn with rfl | rfl
        · exact h _ h1
        · exact h _ h2
      rw [alike_eq (by simp) hf]
      have hi0 : 0 < (innerL l).length := by unfold innerL; simp; omega
      have hsub : ∀ x ∈ innerL l, x ∈ l := fun x hx => List.mem_of_mem_drop (List.mem_of_mem_take hx)
      rw [any_lt hi0]
      cases hb : alikeL [firstL l, lastL l] with
      | false => simp
      | true =>
        by_cases hw : worseL l ≤ mins (innerL l)
        · have hm : (innerL l).foldl max 0 = maxs (innerL l) := max_eq hi0 (fun y hy => by have := h y (hsub y hy); omega)
          have hm2 : worseL l + 2 ≤ maxs (innerL l) ↔ worseL l + 2 ≤ maxs l := by
            have hmem : ∀ x ∈ l, x ≤ worseL l ∨ x ∈ innerL l := by
              intro x hx
              obtain ⟨i, hi, rfl⟩ := List.mem_iff_getElem.1 hx
              by_cases h1 : i = 0
              · subst h1; left; unfold worseL firstL; rw [List.getElem?_eq_getElem hi, Option.getD_some]; omega
              · by_cases h2 : i = l.length - 1
                · left; unfold worseL lastL; rw [← h2, List.getElem?_eq_getElem hi, Option.getD_some]; omega
                · right
                  unfold innerL
                  rw [List.mem_iff_getElem]
                  refine ⟨i - 1, by simp; omega, ?_⟩
                  rw [List.getElem_take, List.getElem_drop]
                  congr 1; omega
            have e1 := hmem _ (maxs_mem h0)
            have e2 := hsub _ (maxs_mem hi0)
            have e3 := (foldl_max_ge l ((l[0]?).getD 0)).2 _ e2
            have e4 := fun hx => (foldl_max_ge (innerL l) (((innerL l)[0]?).getD 0)).2 (maxs l) hx
            have e5 : l.foldl max ((l[0]?).getD 0) = maxs l := rfl
            have e6 : (innerL l).foldl max (((innerL l)[0]?).getD 0) = maxs (innerL l) := rfl
            rw [e5] at e3
            rw [e6] at e4
            constructor
            · intro h'; omega
            · intro h'
              rcases e1 with e1 | e1
              · omega
              · have := e4 e1; omega
          simp [hw, hm, hm2]
        · simp [hw]
theorem exts_nil (r : List (Span × Int)) : exts [] r = truthsL r := by unfold exts; simp
theorem zOf_zip {sp : List Span} (h : sp.length ≤ 5) : zOf sp = sp.zip [0, 0, 0, 0, 0] := by
  unfold zOf
  match sp, h with
  | [], _ => rfl
  | [a], _ => rfl
  | [a, b], _ => rfl
  | [a, b, c], _ => rfl
  | [a, b, c, d], _ => rfl
  | [a, b, c, d, e], _ => rfl
  | a :: b :: c :: d :: e :: f :: r, h => simp at h
theorem rk_eq {sp : List Span} (h5 : sp.length ≤ 5) (h0 : 0 < sp.length) (hb : ∀ x ∈ sp, 1 ≤ x.lo ∧ x.hi ≤ 9) : rk S4.none (exts [] (zOf sp)) = kindsOf (truthsL (sp.zip [0, 0, 0, 0, 0])) := by
  rw [exts_nil, ← zOf_zip h5]
  unfold rk kindsOf
  have : ∀ (L : List (List Int)) (s : S4), (∀ l ∈ L, 0 < l.length ∧ Gr l) → L.foldl (fun s l => s.add (kindR l)) s = L.foldl (fun s l => s.add (kindL l)) s := by
    intro L
    induction L with
    | nil => intros; rfl
    | cons l L ih =>
      intro s hL
      have := hL l (List.mem_cons_self ..)
      rw [List.foldl_cons, List.foldl_cons, kindR_eq this.1 this.2]
      exact ih _ (fun x hx => hL x (List.mem_cons_of_mem _ hx))
  refine this _ _ (fun l hl => ?_)
  obtain ⟨h1, h2⟩ := truthsL_mem hl
  refine ⟨by rw [h1]; simpa [zOf] using h0, fun n hn => ?_⟩
  obtain ⟨y, hy, h3⟩ := h2 n hn
  unfold zOf at hy
  rw [List.mem_map] at hy
  obtain ⟨z, hz, rfl⟩ := hy
  have := hb z hz
  dsimp only at h3
  omega
end Go.Proofs.YtcoiahjehlplfaaDoor
