/- The bound is shown: so many lots can be made of lengths that differ by L at the most just if a plan is as even as that. No program in sight. -/
import Derived.Test.YtkpengeaolcjhaaGreatDoorPkMlBoundsCardM
import Derived.Test.YtkpengeaolcjhaaGreatDoorPkMlBoundsCardU
import Derived.Test.YtkpengeaolcjhaaGreatDoorPkMlBoundsCardR
namespace Go.Proofs.YtkpengeaolcjhaaGreatDoor
set_option linter.unusedSimpArgs false

/-! From labels to groups. -/
theorem chs_lab {L : Int} {g : List Int → Nat} {x j : Int} : ∀ (Q : List (Int × Int)) (sk : List Int), (∀ q ∈ Q, q.2 = j → q.1 - x ≤ L) →
    1 + g (sk ++ (Q.filter fun q => !decide (q.2 = j)).map (·.1)) ≤ chsG L g x sk (Q.map (·.1)) (Q.filter fun q => decide (q.2 = j)).length
  | [], sk, _ => by simp [chsG_zero]
  | (y, i) :: Q, sk, h => by
    by_cases hi : i = j
    · have ih := chs_lab (g := g) Q sk (fun q hq => h q (by simp [hq]))
      rw [List.filter_cons, List.filter_cons, if_neg (by simp [hi]), if_pos (by simp [hi]), List.map_cons, List.length_cons, chsG, if_pos (h (y, i) (by simp) hi)]
      exact Nat.le_trans ih (Nat.le_max_left _ _)
    · have ih := chs_lab (g := g) Q (sk ++ [y]) (fun q hq => h q (by simp [hq]))
      rw [List.filter_cons, List.filter_cons, if_pos (by simp [hi]), if_neg (by simp [hi]), List.map_cons, List.map_cons]
      rw [show sk ++ (y, i).1 :: (Q.filter fun q => !decide (q.2 = j)).map (·.1) = (sk ++ [y]) ++ (Q.filter fun q => !decide (q.2 = j)).map (·.1) by simp]
      cases hm : (Q.filter fun q => decide (q.2 = j)).length with
      | zero =>
        rw [hm, chsG_zero] at ih
        rw [chsG_zero, show sk ++ (y, i).1 :: Q.map (·.1) = (sk ++ [y]) ++ Q.map (·.1) by simp]
        exact ih
      | succ m =>
        rw [hm] at ih
        rw [chsG]
        exact Nat.le_trans ih (Nat.le_max_right _ _)
/-- The labels of a list are whole groups. -/
structure Lab (L : Int) (s : Nat) (J : List Int) (Q : List (Int × Int)) : Prop where
  cnt : ∀ j ∈ J, (Q.filter fun q => decide (q.2 = j)).length = s
  near : ∀ q ∈ Q, ∀ r ∈ Q, q.2 = r.2 → q.2 ∈ J → r.1 - q.1 ≤ L
theorem Lab.perm {L : Int} {s : Nat} {J : List Int} {Q Q' : List (Int × Int)} (h : Lab L s J Q) (p : Q'.Perm Q) : Lab L s J Q' :=
  ⟨fun j hj => by rw [(p.filter _).length_eq]; exact h.cnt j hj, fun q hq r hr => h.near q (p.mem_iff.1 hq) r (p.mem_iff.1 hr)⟩
theorem lab_grp {L : Int} {s : Nat} (hs : 1 ≤ s) : ∀ (f : Nat) (Q : List (Int × Int)) (J : List Int), J.Nodup → Q.length ≤ f → Lab L s J Q → J.length ≤ grpF L s f (Q.map (·.1))
  | f, [], [], _, _, _ => by simp
  | f, [], j :: J, _, _, h => by have := h.cnt j (by simp); simp at this; omega
  | 0, q :: Q, J, _, hf, _ => by simp at hf
  | f + 1, (x, j) :: Q, J, hJ, hf, h => by
    rw [List.map_cons, grpF]
    by_cases hj : j ∈ J
    · refine Nat.le_trans ?_ (Nat.le_max_right _ _)
      change J.length ≤ chsG L (grpF L s f) x [] (Q.map (·.1)) (s - 1)
      have hc : (Q.filter fun q => decide (q.2 = j)).length = s - 1 := by
        have := h.cnt j hj
        rw [List.filter_cons, if_pos (by simp), List.length_cons] at this
        omega
      have h1 := chs_lab (L := L) (g := grpF L s f) (x := x) (j := j) Q [] (fun q hq hqj => h.near (x, j) (by simp) q (by simp [hq]) hqj.symm hj)
      rw [hc, List.nil_append] at h1
      have hl : (Q.filter fun q => !decide (q.2 = j)).length ≤ f := by
        have := List.length_filter_le (fun q : Int × Int => !decide (q.2 = j)) Q
        simp at hf; omega
      have hL : Lab L s (J.erase j) (Q.filter fun q => !decide (q.2 = j)) := by
        refine ⟨fun i hi => ?_, fun q hq r hr hqr hqJ => ?_⟩
        · rw [hJ.mem_erase_iff] at hi
          have := h.cnt i hi.2
          rw [List.filter_cons, if_neg (by simp; exact fun e => hi.1 e.symm)] at this
          rw [List.filter_filter, ← this]
          congr 1
          refine List.filter_congr fun a _ => ?_
          by_cases ha : a.2 = i
          · simp [ha, hi.1]
          · simp [ha]
        · rw [hJ.mem_erase_iff] at hqJ
          exact h.near q (by simp [(List.mem_filter.1 hq).1]) r (by simp [(List.mem_filter.1 hr).1]) hqr hqJ.2
      have h2 := lab_grp hs f (Q.filter fun q => !decide (q.2 = j)) (J.erase j) (hJ.erase j) hl hL
      rw [List.length_erase_of_mem hj] at h2
      have : 0 < J.length := List.length_pos_of_mem hj
      omega
    · refine Nat.le_trans ?_ (Nat.le_max_left _ _)
      exact lab_grp hs f Q J hJ (by simpa using hf) ⟨fun i hi => by have := h.cnt i hi; rwa [List.filter_cons, if_neg (by simp; rintro rfl; exact hj hi)] at this, fun q hq r hr => h.near q (by simp [hq]) r (by simp [hr])⟩

/-! From groups to labels. -/
theorem gr_lab {L : Int} {s : Nat} (hs : 1 ≤ s) : ∀ (n : Nat) (S J : List Int), S.length ≤ n → S.Pairwise (· ≤ ·) → J.Nodup → 0 ∉ J → J.length ≤ gr L s S →
    ∃ Q : List (Int × Int), Q.map (·.1) = S ∧ Lab L s J Q ∧ ∀ q ∈ Q, q.2 = 0 ∨ q.2 ∈ J
  | _, S, [], _, _, _, _, _ => ⟨S.map fun x => (x, 0), by simp [Function.comp_def], ⟨fun j hj => by simp at hj, fun q _ r _ _ h => by simp at h⟩, fun q hq => by
      obtain ⟨x, -, rfl⟩ := List.mem_map.1 hq
      exact .inl rfl⟩
  | _, [], j :: J, _, _, _, _, hg => by rw [gr_nil] at hg; simp at hg
  | 0, x :: l, j :: J, hn, _, _, _, _ => by simp at hn
  | n + 1, x :: l, j :: J, hn, hp, hJ, h0, hg => by
    rw [gr_cons] at hg
    have hl : l.length ≤ n := by simpa using hn
    split at hg
    · rename_i hw
      unfold win at hw
      simp only [Bool.and_eq_true, decide_eq_true_eq] at hw
      obtain ⟨hw1, hw2⟩ := hw
      obtain ⟨hjJ, hJ'⟩ := List.nodup_cons.1 hJ
      have h0j : j ≠ 0 := fun e => h0 (by simp [e])
      have h0J : 0 ∉ J := fun e => h0 (by simp [e])
      obtain ⟨Q, hQ1, hQ2, hQ3⟩ := gr_lab (L := L) hs n (l.drop (s - 1)) J (by rw [List.length_drop]; omega) ((List.pairwise_cons.1 hp).2.sublist (List.drop_sublist _ _)) hJ' h0J (by simp at hg; omega)
      have hQj : ∀ q ∈ Q, q.2 ≠ j := fun q hq e => by
        rcases hQ3 q hq with h | h
        · exact h0j (e ▸ h)
        · exact hjJ (e ▸ h)
      refine ⟨((x :: l).take s).map (fun y => (y, j)) ++ Q, ?_, ⟨fun i hi => ?_, fun q hq r hr hqr hqJ => ?_⟩, fun q hq => ?_⟩
      · rw [List.map_append, hQ1, List.map_map]
        obtain ⟨t, rfl⟩ : ∃ t, s = t + 1 := ⟨s - 1, by omega⟩
        simp [Function.comp_def]
      · rw [List.filter_append, List.length_append]
        by_cases hij : i = j
        · subst hij
          have e1 : (((x :: l).take s).map (fun y => (y, i))).filter (fun q => decide (q.2 = i)) = ((x :: l).take s).map (fun y => (y, i)) := List.filter_eq_self.2 fun a ha => by
            obtain ⟨y, -, rfl⟩ := List.mem_map.1 ha
            simp
          have e2 : Q.filter (fun q => decide (q.2 = i)) = [] := List.filter_eq_nil_iff.2 fun a ha => by simpa using hQj a ha
          rw [e1, e2, List.length_map, List.length_take]
          simp only [List.length_nil]
          omega
        · have e1 : (((x :: l).take s).map (fun y => (y, j))).filter (fun q => decide (q.2 = i)) = [] := List.filter_eq_nil_iff.2 fun a ha => by
            obtain ⟨y, -, rfl⟩ := List.mem_map.1 ha
            simpa using fun e => hij e.symm
          rw [e1, hQ2.cnt i (by rcases List.mem_cons.1 hi with h | h; exact absurd h hij; exact h)]
          simp
      · rcases List.mem_append.1 hq with hq | hq <;> rcases List.mem_append.1 hr with hr | hr
        · obtain ⟨y, hy, rfl⟩ := List.mem_map.1 hq
          obtain ⟨z, hz, rfl⟩ := List.mem_map.1 hr
          obtain ⟨i1, hi1⟩ := List.mem_iff_getElem?.1 hy
          obtain ⟨i2, hi2⟩ := List.mem_iff_getElem?.1 hz
          have b1 := (List.getElem?_eq_some_iff.1 hi1).1
          have b2 := (List.getElem?_eq_some_iff.1 hi2).1
          rw [List.length_take] at b1 b2
          rw [List.getElem?_take_of_lt (by omega)] at hi1 hi2
          obtain ⟨e, he⟩ : ∃ e, (x :: l)[s - 1]? = some e := ⟨_, List.getElem?_eq_getElem (by omega)⟩
          have h3 := pair_le hp (i := 0) (j := i1) rfl hi1 (by omega)
          have h4 := pair_le hp hi2 he (by omega)
          rw [he] at hw2
          simp at hw2
          show z - y ≤ L
          omega
        · obtain ⟨y, hy, rfl⟩ := List.mem_map.1 hq
          exact absurd hqr.symm (hQj r hr)
        · obtain ⟨y, hy, rfl⟩ := List.mem_map.1 hr
          exact absurd hqr (hQj q hq)
        · refine hQ2.near q hq r hr hqr ?_
          rcases List.mem_cons.1 hqJ with h | h
          · exact absurd h (hQj q hq)
          · exact h
      · rcases List.mem_append.1 hq with hq | hq
        · obtain ⟨y, hy, rfl⟩ := List.mem_map.1 hq
          exact .inr (by simp)
        · rcases hQ3 q hq with h | h
          · exact .inl h
          · exact .inr (by simp [h])
    · obtain ⟨Q, hQ1, hQ2, hQ3⟩ := gr_lab (L := L) hs n l (j :: J) hl (List.pairwise_cons.1 hp).2 hJ h0 hg
      refine ⟨(x, 0) :: Q, by simp [hQ1], ⟨fun i hi => ?_, fun q hq r hr hqr hqJ => ?_⟩, fun q hq => ?_⟩
      · rw [List.filter_cons, if_neg (by simp; rintro rfl; exact h0 hi)]
        exact hQ2.cnt i hi
      · rcases List.mem_cons.1 hq with rfl | hq
        · exact absurd hqJ h0
        · rcases List.mem_cons.1 hr with rfl | hr
          · have e : q.2 = 0 := hqr
            exact absurd (by rw [← e]; exact hqJ) h0
          · exact hQ2.near q hq r hr hqr hqJ
      · rcases List.mem_cons.1 hq with rfl | hq
        · exact .inl rfl
        · exact hQ3 q hq
theorem perm_map {α β : Type} (f : α → β) {l₁ l₂ : List β} (h : l₁.Perm l₂) : ∀ A : List α, A.map f = l₁ → ∃ A' : List α, A'.Perm A ∧ A'.map f = l₂ := by
  induction h with
  | nil => intro A hA; exact ⟨A, List.Perm.refl _, hA⟩
  | cons x h ih =>
    intro A hA
    obtain ⟨a, A, rfl, rfl, h2⟩ := List.map_eq_cons_iff.1 hA
    obtain ⟨A', h3, h4⟩ := ih A h2
    exact ⟨a :: A', h3.cons a, by simp [h4]⟩
  | swap x y l =>
    intro A hA
    obtain ⟨a, A, rfl, rfl, h2⟩ := List.map_eq_cons_iff.1 hA
    obtain ⟨b, A, rfl, rfl, h3⟩ := List.map_eq_cons_iff.1 h2
    exact ⟨b :: a :: A, List.Perm.swap _ _ _, by simp [h3]⟩
  | trans h1 h2 ih1 ih2 =>
    intro A hA
    obtain ⟨B, hB, hB2⟩ := ih1 A hA
    obtain ⟨C, hC, hC2⟩ := ih2 B hB2
    exact ⟨C, hC.trans hB, hC2⟩

/-! Labels and plans. -/
/-- The fit bales' lengths. -/
def fitLens (m : Mll) : List Int := (m.cots.filter fitB).map (·.len)
def labQ : List Cot → List Int → List (Int × Int)
  | c :: l, a :: p => if fitB c then (c.len, a) :: labQ l p else labQ l p
  | _, _ => []
theorem labQ_fst : ∀ (l : List Cot) (p : List Int), p.length = l.length → (labQ l p).map (·.1) = (l.filter fitB).map (·.len)
  | [], _, _ => by simp [labQ]
  | c :: l, [], h => by simp at h
  | c :: l, a :: p, h => by
    have ih := labQ_fst l p (by simpa using h)
    rw [labQ, List.filter_cons]
    split <;> simp [ih]
theorem fitOk_cons {a : Int} {p : List Int} {b : Bool} {r : List Bool} : fitOk (a :: p) (b :: r) = ((!decide (0 < a) || b) && fitOk p r) := by unfold fitOk; rw [List.zip_cons_cons, List.all_cons]
theorem lotL_cons (a v : Int) (p vs : List Int) (lot : Int) : lotL (a :: p) (v :: vs) lot = (if a = lot then [v] else []) ++ lotL p vs lot := by
  unfold lotL
  rw [List.zip_cons_cons, List.filter_cons]
  by_cases h : a = lot
  · simp [h]
  · simp [h]
theorem lotL_lab {j : Int} (hj : 0 < j) : ∀ (l : List Cot) (p : List Int), p.length = l.length → fitOk p (l.map fitB) = true → lotL p (l.map (·.len)) j = ((labQ l p).filter fun q => decide (q.2 = j)).map (·.1)
  | [], p, _, _ => by simp [labQ, lotL]
  | c :: l, [], h, _ => by simp at h
  | c :: l, a :: p, h, hf => by
    rw [List.map_cons, fitOk_cons, Bool.and_eq_true] at hf
    have ih := lotL_lab hj l p (by simpa using h) hf.2
    rw [List.map_cons, lotL_cons, labQ, ih]
    by_cases ha : a = j
    · subst ha
      have : fitB c = true := by have := hf.1; simpa [hj] using this
      rw [if_pos rfl, if_pos this, List.filter_cons, if_pos (by simp)]
      rfl
    · rw [if_neg ha]
      split
      · rw [List.filter_cons, if_neg (by simpa using ha)]; rfl
      · rfl
def planOf : List Cot → List (Int × Int) → List Int
  | [], _ => []
  | _ :: l, [] => 0 :: planOf l []
  | c :: l, q :: Q => if fitB c then q.2 :: planOf l Q else 0 :: planOf l (q :: Q)
theorem planOf_len : ∀ (l : List Cot) (Q : List (Int × Int)), (planOf l Q).length = l.length
  | [], _ => rfl
  | _ :: l, [] => by rw [planOf, List.length_cons, planOf_len l, List.length_cons]
  | _ :: l, q :: Q => by
    rw [planOf]
    split
    · rw [List.length_cons, planOf_len l, List.length_cons]
    · rw [List.length_cons, planOf_len l, List.length_cons]
theorem planOf_mem : ∀ (l : List Cot) (Q : List (Int × Int)) (x : Int), x ∈ planOf l Q → x = 0 ∨ ∃ q ∈ Q, q.2 = x
  | [], _, x, h => by simp [planOf] at h
  | _ :: l, [], x, h => by
    rw [planOf] at h
    rcases List.mem_cons.1 h with h | h
    · exact .inl h
    · exact planOf_mem l [] x h
  | _ :: l, q :: Q, x, h => by
    rw [planOf] at h
    split at h
    · rcases List.mem_cons.1 h with h | h
      · exact .inr ⟨q, by simp, h.symm⟩
      · rcases planOf_mem l Q x h with h | ⟨r, hr, h⟩
        · exact .inl h
        · exact .inr ⟨r, by simp [hr], h⟩
    · rcases List.mem_cons.1 h with h | h
      · exact .inl h
      · exact planOf_mem l (q :: Q) x h
theorem planOf_fit : ∀ (l : List Cot) (Q : List (Int × Int)), Q.map (·.1) = (l.filter fitB).map (·.len) → labQ l (planOf l Q) = Q ∧ fitOk (planOf l Q) (l.map fitB) = true
  | [], [], _ => ⟨rfl, rfl⟩
  | [], q :: Q, h => by simp at h
  | c :: l, [], h => by
    cases hc : fitB c with
    | true => rw [List.filter_cons, if_pos hc] at h; simp at h
    | false =>
      rw [List.filter_cons, if_neg (by simp [hc])] at h
      obtain ⟨h1, h2⟩ := planOf_fit l [] h
      refine ⟨?_, ?_⟩
      · rw [planOf, labQ, if_neg (by simp [hc]), h1]
      · rw [planOf, List.map_cons, fitOk_cons, h2]; simp
  | c :: l, q :: Q, h => by
    cases hc : fitB c with
    | true =>
      rw [List.filter_cons, if_pos hc, List.map_cons, List.map_cons] at h
      injection h with ha hb
      obtain ⟨h1, h2⟩ := planOf_fit l Q hb
      refine ⟨?_, ?_⟩
      · rw [planOf, if_pos hc, labQ, if_pos hc, h1, ← ha]
      · rw [planOf, if_pos hc, List.map_cons, fitOk_cons, h2, hc]; simp
    | false =>
      rw [List.filter_cons, if_neg (by simp [hc])] at h
      obtain ⟨h1, h2⟩ := planOf_fit l (q :: Q) h
      refine ⟨?_, ?_⟩
      · rw [planOf, if_neg (by simp [hc]), labQ, if_neg (by simp [hc]), h1]
      · rw [planOf, if_neg (by simp [hc]), List.map_cons, fitOk_cons, h2]; simp

/-! How far numbers differ. -/
theorem foldZ_max_mem : ∀ (l : List Int) (a : Int), l.foldl max a = a ∨ l.foldl max a ∈ l
  | [], a => .inl rfl
  | x :: l, a => by
    rw [List.foldl_cons]
    rcases foldZ_max_mem l (max a x) with h | h
    · rw [h]
      by_cases hx : a ≤ x
      · right; rw [show max a x = x by omega]; simp
      · left; omega
    · right; simp [h]
theorem foldZ_min_mem : ∀ (l : List Int) (a : Int), l.foldl min a = a ∨ l.foldl min a ∈ l
  | [], a => .inl rfl
  | x :: l, a => by
    rw [List.foldl_cons]
    rcases foldZ_min_mem l (min a x) with h | h
    · rw [h]
      by_cases hx : a ≤ x
      · left; omega
      · right; rw [show min a x = x by omega]; simp
    · right; simp [h]
theorem foldZ_max_ge : ∀ (l : List Int) (a x : Int), x ∈ l → x ≤ l.foldl max a
  | [], a, x, h => by simp at h
  | y :: l, a, x, h => by
    rw [List.foldl_cons]
    rcases List.mem_cons.1 h with rfl | h
    · exact Int.le_trans (Int.le_max_right a x) (foldlM_max_le l _)
    · exact foldZ_max_ge l _ x h
theorem foldZ_min_ge : ∀ (l : List Int) (a x : Int), x ∈ l → l.foldl min a ≤ x
  | [], a, x, h => by simp at h
  | y :: l, a, x, h => by
    rw [List.foldl_cons]
    rcases List.mem_cons.1 h with rfl | h
    · exact Int.le_trans (foldlM_min_le l _) (Int.min_le_right a x)
    · exact foldZ_min_ge l _ x h
theorem farL_ge {l : List Int} {x y : Int} (hx : x ∈ l) (hy : y ∈ l) : y - x ≤ farL l := by
  cases l with
  | nil => simp at hx
  | cons a l =>
    unfold farL maxO minO
    have h1 : y ≤ l.foldl max a := by
      rcases List.mem_cons.1 hy with rfl | h
      · exact foldlM_max_le l _
      · exact foldZ_max_ge l a y h
    have h2 : l.foldl min a ≤ x := by
      rcases List.mem_cons.1 hx with rfl | h
      · exact foldlM_min_le l _
      · exact foldZ_min_ge l a x h
    dsimp only
    omega
theorem farL_le {l : List Int} {L : Int} (h0 : 0 ≤ L) (h : ∀ x ∈ l, ∀ y ∈ l, y - x ≤ L) : farL l ≤ L := by
  cases l with
  | nil => exact h0
  | cons a l =>
    unfold farL maxO minO
    dsimp only
    have h1 : l.foldl max a ∈ a :: l := by rcases foldZ_max_mem l a with h | h <;> simp [h]
    have h2 : l.foldl min a ∈ a :: l := by rcases foldZ_min_mem l a with h | h <;> simp [h]
    exact h _ h2 _ h1
theorem farA_ge : ∀ (ll : List (List Int)) (u : Int), u ≤ ll.foldl (fun n l => max n (farL l)) u ∧ ∀ l ∈ ll, farL l ≤ ll.foldl (fun n l => max n (farL l)) u
  | [], u => ⟨Int.le_refl _, fun l h => by simp at h⟩
  | x :: ll, u => by
    obtain ⟨h1, h2⟩ := farA_ge ll (max u (farL x))
    rw [List.foldl_cons]
    refine ⟨by omega, fun l hl => ?_⟩
    rcases List.mem_cons.1 hl with rfl | hl
    · omega
    · exact h2 l hl
theorem farA_le {L : Int} : ∀ (ll : List (List Int)) (u : Int), u ≤ L → (∀ l ∈ ll, farL l ≤ L) → ll.foldl (fun n l => max n (farL l)) u ≤ L
  | [], u, h0, _ => h0
  | x :: ll, u, h0, h => by
    rw [List.foldl_cons]
    exact farA_le ll _ (by have := h x (by simp); omega) fun l hl => h l (by simp [hl])

/-! The plans and the groups. -/
theorem plansF_fit {lots : Nat} {size : Int} : ∀ {fit : List Bool} {f p : List Int}, p ∈ plansF lots size fit f → fitOk p fit = true
  | [], f, p, h => by
    unfold plansF at h
    split at h
    · simp at h; subst h; rfl
    · simp at h
  | b :: r, f, p, h => by
    unfold plansF at h
    rw [List.mem_flatMap] at h
    obtain ⟨lot, hlot, h⟩ := h
    split at h
    · rename_i hk
      rw [List.mem_map] at h
      obtain ⟨q, hq, rfl⟩ := h
      rw [fitOk_cons, plansF_fit hq]
      unfold okLot at hk
      rcases Bool.eq_false_or_eq_true b with hb | hb
      · simp [hb]
      · rw [hb] at hk
        simp at hk
        simp [hk]
    · simp at h
def lotsJ (n : Nat) : List Int := (List.range n).map fun (i : Nat) => (i : Int) + 1
theorem lotsJ_mem {n : Nat} {j : Int} : j ∈ lotsJ n ↔ 1 ≤ j ∧ j ≤ (n : Int) := by
  unfold lotsJ
  rw [List.mem_map]
  constructor
  · rintro ⟨i, hi, rfl⟩
    rw [List.mem_range] at hi
    omega
  · rintro ⟨h1, h2⟩
    exact ⟨(j - 1).toNat, by rw [List.mem_range]; omega, by omega⟩
theorem lotsJ_nodup (n : Nat) : (lotsJ n).Nodup := by
  unfold lotsJ List.Nodup
  rw [List.pairwise_map]
  exact (List.nodup_range (n := n)).imp fun h => by omega
theorem lotsJ_len (n : Nat) : (lotsJ n).length = n := by unfold lotsJ; simp
theorem sort_lab (Q : List (Int × Int)) : ∃ Q' : List (Int × Int), Q'.Perm Q ∧ (Q'.map (·.1)).Pairwise (· ≤ ·) := by
  refine ⟨Q.mergeSort (fun a b => decide (a.1 ≤ b.1)), List.mergeSort_perm _ _, ?_⟩
  rw [List.pairwise_map]
  refine (List.pairwise_mergeSort (fun a b c h1 h2 => ?_) (fun a b => ?_) Q).imp fun h => by simpa using h
  · simp at h1 h2 ⊢; omega
  · simp; omega
theorem sorted_uniq {a b : List Int} (hp : a.Perm b) (ha : a.Pairwise (· ≤ ·)) (hb : b.Pairwise (· ≤ ·)) : a = b := hp.eq_of_pairwise (fun _ _ _ _ h1 h2 => Int.le_antisymm h1 h2) ha hb
theorem unev_fst_ge {m : Mll} {p : List Int} {j x y : Int} (hj : j ∈ lotsJ m.lots.toNat) (hx : x ∈ lotL p (lensL m) j) (hy : y ∈ lotL p (lensL m) j) : y - x ≤ (unev m p).1 := by
  refine Int.le_trans (farL_ge hx hy) ((farA_ge _ 0).2 _ ?_)
  unfold lotsL
  obtain ⟨i, hi, rfl⟩ := List.mem_map.1 hj
  exact List.mem_map.2 ⟨i, hi, rfl⟩
/-- A plan that is as even as L shows that there are as many lots. -/
theorem bound_le {m : Mll} (hm : Mok m) {L : Int} {S p : List Int} (hS : S.Perm (fitLens m)) (hs : S.Pairwise (· ≤ ·)) (hp : p ∈ plansL m) (hL : (unev m p).1 ≤ L) : m.lots.toNat ≤ gr L m.size.toNat S := by
  have := hm.l1; have := hm.l3; have := hm.s2
  obtain ⟨h1, h2, h3⟩ := plans_mem hm hp
  have hf : fitOk p (m.cots.map fitB) = true := plansF_fit hp
  obtain ⟨Q, hQ, hQs⟩ := sort_lab (labQ m.cots p)
  have e : Q.map (·.1) = S := sorted_uniq (((hQ.map _).trans (List.Perm.of_eq (labQ_fst m.cots p h1))).trans hS.symm) hQs hs
  have hLab : Lab L m.size.toNat (lotsJ m.lots.toNat) (labQ m.cots p) := by
    refine ⟨fun j hj => ?_, fun q hq r hr hqr hqJ => ?_⟩
    · rw [lotsJ_mem] at hj
      have h4 := lotL_lab (j := j) (by omega) m.cots p h1 hf
      have h5 := lotL_len (plan := p) (vals := m.cots.map (·.len)) (by simp [h1]) j
      rw [h4, List.length_map] at h5
      have h6 := h3 (j - 1).toNat (by omega)
      rw [show (((j - 1).toNat : Nat) : Int) + 1 = j by omega, if_pos (by omega)] at h6
      omega
    · have hq0 := lotsJ_mem.1 hqJ
      have h4 := lotL_lab (j := q.2) (by omega) m.cots p h1 hf
      refine Int.le_trans (unev_fst_ge (p := p) hqJ (x := q.1) (y := r.1) ?_ ?_) hL
      · show q.1 ∈ lotL p (m.cots.map (·.len)) q.2
        rw [h4]
        exact List.mem_map.2 ⟨q, List.mem_filter.2 ⟨hq, by simp⟩, rfl⟩
      · show r.1 ∈ lotL p (m.cots.map (·.len)) q.2
        rw [h4]
        exact List.mem_map.2 ⟨r, List.mem_filter.2 ⟨hr, by simp [hqr]⟩, rfl⟩
  have h7 := lab_grp (L := L) (s := m.size.toNat) (by omega) Q.length Q _ (lotsJ_nodup _) (Nat.le_refl _) (hLab.perm hQ)
  rw [lotsJ_len, e, grp_eq (by omega) Q.length S hs (by rw [← e]; simp)] at h7
  exact h7
/-- As many lots show a plan that is as even as L. -/
theorem bound_ge {m : Mll} (hm : Mok m) {L : Int} {S : List Int} (h0 : 0 ≤ L) (hS : S.Perm (fitLens m)) (hs : S.Pairwise (· ≤ ·)) (hg : m.lots.toNat ≤ gr L m.size.toNat S) : ∃ p ∈ plansL m, (unev m p).1 ≤ L := by
  have := hm.l1; have := hm.l3; have := hm.s2
  obtain ⟨Q, hQ1, hQ2, hQ3⟩ := gr_lab (L := L) (s := m.size.toNat) (by omega) S.length S (lotsJ m.lots.toNat) (Nat.le_refl _) hs (lotsJ_nodup _) (fun h => by rw [lotsJ_mem] at h; omega) (by rw [lotsJ_len]; exact hg)
  obtain ⟨R, hR, hR1⟩ := perm_map (·.1) hS Q hQ1
  obtain ⟨h1, h2⟩ := planOf_fit m.cots R hR1
  have h3 := planOf_len m.cots R
  have hLab := hQ2.perm hR
  have hlot : ∀ j, 0 < j → lotL (planOf m.cots R) (lensL m) j = (R.filter fun q => decide (q.2 = j)).map (·.1) := fun j hj => by
    have := lotL_lab hj m.cots (planOf m.cots R) h3 h2
    rw [h1] at this
    exact this
  have hrg : ∀ x ∈ planOf m.cots R, 0 ≤ x ∧ x ≤ m.lots := fun x hx => by
    rcases planOf_mem m.cots R x hx with h | ⟨q, hq, h⟩
    · omega
    · rcases hQ3 q (hR.mem_iff.1 hq) with h4 | h4
      · omega
      · rw [lotsJ_mem] at h4; omega
  have hcnt : ∀ i : Nat, i < 3 → ([0, 0, 0] : List Int)[i]?.getD 0 + inLot (planOf m.cots R) ((i : Int) + 1) = if i < m.lots.toNat then m.size else 0 := by
    intro i hi
    have h4 := lotL_len (plan := planOf m.cots R) (vals := lensL m) (by simp [lensL, h3]) ((i : Int) + 1)
    rw [show ([0, 0, 0] : List Int)[i]?.getD 0 = 0 by match i, hi with | 0, _ => rfl | 1, _ => rfl | 2, _ => rfl, ← h4, hlot _ (by omega), List.length_map]
    by_cases hil : i < m.lots.toNat
    · rw [if_pos hil, hLab.cnt _ (lotsJ_mem.2 (by omega))]; omega
    · rw [if_neg hil, List.filter_eq_nil_iff.2 fun q hq => ?_]
      · rfl
      · simp only [decide_eq_true_eq]
        intro e
        rcases hQ3 q (hR.mem_iff.1 hq) with h5 | h5
        · omega
        · rw [lotsJ_mem] at h5; omega
  refine ⟨planOf m.cots R, plansF_of (by omega) rfl (by rw [h3]; simp [fitL]) (fun x hx => by have := hrg x hx; omega) h2 hcnt, ?_⟩
  refine farA_le _ 0 h0 fun l hl => ?_
  unfold lotsL at hl
  obtain ⟨i, hi, rfl⟩ := List.mem_map.1 hl
  rw [List.mem_range] at hi
  rw [hlot _ (by omega)]
  refine farL_le h0 fun x hx y hy => ?_
  obtain ⟨q, hq, rfl⟩ := List.mem_map.1 hx
  obtain ⟨r, hr, rfl⟩ := List.mem_map.1 hy
  have hq' := List.mem_filter.1 hq
  have hr' := List.mem_filter.1 hr
  simp at hq' hr'
  exact hLab.near q hq'.1 r hr'.1 (by rw [hq'.2, hr'.2]) (lotsJ_mem.2 (by omega))
end Go.Proofs.YtkpengeaolcjhaaGreatDoor
/- Exchanges of a plan: plain. -/
namespace Go.Proofs.YtkpengeaolcjhaaGreatDoor
open Go.RowKit Go.Shelf
set_option linter.unusedSimpArgs false

theorem inLot_set : ∀ (p : List Int) (i : Nat) (x a lot : Int), p[i]? = some x → inLot (p.set i a) lot + (if x = lot then 1 else 0) = inLot p lot + (if a = lot then 1 else 0)
  | [], i, x, a, lot, h => by simp at h
  | y :: p, 0, x, a, lot, h => by
    simp at h
    subst h
    rw [List.set_cons_zero, inLot_cons, inLot_cons]
    omega
  | y :: p, i + 1, x, a, lot, h => by
    rw [List.set_cons_succ, inLot_cons, inLot_cons]
    have := inLot_set p i x a lot (by simpa using h)
    omega
/-- The plan with a bale left, and one in its place. -/
def swapP (p : List Int) (i k : Nat) : List Int := (p.set i 0).set k (p[i]?.getD 0)
/-- The bales may be exchanged. -/
def mayX (m : Mll) (p : List Int) (i k : Nat) : Bool := !(decide (p[i]?.getD 0 = 0) || !decide (p[k]?.getD 0 = 0)) && (fitL m)[k]?.getD false
theorem swap_ok {m : Mll} {p : List Int} {i k : Nat} {a : Int} (ho : okPlan m p = true) (hi : p[i]? = some a) (ha : a ≠ 0) (hk : p[k]? = some 0) (hf : (fitL m)[k]? = some true) : okPlan m (swapP p i k) = true := by
  unfold okPlan at ho
  simp only [Bool.and_eq_true, decide_eq_true_eq] at ho
  obtain ⟨h1, h2, h3, h4⟩ := ho
  have hik : i ≠ k := by rintro rfl; rw [hi] at hk; injection hk with hk; exact ha hk
  have e : swapP p i k = (p.set i 0).set k a := by unfold swapP; rw [hi]; rfl
  have ar := inB_iff.1 (List.all_eq_true.1 h2 a (List.mem_of_getElem? hi))
  have hk2 : (p.set i 0)[k]? = some 0 := by rw [List.getElem?_set_ne hik]; exact hk
  have cnt : ∀ lot : Int, 1 ≤ lot → inLot (swapP p i k) lot = inLot p lot := by
    intro lot hl
    have c1 := inLot_set p i a 0 lot hi
    have c2 := inLot_set (p.set i 0) k 0 a lot hk2
    rw [if_neg (show ¬ (0 : Int) = lot by omega)] at c1 c2
    rw [e]
    omega
  refine okPlan_yes (by rw [e]; simpa using h1) ?_ ?_ (by rw [cnt 1 (by decide), cnt 2 (by decide), cnt 3 (by decide)]; exact h4)
  · rw [List.all_eq_true] at h2 ⊢
    intro x hx
    rw [e] at hx
    rcases List.mem_or_eq_of_mem_set hx with hx | rfl
    · rcases List.mem_or_eq_of_mem_set hx with hx | rfl
      · exact h2 x hx
      · exact inB_iff.2 ⟨by omega, by omega⟩
    · exact inB_iff.2 ar
  · refine fitOk_yes fun j x b hj hb hx => ?_
    rw [e] at hj
    by_cases hjk : j = k
    · subst hjk
      rw [hf] at hb
      injection hb with hb
      exact hb.symm
    · rw [List.getElem?_set_ne (Ne.symm hjk)] at hj
      by_cases hji : j = i
      · subst hji
        rw [List.getElem?_set_self (List.getElem?_eq_some_iff.1 hi).1] at hj
        injection hj with hj
        omega
      · rw [List.getElem?_set_ne (Ne.symm hji)] at hj
        unfold fitOk at h3
        have h5 := List.all_eq_true.1 h3 (x, b) (List.mem_of_getElem? (i := j) (by rw [List.getElem?_zip_eq_some]; exact ⟨hj, hb⟩))
        simpa [hx] using h5
/-! All exchanges in order: those that may be, with how uneven the plan is then. -/
abbrev Exg := Nat × Nat × (Int × Int)
def exAll (m : Mll) (p : List Int) : List Exg := (List.range p.length).flatMap fun i => (List.range p.length).flatMap fun k => if mayX m p i k then [(i, k, unev m (swapP p i k))] else []
/-- The program's: those that make the plan more even. -/
def exL (m : Mll) (p : List Int) : List Exg := (exAll m p).filter fun x => lessU x.2.2 (unev m p)
/-- The reference keeps the best one, and how uneven the plan is with it. -/
def exStep (s : Option Exg × (Int × Int)) (x : Exg) : Option Exg × (Int × Int) := if lessU x.2.2 s.2 then (some x, x.2.2) else s
def exR (m : Mll) (p : List Int) : Option Exg × (Int × Int) := (exAll m p).foldl exStep (none, unev m p)
theorem lessU_trans {a b c : Int × Int} (h1 : lessU a b = true) (h2 : lessU b c = true) : lessU a c = true := by
  unfold lessU at *
  simp only [Bool.or_eq_true, Bool.and_eq_true, decide_eq_true_eq] at *
  omega
theorem ex_eq (u0 : Int × Int) : ∀ (L : List Exg) (o : Option Exg) (u : Int × Int), (o = none → u = u0) → (∀ b, o = some b → u = b.2.2 ∧ lessU b.2.2 u0 = true) →
    (L.foldl exStep (o, u)).1 = (L.filter fun x => lessU x.2.2 u0).foldl (firstStep fun a b => lessU a.2.2 b.2.2) o
  | [], o, u, _, _ => rfl
  | x :: L, o, u, h0, h1 => by
    rw [List.foldl_cons, List.filter_cons]
    unfold exStep
    cases o with
    | none =>
      have hu := h0 rfl
      subst hu
      cases hl : lessU x.2.2 u with
      | true =>
        simp only [if_true, List.foldl_cons, firstStep]
        exact ex_eq u L _ _ (fun h => by cases h) (fun b hb => by injection hb with hb; subst hb; exact ⟨rfl, hl⟩)
      | false =>
        simp only [Bool.false_eq_true, if_false]
        exact ex_eq u L _ _ (fun _ => rfl) (fun b hb => by cases hb)
    | some b =>
      obtain ⟨hu, hb⟩ := h1 b rfl
      subst hu
      cases hl : lessU x.2.2 b.2.2 with
      | true =>
        have hx := lessU_trans hl hb
        rw [if_pos hx]
        simp only [if_true, List.foldl_cons, firstStep, hl]
        exact ex_eq u0 L _ _ (fun h => by cases h) (fun c hc => by injection hc with hc; subst hc; exact ⟨rfl, hx⟩)
      | false =>
        simp only [Bool.false_eq_true, if_false]
        cases hx : lessU x.2.2 u0 with
        | true =>
          simp only [if_true, List.foldl_cons, firstStep, hl, Bool.false_eq_true, if_false]
          exact ex_eq u0 L _ _ (fun h => by cases h) (fun c hc => by injection hc with hc; subst hc; exact ⟨rfl, hb⟩)
        | false =>
          simp only [Bool.false_eq_true, if_false]
          exact ex_eq u0 L _ _ (fun h => by cases h) (fun c hc => by injection hc with hc; subst hc; exact ⟨rfl, hb⟩)
/-- **Both find the same exchange.** -/
theorem exR_eq (m : Mll) (p : List Int) : (exR m p).1 = firstM (fun a b => lessU a.2.2 b.2.2) (exL m p) :=
  ex_eq (unev m p) (exAll m p) none _ (fun _ => rfl) (fun b hb => by cases hb)
end Go.Proofs.YtkpengeaolcjhaaGreatDoor
/- The order of exchanges: plain. -/
namespace Go.Proofs.YtkpengeaolcjhaaGreatDoor
open Go.RowKit Go.Shelf
set_option linter.unusedSimpArgs false

theorem firstM_two {α : Type} {R : α → α → Prop} {f g : α → α → Bool} (h : ∀ b x, R b x → f x b = g x b) : ∀ (L : List α) (o : Option α), L.Pairwise R → (∀ b, o = some b → ∀ x ∈ L, R b x) → L.foldl (firstStep f) o = L.foldl (firstStep g) o
  | [], _, _, _ => rfl
  | x :: L, o, hp, ho => by
    rw [List.pairwise_cons] at hp
    rw [List.foldl_cons, List.foldl_cons]
    cases o with
    | none =>
      simp only [firstStep]
      exact firstM_two h L _ hp.2 (fun b hb y hy => by injection hb with hb; subst hb; exact hp.1 y hy)
    | some b =>
      have e := h b x (ho b rfl x (by simp))
      simp only [firstStep, e]
      split
      · exact firstM_two h L _ hp.2 (fun c hc y hy => by injection hc with hc; subst hc; exact hp.1 y hy)
      · exact firstM_two h L _ hp.2 (fun c hc y hy => by injection hc with hc; subst hc; exact ho _ rfl y (by simp [hy]))
/-- Earlier among the exchanges. -/
def ExB (a b : Exg) : Prop := a.1 < b.1 ∨ a.1 = b.1 ∧ a.2.1 < b.2.1
theorem exAll_pair (m : Mll) (p : List Int) : (exAll m p).Pairwise ExB := by
  unfold exAll
  rw [List.pairwise_flatMap]
  refine ⟨fun i _ => ?_, List.pairwise_lt_range.imp fun {i j} hij x hx y hy => ?_⟩
  · rw [List.pairwise_flatMap]
    refine ⟨fun k _ => ?_, List.pairwise_lt_range.imp fun {k j} hkj x hx y hy => ?_⟩
    · split <;> simp
    · split at hx
      · split at hy
        · simp at hx hy
          subst hx hy
          exact .inr ⟨rfl, hkj⟩
        · simp at hy
      · simp at hx
  · obtain ⟨k, -, hx⟩ := List.mem_flatMap.1 hx
    obtain ⟨k', -, hy⟩ := List.mem_flatMap.1 hy
    split at hx
    · split at hy
      · simp at hx hy
        subst hx hy
        exact .inl hij
      · simp at hy
    · simp at hx
/-- The program's order of exchanges. -/
def ordX (a b : Exg) : Int := orL [ordU a.2.2 b.2.2, cmpI a.1 b.1, cmpI a.2.1 b.2.1]
theorem ordX_less {a b : Exg} (h : ExB b a) : decide (ordX a b < 0) = lessU a.2.2 b.2.2 := by
  rw [← ordU_neg]
  obtain ⟨i, k, u⟩ := a
  obtain ⟨j, q, v⟩ := b
  unfold ordX
  by_cases h0 : ordU u v = 0
  · simp only [h0]
    rcases h with h | ⟨h, h2⟩
    · simp only at h
      have e : cmpI (i : Int) (j : Int) = 1 := by unfold cmpI; rw [if_neg (by omega), if_pos (by omega)]
      simp [orL, e]
    · simp only at h h2
      subst h
      have e : cmpI (j : Int) (j : Int) = 0 := by unfold cmpI; rw [if_neg (by omega), if_neg (by omega)]
      have e2 : cmpI (k : Int) (q : Int) = 1 := by unfold cmpI; rw [if_neg (by omega), if_pos (by omega)]
      simp [orL, e, e2]
  · simp [orL, h0]
theorem exL_first (m : Mll) (p : List Int) : firstM (fun a b => decide (ordX a b < 0)) (exL m p) = (exR m p).1 := by
  rw [exR_eq]
  exact firstM_two (R := ExB) (fun b x h => ordX_less h) _ none ((exAll_pair m p).sublist List.filter_sublist) (fun b hb => by cases hb)
end Go.Proofs.YtkpengeaolcjhaaGreatDoor
/- The best plan is the first of the most even ones, and an exchange that is told makes a plan the most even: plain laws, no program in sight. -/
namespace Go.Proofs.YtkpengeaolcjhaaGreatDoor
set_option linter.unusedSimpArgs false

/-! Lists of numbers, one before the other. -/
def befL : List Int → List Int → Bool
  | a :: l, b :: r => if a = b then befL l r else decide (a < b)
  | _, _ => false
theorem befL_irr : ∀ (l : List Int), befL l l = false
  | [] => rfl
  | a :: l => by rw [befL, if_pos rfl, befL_irr l]
theorem befL_asym : ∀ {l r : List Int}, befL l r = true → befL r l = false
  | [], _, h => by simp [befL] at h
  | _ :: _, [], h => by simp [befL] at h
  | a :: l, b :: r, h => by
    rw [befL] at h ⊢
    by_cases e : a = b
    · rw [if_pos e] at h
      rw [if_pos e.symm]
      exact befL_asym h
    · rw [if_neg e] at h
      rw [if_neg fun e2 => e e2.symm]
      simp at h ⊢
      omega
theorem plansF_pw {lots : Nat} {size : Int} : ∀ (fit : List Bool) (f : List Int), (plansF lots size fit f).Pairwise fun a b => befL a b = true
  | [], f => by unfold plansF; split <;> simp
  | b :: r, f => by
    unfold plansF
    rw [List.pairwise_flatMap]
    refine ⟨fun i _ => ?_, (List.pairwise_lt_range (n := lots + 1)).imp fun {i j} hij x hx y hy => ?_⟩
    · split
      · rw [List.pairwise_map]
        refine (plansF_pw r _).imp fun h => ?_
        rw [befL, if_pos rfl]
        exact h
      · simp
    · split at hx
      · split at hy
        · obtain ⟨p, -, rfl⟩ := List.mem_map.1 hx
          obtain ⟨q, -, rfl⟩ := List.mem_map.1 hy
          rw [befL, if_neg (by omega)]
          simp; omega
        · simp at hy
      · simp at hx
theorem lessU_irr (a : Int × Int) : lessU a a = false := by unfold lessU; simp
theorem lessU_neg {a b c : Int × Int} (h1 : lessU a b = false) (h2 : lessU b c = false) : lessU a c = false := by
  unfold lessU at *
  simp only [Bool.or_eq_false_iff, Bool.and_eq_false_iff, decide_eq_false_iff_not] at *
  omega
theorem lessU_asym {a b : Int × Int} (h : lessU a b = true) : lessU b a = false := by
  unfold lessU at *
  simp only [Bool.or_eq_true, Bool.and_eq_true, decide_eq_true_eq, Bool.or_eq_false_iff, Bool.and_eq_false_iff, decide_eq_false_iff_not] at *
  omega
theorem lessU_eq {a b : Int × Int} (h1 : lessU a b = false) (h2 : lessU b a = false) : a = b := by
  obtain ⟨a1, a2⟩ := a
  obtain ⟨b1, b2⟩ := b
  unfold lessU at *
  simp only [Bool.or_eq_false_iff, Bool.and_eq_false_iff, decide_eq_false_iff_not] at *
  simp only [Prod.mk.injEq]
  omega
theorem first_from {α : Type} {less : α → α → Bool} (tr : ∀ a b c, less a b = true → less b c = true → less a c = true) (nt : ∀ a b c, less a b = false → less b c = false → less a c = false) {b : α} : ∀ (L : List α) (c : α), L.foldl (firstStep less) (some c) = some b →
    (b = c ∧ ∀ x ∈ L, less x c = false) ∨ ∃ A B, L = A ++ b :: B ∧ less b c = true ∧ (∀ x ∈ A, less b x = true) ∧ ∀ x ∈ B, less x b = false
  | [], c, h => .inl ⟨by simpa using h.symm, fun x hx => by simp at hx⟩
  | x :: L, c, h => by
    rw [List.foldl_cons] at h
    simp only [firstStep] at h
    split at h
    · rename_i hx
      rcases first_from tr nt L x h with ⟨rfl, h2⟩ | ⟨A, B, rfl, h2, h3, h4⟩
      · exact .inr ⟨[], L, rfl, hx, fun y hy => by simp at hy, h2⟩
      · refine .inr ⟨x :: A, B, rfl, tr _ _ _ h2 hx, fun y hy => ?_, h4⟩
        rcases List.mem_cons.1 hy with rfl | hy
        · exact h2
        · exact h3 y hy
    · rename_i hx
      have hx : less x c = false := by simpa using hx
      rcases first_from tr nt L c h with ⟨rfl, h2⟩ | ⟨A, B, rfl, h2, h3, h4⟩
      · refine .inl ⟨rfl, fun y hy => ?_⟩
        rcases List.mem_cons.1 hy with rfl | hy
        · exact hx
        · exact h2 y hy
      · refine .inr ⟨x :: A, B, rfl, h2, fun y hy => ?_, h4⟩
        rcases List.mem_cons.1 hy with rfl | hy
        · cases hb : less b y with
          | true => rfl
          | false => have := nt _ _ _ hb hx; rw [h2] at this; cases this
        · exact h3 y hy
theorem firstM_spec {α : Type} {less : α → α → Bool} (tr : ∀ a b c, less a b = true → less b c = true → less a c = true) (nt : ∀ a b c, less a b = false → less b c = false → less a c = false) (_irr : ∀ a, less a a = false) {L : List α} {b : α} (h : firstM less L = some b) :
    ∃ A B, L = A ++ b :: B ∧ (∀ x ∈ A, less b x = true) ∧ ∀ x ∈ B, less x b = false := by
  cases L with
  | nil => cases h
  | cons x L =>
    unfold firstM at h
    rw [List.foldl_cons] at h
    simp only [firstStep] at h
    rcases first_from tr nt L x h with ⟨rfl, h2⟩ | ⟨A, B, rfl, h2, h3, h4⟩
    · exact ⟨[], L, rfl, fun y hy => by simp at hy, h2⟩
    · refine ⟨x :: A, B, rfl, fun y hy => ?_, h4⟩
      rcases List.mem_cons.1 hy with rfl | hy
      · exact h2
      · exact h3 y hy
theorem firstM_none {α : Type} {less : α → α → Bool} {L : List α} : firstM less L = none ↔ L = [] := by
  have h : ∀ (L : List α) (c : α), L.foldl (firstStep less) (some c) ≠ none := by
    intro L
    induction L with
    | nil => intro c h; cases h
    | cons x L ih =>
      intro c
      rw [List.foldl_cons]
      simp only [firstStep]
      split <;> exact ih _
  cases L with
  | nil => exact ⟨fun _ => rfl, fun _ => rfl⟩
  | cons x L => exact ⟨fun e => absurd e (h L x), fun e => by cases e⟩
/-- **No allowed plan is more even than the best one; one that is as even is not before it.** -/
theorem best_first {m : Mll} {b p : List Int} (h : bestP m = some b) (hp : p ∈ plansL m) : lessU (unev m p) (unev m b) = false ∧ (unev m p = unev m b → befL p b = false) := by
  obtain ⟨A, B, e, h1, h2⟩ := firstM_spec (less := fun a b => lessU (unev m a) (unev m b)) (fun _ _ _ => lessU_trans) (fun _ _ _ => lessU_neg) (fun _ => lessU_irr _) h
  have hpw := plansF_pw (lots := m.lots.toNat) (size := m.size) (fitL m) [0, 0, 0]
  change (plansL m).Pairwise _ at hpw
  rw [e] at hpw hp
  rcases List.mem_append.1 hp with hp | hp
  · refine ⟨lessU_asym (h1 p hp), fun he => ?_⟩
    have := h1 p hp
    rw [he, lessU_irr] at this
    cases this
  · rcases List.mem_cons.1 hp with rfl | hp
    · exact ⟨lessU_irr _, fun _ => befL_irr _⟩
    · refine ⟨h2 p hp, fun _ => befL_asym ?_⟩
      exact (List.pairwise_cons.1 (List.pairwise_append.1 hpw).2.1).1 p hp
theorem best_none {m : Mll} : bestP m = none ↔ plansL m = [] := firstM_none
theorem okPlan_mem {m : Mll} (hm : Mok m) {p : List Int} (h : p ∈ plansL m) : okPlan m p = true := by
  have := hm.l1; have := hm.l3
  obtain ⟨h1, h2, h3⟩ := plans_mem hm h
  refine okPlan_yes h1 (List.all_eq_true.2 fun x hx => by have := h2 x hx; exact inB_iff.2 (by omega)) (plansF_fit h) ?_
  have a := h3 0 (by omega); have b := h3 1 (by omega); have c := h3 2 (by omega)
  unfold fullF
  have e : (List.range 3).map (fun i => if i < m.lots.toNat then m.size else 0) = [if 0 < m.lots.toNat then m.size else 0, if 1 < m.lots.toNat then m.size else 0, if 2 < m.lots.toNat then m.size else 0] := rfl
  rw [e]
  have t : ∀ i : Nat, (if (i : Int) < m.lots then m.size else 0) = if i < m.lots.toNat then m.size else 0 := fun i => by
    by_cases h : i < m.lots.toNat
    · rw [if_pos h, if_pos (by omega)]
    · rw [if_neg h, if_neg (by omega)]
  rw [t] at a b c
  rw [← a, ← b, ← c]
  rfl
theorem ok_iff {m : Mll} (hm : Mok m) {p : List Int} : okPlan m p = true ↔ p ∈ plansL m := ⟨plan_of_ok hm, okPlan_mem hm⟩

/-! Exchanges. -/
theorem exAll_mem {m : Mll} {p : List Int} {x : Exg} : x ∈ exAll m p ↔ x.1 < p.length ∧ x.2.1 < p.length ∧ mayX m p x.1 x.2.1 = true ∧ x.2.2 = unev m (swapP p x.1 x.2.1) := by
  obtain ⟨i, k, u⟩ := x
  unfold exAll
  rw [List.mem_flatMap]
  constructor
  · rintro ⟨a, ha, h⟩
    obtain ⟨b, hb, h⟩ := List.mem_flatMap.1 h
    rw [List.mem_range] at ha hb
    split at h
    · rename_i hx
      simp at h
      obtain ⟨rfl, rfl, rfl⟩ := h
      exact ⟨ha, hb, hx, rfl⟩
    · simp at h
  · rintro ⟨h1, h2, h3, h4⟩
    refine ⟨i, List.mem_range.2 h1, List.mem_flatMap.2 ⟨k, List.mem_range.2 h2, ?_⟩⟩
    rw [if_pos h3]
    simp only at h4
    simp [h4]
/-- **An exchange that is told makes the plan more even, none does more; none is told just if none makes it more even.** -/
theorem ex_best (m : Mll) (p : List Int) : (∀ x, (exR m p).1 = some x → x ∈ exAll m p ∧ lessU x.2.2 (unev m p) = true ∧ ∀ y ∈ exAll m p, lessU y.2.2 x.2.2 = false) ∧ ((exR m p).1 = none → ∀ y ∈ exAll m p, lessU y.2.2 (unev m p) = false) := by
  rw [exR_eq]
  refine ⟨fun x h => ?_, fun h y hy => ?_⟩
  · obtain ⟨A, B, e, h1, h2⟩ := firstM_spec (less := fun a b : Exg => lessU a.2.2 b.2.2) (fun _ _ _ => lessU_trans) (fun _ _ _ => lessU_neg) (fun _ => lessU_irr _) h
    have hx : x ∈ exL m p := by rw [e]; simp
    have hx' := List.mem_filter.1 hx
    refine ⟨hx'.1, hx'.2, fun y hy => ?_⟩
    cases hl : lessU y.2.2 x.2.2 with
    | false => rfl
    | true =>
      have hyL : y ∈ exL m p := List.mem_filter.2 ⟨hy, lessU_trans hl hx'.2⟩
      rw [e] at hyL
      rcases List.mem_append.1 hyL with h3 | h3
      · rw [lessU_asym (h1 y h3)] at hl; cases hl
      · rcases List.mem_cons.1 h3 with rfl | h3
        · rw [lessU_irr] at hl; cases hl
        · rw [h2 y h3] at hl; cases hl
  · rw [firstM_none] at h
    cases hl : lessU y.2.2 (unev m p) with
    | false => rfl
    | true =>
      have : y ∈ exL m p := List.mem_filter.2 ⟨hy, hl⟩
      rw [h] at this; simp at this
theorem mayX_iff {m : Mll} {p : List Int} {i k : Nat} (hi : i < p.length) (hk : k < p.length) : mayX m p i k = true ↔ ∃ a, p[i]? = some a ∧ a ≠ 0 ∧ p[k]? = some 0 ∧ (fitL m)[k]? = some true := by
  unfold mayX
  rw [List.getElem?_eq_getElem hi, List.getElem?_eq_getElem hk]
  simp only [Option.getD_some, Bool.and_eq_true, Bool.not_eq_true', Bool.or_eq_false_iff, decide_eq_false_iff_not, Bool.not_eq_false', decide_eq_true_eq, Option.some.injEq]
  constructor
  · rintro ⟨⟨h1, h2⟩, h3⟩
    refine ⟨_, rfl, h1, h2, ?_⟩
    cases h : (fitL m)[k]? with
    | none => rw [h] at h3; cases h3
    | some b => rw [h] at h3; simp at h3; rw [h3]
  · rintro ⟨a, rfl, h1, h2, h3⟩
    rw [h3]
    exact ⟨⟨h1, h2⟩, rfl⟩
theorem swap_plan {m : Mll} {p : List Int} {i k : Nat} (ho : okPlan m p = true) (hi : i < p.length) (hk : k < p.length) (h : mayX m p i k = true) : okPlan m (swapP p i k) = true := by
  obtain ⟨a, h1, h2, h3, h4⟩ := (mayX_iff hi hk).1 h
  exact swap_ok ho h1 h2 h3 h4
/-- No exchange makes the best plan more even. -/
theorem best_swap {m : Mll} (hm : Mok m) {b : List Int} (h : bestP m = some b) : (exR m b).1 = none := by
  cases hx : (exR m b).1 with
  | none => rfl
  | some x =>
    obtain ⟨h1, h2, -⟩ := (ex_best m b).1 x hx
    obtain ⟨h3, h4, h5, h6⟩ := exAll_mem.1 h1
    have := (best_first h (plan_of_ok hm (swap_plan (okPlan_mem hm (bestP_mem h)) h3 h4 h5))).1
    rw [← h6, h2] at this
    cases this

/-! Too few bales are fit. -/
def nzP (p : List Int) : Nat := (p.filter fun x => !decide (x = 0)).length
def cntT (fit : List Bool) : Nat := (fit.filter fun b => b).length
theorem nz_sum : ∀ (p : List Int), (∀ x ∈ p, 0 ≤ x ∧ x ≤ 3) → (nzP p : Int) = inLot p 1 + inLot p 2 + inLot p 3
  | [], _ => rfl
  | a :: p, h => by
    have ih := nz_sum p (fun x hx => h x (by simp [hx]))
    have ha := h a (by simp)
    rw [inLot_cons, inLot_cons, inLot_cons]
    unfold nzP at ih ⊢
    rw [List.filter_cons]
    by_cases h0 : a = 0
    · rw [if_neg (by simp [h0]), if_neg (by omega), if_neg (by omega), if_neg (by omega), ih]; omega
    · rw [if_pos (by simp [h0]), List.length_cons]
      by_cases h1 : a = 1
      · rw [if_pos h1, if_neg (by omega), if_neg (by omega)]; omega
      · rw [if_neg h1]
        by_cases h2 : a = 2
        · rw [if_pos h2, if_neg (by omega)]; omega
        · rw [if_neg h2, if_pos (by omega)]; omega
theorem nz_le : ∀ {p : List Int} {fit : List Bool}, p.length = fit.length → (∀ x ∈ p, 0 ≤ x) → fitOk p fit = true → nzP p ≤ cntT fit
  | [], [], _, _, _ => Nat.le_refl _
  | a :: p, b :: r, h, h0, hf => by
    rw [fitOk_cons, Bool.and_eq_true] at hf
    have ih := nz_le (p := p) (fit := r) (by simpa using h) (fun x hx => h0 x (by simp [hx])) hf.2
    unfold nzP cntT at ih ⊢
    rw [List.filter_cons, List.filter_cons]
    have ha := h0 a (by simp)
    by_cases hz : a = 0
    · rw [if_neg (by simp [hz])]
      split
      · rw [List.length_cons]; omega
      · exact ih
    · have hb : b = true := by
        have := hf.1
        simp at this
        rcases this with h | h
        · omega
        · exact h
      rw [if_pos (by simp [hz]), if_pos hb, List.length_cons, List.length_cons]
      omega
theorem le_nz : ∀ {p : List Int} {fit : List Bool}, p.length = fit.length → (∀ (i : Nat) (a : Int), fit[i]? = some true → p[i]? = some a → a ≠ 0) → cntT fit ≤ nzP p
  | [], [], _, _ => Nat.le_refl _
  | a :: p, b :: r, h, hf => by
    have ih := le_nz (p := p) (fit := r) (by simpa using h) (fun i x h1 h2 => hf (i + 1) x (by simpa using h1) (by simpa using h2))
    unfold nzP cntT at ih ⊢
    rw [List.filter_cons, List.filter_cons]
    by_cases hb : b = true
    · have := hf 0 a (by simp [hb]) rfl
      rw [if_pos hb, if_pos (by simp [this]), List.length_cons, List.length_cons]
      omega
    · rw [if_neg hb]
      split
      · rw [List.length_cons]; omega
      · exact ih
theorem plan_nz {m : Mll} (hm : Mok m) {p : List Int} (h : p ∈ plansL m) : (nzP p : Int) = m.lots * m.size := by
  have := hm.l1; have := hm.l3
  obtain ⟨h1, h2, h3⟩ := plans_mem hm h
  rw [nz_sum p fun x hx => by have := h2 x hx; omega]
  have a := h3 0 (by omega); have b := h3 1 (by omega); have c := h3 2 (by omega)
  have a' : inLot p 1 = if (0 : Int) < m.lots then m.size else 0 := a
  have b' : inLot p 2 = if (1 : Int) < m.lots then m.size else 0 := b
  have c' : inLot p 3 = if (2 : Int) < m.lots then m.size else 0 := c
  rw [a', b', c', if_pos (by omega)]
  rcases (by omega : m.lots = 1 ∨ m.lots = 2 ∨ m.lots = 3) with e | e | e
  · rw [e, if_neg (by omega), if_neg (by omega)]; omega
  · rw [e, if_pos (by omega), if_neg (by omega)]; omega
  · rw [e, if_pos (by omega), if_pos (by omega)]; omega
/-- Where all fit bales are taken ahead of the last lot's last one there is no plan. -/
theorem few_none {m : Mll} (hm : Mok m) {q : List Int} (hq : q.length = m.cots.length) (hf : ∀ (i : Nat) (a : Int), (fitL m)[i]? = some true → q[i]? = some a → a ≠ 0) (hn : (nzP q : Int) < m.lots * m.size) : plansL m = [] := by
  cases h : plansL m with
  | nil => rfl
  | cons p L =>
    have hp : p ∈ plansL m := by rw [h]; simp
    have h1 := plan_nz hm hp
    have h2 := nz_le (p := p) (fit := fitL m) (by rw [(plans_mem hm hp).1]; simp [fitL]) (fun x hx => ((plans_mem hm hp).2.1 x hx).1) (plansF_fit hp)
    have h3 := le_nz (p := q) (fit := fitL m) (by rw [hq]; simp [fitL]) hf
    omega
end Go.Proofs.YtkpengeaolcjhaaGreatDoor
/- Plain law of Put: the sort of the program lays a cotton where the reference lays it, unless an id is there twice. -/
namespace Go.Proofs.YtkpengeaolcjhaaGreatDoor
open Go.RowKit Go.Shelf Go.Lib
set_option linter.unusedSimpArgs false

theorem ids_pw : ∀ (l : List Int), notDown l = true → noTwins l = true → l.Pairwise (· < ·)
  | [], _, _ => List.Pairwise.nil
  | [x], _, _ => by simp
  | x :: y :: l, h1, h2 => by
    rw [notDown, Bool.and_eq_true, decide_eq_true_eq] at h1
    rw [noTwins, Bool.and_eq_true] at h2
    have h3 : ¬ y = x := by have := h2.1; simpa using this
    have ih := ids_pw (y :: l) h1.2 h2.2
    refine List.Pairwise.cons (fun z hz => ?_) ih
    rcases List.mem_cons.1 hz with rfl | hz
    · have := h1.1; omega
    · have := List.rel_of_pairwise_cons ih hz
      have := h1.1
      omega
abbrev Below2 (a b : Cot) : Prop := a.b.id < b.b.id
theorem cots_pw {m : Mll} (h : checkM m = true) : m.cots.Pairwise Below2 := by
  unfold checkM ck2 at h
  simp only [Bool.and_eq_true] at h
  have h1 := ids_pw _ h.1.2.1 h.1.2.2
  unfold idsL at h1
  exact (List.pairwise_map (f := fun x : Cot => x.b.id) (R := fun (a b : Int) => a < b)).1 h1
theorem pw_at {l : List Cot} (h : l.Pairwise Below2) {i j : Nat} {a b : Cot} (hij : i < j) (ha : l[i]? = some a) (hb : l[j]? = some b) : a.b.id < b.b.id := by
  obtain ⟨hi, rfl⟩ := List.getElem?_eq_some_iff.1 ha
  obtain ⟨hj, rfl⟩ := List.getElem?_eq_some_iff.1 hb
  exact List.pairwise_iff_getElem.1 h i j hi hj hij
theorem sortK_pw {l r : List Cot} (h : l.Pairwise Below2) : ∀ k, k ≤ l.length → sortK (l ++ r) k = l.take k
  | 0, _ => by simp [sortK]
  | k + 1, hk => by
    obtain ⟨x, hx⟩ : ∃ x, l[k]? = some x := ⟨_, List.getElem?_eq_getElem (by omega)⟩
    unfold sortK
    rw [List.getElem?_append_left (by omega), hx]
    simp only
    rw [sortK_pw h k (by omega)]
    have hs : stopK (l.take k) x k = k := by
      cases k with
      | zero => rfl
      | succ k =>
        obtain ⟨y, hy⟩ : ∃ y, l[k]? = some y := ⟨_, List.getElem?_eq_getElem (by omega)⟩
        have := pw_at h (Nat.lt_succ_self k) hy hx
        unfold stopK
        rw [List.getElem?_take, if_pos (by omega), hy]
        simp only
        rw [if_neg (by omega)]
    rw [hs]
    unfold putK
    rw [List.take_take, Nat.min_self, List.drop_eq_nil_of_le (by simp; omega), List.take_add_one, hx]
    rfl
theorem putM_cots {m : Mll} {x : Cot} (h : checkM m = true) : (putM m x).cots = putK m.cots x (stopK m.cots x m.cots.length) := by
  show sortK (m.cots ++ [x]) (m.cots.length + 1) = _
  unfold sortK
  rw [List.getElem?_append_right (Nat.le_refl _), Nat.sub_self]
  simp only [List.getElem?_cons_zero]
  rw [sortK_pw (cots_pw h) _ (Nat.le_refl _), List.take_length]
theorem fresh_of {lots size : Int} {l : List Cot} {x : Cot} {s : Nat} (h : checkM ⟨lots, size, l.take s ++ x :: l.drop s⟩ = true) : ∀ y ∈ l, y.b.id ≠ x.b.id := by
  have hp := List.pairwise_append.1 (cots_pw h)
  obtain ⟨-, h2, h3⟩ := hp
  intro y hy
  rw [← List.take_append_drop s l] at hy
  rcases List.mem_append.1 hy with hy | hy
  · have : y.b.id < x.b.id := h3 y hy x (List.mem_cons_self ..)
    omega
  · have : x.b.id < y.b.id := List.rel_of_pairwise_cons h2 hy
    omega
theorem spotK_lt {l : List Cot} {id : Int} : ∀ {i : Nat} {y : Cot}, i < spotK l id → l[i]? = some y → y.b.id < id := by
  induction l with
  | nil => intro i y _ hy; simp at hy
  | cons z l ih =>
    intro i y hi hy
    unfold spotK at hi
    rw [List.takeWhile_cons] at hi
    by_cases hz : z.b.id < id
    · simp only [hz, decide_true, if_true, List.length_cons] at hi
      cases i with
      | zero => simp at hy; rw [← hy]; exact hz
      | succ i =>
        have hi' : i < spotK l id := by unfold spotK; omega
        exact ih hi' (by simpa using hy)
    · simp [hz] at hi
theorem spotK_at {l : List Cot} {id : Int} : ∀ {y : Cot}, l[spotK l id]? = some y → ¬ y.b.id < id := by
  induction l with
  | nil => intro y hy; simp at hy
  | cons z l ih =>
    intro y hy
    unfold spotK at hy
    rw [List.takeWhile_cons] at hy
    by_cases hz : z.b.id < id
    · simp only [hz, decide_true, if_true, List.length_cons, List.getElem?_cons_succ] at hy
      exact ih (by unfold spotK; exact hy)
    · simp [hz] at hy
      rw [← hy]; exact hz
theorem spotK_len (l : List Cot) (id : Int) : spotK l id ≤ l.length := (List.takeWhile_sublist _).length_le
theorem stop_spot {l : List Cot} {x : Cot} (h : l.Pairwise Below2) (hf : ∀ y ∈ l, y.b.id ≠ x.b.id) : ∀ k, spotK l x.b.id + k ≤ l.length → stopK l x (spotK l x.b.id + k) = spotK l x.b.id
  | 0, hk => by
    cases hs : spotK l x.b.id with
    | zero => rfl
    | succ s =>
      obtain ⟨y, hy⟩ : ∃ y, l[s]? = some y := ⟨_, List.getElem?_eq_getElem (by omega)⟩
      have := spotK_lt (id := x.b.id) (by omega) hy
      show stopK l x (s + 1) = _
      unfold stopK
      rw [hy]
      simp only
      rw [if_neg (by omega)]
  | k + 1, hk => by
    obtain ⟨y, hy⟩ : ∃ y, l[spotK l x.b.id + k]? = some y := ⟨_, List.getElem?_eq_getElem (by omega)⟩
    obtain ⟨z, hz⟩ : ∃ z, l[spotK l x.b.id]? = some z := ⟨_, List.getElem?_eq_getElem (by omega)⟩
    have h1 := spotK_at hz
    have h2 := hf y (List.mem_of_getElem? hy)
    have h3 : z.b.id ≤ y.b.id := by
      cases k with
      | zero =>
        rw [Nat.add_zero, hz] at hy
        injection hy with hy
        rw [hy]; omega
      | succ k =>
        have := pw_at h (show spotK l x.b.id < spotK l x.b.id + (k + 1) by omega) hz hy
        omega
    rw [← Nat.add_assoc]
    unfold stopK
    rw [hy]
    simp only
    rw [if_pos (by omega)]
    exact stop_spot h hf k (by omega)
/-- **Put answers as the reference's.** -/
theorem put_same {m : Mll} {x : Cot} (h : checkM m = true) : checkM (insM m x) = checkM (putM m x) ∧ (checkM (putM m x) = true → insM m x = putM m x) := by
  have hc := putM_cots (x := x) h
  have heq : (∀ y ∈ m.cots, y.b.id ≠ x.b.id) → insM m x = putM m x := fun hf => by
    have hs := stop_spot (cots_pw h) hf (m.cots.length - spotK m.cots x.b.id) (by have := spotK_len m.cots x.b.id; omega)
    rw [show spotK m.cots x.b.id + (m.cots.length - spotK m.cots x.b.id) = m.cots.length by have := spotK_len m.cots x.b.id; omega] at hs
    rw [hs] at hc
    show (⟨m.lots, m.size, insK m.cots x⟩ : Mll) = ⟨m.lots, m.size, (putM m x).cots⟩
    rw [hc]
    rfl
  have hp : checkM (putM m x) = true → ∀ y ∈ m.cots, y.b.id ≠ x.b.id := fun hk => by
    have : putM m x = ⟨m.lots, m.size, putK m.cots x (stopK m.cots x m.cots.length)⟩ := by rw [← hc]; rfl
    rw [this] at hk
    exact fresh_of hk
  have hi : checkM (insM m x) = true → ∀ y ∈ m.cots, y.b.id ≠ x.b.id := fun hk => fresh_of hk
  refine ⟨?_, fun hk => heq (hp hk)⟩
  cases h1 : checkM (putM m x) with
  | true => rw [heq (hp h1), h1]
  | false =>
    cases h2 : checkM (insM m x) with
    | false => rfl
    | true => rw [heq (hi h2), h1] at h2; cases h2
end Go.Proofs.YtkpengeaolcjhaaGreatDoor
/- One bale more never makes the best plan less even, one less never more: plain laws, no program in sight. -/
namespace Go.Proofs.YtkpengeaolcjhaaGreatDoor
set_option linter.unusedSimpArgs false

theorem inLot_mid {P R : List Int} {j : Int} (hj : j ≠ 0) : inLot (P ++ 0 :: R) j = inLot (P ++ R) j := by
  unfold inLot
  rw [List.filter_append, List.filter_append, List.filter_cons, if_neg (by simpa using fun e : (0 : Int) = j => hj e.symm)]
theorem lotL_mid {P R A B : List Int} {v j : Int} (h : P.length = A.length) (hj : j ≠ 0) : lotL (P ++ 0 :: R) (A ++ v :: B) j = lotL (P ++ R) (A ++ B) j := by
  unfold lotL
  rw [List.zip_append h, List.zip_append h, List.zip_cons_cons, List.filter_append, List.filter_append, List.filter_cons, if_neg (by simpa using fun e : (0 : Int) = j => hj e.symm)]
theorem fitOk_mid {P R : List Int} {A B : List Bool} {b : Bool} (h : P.length = A.length) : fitOk (P ++ 0 :: R) (A ++ b :: B) = fitOk (P ++ R) (A ++ B) := by
  unfold fitOk
  rw [List.zip_append h, List.zip_append h, List.zip_cons_cons, List.all_append, List.all_append, List.all_cons]
  simp
theorem ok_mid {lots size : Int} {A B : List Cot} {x : Cot} {P R : List Int} (h : P.length = A.length) (h0 : 0 ≤ lots) : okPlan ⟨lots, size, A ++ x :: B⟩ (P ++ 0 :: R) = okPlan ⟨lots, size, A ++ B⟩ (P ++ R) := by
  unfold okPlan
  have e1 : decide ((P ++ 0 :: R).length = (A ++ x :: B).length) = decide ((P ++ R).length = (A ++ B).length) := by
    rw [Bool.eq_iff_iff]; simp; omega
  have e2 : (P ++ 0 :: R).all (inB 0 lots) = (P ++ R).all (inB 0 lots) := by
    rw [List.all_append, List.all_append, List.all_cons, inB_iff.2 ⟨Int.le_refl _, h0⟩]
    rfl
  have e3 : fitOk (P ++ 0 :: R) (fitL ⟨lots, size, A ++ x :: B⟩) = fitOk (P ++ R) (fitL ⟨lots, size, A ++ B⟩) := by
    unfold fitL
    simp only [List.map_append, List.map_cons]
    exact fitOk_mid (by simp [h])
  rw [e2, e3, inLot_mid (by omega), inLot_mid (by omega), inLot_mid (by omega)]
  simp only at e1 ⊢
  rw [e1]
theorem unev_mid {lots size : Int} {A B : List Cot} {x : Cot} {P R : List Int} (h : P.length = A.length) : unev ⟨lots, size, A ++ x :: B⟩ (P ++ 0 :: R) = unev ⟨lots, size, A ++ B⟩ (P ++ R) := by
  have e : ∀ (f : Cot → Int), lotsL lots (P ++ 0 :: R) ((A ++ x :: B).map f) = lotsL lots (P ++ R) ((A ++ B).map f) := fun f => by
    unfold lotsL
    refine List.map_congr_left fun i _ => ?_
    rw [List.map_append, List.map_append, List.map_cons]
    exact lotL_mid (by simp [h]) (by omega)
  unfold unev
  exact Prod.ext (by simp only [lensL]; rw [e]) (by simp only [strsL]; rw [e])
/-- A plan that leaves a bale is a plan without it. -/
theorem split_plan {lots size : Int} {A B : List Cot} {x : Cot} {p : List Int} (h0 : 0 ≤ lots) (h : okPlan ⟨lots, size, A ++ x :: B⟩ p = true) (hi : p[A.length]? = some 0) : ∃ q, okPlan ⟨lots, size, A ++ B⟩ q = true ∧ unev ⟨lots, size, A ++ B⟩ q = unev ⟨lots, size, A ++ x :: B⟩ p := by
  have hl := (List.getElem?_eq_some_iff.1 hi).1
  have hlen : (p.take A.length).length = A.length := by rw [List.length_take]; omega
  have e : p = p.take A.length ++ 0 :: p.drop (A.length + 1) := by
    have := (List.getElem?_eq_some_iff.1 hi).2
    rw [← this, List.getElem_cons_drop, List.take_append_drop]
  rw [e] at h
  rw [ok_mid hlen h0] at h
  exact ⟨_, h, by rw [← unev_mid (x := x) hlen, ← e]⟩
theorem more_plan {lots size : Int} {A B : List Cot} {x : Cot} {p : List Int} (h0 : 0 ≤ lots) (h : okPlan ⟨lots, size, A ++ B⟩ p = true) : ∃ q, okPlan ⟨lots, size, A ++ x :: B⟩ q = true ∧ unev ⟨lots, size, A ++ x :: B⟩ q = unev ⟨lots, size, A ++ B⟩ p := by
  have hl : p.length = (A ++ B).length := by
    unfold okPlan at h
    simp only [Bool.and_eq_true, decide_eq_true_eq] at h
    exact h.1
  rw [List.length_append] at hl
  have hlen : (p.take A.length).length = A.length := by rw [List.length_take]; omega
  refine ⟨p.take A.length ++ 0 :: p.drop A.length, ?_, ?_⟩
  · rw [ok_mid hlen h0, List.take_append_drop]; exact h
  · rw [unev_mid hlen, List.take_append_drop]
/-- **One bale more makes the best plan no less even.** -/
theorem more_even {lots size : Int} {A B : List Cot} {x : Cot} (hm : Mok ⟨lots, size, A ++ B⟩) (hm' : Mok ⟨lots, size, A ++ x :: B⟩) {b : List Int} (h : bestP ⟨lots, size, A ++ B⟩ = some b) :
    ∃ b', bestP ⟨lots, size, A ++ x :: B⟩ = some b' ∧ lessU (unev ⟨lots, size, A ++ B⟩ b) (unev ⟨lots, size, A ++ x :: B⟩ b') = false := by
  have h0 : 0 ≤ lots := by have : 1 ≤ lots := hm.l1; omega
  obtain ⟨q, hq1, hq2⟩ := more_plan (x := x) h0 (okPlan_mem hm (bestP_mem h))
  have hq := plan_of_ok hm' hq1
  cases hb : bestP ⟨lots, size, A ++ x :: B⟩ with
  | none => rw [best_none.1 hb] at hq; simp at hq
  | some b' => exact ⟨b', rfl, by rw [← hq2]; exact (best_first hb hq).1⟩
/-- A bale that the best plan leaves is not needed. -/
theorem left_even {lots size : Int} {A B : List Cot} {x : Cot} (hm : Mok ⟨lots, size, A ++ B⟩) (hm' : Mok ⟨lots, size, A ++ x :: B⟩) {b : List Int} (h : bestP ⟨lots, size, A ++ x :: B⟩ = some b) (hi : b[A.length]? = some 0) :
    ∃ b', bestP ⟨lots, size, A ++ B⟩ = some b' ∧ lessU (unev ⟨lots, size, A ++ x :: B⟩ b) (unev ⟨lots, size, A ++ B⟩ b') = false := by
  have h0 : 0 ≤ lots := by have : 1 ≤ lots := hm.l1; omega
  obtain ⟨q, hq1, hq2⟩ := split_plan h0 (okPlan_mem hm' (bestP_mem h)) hi
  have hq := plan_of_ok hm hq1
  cases hb : bestP ⟨lots, size, A ++ B⟩ with
  | none => rw [best_none.1 hb] at hq; simp at hq
  | some b' => exact ⟨b', rfl, by rw [← hq2]; exact (best_first hb hq).1⟩

/-! A mill with a bale less is valid. -/
theorem pw_ids : ∀ (l : List Int), l.Pairwise (· < ·) → notDown l = true ∧ noTwins l = true
  | [], _ => ⟨rfl, rfl⟩
  | [x], _ => ⟨rfl, rfl⟩
  | x :: y :: l, h => by
    rw [List.pairwise_cons] at h
    obtain ⟨h1, h2⟩ := pw_ids (y :: l) h.2
    have hxy : x < y := h.1 y (by simp)
    refine ⟨?_, ?_⟩
    · rw [notDown, h1, decide_eq_true (by omega)]; rfl
    · rw [noTwins, h2, decide_eq_false (by omega)]; rfl
theorem check_del {lots size : Int} {A B : List Cot} {x : Cot} (h : checkM ⟨lots, size, A ++ x :: B⟩ = true) : checkM ⟨lots, size, A ++ B⟩ = true := by
  have hp := cots_pw h
  have hp2 : (A ++ B).Pairwise Below2 := hp.sublist (List.Sublist.append (List.Sublist.refl A) (List.sublist_cons_self x B))
  obtain ⟨i1, i2⟩ := pw_ids ((A ++ B).map (·.b.id)) (by rw [List.pairwise_map]; exact hp2)
  unfold checkM ck0 ck1 ck2 ck3 at h ⊢
  simp only [Bool.and_eq_true, Bool.not_eq_true', decide_eq_true_eq, List.any_append, List.any_cons, Bool.or_eq_false_iff, List.length_append, List.length_cons] at h ⊢
  obtain ⟨⟨⟨⟨⟨h1, h2⟩, h3⟩, h4⟩, -⟩, h5⟩ := h
  exact ⟨⟨⟨⟨⟨h1, h2⟩, by omega⟩, h4.1, h4.2.2⟩, i1, i2⟩, h5.1, h5.2.2⟩
theorem take_split {m : Mll} {i : Nat} {x : Cot} (h : m.cots[i]? = some x) : m.cots = m.cots.take i ++ x :: m.cots.drop (i + 1) := by
  have := (List.getElem?_eq_some_iff.1 h).2
  rw [← this, List.getElem_cons_drop, List.take_append_drop]
theorem place_at {m : Mll} {i : Nat} {x : Cot} (hc : checkM m = true) (h : m.cots[i]? = some x) : placeM m x.b.id = i := by
  have hp := cots_pw hc
  have hl := (List.getElem?_eq_some_iff.1 h).1
  unfold placeM
  refine idxF_some _ _ i x.b.id (by rw [List.getElem?_map, h]; rfl) (by simp) fun j y hj hy => ?_
  rw [List.getElem?_map] at hy
  cases hz : m.cots[j]? with
  | none => rw [hz] at hy; cases hy
  | some z =>
    rw [hz] at hy
    have hy : z.b.id = y := by injection hy
    have := pw_at hp hj hz h
    rw [← hy]
    simp
    omega
end Go.Proofs.YtkpengeaolcjhaaGreatDoor
/- The reference's choices of lots by what is used already: plain laws, no program in sight. -/
namespace Go.Proofs.YtkpengeaolcjhaaGreatDoor
set_option linter.unusedSimpArgs false

/-- What is not used yet. -/
def unU : List Int → List Bool → List Int
  | x :: l, b :: u => if b then unU l u else x :: unU l u
  | _, _ => []
theorem unU_nil (u : List Bool) : unU [] u = [] := by cases u <;> rfl
theorem unU_app : ∀ (A : List Int) (U : List Bool) (B : List Int) (V : List Bool), A.length = U.length → unU (A ++ B) (U ++ V) = unU A U ++ unU B V
  | [], [], B, V, _ => by simp [unU_nil]
  | [], _ :: _, _, _, h => by simp at h
  | _ :: _, [], _, _, h => by simp at h
  | x :: A, b :: U, B, V, h => by
    have ih := unU_app A U B V (by simpa using h)
    rw [List.cons_append, List.cons_append, unU, unU, ih]
    split <;> simp
theorem unU_len : ∀ (l : List Int) (u : List Bool), (unU l u).length ≤ l.length
  | [], u => by simp [unU_nil]
  | x :: l, [] => by simp [unU]
  | x :: l, b :: u => by
    have ih := unU_len l u
    rw [unU]
    split
    · rw [List.length_cons]; omega
    · rw [List.length_cons, List.length_cons]; omega
theorem unU_free : ∀ (l : List Int), unU l (List.replicate l.length false) = l
  | [] => rfl
  | x :: l => by rw [List.length_cons, List.replicate_succ, unU, unU_free l]; rfl
theorem unU_split {l : List Int} {u : List Bool} (h : u.length = l.length) (k : Nat) : unU l u = unU (l.take k) (u.take k) ++ unU (l.drop k) (u.drop k) := by
  rw [← unU_app _ _ _ _ (by simp [h]), List.take_append_drop, List.take_append_drop]
theorem unU_drop {l : List Int} {u : List Bool} {k : Nat} {x : Int} {b : Bool} (hl : l[k]? = some x) (hu : u[k]? = some b) : unU (l.drop k) (u.drop k) = if b then unU (l.drop (k + 1)) (u.drop (k + 1)) else x :: unU (l.drop (k + 1)) (u.drop (k + 1)) := by
  have h1 := (List.getElem?_eq_some_iff.1 hl).1
  have h2 := (List.getElem?_eq_some_iff.1 hu).1
  rw [List.drop_eq_getElem_cons h1, List.drop_eq_getElem_cons h2, (List.getElem?_eq_some_iff.1 hl).2, (List.getElem?_eq_some_iff.1 hu).2, unU]
theorem unU_take {l : List Int} {u : List Bool} {k : Nat} {x : Int} {b : Bool} (h : u.length = l.length) (hl : l[k]? = some x) (hu : u[k]? = some b) : unU (l.take (k + 1)) (u.take (k + 1)) = unU (l.take k) (u.take k) ++ (if b then [] else [x]) := by
  rw [List.take_add_one, List.take_add_one, hl, hu]
  simp only [Option.toList_some]
  rw [unU_app _ _ _ _ (by simp [h])]
  rfl
theorem unU_set_take {l : List Int} {u : List Bool} {k j : Nat} (h : j ≤ k) : unU (l.take j) ((u.set k true).take j) = unU (l.take j) (u.take j) := by
  rw [List.take_set_of_le h]
theorem unU_set_drop {l : List Int} {u : List Bool} {k j : Nat} (h : k < j) : unU (l.drop j) ((u.set k true).drop j) = unU (l.drop j) (u.drop j) := by
  rw [List.drop_set_of_lt h]
theorem unU_set_len {l : List Int} {u : List Bool} {k : Nat} {x : Int} (h : u.length = l.length) (hl : l[k]? = some x) (hu : u[k]? = some false) : (unU l (u.set k true)).length + 1 = (unU l u).length := by
  have hs : (u.set k true)[k]? = some true := by rw [List.getElem?_set, if_pos rfl, if_pos (List.getElem?_eq_some_iff.1 hu).1]
  rw [unU_split h k, unU_split (u := u.set k true) (by simp [h]) k, unU_drop hl hu, unU_drop hl hs, unU_set_take (Nat.le_refl _), unU_set_drop (Nat.lt_succ_self k)]
  simp
  omega

/-- x's lot wants some more, from the index k on. -/
def chsT (L : Int) (g : List Int → Nat) (l : List Int) (u : List Bool) (x : Int) (k m : Nat) : Nat := chsG L g x (unU (l.take k) (u.take k)) (unU (l.drop k) (u.drop k)) m
theorem chsT_zero {L : Int} {g : List Int → Nat} {l : List Int} {u : List Bool} {x : Int} {k : Nat} (h : u.length = l.length) : chsT L g l u x k 0 = 1 + g (unU l u) := by
  unfold chsT
  rw [chsG_zero, ← unU_split h k]
theorem chsT_end {L : Int} {g : List Int → Nat} {l : List Int} {u : List Bool} {x : Int} {k m : Nat} (h : l.length ≤ k) : chsT L g l u x k (m + 1) = 0 := by
  unfold chsT
  rw [List.drop_eq_nil_of_le h, unU_nil, chsG]
theorem chsT_used {L : Int} {g : List Int → Nat} {l : List Int} {u : List Bool} {x y : Int} {k m : Nat} (h : u.length = l.length) (hl : l[k]? = some y) (hu : u[k]? = some true) : chsT L g l u x k m = chsT L g l u x (k + 1) m := by
  unfold chsT
  rw [unU_drop hl hu, unU_take h hl hu, if_pos rfl, if_pos rfl, List.append_nil]
theorem chsT_far {L : Int} {g : List Int → Nat} {l : List Int} {u : List Bool} {x y : Int} {k m : Nat} (h : u.length = l.length) (hl : l[k]? = some y) (hu : u[k]? = some false) (hy : ¬ y - x ≤ L) : chsT L g l u x k (m + 1) = chsT L g l u x (k + 1) (m + 1) := by
  unfold chsT
  rw [unU_drop hl hu, unU_take h hl hu, if_neg (by simp), if_neg (by simp), chsG, if_neg hy, Nat.zero_max]
theorem chsT_near {L : Int} {g : List Int → Nat} {l : List Int} {u : List Bool} {x y : Int} {k m : Nat} (h : u.length = l.length) (hl : l[k]? = some y) (hu : u[k]? = some false) (hy : y - x ≤ L) : chsT L g l u x k (m + 1) = max (chsT L g l (u.set k true) x (k + 1) m) (chsT L g l u x (k + 1) (m + 1)) := by
  have hs : (u.set k true)[k]? = some true := by rw [List.getElem?_set, if_pos rfl, if_pos (List.getElem?_eq_some_iff.1 hu).1]
  unfold chsT
  rw [unU_drop hl hu, unU_take h hl hu, unU_take (u := u.set k true) (by simp [h]) hl hs]
  simp only [Bool.false_eq_true, if_false, if_true, List.append_nil]
  rw [unU_set_take (Nat.le_refl _), unU_set_drop (Nat.lt_succ_self k), chsG, if_pos hy]
theorem grp_none {L : Int} {s f : Nat} {l : List Int} {u : List Bool} (h : u.length = l.length) (hu : ∀ i, i < l.length → u[i]? = some true) : grpF L s f (unU l u) = 0 := by
  have e : unU l u = [] := by
    induction l generalizing u with
    | nil => exact unU_nil u
    | cons x l ih =>
      cases u with
      | nil => rfl
      | cons b u =>
        have hb := hu 0 (by simp)
        simp at hb
        rw [unU, hb, if_pos rfl]
        exact ih (by simpa using h) fun i hi => by have := hu (i + 1) (by simp; omega); simpa using this
  rw [e]
  cases f <;> rw [grpF]
theorem unU_full {l : List Int} {u : List Bool} {k : Nat} (hu : ∀ i, i < k → u[i]? = some true) : unU (l.take k) (u.take k) = [] := by
  induction k generalizing l u with
  | zero => simp [unU_nil]
  | succ k ih =>
    cases l with
    | nil => simp [unU_nil]
    | cons x l =>
      cases u with
      | nil => rfl
      | cons b u =>
        have hb := hu 0 (by omega)
        simp at hb
        rw [List.take_succ_cons, List.take_succ_cons, unU, hb, if_pos rfl]
        exact ih fun i hi => by have := hu (i + 1) (by omega); simpa using this
theorem grp_step {L : Int} {s f k : Nat} {l : List Int} {u : List Bool} {x : Int} (h : u.length = l.length) (hl : l[k]? = some x) (hu : u[k]? = some false) (hk : ∀ i, i < k → u[i]? = some true) :
    grpF L s (f + 1) (unU l u) = max (grpF L s f (unU l (u.set k true))) (chsT L (grpF L s f) l (u.set k true) x (k + 1) (s - 1)) := by
  have hs : (u.set k true)[k]? = some true := by rw [List.getElem?_set, if_pos rfl, if_pos (List.getElem?_eq_some_iff.1 hu).1]
  have e1 : unU l u = x :: unU (l.drop (k + 1)) (u.drop (k + 1)) := by
    rw [unU_split h k, unU_full hk, unU_drop hl hu]; rfl
  have hk' : ∀ i, i < k + 1 → (u.set k true)[i]? = some true := fun i hi => by
    by_cases hik : i = k
    · subst hik; exact hs
    · rw [List.getElem?_set, if_neg (fun e => hik e.symm)]; exact hk i (by omega)
  have e2 : unU l (u.set k true) = unU (l.drop (k + 1)) (u.drop (k + 1)) := by
    rw [unU_split (by simp [h]) (k + 1), unU_full hk', unU_set_drop (Nat.lt_succ_self k)]; rfl
  rw [e1, e2, grpF]
  unfold chsT
  rw [unU_full hk', unU_set_drop (Nat.lt_succ_self k)]

/-! Numbers in order. -/
def spotI (l : List Int) (n : Int) : Nat := (l.takeWhile fun y => decide (y ≤ n)).length
def insI (l : List Int) (n : Int) : List Int := l.take (spotI l n) ++ n :: l.drop (spotI l n)
theorem spotI_le (l : List Int) (n : Int) : spotI l n ≤ l.length := (List.takeWhile_sublist _).length_le
theorem insI_perm (l : List Int) (n : Int) : (insI l n).Perm (n :: l) := by
  unfold insI
  have := (List.perm_middle (a := n) (l₁ := l.take (spotI l n)) (l₂ := l.drop (spotI l n)))
  rw [List.take_append_drop] at this
  exact this
theorem spotI_lt {n : Int} : ∀ {l : List Int} {i : Nat} {y : Int}, i < spotI l n → l[i]? = some y → y ≤ n
  | [], _, _, h, _ => by simp [spotI] at h
  | x :: l, i, y, h, hy => by
    unfold spotI at h
    rw [List.takeWhile_cons] at h
    split at h
    · rename_i hx
      cases i with
      | zero => simp at hy hx; omega
      | succ i => exact spotI_lt (l := l) (i := i) (by unfold spotI; simp at h; omega) (by simpa using hy)
    · simp at h
theorem spotI_at {n : Int} : ∀ {l : List Int} {y : Int}, l[spotI l n]? = some y → n < y
  | [], _, h => by simp at h
  | x :: l, y, h => by
    unfold spotI at h
    rw [List.takeWhile_cons] at h
    split at h
    · rw [List.length_cons, List.getElem?_cons_succ] at h
      exact spotI_at (l := l) h
    · rename_i hx
      simp at h hx
      omega
theorem spotI_of {n : Int} {l : List Int} {k : Nat} (h1 : ∀ i y, i < k → l[i]? = some y → y ≤ n) (hk : k ≤ l.length) (h2 : ∀ y, l[k]? = some y → n < y) : spotI l n = k := by
  have hle := spotI_le l n
  rcases Nat.lt_trichotomy (spotI l n) k with h | h | h
  · obtain ⟨y, hy⟩ : ∃ y, l[spotI l n]? = some y := ⟨_, List.getElem?_eq_getElem (by omega)⟩
    have := spotI_at hy
    have := h1 _ _ h hy
    omega
  · exact h
  · obtain ⟨y, hy⟩ : ∃ y, l[k]? = some y := ⟨_, List.getElem?_eq_getElem (by omega)⟩
    have := spotI_lt h hy
    have := h2 _ hy
    omega
theorem insI_sorted {l : List Int} (h : l.Pairwise (· ≤ ·)) (n : Int) : (insI l n).Pairwise (· ≤ ·) := by
  unfold insI
  rw [List.pairwise_append]
  refine ⟨h.sublist (List.take_sublist _ _), List.pairwise_cons.2 ⟨fun y hy => ?_, h.sublist (List.drop_sublist _ _)⟩, fun a ha b hb => ?_⟩
  · obtain ⟨i, hi⟩ := List.mem_iff_getElem?.1 hy
    rw [List.getElem?_drop] at hi
    have hl := (List.getElem?_eq_some_iff.1 hi).1
    obtain ⟨z, hz⟩ : ∃ z, l[spotI l n]? = some z := ⟨_, List.getElem?_eq_getElem (by omega)⟩
    have := spotI_at hz
    have := pair_le h hz hi (by omega)
    omega
  · obtain ⟨i, hi⟩ := List.mem_iff_getElem?.1 ha
    have hl := (List.getElem?_eq_some_iff.1 hi).1
    rw [List.length_take] at hl
    rw [List.getElem?_take_of_lt (by omega)] at hi
    have := spotI_lt (n := n) (l := l) (i := i) (by omega) hi
    rcases List.mem_cons.1 hb with rfl | hb
    · exact this
    · obtain ⟨j, hj⟩ := List.mem_iff_getElem?.1 hb
      rw [List.getElem?_drop] at hj
      exact pair_le h hi hj (by omega)
/-- The lengths of the fit bales, in order. -/
def sortedTo (l : List Cot) (k : Nat) : List Int := (l.take k).foldl (fun s x => if fitB x then insI s x.len else s) []
theorem sortedTo_succ {l : List Cot} {k : Nat} {x : Cot} (h : l[k]? = some x) : sortedTo l (k + 1) = if fitB x then insI (sortedTo l k) x.len else sortedTo l k := by
  unfold sortedTo
  rw [List.take_add_one, h, List.foldl_append]
  rfl
theorem sorted_fold : ∀ (l : List Cot) (s : List Int), s.Pairwise (· ≤ ·) → (l.foldl (fun s x => if fitB x then insI s x.len else s) s).Pairwise (· ≤ ·) ∧ (l.foldl (fun s x => if fitB x then insI s x.len else s) s).Perm ((l.filter fitB).map (·.len) ++ s)
  | [], s, h => ⟨h, List.Perm.refl _⟩
  | x :: l, s, h => by
    rw [List.foldl_cons, List.filter_cons]
    by_cases hx : fitB x = true
    · rw [if_pos hx, if_pos hx]
      obtain ⟨h1, h2⟩ := sorted_fold l (insI s x.len) (insI_sorted h _)
      refine ⟨h1, h2.trans ?_⟩
      rw [List.map_cons, List.cons_append]
      exact ((insI_perm s x.len).append_left _).trans List.perm_middle
    · rw [if_neg hx, if_neg hx]
      exact sorted_fold l s h
def sortedL (m : Mll) : List Int := sortedTo m.cots m.cots.length
theorem sortedL_ok (m : Mll) : (sortedL m).Pairwise (· ≤ ·) ∧ (sortedL m).Perm (fitLens m) := by
  have := sorted_fold m.cots [] List.Pairwise.nil
  unfold sortedL sortedTo
  rw [List.take_length]
  simpa [fitLens] using this
theorem sortedTo_len : ∀ (l : List Cot) (k : Nat), k ≤ l.length → (sortedTo l k).length ≤ k
  | l, 0, _ => by simp [sortedTo]
  | l, k + 1, h => by
    obtain ⟨x, hx⟩ : ∃ x, l[k]? = some x := ⟨_, List.getElem?_eq_getElem (by omega)⟩
    have ih := sortedTo_len l k (by omega)
    rw [sortedTo_succ hx]
    split
    · rw [(insI_perm _ _).length_eq, List.length_cons]; omega
    · omega
/-- How many lots there can be. -/
def mostN (m : Mll) (L : Int) : Int := (gr L m.size.toNat (sortedL m) : Nat)
def mostE (m : Mll) (L : Int) : Int := if checkM m then (if L < 0 then 2 else 0) else 90
def mostV (m : Mll) (L : Int) : Int := if mostE m L = 0 then mostN m L else 0
end Go.Proofs.YtkpengeaolcjhaaGreatDoor
