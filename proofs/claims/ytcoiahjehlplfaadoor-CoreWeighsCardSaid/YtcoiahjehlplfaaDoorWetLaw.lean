/- The plain law of dampness: what the program tells by the lightest and the heaviest dry weight is what the reference finds by trying all. -/
import Derived.Test.YtcoiahjehlplfaaDoorCoreZ
namespace Go.Proofs.YtcoiahjehlplfaaDoor
open Go.RowKit Go.Shelf
set_option linter.unusedSimpArgs false

theorem weight_step {d : Int} (r : Int) (h0 : 0 ≤ d) (h1 : d ≤ 1000) : weight d r ≤ weight d (r + 1) ∧ weight d (r + 1) ≤ weight d r + 1 := by
  unfold weight
  rw [show d * (1000 + (r + 1)) = d * (1000 + r) + d by rw [← Int.add_assoc, Int.mul_add d (1000 + r) 1]; omega]
  generalize d * (1000 + r) = p
  omega
theorem weight_le_d {d d' : Int} (r : Int) (h : d ≤ d') (hr : 0 ≤ r) : weight d r ≤ weight d' r := by
  unfold weight
  have := Int.mul_le_mul_of_nonneg_right h (show 0 ≤ 1000 + r by omega)
  omega
theorem weight_mono {d : Int} (h0 : 0 ≤ d) (h1 : d ≤ 1000) (r : Int) (k : Nat) : weight d r ≤ weight d (r + k) := by
  induction k with
  | zero => simp
  | succ k ih =>
    have := (weight_step (d := d) (r + k) h0 h1).1
    rw [show r + ((k + 1 : Nat) : Int) = r + k + 1 by omega]
    omega
theorem weight_mono' {d : Int} (h0 : 0 ≤ d) (h1 : d ≤ 1000) {r r' : Int} (h : r ≤ r') : weight d r ≤ weight d r' := by
  have := weight_mono h0 h1 r (r' - r).toNat
  rwa [show r + ((r' - r).toNat : Int) = r' by omega] at this

/-- A weighing, and a dry weight that can weigh so. -/
structure Fit (d : Int) (x : Weigh) : Prop where
  d0 : 0 ≤ d
  d1 : d ≤ 1000
  r0 : 0 ≤ x.damp.lo
  r1 : x.damp.lo ≤ x.damp.hi
  c : could d x = true
theorem Fit.lo {d : Int} {x : Weigh} (h : Fit d x) : weight d x.damp.lo ≤ x.pounds ∧ x.pounds ≤ weight d x.damp.hi := by
  have := h.c
  unfold could inB at this
  simpa using this
theorem lo_ex (d : Int) (x : Weigh) : ∀ k : Nat, x.damp.lo + k ≤ x.damp.hi → (∃ lo, x.damp.lo ≤ lo ∧ lo ≤ x.damp.lo + k ∧ x.pounds ≤ weight d lo ∧ ∀ r, x.damp.lo ≤ r → r < lo → weight d r < x.pounds) ∨ ∀ r, x.damp.lo ≤ r → r ≤ x.damp.lo + k → weight d r < x.pounds := by
  intro k
  induction k with
  | zero =>
    intro hk
    by_cases hp : x.pounds ≤ weight d x.damp.lo
    · exact .inl ⟨x.damp.lo, by omega, by omega, hp, fun r h1 h2 => by omega⟩
    · refine .inr fun r h1 h2 => ?_
      have : r = x.damp.lo := by simp at h2; omega
      rw [this]; omega
  | succ k ih =>
    intro hk
    rcases ih (by omega) with ⟨lo, h1, h2, h3, h4⟩ | hall
    · exact .inl ⟨lo, h1, by omega, h3, h4⟩
    · by_cases hp : x.pounds ≤ weight d (x.damp.lo + (k + 1 : Nat))
      · exact .inl ⟨_, by omega, by omega, hp, fun r h1 h2 => hall r h1 (by omega)⟩
      · refine .inr fun r h1 h2 => ?_
        by_cases hr : r = x.damp.lo + (k + 1 : Nat)
        · rw [hr]; omega
        · exact hall r h1 (by omega)
theorem dLo_spec {d : Int} {x : Weigh} (h : Fit d x) : x.damp.lo ≤ dLo d x ∧ dLo d x ≤ x.damp.hi ∧ weight d (dLo d x) = x.pounds ∧ ∀ r, x.damp.lo ≤ r → r < dLo d x → weight d r < x.pounds := by
  have hlo := h.lo
  have hr := h.r1
  rcases lo_ex d x (x.damp.hi - x.damp.lo).toNat (by omega) with ⟨lo, h1, h2, h3, h4⟩ | hall
  · have e := dLo_of (d := d) h1 (show lo ≤ x.damp.hi by omega) h3 h4
    rw [e]
    refine ⟨h1, by omega, ?_, h4⟩
    by_cases hl : lo = x.damp.lo
    · rw [hl] at h3 ⊢; omega
    · have h5 := h4 (lo - 1) (by omega) (by omega)
      have h6 := (weight_step (d := d) (lo - 1) h.d0 h.d1).2
      rw [show lo - 1 + 1 = lo by omega] at h6
      omega
  · have := hall x.damp.hi hr (by omega)
    omega
theorem hi_ex (d : Int) (x : Weigh) : ∀ k : Nat, x.damp.lo ≤ x.damp.hi - k → (∃ hi, x.damp.hi - k ≤ hi ∧ hi ≤ x.damp.hi ∧ weight d hi ≤ x.pounds ∧ ∀ r, hi < r → r ≤ x.damp.hi → x.pounds < weight d r) ∨ ∀ r, x.damp.hi - k ≤ r → r ≤ x.damp.hi → x.pounds < weight d r := by
  intro k
  induction k with
  | zero =>
    intro hk
    by_cases hp : weight d x.damp.hi ≤ x.pounds
    · exact .inl ⟨x.damp.hi, by omega, by omega, hp, fun r h1 h2 => by omega⟩
    · refine .inr fun r h1 h2 => ?_
      have : r = x.damp.hi := by simp at h1; omega
      rw [this]; omega
  | succ k ih =>
    intro hk
    rcases ih (by omega) with ⟨hi, h1, h2, h3, h4⟩ | hall
    · exact .inl ⟨hi, by omega, h2, h3, h4⟩
    · by_cases hp : weight d (x.damp.hi - (k + 1 : Nat)) ≤ x.pounds
      · exact .inl ⟨_, by omega, by omega, hp, fun r h1 h2 => hall r (by omega) h2⟩
      · refine .inr fun r h1 h2 => ?_
        by_cases hr : r = x.damp.hi - (k + 1 : Nat)
        · rw [hr]; omega
        · exact hall r (by omega) h2
theorem dHi_spec {d : Int} {x : Weigh} (h : Fit d x) : x.damp.lo ≤ dHi d x ∧ dHi d x ≤ x.damp.hi ∧ weight d (dHi d x) = x.pounds ∧ ∀ r, dHi d x < r → r ≤ x.damp.hi → x.pounds < weight d r := by
  have hlo := h.lo
  have hr := h.r1
  rcases hi_ex d x (x.damp.hi - x.damp.lo).toNat (by omega) with ⟨hi, h1, h2, h3, h4⟩ | hall
  · have e := dHi_of (d := d) (show x.damp.lo ≤ hi by omega) h2 h3 h4
    rw [e]
    refine ⟨by omega, h2, ?_, h4⟩
    by_cases hl : hi = x.damp.hi
    · rw [hl] at h3 ⊢; omega
    · have h5 := h4 (hi + 1) (by omega) (by omega)
      have h6 := (weight_step (d := d) hi h.d0 h.d1).2
      omega
  · have := hall x.damp.lo (by omega) hr
    omega
/-- Trying all of the dampness: the least and the most that fit. -/
theorem hitsTo_full {d : Int} {x : Weigh} (h : Fit d x) (s : Span) : hitsTo d x s (x.damp.hi - x.damp.lo + 1).toNat = ⟨min s.lo (dLo d x), max s.hi (dHi d x)⟩ := by
  obtain ⟨l1, l2, l3, l4⟩ := dLo_spec h
  obtain ⟨g1, g2, g3, g4⟩ := dHi_spec h
  have hLH : dLo d x ≤ dHi d x := by
    rcases Int.lt_or_le (dHi d x) (dLo d x) with hl | hl
    · have := g4 _ hl l2; omega
    · exact hl
  have key : ∀ k : Nat, x.damp.lo + k ≤ x.damp.hi + 1 → hitsTo d x s k = ⟨if x.damp.lo + k ≤ dLo d x then s.lo else min s.lo (dLo d x), if x.damp.lo + k ≤ dLo d x then s.hi else max s.hi (min (x.damp.lo + k - 1) (dHi d x))⟩ := by
    intro k
    induction k with
    | zero => intro _; simp [hitsTo, l1]
    | succ k ih =>
      intro hk
      rw [hitsTo, ih (by omega), hitStep]
      by_cases hb : x.damp.lo + k < dLo d x
      · have hw := l4 (x.damp.lo + k) (by omega) hb
        rw [if_neg (by omega), if_pos (by omega), if_pos (by omega), if_pos (by omega), if_pos (by omega)]
      · by_cases ha : dHi d x < x.damp.lo + k
        · have hw : weight d (x.damp.lo + k) ≠ x.pounds := by
            have := g4 _ ha (by omega)
            omega
          rw [if_neg hw]
          simp only [Span.mk.injEq, Int.min_def, Int.max_def]
          refine ⟨?_, ?_⟩ <;> (repeat' split) <;> omega
        · have hw : weight d (x.damp.lo + k) = x.pounds := by
            have h5 := weight_mono' h.d0 h.d1 (show dLo d x ≤ x.damp.lo + k by omega)
            have h6 := weight_mono' h.d0 h.d1 (show x.damp.lo + k ≤ dHi d x by omega)
            omega
          rw [if_pos hw]
          simp only [Span.mk.injEq]
          refine ⟨?_, ?_⟩ <;> (repeat' split) <;> omega
  rw [key _ (by omega)]
  rw [if_neg (by omega), if_neg (by omega)]
  congr 1
  omega
theorem dLo_anti {d d' : Int} {x : Weigh} (h : Fit d x) (h' : Fit d' x) (hd : d ≤ d') : dLo d' x ≤ dLo d x := by
  obtain ⟨l1, l2, l3, l4⟩ := dLo_spec h
  obtain ⟨g1, g2, g3, g4⟩ := dLo_spec h'
  rcases Int.lt_or_le (dLo d x) (dLo d' x) with hl | hl
  · have h5 := g4 _ l1 hl
    have h6 := weight_le_d (dLo d x) hd (by have := h.r0; omega)
    omega
  · exact hl
theorem dHi_anti {d d' : Int} {x : Weigh} (h : Fit d x) (h' : Fit d' x) (hd : d ≤ d') : dHi d' x ≤ dHi d x := by
  obtain ⟨l1, l2, l3, l4⟩ := dHi_spec h
  obtain ⟨g1, g2, g3, g4⟩ := dHi_spec h'
  rcases Int.lt_or_le (dHi d x) (dHi d' x) with hl | hl
  · have h5 := l4 _ hl g2
    have h6 := weight_le_d (dHi d' x) hd (by have := h.r0; omega)
    omega
  · exact hl
theorem wetFold_gen {x : Weigh} : ∀ (l : List Int) (s : Span), (∀ d ∈ l, Fit d x) → l.Pairwise (· ≤ ·) → l ≠ [] →
    l.foldl (fun s d => hitsTo d x s (x.damp.hi - x.damp.lo + 1).toNat) s = ⟨min s.lo (dLo (dryOf l).hi x), max s.hi (dHi (dryOf l).lo x)⟩
  | [], _, _, _, h => absurd rfl h
  | [d], s, hf, _, _ => by
    rw [List.foldl_cons, List.foldl_nil, hitsTo_full (hf d (by simp))]
    rfl
  | d :: e :: l, s, hf, hp, _ => by
    have hp' := List.pairwise_cons.1 hp
    rw [List.foldl_cons, wetFold_gen (e :: l) _ (fun c hc => hf c (List.mem_cons_of_mem _ hc)) hp'.2 (by simp), hitsTo_full (hf d (by simp))]
    have e1 : (dryOf (d :: e :: l)).hi = (dryOf (e :: l)).hi := by simp [dryOf]
    have e2 : (dryOf (d :: e :: l)).lo = d := by simp [dryOf]
    have e3 : (dryOf (e :: l)).lo = e := by simp [dryOf]
    have hm : (dryOf (e :: l)).hi ∈ (e :: l) := by
      unfold dryOf
      have : (e :: l).length - 1 < (e :: l).length := by simp
      rw [List.getElem?_eq_getElem this]
      exact List.getElem_mem _
    have h1 := dLo_anti (hf d (by simp)) (hf _ (List.mem_cons_of_mem _ hm)) (hp'.1 _ hm)
    have h2 := dHi_anti (hf d (by simp)) (hf e (by simp)) (hp'.1 e (by simp))
    rw [e1, e2, e3]
    simp only [Span.mk.injEq]
    omega
theorem dries_sorted (b : Bale) : (dries b).Pairwise (· ≤ ·) := by
  unfold dries driesTo
  refine List.Pairwise.filter _ ?_
  rw [List.pairwise_map]
  exact List.pairwise_lt_range.imp fun h => by omega
theorem bds_fit {b : Bale} (hb : Bds b) {d : Int} {x : Weigh} (hd : d ∈ dries b) (hx : x ∈ b.weighs) : Fit d x := by
  have h1 := dries_bd hd
  have h2 := hb.w x hx
  exact ⟨by have := hb.lo; omega, by have := hb.hi; omega, by omega, by omega, dries_could hd hx⟩
theorem rwet_eq (b : Bale) (number : Int) : rwetB b number = wetB b number := by
  unfold rwetB wetB
  split
  · rename_i hz
    obtain ⟨h1, h2, h3⟩ := askE_zero hz (by decide)
    unfold wetOf
    cases hx : b.weighs[(wIdx b number).toNat]? with
    | none => rfl
    | some x =>
      have hb := valid_bds h1
      have hm := List.mem_of_getElem? hx
      have hpos := ok_pos h3
      have hne : dries b ≠ [] := by intro h; rw [h] at hpos; simp at hpos
      show wetFold x (dries b) = ⟨dLo (dryOf (dries b)).hi x, dHi (dryOf (dries b)).lo x⟩
      unfold wetFold
      rw [wetFold_gen (dries b) _ (fun d hd => bds_fit hb hd hm) (dries_sorted b) hne]
      have m1 : (dryOf (dries b)).hi ∈ dries b := by
        unfold dryOf
        rw [List.getElem?_eq_getElem (show (dries b).length - 1 < (dries b).length by omega)]
        exact List.getElem_mem _
      have m2 : (dryOf (dries b)).lo ∈ dries b := by
        unfold dryOf
        rw [List.getElem?_eq_getElem hpos]
        exact List.getElem_mem _
      have h5 := dLo_spec (bds_fit hb m1 hm)
      have h6 := dHi_spec (bds_fit hb m2 hm)
      simp only [Span.mk.injEq]
      omega
  · rfl
end Go.Proofs.YtcoiahjehlplfaaDoor
