/- The plain law of CoreTruth: what holds of each truth of a bale. -/
import Derived.Test.YtfhmfbhpehldpaaGreatDoorPkMoreOL
import Derived.Test.YtfhmfbhpehldpaaGreatDoorPkMoreOH
import Derived.Lib.SliceRun
import Derived.Test.YtfhmfbhpehldpaaGreatDoorPkMoreOJ
namespace Go.Proofs.YtfhmfbhpehldpaaGreatDoor
open Go.RowKit Go.Shelf Go.Lib
set_option maxRecDepth 100000
set_option linter.unusedSimpArgs false

theorem rise_lt : ∀ (l : List Int) (last : Int), risingB last l = true → l.Pairwise (· < ·) ∧ ∀ n ∈ l, last < n
  | [], _, _ => ⟨.nil, by simp⟩
  | n :: l, last, h => by
    unfold risingB inB at h
    simp only [Bool.and_eq_true, decide_eq_true_eq] at h
    obtain ⟨h1, h2⟩ := rise_lt l n h.2
    refine ⟨List.Pairwise.cons h2 h1, fun m hm => ?_⟩
    rcases List.mem_cons.1 hm with rfl | hm
    · omega
    · have := h2 m hm; omega
theorem rise_of : ∀ (l : List Int) (last : Int), l.Pairwise (· < ·) → (∀ n ∈ l, last < n ∧ n ≤ 9999) → risingB last l = true
  | [], _, _, _ => rfl
  | n :: l, last, h, hb => by
    rw [List.pairwise_cons] at h
    unfold risingB inB
    simp only [Bool.and_eq_true, decide_eq_true_eq]
    have h1 := hb n (by simp)
    exact ⟨by omega, rise_of l n h.2 fun m hm => ⟨h.1 m hm, (hb m (by simp [hm])).2⟩⟩
/-- The grade of a layer, by choices. -/
def pickN (s : Span) (c : List Int) (i : Nat) : Int := if c.length = 0 then s.lo else s.lo + (c[i % c.length]?).getD 0 % (s.hi - s.lo + 1)
def chosenL (b : Bale) (c : List Int) : List Int := (List.range b.layers.toNat).map fun (i : Nat) => pickN (spanAt b.draws (i : Int)) c i
theorem pick_in {s : Span} (h : s.lo ≤ s.hi) (c : List Int) (i : Nat) : s.lo ≤ pickN s c i ∧ pickN s c i ≤ s.hi := by
  unfold pickN
  split
  · omega
  · have h1 := Int.emod_nonneg ((c[i % c.length]?).getD 0) (show s.hi - s.lo + 1 ≠ 0 by omega)
    have h2 := Int.emod_lt_of_pos ((c[i % c.length]?).getD 0) (show 0 < s.hi - s.lo + 1 by omega)
    omega
theorem spans_get {b : Bale} {i : Nat} (h : i < b.layers.toNat) : (spans b)[i]? = some (spanAt b.draws (i : Int)) := by
  unfold spans spansTo
  rw [List.getElem?_map, List.getElem?_range h]
  rfl
theorem grown_at {b : Bale} (h : grown (spans b) = true) : ∀ x ∈ spans b, x.lo ≤ x.hi := by
  unfold grown at h
  rw [List.all_eq_true] at h
  intro x hx
  simpa [okS] using h x hx
theorem ok_grown {b : Bale} (h : okB b = true) : grown (spans b) = true := by
  unfold okB at h
  simp only [Bool.and_eq_true] at h
  exact h.1
theorem spans5 {b : Bale} (hv : valid b = true) : (spans b).length ≤ 5 ∧ 0 < (spans b).length ∧ (spans b).length = b.layers.toNat := by
  have hB := valid_bds hv
  have hl := spans_len b
  have := hB.l1; have := hB.l5
  omega
theorem truth_iff {b : Bale} (hv : valid b = true) (t : List Int) : t ∈ truthsB b ↔ t.length = b.layers.toNat ∧ ∀ (i : Nat) x, (spans b)[i]? = some x → ∃ n, (x.lo ≤ n ∧ n ≤ x.hi) ∧ t[i]? = some n := by
  unfold truthsB
  rw [truths_mem (spans5 hv).1, (spans5 hv).2.2]
theorem chosen_mem {b : Bale} (hv : valid b = true) (hg : grown (spans b) = true) (c : List Int) : chosenL b c ∈ truthsB b := by
  rw [truth_iff hv]
  refine ⟨by unfold chosenL; simp, fun i x hx => ?_⟩
  have hi : i < b.layers.toNat := by have := (List.getElem?_eq_some_iff.1 hx).1; rw [(spans5 hv).2.2] at this; exact this
  have hx2 := hx
  rw [spans_get hi] at hx
  injection hx with hx
  subst hx
  have hlh := grown_at hg _ (List.mem_of_getElem? hx2)
  exact ⟨_, pick_in hlh c i, by unfold chosenL; rw [List.getElem?_map, List.getElem?_range hi]; rfl⟩
theorem ask_ok {b : Bale} (hv : valid b = true) (ho : okB b = true) (e : Int) : askE b true e = 0 := by
  unfold askE; rw [hv, ho]; rfl
theorem layer_ok {b : Bale} (hv : valid b = true) (ho : okB b = true) {i : Nat} (hi : i < b.layers.toNat) : layerB b (inB 0 (b.layers - 1) (i : Int)) (i : Int) = spanAt b.draws (i : Int) ∧ inB 0 (b.layers - 1) (i : Int) = true := by
  have h1 : inB 0 (b.layers - 1) (i : Int) = true := by unfold inB; simp; omega
  rw [h1]
  refine ⟨?_, rfl⟩
  unfold layerB
  rw [ask_ok hv ho, if_pos rfl, Int.toNat_natCast, spans_get hi]
  rfl
theorem truth_layer {b : Bale} (hv : valid b = true) {t : List Int} (ht : t ∈ truthsB b) {i : Nat} (hi : i < b.layers.toNat) : ∃ n, t[i]? = some n ∧ (spanAt b.draws (i : Int)).lo ≤ n ∧ n ≤ (spanAt b.draws (i : Int)).hi := by
  obtain ⟨n, h1, h2⟩ := ((truth_iff hv t).1 ht).2 i _ (spans_get hi)
  exact ⟨n, h2, h1.1, h1.2⟩

/-! The kinds. -/
theorem kind_in {b : Bale} {t : List Int} (ht : t ∈ truthsB b) : (kindS b).has (kindL t) = true := by
  obtain ⟨h1, h2, h3, h4⟩ := kindsOf_iff (truthsB b)
  have hb := kindL_bd t
  have hk : kindL t = 1 ∨ kindL t = 2 ∨ kindL t = 3 ∨ kindL t = 4 := by omega
  unfold S4.has kindS
  rcases hk with e | e | e | e
  · have := h1.2 ⟨t, ht, e⟩; unfold truthsB at this; rw [e, this]; rfl
  · have := h2.2 ⟨t, ht, e⟩; unfold truthsB at this; rw [e, this]; simp
  · have := h3.2 ⟨t, ht, e⟩; unfold truthsB at this; rw [e, this]; simp
  · have := h4.2 ⟨t, ht, e⟩; unfold truthsB at this; rw [e, this]; simp
theorem has2_iff {b : Bale} : (kindS b).has 2 = true ↔ ∃ t ∈ truthsB b, kindL t = 2 := by
  have h2 := (kindsOf_iff (truthsB b)).2.1
  rw [← h2]
  unfold S4.has kindS truthsB
  simp
theorem kindB_ok {b : Bale} (hv : valid b = true) (ho : okB b = true) {k : Int} (h1 : 1 ≤ k) (h4 : k ≤ 4) : kindB b k = kindK (kindS b) k ∧ inB 1 4 k = true := by
  have h : inB 1 4 k = true := by unfold inB; simp; omega
  refine ⟨?_, h⟩
  unfold kindB
  rw [h, ask_ok hv ho, if_pos rfl]
/-- How many kinds are sure, and how many may be, of those up to n. -/
def sureN (s : S4) : Nat → Int
  | 0 => 0
  | n + 1 => sureN s n + (if kindK s ((n : Int) + 1) = 2 then 1 else 0)
def mayN (s : S4) : Nat → Int
  | 0 => 0
  | n + 1 => mayN s n + (if kindK s ((n : Int) + 1) = 0 then 0 else 1)
theorem kind_own {s : S4} {own k : Int} (h : s.has own = true) (h1 : 1 ≤ k) (h4 : k ≤ 4) : (k = own → kindK s k ≠ 0) ∧ (k ≠ own → kindK s k ≠ 2) := by
  have hb : own = 1 ∨ own = 2 ∨ own = 3 ∨ own = 4 := by
    unfold S4.has at h
    simp at h
    omega
  have hk : k = 1 ∨ k = 2 ∨ k = 3 ∨ k = 4 := by omega
  obtain ⟨a, b, c, d⟩ := s
  rcases hb with rfl | rfl | rfl | rfl <;> rcases hk with rfl | rfl | rfl | rfl <;> revert h <;> cases a <;> cases b <;> cases c <;> cases d <;> decide
theorem sure_may {s : S4} {own : Int} (h : s.has own = true) : mayN s 4 ≠ 0 ∧ (sureN s 4 = 1 ↔ mayN s 4 = 1) ∧ sureN s 4 ≤ 1 := by
  have hb : own = 1 ∨ own = 2 ∨ own = 3 ∨ own = 4 := by
    unfold S4.has at h
    simp at h
    omega
  obtain ⟨a, b, c, d⟩ := s
  rcases hb with rfl | rfl | rfl | rfl <;> revert h <;> cases a <;> cases b <;> cases c <;> cases d <;> decide
theorem sureN_bd (s : S4) : ∀ n, 0 ≤ sureN s n ∧ sureN s n ≤ n
  | 0 => by simp [sureN]
  | n + 1 => by have := sureN_bd s n; unfold sureN; split <;> omega
theorem mayN_bd (s : S4) : ∀ n, 0 ≤ mayN s n ∧ mayN s n ≤ n
  | 0 => by simp [mayN]
  | n + 1 => by have := mayN_bd s n; unfold mayN; split <;> omega
theorem kindK_bd (s : S4) (k : Int) : kindK s k = 0 ∨ kindK s k = 1 ∨ kindK s k = 2 := by
  unfold kindK; split
  · split <;> simp
  · simp

/-! The ends. -/
theorem ends_fold (f : Int → Int → Int) : ∀ (l : List Span) (s : Span), l.foldl (endStep f) s = ⟨(l.map (·.lo)).foldl f s.lo, (l.map (·.hi)).foldl f s.hi⟩
  | [], s => rfl
  | x :: l, s => by rw [List.foldl_cons, ends_fold f l]; rfl
theorem ends_min {l : List Span} (h0 : 0 < l.length) : endsOf min l = ⟨mins (l.map (·.lo)), mins (l.map (·.hi))⟩ := by
  unfold endsOf mins
  rw [ends_fold]
  simp [List.getElem?_eq_getElem h0]
theorem ends_max {l : List Span} (h0 : 0 < l.length) : endsOf max l = ⟨maxs (l.map (·.lo)), maxs (l.map (·.hi))⟩ := by
  unfold endsOf maxs
  rw [ends_fold]
  simp [List.getElem?_eq_getElem h0]
theorem mins_le {l : List Int} : ∀ y ∈ l, mins l ≤ y := (foldl_min_le l _).2
theorem maxs_ge {l : List Int} : ∀ y ∈ l, y ≤ maxs l := (foldl_max_ge l _).2
theorem ends_law {b : Bale} (hv : valid b = true) (ho : okB b = true) {t : List Int} (ht : t ∈ truthsB b) :
    ((endsB min b).lo ≤ t.foldl min 9 ∧ t.foldl min 9 ≤ (endsB min b).hi) ∧ ((endsB max b).lo ≤ t.foldl max 1 ∧ t.foldl max 1 ≤ (endsB max b).hi) ∧ (endsB min b).hi ≤ (endsB max b).hi ∧ (endsB min b).lo ≤ (endsB max b).lo := by
  obtain ⟨h5, h0, hl⟩ := spans5 hv
  have hgr := truths_gr hv t ht
  have ht0 : 0 < t.length := by have := hgr.1; omega
  have hM := (truth_iff hv t).1 ht
  unfold endsB
  rw [ask_ok hv ho, if_pos rfl, if_pos rfl, ends_min h0, ends_max h0]
  rw [max_eq ht0 (fun y hy => (hgr.2 y hy).1), min_eq ht0 (fun y hy => (hgr.2 y hy).2)]
  dsimp only
  have at_t : ∀ x ∈ t, ∃ s ∈ spans b, s.lo ≤ x ∧ x ≤ s.hi := fun x hx => by
    obtain ⟨i, hi, rfl⟩ := List.mem_iff_getElem.1 hx
    have hi2 : i < (spans b).length := by rw [hl]; have := hgr.1; omega
    obtain ⟨n, h1, h2⟩ := hM.2 i _ (List.getElem?_eq_getElem hi2)
    rw [List.getElem?_eq_getElem hi] at h2
    injection h2 with h2
    exact ⟨_, List.getElem_mem hi2, by rw [h2]; exact h1⟩
  have at_s : ∀ s ∈ spans b, ∃ x ∈ t, s.lo ≤ x ∧ x ≤ s.hi := fun s hs => by
    obtain ⟨i, hi, rfl⟩ := List.mem_iff_getElem.1 hs
    obtain ⟨n, h1, h2⟩ := hM.2 i _ (List.getElem?_eq_getElem hi)
    exact ⟨n, List.mem_of_getElem? h2, h1⟩
  have hmn := mins_mem ht0
  have hmx := maxs_mem ht0
  have hlo0 : 0 < ((spans b).map (·.lo)).length := by simpa using h0
  have hhi0 : 0 < ((spans b).map (·.hi)).length := by simpa using h0
  obtain ⟨a, ha, ha2⟩ := List.mem_map.1 (mins_mem hlo0)
  obtain ⟨c, hc, hc2⟩ := List.mem_map.1 (mins_mem hhi0)
  obtain ⟨d, hd, hd2⟩ := List.mem_map.1 (maxs_mem hlo0)
  obtain ⟨e, he, he2⟩ := List.mem_map.1 (maxs_mem hhi0)
  obtain ⟨s1, hs1, g1⟩ := at_t _ hmn
  obtain ⟨s2, hs2, g2⟩ := at_t _ hmx
  obtain ⟨x1, hx1, g3⟩ := at_s c hc
  obtain ⟨x2, hx2, g4⟩ := at_s d hd
  have k1 := mins_le _ (List.mem_map_of_mem (f := (·.lo)) hs1)
  have k2 := mins_le _ hx1
  have k3 := maxs_ge _ hx2
  have k4 := maxs_ge _ (List.mem_map_of_mem (f := (·.hi)) hs2)
  have k5 := maxs_ge _ (List.mem_map_of_mem (f := (·.hi)) hc)
  have k6 := maxs_ge _ (List.mem_map_of_mem (f := (·.lo)) ha)
  exact ⟨⟨by omega, by omega⟩, ⟨by omega, by omega⟩, by omega, by omega⟩

/-! The cuts. -/
theorem kind2_iff (t : List Int) : kindL t = 2 ↔ 0 < (cutsL t).length := by
  unfold kindL
  by_cases ha : alikeL t = true
  · rw [if_pos ha]
    unfold cutsL
    rw [if_pos ha]
    simp
  · rw [if_neg ha]
    split
    · simp_all
    · split <;> simp_all
theorem cut_hi {b : Bale} : (cutS b).hi ≠ 0 ↔ ∃ t ∈ truthsB b, kindL t = 2 := by
  unfold cutS
  rw [cutFold_flat]
  obtain ⟨h1, h2, h3, h4, h5⟩ := cutStep_fold ((truthsB b).flatMap cutsL) ⟨b.layers, 0⟩
  have hpos : ∀ k ∈ (truthsB b).flatMap cutsL, 1 ≤ k := fun k hk => by
    obtain ⟨t, _, h⟩ := List.mem_flatMap.1 hk
    obtain ⟨j, hj, _, e⟩ := cutsL_bd h
    omega
  constructor
  · intro h
    rcases h5 with e | e
    · exact absurd e h
    · obtain ⟨t, ht, h⟩ := List.mem_flatMap.1 e
      exact ⟨t, ht, (kind2_iff t).2 (List.length_pos_of_mem h)⟩
  · rintro ⟨t, ht, h⟩
    rw [kind2_iff] at h
    obtain ⟨k, hk⟩ := List.exists_mem_of_length_pos h
    have hm := List.mem_flatMap.2 ⟨t, ht, hk⟩
    have := h3 k hm
    have := hpos k hm
    omega
theorem cutE_ok {b : Bale} (hv : valid b = true) (ho : okB b = true) : (cutE b = 0 ∨ cutE b = 6) ∧ (cutE b = 0 ↔ kindK (kindS b) 2 ≠ 0) := by
  have h : kindK (kindS b) 2 ≠ 0 ↔ (cutS b).hi ≠ 0 := by
    rw [cut_hi, ← has2_iff]
    unfold kindK
    cases hh : (kindS b).has 2
    · simp
    · simp only [if_true]
      split <;> simp
  unfold cutE
  rw [ask_ok hv ho, if_pos rfl, h]
  split <;> simp_all
theorem cut_in {b : Bale} (hv : valid b = true) (ho : okB b = true) {t : List Int} (ht : t ∈ truthsB b) {k : Nat} (h1 : 1 ≤ k) (hk : k < t.length) (ha : alikeL t = false) (hl : alikeL (t.take k) = true) (hr : alikeL (t.drop k) = true) :
    (cutB b).lo ≤ k ∧ k ≤ (cutB b).hi := by
  have hm : (k : Int) ∈ cutsL t := by
    unfold cutsL
    rw [ha]
    refine (cutsTo_mem t.length).2 ⟨k, hk, ?_, rfl⟩
    unfold cutAt
    rw [hl, hr]
    simpa using h1
  have hin := List.mem_flatMap.2 ⟨t, ht, hm⟩
  have hh : (cutS b).hi ≠ 0 := cut_hi.2 ⟨t, ht, (kind2_iff t).2 (List.length_pos_of_mem hm)⟩
  unfold cutB
  rw [ask_ok hv ho, if_pos rfl, if_neg hh]
  unfold cutS
  rw [cutFold_flat]
  exact (cutStep_fold ((truthsB b).flatMap cutsL) ⟨b.layers, 0⟩).2.2.1 _ hin
theorem kind1_iff {t : List Int} : kindL t = 1 ↔ alikeL t = true := by
  unfold kindL
  by_cases ha : alikeL t = true
  · rw [if_pos ha]; simp [ha]
  · rw [if_neg ha]
    constructor
    · intro h
      split at h
      · cases h
      · split at h <;> cases h
    · intro h; exact absurd h ha
end Go.Proofs.YtfhmfbhpehldpaaGreatDoor
/- The plain law of bales with one draw of each layer. -/
namespace Go.Proofs.YtfhmfbhpehldpaaGreatDoor
open Go.RowKit Go.Shelf Go.Lib
set_option maxRecDepth 100000
set_option linter.unusedSimpArgs false

/-- One draw of each layer, that shows a span. -/
def layD (f : Nat → Span) (n : Nat) : List Draw := (List.range n).map fun (j : Nat) => ⟨(j : Int) + 1, (j : Int), f j⟩
def layB (b : Bale) (f : Nat → Span) : Bale := ⟨b.id, b.layers, b.dry, layD f b.layers.toNat, b.weighs⟩
theorem layD_succ (f : Nat → Span) (n : Nat) : layD f (n + 1) = layD f n ++ [⟨(n : Int) + 1, (n : Int), f n⟩] := by
  unfold layD; rw [List.range_succ, List.map_append]; rfl
theorem layD_len (f : Nat → Span) (n : Nat) : (layD f n).length = n := by unfold layD; simp
theorem layD_at {f : Nat → Span} {n i : Nat} (h : i < n) : (layD f n)[i]? = some ⟨(i : Int) + 1, (i : Int), f i⟩ := by
  unfold layD; rw [List.getElem?_map, List.getElem?_range h]; rfl
theorem span_lay (f : Nat → Span) (i : Nat) : ∀ k : Nat, (layD f k).foldl (spanStep (i : Int)) ⟨1, 9⟩ = if i < k then ⟨max 1 (f i).lo, min 9 (f i).hi⟩ else ⟨1, 9⟩
  | 0 => rfl
  | k + 1 => by
    rw [layD_succ, List.foldl_append, span_lay f i k, List.foldl_cons, List.foldl_nil]
    unfold spanStep
    dsimp only
    by_cases h : i < k
    · rw [if_pos h, if_neg (by omega), if_pos (by omega)]
    · rw [if_neg h]
      by_cases e : i = k
      · subst e; simp
      · rw [if_neg (by omega), if_neg (by omega)]
/-- Spans that grades can have. -/
def FitS (f : Nat → Span) (n : Nat) : Prop := ∀ i, i < n → 1 ≤ (f i).lo ∧ (f i).lo ≤ (f i).hi ∧ (f i).hi ≤ 9
theorem lay_at {b : Bale} {f : Nat → Span} (hf : FitS f b.layers.toNat) {i : Nat} (hi : i < b.layers.toNat) : spanAt (layB b f).draws (i : Int) = f i := by
  unfold spanAt layB
  dsimp only
  rw [span_lay, if_pos hi]
  have := hf i hi
  rw [show max 1 (f i).lo = (f i).lo by omega, show min 9 (f i).hi = (f i).hi by omega]
theorem lay_spans {b : Bale} {f : Nat → Span} (hf : FitS f b.layers.toNat) : spans (layB b f) = (List.range b.layers.toNat).map f := by
  unfold spans spansTo
  refine List.map_congr_left fun i hi => ?_
  exact lay_at hf (List.mem_range.1 hi)
theorem lay_dries (b : Bale) (f : Nat → Span) : dries (layB b f) = dries b := rfl
theorem lay_valid {b : Bale} {f : Nat → Span} (h1 : chk1 b = true) (hw : b.weighs.length ≤ 8 ∧ risingB 0 (b.weighs.map (·.number)) = true ∧ b.weighs.any badW = false) (hf : FitS f b.layers.toNat) : valid (layB b f) = true := by
  have hl := chk1_layers h1
  unfold valid
  simp only [Bool.and_eq_true]
  refine ⟨h1, ?_, ?_, ?_⟩
  · unfold chk2
    simp only [Bool.and_eq_true, decide_eq_true_eq]
    refine ⟨⟨⟨?_, ?_⟩, ?_⟩, hw.2.1⟩
    · show ((layD f b.layers.toNat).length : Int) ≤ 10
      rw [layD_len]; omega
    · have := hw.1
      show (b.weighs.length : Int) ≤ 8
      omega
    · refine rise_of _ _ ?_ ?_
      · show ((layD f b.layers.toNat).map (·.number)).Pairwise (· < ·)
        unfold layD
        rw [List.map_map, List.pairwise_map]
        exact List.pairwise_lt_range.imp fun h => by simp; omega
      · intro n hn
        obtain ⟨x, hx, rfl⟩ := List.mem_map.1 hn
        obtain ⟨j, hj, rfl⟩ := List.mem_map.1 (show x ∈ layD f b.layers.toNat from hx)
        rw [List.mem_range] at hj
        dsimp only
        omega
  · simp only [Bool.not_eq_true', List.any_eq_false]
    intro x hx
    obtain ⟨j, hj, rfl⟩ := List.mem_map.1 (show x ∈ layD f b.layers.toNat from hx)
    rw [List.mem_range] at hj
    have := hf j hj
    have e1 : inB 0 ((layB b f).layers - 1) (j : Int) = true := by unfold inB layB; simp; omega
    have e2 : rightB (f j).lo (f j).hi 1 9 = true := by unfold rightB inB; simp; omega
    unfold badD
    dsimp only
    rw [e1, e2]
    decide
  · rw [show (layB b f).weighs = b.weighs from rfl, hw.2.2]; rfl
theorem weighs_ok {b : Bale} (hv : valid b = true) : chk1 b = true ∧ b.weighs.length ≤ 8 ∧ risingB 0 (b.weighs.map (·.number)) = true ∧ b.weighs.any badW = false := by
  have hB := valid_bds hv
  have h := hv
  unfold valid chk2 at h
  simp only [Bool.and_eq_true, Bool.not_eq_true'] at h
  exact ⟨h.1, hB.nw, h.2.1.2, h.2.2.2⟩
theorem lay_ok {b : Bale} {f : Nat → Span} (hd : 0 < (dries b).length) (hf : FitS f b.layers.toNat) : okB (layB b f) = true := by
  unfold okB grown
  simp only [Bool.and_eq_true, List.all_eq_true]
  refine ⟨fun x hx => ?_, ?_⟩
  · rw [lay_spans hf] at hx
    obtain ⟨i, hi, rfl⟩ := List.mem_map.1 hx
    have := hf i (List.mem_range.1 hi)
    simp [okS]; omega
  · rw [lay_dries]
    cases h : dries b with
    | nil => rw [h] at hd; cases hd
    | cons => rfl

/-! All layers are shown. -/
theorem truthsG_ones : ∀ g : List Int, truthsG (g.map fun n => [n]) = [g]
  | [] => rfl
  | n :: g => by
    rw [List.map_cons]
    unfold truthsG
    rw [truthsG_ones g]
    rfl
theorem zip_pins : ∀ (g z : List Int), g.length ≤ z.length → (∀ x ∈ z, x = 0) → ((g.map fun n => (⟨n, n⟩ : Span)).zip z).map (fun y => gradesOf y.1 y.2) = g.map fun n => [n]
  | [], _, _, _ => rfl
  | n :: g, [], h, _ => by simp at h
  | n :: g, x :: z, h, hz => by
    have hx := hz x (by simp)
    subst hx
    rw [List.map_cons, List.zip_cons_cons, List.map_cons, grades_pin, zip_pins g z (by simpa using h) fun y hy => hz y (by simp [hy])]
    rfl
theorem truths_pins {g : List Int} (h : g.length ≤ 5) : truthsL ((g.map fun n => (⟨n, n⟩ : Span)).zip [0, 0, 0, 0, 0]) = [g] := by
  rw [truthsL_G, zip_pins g _ (by simpa using h) (by simp), truthsG_ones]
end Go.Proofs.YtfhmfbhpehldpaaGreatDoor
/- core's lists: the lists of some numbers, shorter ones first; slices.Clone. -/
namespace Go.Proofs.YtfhmfbhpehldpaaGreatDoor
open Go.RowKit Go.Shelf Go.Lib
set_option maxRecDepth 100000
set_option linter.unusedSimpArgs false

/-- A slice in new memory, without room if it is empty. -/
def NewI (base : Nat) (l : List Int) (v : Value) (W : World) : Prop := Own encI 3 1 W base v l ∧ ∃ A c, v = .slice A l.length c ∧ (l.length = 0 → c = 0)
theorem NewI.mono {base base' : Nat} {l : List Int} {v : Value} {W : World} (h : NewI base l v W) (hb : base' ≤ base) : NewI base' l v W := ⟨h.1.mono hb, h.2⟩
theorem NewI.ext {base : Nat} {l : List Int} {v : Value} {W W' : World} (h : NewI base l v W) (e : Ext W W') : NewI base l v W' := ⟨h.1.ext e, h.2⟩
theorem own_form {W : World} {base : Nat} {v : Value} {l : List Int} (h : Own encI 3 1 W base v l) : (v = .slice none 0 0 ∧ l = []) ∨ ∃ g cap cur, v = .slice (some ⟨g, 0, none⟩) l.length cap ∧ base ≤ g ∧ W.heap[g]? = some (.cells cur 3 (0, 0)) ∧ l.length ≤ cap ∧ cap ≤ maxLen ∧ cur.size = cap ∧ cur.toList.take l.length = l.flatMap encI := by
  rcases h.2 with ⟨h1, h2⟩ | ⟨g, cap, cur, h1, h2, h3, h4, h5, h6, h7⟩
  · exact .inl ⟨h1, List.eq_nil_of_length_eq_zero h2⟩
  · exact .inr ⟨g, cap, cur, h1, h2, h3, h4, h5, by omega, by rw [Nat.mul_one] at h7; exact h7⟩
theorem run_copyI {W : World} {base g : Nat} (hB : Blk W g 3 #[]) (hg : base ≤ g) (hW : base ≤ W.heap.size) {x : Value} {l : List Int} (hx : SlI W x l) (hl : l.length ≤ 1000) (ty : TypeId) :
    ∃ v' W', (Builtin.append_ #[55, 55] ty #[.slice (some ⟨g, 0, none⟩) 0 0, x]).run Tryz.prog W = .ok v' W' ∧ NewI base l v' W' ∧ Ext W W' := by
  by_cases h0 : l.length = 0
  · have : l = [] := List.eq_nil_of_length_eq_zero h0
    subst this
    obtain ⟨i0, hi, hz0, hz1, hz2⟩ := info_parts info3x
    obtain ⟨A, c, rfl, _, _, _⟩ := hx
    refine ⟨_, _, run_append_nothing W 55 55 ty 3 i0 Tryz.underlying55 hi _ 0 0 (Nat.le_refl _) _ ?_, ⟨Own.new hB hg, _, _, rfl, fun _ => rfl⟩, Ext.refl _⟩
    exact ⟨.inl ⟨3, Tryz.underlying55⟩, fun _ => by simp [Builtin.lenOf], by cases A <;> simp [Builtin.firstCells, loadCells, loadCellsFrom], by cases A <;> simp [Builtin.firstCells, loadCells, loadCellsFrom], by simp, by simp⟩
  · obtain ⟨v', W', hr, h1, h2⟩ := run_copy (t := 55) (ty := ty) (enc := encI) (sz := 1) Tryz.underlying55 info3x rfl (by decide) (by decide) (fun _ => rfl) hB hg hW hx hl
    obtain ⟨A, n, c, hv, hn, _, _⟩ := (Own.sl (enc := encI) (fun _ => rfl) h1 : SlI W' v' l).form
    exact ⟨v', W', hr, ⟨h1, A, c, by rw [hv, hn], fun h => absurd h h0⟩, h2⟩
theorem wpList_copyI {ops : Array Oper} {rest : List Oper} {o : Oper} {a : Act} {Q : Exit → Act → World → Prop} {W : World} (hgd : o.guard = none) (s x : Operand)
    (ho : o.op = .call { callee := .builtin .append, args := #[s, x], argTypes := #[55, 55] }) {base g : Nat} (hs : a.eval s = .slice (some ⟨g, 0, none⟩) 0 0) {v : Value} (hx : a.eval x = v)
    (hB : Blk W g 3 #[]) (hg : base ≤ g) (hW : base ≤ W.heap.size) {l : List Int} (hl : SlI W v l) (hlen : l.length ≤ 1000)
    (h : ∀ v' W', NewI base l v' W' → Ext W W' → wpList Tryz.prog ops Q rest (a.put o.dst v') W') : wpList Tryz.prog ops Q (o :: rest) a W := by
  obtain ⟨v', W', hr, h1, h2⟩ := run_copyI hB hg hW hl hlen o.type
  refine wpList_plain hgd fun K hK => ?_
  unfold Oper.wp execOp
  simp only [ho, resolve, invoke, builtin, Sem.run_bind, Sem.run_pure, Result.andThen_ok, List.map_toArray, List.map_cons, List.map_nil, hs, hx, hr]
  exact hK _ _ (h v' W' h1 h2)

@[go_sem] theorem eql55nil (w : World) (a : Option Addr) (n c : Nat) : (binOp .eql 55 (.slice a n c) (.slice none 0 0)).run Tryz.prog w = .ok (.bool a.isNone) w := Lib.run_eql_slice_nil w 55 3 a n c 0 0 Tryz.underlying55
theorem cloneI_any (v : Value) (l : List Int) (w : World) (hs : SlI w v l) (hlen : l.length ≤ 1000) :
    Calls Tryz.prog 87 #[v] w fun e w' => ∃ v', e = .returned v' ∧ NewI w.heap.size l v' w' ∧ Ext w w' := by
  have HS := Lib.hid hs
  have HL := Lib.hid hlen
  obtain ⟨A, n, c, rfl, hn, hlc, hcm⟩ := hs.form
  have HN := Lib.hid (show A.isNone = true → l = [] ∧ n = 0 from fun h => by
    obtain ⟨A', c', hv, _, _, hx⟩ := hs
    injection hv with e1 e2 e3
    subst e1 e3
    have hl0 : l = [] := by
      by_cases h0 : 0 < l.length
      · obtain ⟨_, _, h1, _⟩ := hx h0; rw [h1] at h; cases h
      · exact List.eq_nil_of_length_eq_zero (by omega)
    exact ⟨hl0, by rw [e2, hl0]; rfl⟩)
  clear hs hlen hn hlc hcm
  cases hN : A.isNone with
  | true =>
    obtain ⟨rfl, rfl⟩ := HN.out hN
    clear HS HL HN
    go_enter Tryz.func87, Tryz.ntmps87
    go_wp2
    go_ret
    exact ⟨_, rfl, ⟨Own.nil _ _, _, _, rfl, fun _ => rfl⟩, Ext.refl _⟩
  | false =>
    clear HN
    go_enter Tryz.func87, Tryz.ntmps87
    go_wp2_with (at_builtin; refine wpList_copyI rfl (.tmp 5) (.tmp 6) rfl (base := w.heap.size) (g := w.heap.size) rfl rfl (Blk.new _ _ _) (Nat.le_refl _) (by simp) (HS.out.ext (Ext.al _ _)) HL.out ?_)
    intro v1 w1 hown hext
    have HE := Lib.hid (show Ext w w1 from (Ext.al _ _).trans hext)
    go_wp2
    go_ret
    exact ⟨_, rfl, hown, HE.out⟩

/-- A slice of one fresh number, in a block of one cell. -/
def OneB (y : Int) (v : Value) (W : World) : Prop := ∃ b, v = .slice (some ⟨b, 0, none⟩) 1 1 ∧ Blk W b 3 #[.int .i64 y]
/-- What an append onto a clone keeps. -/
def RC (base : Nat) (l : List Int) (y : Int) (W W' : World) : Prop :=
  W.heap.size ≤ W'.heap.size ∧ (∀ v, Own encI 3 1 W base v l → Own encI 3 1 W' base v l) ∧ (∀ z, l ++ [y] <+: z → ∀ v, Own encI 3 1 W base v z → Own encI 3 1 W' base v z) ∧ (∀ b, Blk W b 3 #[.int .i64 y] → Blk W' b 3 #[.int .i64 y]) ∧ ∀ b, Blk W b 3 #[] → Blk W' b 3 #[]
theorem RC.refl {base : Nat} {l : List Int} {y : Int} (W : World) : RC base l y W W := ⟨Nat.le_refl _, fun _ h => h, fun _ _ _ h => h, fun _ h => h, fun _ h => h⟩
theorem RC.ext {base : Nat} {l : List Int} {y : Int} {W W' : World} (e : Ext W W') : RC base l y W W' := ⟨e.size, fun _ h => h.ext e, fun _ _ _ h => h.ext e, fun _ h => h.ext e, fun _ h => h.ext e⟩
theorem run_appc {W : World} {base : Nat} {v : Value} {l : List Int} {b c : Nat} {y : Int} (hv : NewI base l v W) (hb : base ≤ W.heap.size) (hl : l.length ≤ 1000) (hy : Blk W b 3 #[.int .i64 y]) (ty : TypeId) :
    ∃ v' W', (Builtin.append_ #[55, 55] ty #[v, .slice (some ⟨b, 0, none⟩) 1 c]).run Tryz.prog W = .ok v' W' ∧ Own encI 3 1 W' base v' (l ++ [y]) ∧ RC base l y W W' ∧ Below base W W' := by
  obtain ⟨i0, hi, hz0, hz1, hz2⟩ := info_parts info3x
  obtain ⟨hown, A, c0, hv0, hc0⟩ := hv
  have hnews : ∀ j u, (encI y)[j]? = some u → W.cell? ((⟨b, 0, none⟩ : Addr).add j) = some u := by
    intro j u hj
    cases j with
    | zero => simp at hj; subst hj; have := hy.cell 0; simpa [Addr.add] using this
    | succ j => simp at hj
  obtain ⟨v', W', hr, h1, h2, _⟩ := run_append_own (P := Tryz.prog) W base 55 ty 3 i0 (.int .i64 0) 1 8 Tryz.underlying55 hi hz0 hz1 hz2 rfl (by decide) v l.length (l.flatMap encI) hown ⟨b, 0, none⟩ 1 c (encI y) rfl hnews (by simp [Value.oneCell']) (by unfold maxLen; omega) (by omega) hb
  have h1' : Own encI 3 1 W' base v' (l ++ [y]) := by unfold Own; rw [List.length_append, List.flatMap_append]; simpa using h1
  refine ⟨v', W', hr, h1', ?_, (Below.refl base W).grown h2 hb (fun k hk => (World.ownsRow.lt hown k hk).1)⟩
  rcases own_form hown with ⟨rfl, rfl⟩ | ⟨g, cap, cur, rfl, hg, hgg, hlc, hcm, hcs, htake⟩
  · have hE : Ext W W' := ⟨h2.os, h2.tape, h2.output, h2.size, fun i hi => h2.block i hi (by simp [Value.ownBlock])⟩
    exact RC.ext hE
  · by_cases hroom : l.length + 1 ≤ cap
    · have hl0 : l.length ≠ 0 := fun h => by
        injection hv0 with _ _ e3
        have := hc0 h
        omega
      have hfit : l.length * i0.size + (encI y).length ≤ cur.size := by rw [hz1, hcs]; simp; omega
      have hr2 := run_append_room (P := Tryz.prog) W 55 ty 3 i0 Tryz.underlying55 hi g l.length cap cur hgg ⟨b, 0, none⟩ 1 c (encI y) (by rw [hz1]; rfl) hnews (by simp [Value.oneCell']) hroom hfit
      rw [hr] at hr2
      injection hr2 with hv' hW'
      rw [hz1, Nat.mul_one, htake] at hW'
      have hfl : (l.flatMap encI).length = l.length := by rw [enc_len (enc := encI) (sz := 1) (fun _ => rfl), Nat.mul_one]
      have hgW : W'.heap[g]? = some (.cells (l.flatMap encI ++ encI y ++ cur.toList.drop (l.length + 1)).toArray 3 (0, 0)) := by
        rw [hW']; exact setRow_heap W g cur _ 3 _ hgg
      have hsz' : (l.flatMap encI ++ encI y ++ cur.toList.drop (l.length + 1)).toArray.size = cap := by
        simp only [List.size_toArray, List.length_append, hfl, List.length_drop, Array.length_toList, hcs]
        simp; omega
      have hoth : ∀ k, k ≠ g → W'.heap[k]? = W.heap[k]? := fun k hk => by rw [hW']; exact setRow_other W g k _ hk
      refine ⟨h2.size, fun v2 ho => ?_, fun z hz v2 ho => ?_, fun b2 hB => ?_, fun b2 hB => ?_⟩
      · rcases own_form ho with ⟨rfl, hn⟩ | ⟨g2, cap2, cur2, rfl, hg2, hgg2, hlc2, hcm2, hcs2, ht2⟩
        · exact absurd (by rw [hn]; rfl) hl0
        · refine ⟨by rw [enc_len (enc := encI) (sz := 1) (fun _ => rfl)], .inr ?_⟩
          by_cases he : g2 = g
          · subst he
            rw [hgg] at hgg2
            injection hgg2 with hgg2
            injection hgg2 with e1 _ _
            subst e1
            refine ⟨g2, cap2, _, rfl, hg2, hgW, hlc2, hcm2, by rw [hsz']; omega, ?_⟩
            rw [Nat.mul_one, List.append_assoc]
            have : (l.flatMap encI ++ (encI y ++ cur.toList.drop (l.length + 1))).toArray.toList.take l.length = l.flatMap encI := by
              show List.take _ (l.flatMap encI ++ (encI y ++ cur.toList.drop (l.length + 1))) = _
              rw [List.take_append_of_le_length (by omega), List.take_of_length_le (by omega)]
            exact this
          · exact ⟨g2, cap2, cur2, rfl, hg2, (hoth g2 he).trans hgg2, hlc2, hcm2, by omega, by rw [Nat.mul_one]; exact ht2⟩
      · have hzl : l.length + 1 ≤ z.length := by have := hz.length_le; simpa using this
        rcases own_form ho with ⟨rfl, hn⟩ | ⟨g2, cap2, cur2, rfl, hg2, hgg2, hlc2, hcm2, hcs2, ht2⟩
        · rw [hn] at hzl; simp at hzl
        · refine ⟨by rw [enc_len (enc := encI) (sz := 1) (fun _ => rfl)], .inr ?_⟩
          by_cases he : g2 = g
          · subst he
            rw [hgg] at hgg2
            injection hgg2 with hgg2
            injection hgg2 with e1 _ _
            subst e1
            refine ⟨g2, cap2, _, rfl, hg2, hgW, hlc2, hcm2, by rw [hsz']; omega, ?_⟩
            rw [Nat.mul_one]
            obtain ⟨z2, rfl⟩ := hz
            have hd : cur.toList.drop (l.length + 1) = (cur.toList.drop (l.length + 1)) := rfl
            have h3 : ((l ++ [y]) ++ z2).flatMap encI = l.flatMap encI ++ encI y ++ z2.flatMap encI := by simp [List.flatMap_append]
            have h4 : cur.toList.take ((l ++ [y]) ++ z2).length = l.flatMap encI ++ encI y ++ z2.flatMap encI := ht2.trans h3
            have h5 : (cur.toList.drop (l.length + 1)).take z2.length = z2.flatMap encI := by
              have h6 : (cur.toList.take ((l ++ [y]) ++ z2).length).drop (l.length + 1) = z2.flatMap encI := by
                rw [h4]
                exact List.drop_left' (by simp [hfl])
              rw [← h6, List.drop_take]
              congr 1
              simp; omega
            show List.take _ (l.flatMap encI ++ encI y ++ cur.toList.drop (l.length + 1)) = _
            rw [h3, List.take_append, List.take_of_length_le (by simp [hfl])]
            congr 1
            rw [← h5]
            congr 1
            simp [hfl]; omega
          · exact ⟨g2, cap2, cur2, rfl, hg2, (hoth g2 he).trans hgg2, hlc2, hcm2, by omega, by rw [Nat.mul_one]; exact ht2⟩
      · have hne : b2 ≠ g := by
          intro e
          subst e
          unfold Blk at hB
          rw [hgg] at hB
          injection hB with hB
          injection hB with e1 _ _
          rw [e1] at hcs
          simp at hcs
          omega
        exact (hoth b2 hne).trans hB
      · have hne : b2 ≠ g := by
          intro e
          subst e
          unfold Blk at hB
          rw [hgg] at hB
          injection hB with hB
          injection hB with e1 _ _
          rw [e1] at hcs
          simp at hcs
          omega
        exact (hoth b2 hne).trans hB
    · have holds : ∀ j u, (l.flatMap encI)[j]? = some u → W.cell? ((⟨g, 0, none⟩ : Addr).add j) = some u := World.ownsRow.cells hown (g := g) rfl
      have hr2 := run_append_grow (P := Tryz.prog) W 55 ty 3 i0 (.int .i64 0) Tryz.underlying55 hi hz0 ⟨g, 0, none⟩ l.length cap (l.flatMap encI) (by rw [hz1]; exact enc_len (enc := encI) (sz := 1) (fun _ => rfl) l) holds ⟨b, 0, none⟩ 1 c (encI y) (by rw [hz1]; rfl) hnews (by omega) (by omega) (growslice_fits (by omega) (by rw [hz2]; omega))
      rw [hr] at hr2
      injection hr2 with hv' hW'
      subst hW'
      exact RC.ext ((Ext.refl W).drew.alloc _)

/-- What choose's call reads: the boxes of the yield, of all numbers, of choose. -/
structure LM (fid : FuncId) (l by' ba bl ca : Nat) (A : Option Addr) (all : List Int) (W : World) : Prop where
  a : W.cell? ⟨ba, 0, none⟩ = some (.slice A all.length ca)
  s : ∀ i x, all[i]? = some x → ∃ bb off, A = some ⟨bb, off, none⟩ ∧ W.cell? ⟨bb, off + i, none⟩ = some (.int .i64 x)
  y : W.cell? ⟨by', 0, none⟩ = some (.func (.yield l) #[] #[])
  f : W.cell? ⟨bl, 0, none⟩ = some (.func (.func fid) #[] #[.pointer (some ⟨by', 0, none⟩), .pointer (some ⟨ba, 0, none⟩), .pointer (some ⟨bl, 0, none⟩)])
theorem LM.keep {fid : FuncId} {l by' ba bl ca n₀ : Nat} {X : Nat → Prop} {A : Option Addr} {all : List Int} {V W : World} (h : LM fid l by' ba bl ca A all V) (k : Keep n₀ X V W) (x1 : ¬ X by') (x2 : ¬ X ba) (x3 : ¬ X bl) (x4 : ∀ b o, A = some ⟨b, o, none⟩ → ¬ X b) : LM fid l by' ba bl ca A all W :=
  ⟨k.cell x2 h.a, fun i x hx => by obtain ⟨bb, off, e, hc⟩ := h.s i x hx; exact ⟨bb, off, e, k.cell (x4 _ _ e) hc⟩, k.cell x1 h.y, k.cell x3 h.f⟩

/-- Whoever wants no more numbers yields them. -/
theorem choose_leaf {fid : FuncId} {l by' ba bl ca n₀ : Nat} {X : Nat → Prop} {A : Option Addr} {all : List Int} {J Jx : List (List Int) → World → Prop} {tot : List (List Int)}
    (hY : ∀ m pre x v W1, J pre W1 → SlI W1 v x → pre ++ [x] <+: tot → YieldAt Fence.wide m Tryz.prog l #[v] W1 fun e W' => (e = .returned (.bool true) ∧ J (pre ++ [x]) W' ∧ Keep n₀ X W1 W') ∨ (e = .returned (.bool false) ∧ Jx (pre ++ [x]) W'))
    (g : List Int) (lv : Value) (i : Int) (pre : List (List Int)) (W : World) (hs : SlI W lv g) (hM : LM fid l by' ba bl ca A all W) (hJ : J pre W) (hp : pre ++ [g] <+: tot) :
    Calls Tryz.prog 86 #[lv, .int .i64 i, .int .i64 0, .pointer (some ⟨by', 0, none⟩), .pointer (some ⟨ba, 0, none⟩), .pointer (some ⟨bl, 0, none⟩)] W fun e W' =>
      (e = .returned (.bool true) ∧ J (pre ++ [g]) W' ∧ Keep n₀ X W W') ∨ (e = .returned (.bool false) ∧ Jx (pre ++ [g]) W') := by
  obtain ⟨fn, tmps, assign, body, hy, hR⟩ := hY 0 pre g lv W hJ hs hp
  have m1 := hM.y
  refine (callsIn_wide (n := 1)).1 (callsIn_of_wp Tryz.func86 rfl trivial ?_ rfl)
  simp only [Tryz.ntmps86, List.size_toArray, List.length_cons, List.length_nil, Nat.reduceAdd, Nat.reduceSub, Array.replicate_succ, Array.replicate_zero, List.push_toArray, List.append_toArray, List.nil_append, List.cons_append]
  gi_wp2_with ((try refine ⟨wide_depth _, ?_⟩); refine hR.mono ?_; clear hR; rintro e W2 (⟨rfl, hJ2, hk⟩ | ⟨rfl, hx⟩))
  · go_ret
    exact .inl ⟨rfl, hJ2, hk⟩
  · go_ret
    exact .inr ⟨rfl, hx⟩

/-- The lists that begin so. -/
def tails (k : Nat) (g r : List Int) : List (List Int) := (combos k r).map (g ++ ·)
theorem tails_nil (k : Nat) (g : List Int) : tails (k + 1) g [] = [] := rfl
theorem tails_cons (k : Nat) (g : List Int) (x : Int) (r : List Int) : tails (k + 1) g (x :: r) = tails k (g ++ [x]) r ++ tails (k + 1) g r := by
  unfold tails
  rw [combos, List.map_append, List.map_map]
  congr 1
  refine List.map_congr_left fun u _ => ?_
  simp [Function.comp]
theorem tails_zero (g r : List Int) : tails 0 g r = [g] := by simp [tails, combos]

set_option maxHeartbeats 4000000 in
theorem choose_any {fid : FuncId} {l by' ba bl ca n₀ x₀ : Nat} {X : Nat → Prop} {A : Option Addr} {all : List Int} {J Jx : List (List Int) → World → Prop} {tot : List (List Int)}
    (hfid : fid = 86) (hal : all.length ≤ 1000) (hX : ∀ b, X b → b < x₀) (x1 : ¬ X by') (x2 : ¬ X ba) (x3 : ¬ X bl) (x4 : ∀ b o, A = some ⟨b, o, none⟩ → ¬ X b)
    (hJ0 : ∀ pre A B, J pre A → Ext A B → J pre B)
    (hY : ∀ m pre x v W1, J pre W1 → SlI W1 v x → pre ++ [x] <+: tot → YieldAt Fence.wide m Tryz.prog l #[v] W1 fun e W' => (e = .returned (.bool true) ∧ J (pre ++ [x]) W' ∧ Keep n₀ X W1 W') ∨ (e = .returned (.bool false) ∧ Jx (pre ++ [x]) W')) :
    ∀ (k : Nat) (g : List Int) (B : Option Addr) (n c i : Nat) (pre : List (List Int)) (W₀ : World), g.length + k ≤ 1000 → i ≤ all.length → SlI W₀ (.slice B n c) g → (∀ b o, B = some ⟨b, o, none⟩ → ¬ X b) → LM fid l by' ba bl ca A all W₀ → J pre W₀ → n₀ ≤ W₀.heap.size → x₀ ≤ W₀.heap.size →
      pre ++ tails k g (all.drop i) <+: tot →
      Calls Tryz.prog 86 #[.slice B n c, .int .i64 (i : Int), .int .i64 (k : Int), .pointer (some ⟨by', 0, none⟩), .pointer (some ⟨ba, 0, none⟩), .pointer (some ⟨bl, 0, none⟩)] W₀ fun e W' =>
        (e = .returned (.bool true) ∧ J (pre ++ tails k g (all.drop i)) W' ∧ Keep n₀ X W₀ W') ∨ (e = .returned (.bool false) ∧ ∃ q, q <+: tails k g (all.drop i) ∧ Jx (pre ++ q) W') := by
  intro k
  induction k with
  | zero =>
    intro g B n c i pre W₀ hg hi hs hA hM hJ hn0 hx0 hp
    rw [tails_zero] at hp ⊢
    refine (choose_leaf hY g _ i pre W₀ hs hM hJ hp).mono ?_
    rintro e W' (⟨rfl, h1, h2⟩ | ⟨rfl, h1⟩)
    · exact .inl ⟨rfl, h1, h2⟩
    · exact .inr ⟨rfl, [g], List.prefix_refl _, h1⟩
  | succ k ih =>
    intro g B n c i pre W₀ hg hi hs hA hM hJ hn0 hx0 hp
    generalize hT : tails (k + 1) g (all.drop i) = T at hp ⊢
    generalize hN : all.length - i = N
    have HS := Lib.hid hs; have HM := Lib.hid hM; have HJ := Lib.hid hJ; have HP := Lib.hid hp; have IH := Lib.hid ih; have HA := Lib.hid hA
    have HT := Lib.hid hT; have HAL := Lib.hid hal
    have HJ0 := Lib.hid hJ0
    have eg : ∀ args w, (callFunc fid args).run Tryz.prog w = .ok (.enter fid args) w := by rw [hfid]; exact enters_of Tryz.func86 (by kernel_rfl) rfl
    have HFI := Lib.hid hfid
    clear hs hM hJ hp ih hA hT hJ0 hY hfid
    have hkz : ¬ (((k : Int) + 1) = 0) := by omega
    have hkz' : ((k + 1 : Nat) : Int) = (k : Int) + 1 := by omega
    rw [hkz']
    go_enter Tryz.func86, Tryz.ntmps86
    go_wp2
    go_loopg [10] N (fun gg s10 wr => ∃ (q : Nat) (D : List (List Int)), q ≤ all.length ∧ all.length - q ≤ gg ∧ s10 = .int .i64 (q : Int) ∧ Aside (D ++ tails (k + 1) g (all.drop q) = T) ∧ Aside (J (pre ++ D) wr) ∧ Aside (Keep n₀ X W₀ wr))
    case atStart => exact ⟨i, [], by omega, by omega, rfl, by show _ = _; rw [List.nil_append]; exact HT.out, by show J _ _; rw [List.append_nil]; exact HJ.out, Keep.refl _⟩
    case round =>
      obtain ⟨q, D, hq, hgg, rfl, HD, HJQ, HK⟩ := hrel
      have HMQ := Lib.hid (HM.out.keep HK.out x1 x2 x3 x4)
      have m0 := HMQ.out.a
      have m1 := HMQ.out.f
      by_cases hqN : q < all.length
      · have hqz : (q : Int) < (all.length : Int) := by omega
        have hq0 : (0 : Int) ≤ (q : Int) := by omega
        obtain ⟨x, hx⟩ : ∃ x, all[q]? = some x := ⟨_, List.getElem?_eq_getElem hqN⟩
        obtain ⟨bb, off, rfl, hc⟩ := HMQ.out.s q x hx
        have hdr : all.drop q = x :: all.drop (q + 1) := drop_at hx
        go_wp2_with fail
        have ka := fun W (h : Ext wr W) => (h.cells.1 ba 0 (is_cells m0).1).trans m0
        have kf := fun W (h : Ext wr W) => (h.cells.1 bl 0 (is_cells m1).1).trans m1
        have kx := fun W (h : Ext wr W) => (h.cells.1 bb (off + q) (is_cells hc).1).trans hc
        refine wp_region_tame_cut2 (fun W => Ext wr W) (RC wr.heap.size g x) (by kernel_rfl) 38 rfl _ _ rfl rfl (by decide +kernel) (by decide +kernel) (by decide +kernel) (by decide +kernel) (by decide +kernel) rfl rfl (Ext.refl _).drew ?_
        simp only [List.dropLast]
        repeat (apply tame_q rfl; (intro ρ W hC hr hD; (obtain ⟨hrc, hrg, hrf, hrs⟩ := hr); (simp [go_sem] at hD); go_simp; first | exact ⟨⟨hC, RC.refl _⟩, rfl⟩ | exact rfl); simp only [List.nil_append, List.cons_append])
        apply tame_v rfl (NewI wr.heap.size g) (fun v W W' _ hR h => ⟨hR.2.1 v h.1, h.2⟩)
        · intro ρ W hC hr hD
          obtain ⟨hrc, hrg, hrf, hrs⟩ := hr
          simp [go_sem] at hD
          go_simp
          refine (cloneI_any _ g W ((HS.out.keep HK.out HA.out).ext hC) (by omega)).mono ?_
          rintro e w' ⟨v', rfl, hn, hE⟩
          exact ⟨_, rfl, ⟨hC.trans hE, RC.ext hE⟩, hn.mono hC.size⟩
        simp only [List.nil_append, List.cons_append]
        repeat (apply tame_q rfl; (intro ρ W hC hr hD; (obtain ⟨hrc, hrg, hrf, hrs⟩ := hr); (simp [go_sem] at hD); go_simp; first | exact ⟨⟨hC, RC.refl _⟩, rfl⟩ | exact rfl); simp only [List.nil_append, List.cons_append])
        apply tame_v rfl (OneB x) (fun v W W' _ hR h => by obtain ⟨b, h1, h2⟩ := h; exact ⟨b, h1, hR.2.2.2.1 b h2⟩)
        · intro ρ W hC hr hD
          obtain ⟨hrc, hrg, hrf, hrs⟩ := hr
          simp [go_sem] at hD
          go_simp
          exact ⟨⟨hC.alloc _, RC.ext (Ext.al _ _)⟩, ⟨_, rfl, Blk.new _ _ _⟩⟩
        simp only [List.nil_append, List.cons_append]
        apply tame_v rfl (fun v W => Own encI 3 1 W wr.heap.size v (g ++ [x])) (fun v W W' _ hR h => hR.2.2.1 _ (List.prefix_refl _) v h)
        · intro ρ W hC hr hD
          obtain ⟨hrc, hrg, hrf, hrs⟩ := hr
          simp [go_sem] at hD
          obtain ⟨d1, ⟨b, d2, d3⟩, -⟩ := hD
          obtain ⟨v', W', hrun, ho, hR, hB⟩ := run_appc (c := 1) d1 hC.size (by omega) d3 55
          show opGives _ _ _ _ _ _ _
          unfold opGives execOp
          simp only [resolve, invoke, builtin, Sem.run_bind, Sem.run_pure, Result.andThen_ok, List.map_toArray, List.map_cons, List.map_nil, d2, hrun]
          exact ⟨⟨Below.trans hC hB, hR⟩, ho⟩
        simp only [List.nil_append, List.cons_append]
        repeat (apply tame_q rfl; (intro ρ W hC hr hD; (obtain ⟨hrc, hrg, hrf, hrs⟩ := hr); (simp [go_sem] at hD); go_simp; first | exact ⟨⟨hC, RC.refl _⟩, rfl⟩ | exact rfl); simp only [List.nil_append, List.cons_append])
        refine tame_end 38 rfl rfl (fun ρ W hC hr hF => ?_)
        obtain ⟨hrc, hrg, hrf, hrs⟩ := hr
        simp [go_sem] at hF
        obtain ⟨f23, f24, f25, f26, f27, f28, f29, ⟨b', f30, -⟩, f31, f32⟩ := hF
        rcases own_form f31 with ⟨-, h0⟩ | ⟨g', cap, cur, f31', hg', -⟩
        · exact absurd h0 (by simp)
        have hsl : SlI W (.slice (some ⟨g', 0, none⟩) (g ++ [x]).length cap) (g ++ [x]) := f31' ▸ Own.sl (enc := encI) (fun _ => rfl) f31
        have hn1 : (g ++ [x]).length = g.length + 1 := by simp
        rw [hn1] at hsl f31'
        generalize ρ (Operand.tmp 25) = v25 at *
        apply frame_to
        · go_simp
          exact rfl
        clear f23 f24 f25 f26 f27 f28 f29 f30 f31 f31' f32 hrs hrc hrg hrf ka kf kx
        have hsz := hC.size
        have hsk := HK.out.b.size
        have H := IH.out (g ++ [x]) (some ⟨g', 0, none⟩) (g.length + 1) cap (q + 1) (pre ++ D) W (by rw [hn1]; omega) (by omega) hsl (fun b o e => by
          injection e with e; injection e with e _; subst e; intro hxb; have := hX _ hxb; omega) (HMQ.out.keep (n₀ := n₀) (Keep.ext hC (by omega)) x1 x2 x3 x4) (HJ0.out _ _ _ HJQ.out hC) (by omega) (by omega) (by
          have h1 : D ++ tails k (g ++ [x]) (all.drop (q + 1)) <+: T := ⟨tails (k + 1) g (all.drop (q + 1)), by rw [← HD.out, hdr, tails_cons, List.append_assoc]⟩
          rw [List.append_assoc]
          exact ((List.prefix_append_right_inj _).2 h1).trans HP.out)
        rw [show (((q + 1 : Nat) : Int)) = (q : Int) + 1 by omega, ← HFI.out] at H
        have HKW := Lib.hid (HK.out.trans (Keep.ext (X := X) hC (by omega)))
        have HDN := Lib.hid (show (D ++ tails k (g ++ [x]) (all.drop (q + 1))) ++ tails (k + 1) g (all.drop (q + 1)) = T by rw [← HD.out, hdr, tails_cons, List.append_assoc])
        clear hsl hC hdr hn1
        go_wp2_with (go_at_fn fid; refine H.mono ?_; clear H; rintro e w' (⟨rfl, g1, g2⟩ | ⟨rfl, q', g1, g2⟩))
        · go_wp2
          go_roundg (all.length - (q + 1))
          case measure => omega
          case rel => exact ⟨q + 1, D ++ tails k (g ++ [x]) (all.drop (q + 1)), by omega, by omega, by simp, HDN.out, by show J _ _; rw [← List.append_assoc]; exact g1, HKW.out.trans g2⟩
        · go_wp2
          go_ret
          exact .inr ⟨rfl, D ++ q', ((List.prefix_append_right_inj _).2 g1).trans ⟨_, HDN.out⟩, by rw [← List.append_assoc]; exact g2⟩
      · have hqe : q = all.length := by omega
        subst hqe
        have HDT := Lib.hid (show D = T by have := HD.out; rw [List.drop_length, tails_nil, List.append_nil] at this; exact this)
        go_wp2
        go_ret
        exact .inl ⟨rfl, by rw [← HDT.out]; exact HJQ.out, HK.out⟩

def listsTo (all : List Int) (m : Nat) : List (List Int) := (List.range m).flatMap fun n => combos n all
theorem listsTo_succ (all : List Int) (m : Nat) : listsTo all (m + 1) = listsTo all m ++ tails m [] all := by
  unfold listsTo tails
  rw [List.range_succ, List.flatMap_append]
  simp
theorem listsTo_pre (all : List Int) : ∀ {k m : Nat}, k ≤ m → listsTo all k <+: listsTo all m := by
  intro k m h
  induction m with
  | zero => have : k = 0 := by omega
            subst this; exact List.prefix_refl _
  | succ m ih =>
    by_cases hk : k = m + 1
    · rw [hk]; exact List.prefix_refl _
    · exact (ih (by omega)).trans (by rw [listsTo_succ]; exact List.prefix_append _ _)

set_option maxHeartbeats 2000000 in
theorem lists_seqs {ba bm ca n₀ : Nat} {X : Nat → Prop} {A : Option Addr} {all : List Int} {most : Nat} {w : World} (hal : all.length ≤ 500) (hX : ∀ b, X b → b < w.heap.size) (x2 : ¬ X ba) (x4 : ∀ b o, A = some ⟨b, o, none⟩ → ¬ X b)
    (hn : n₀ ≤ w.heap.size) (ha : w.cell? ⟨ba, 0, none⟩ = some (.slice A all.length ca)) (hs : ∀ i x, all[i]? = some x → ∃ bb off, A = some ⟨bb, off, none⟩ ∧ w.cell? ⟨bb, off + i, none⟩ = some (.int .i64 x)) (hm : w.cell? ⟨bm, 0, none⟩ = some (.int .i64 (most : Int))) :
    Seqs Tryz.prog 85 #[.pointer (some ⟨ba, 0, none⟩), .pointer (some ⟨bm, 0, none⟩)] n₀ X (fun x v W => SlI W v x) (listsL all most) w := by
  intro l J Jx W hE hJ hJx hY h0
  have hL : listsL all most = listsTo all (min most all.length + 1) := rfl
  rw [hL] at hY ⊢
  have hMl : min most all.length ≤ all.length := Nat.min_le_right _ _
  have hMz : min (most : Int) (all.length : Int) = ((min most all.length : Nat) : Int) := by omega
  generalize min most all.length = M at *
  have hsz := hE.size
  have hE4 : Ext W ((W.alloc (.cells #[.func (.yield l) #[] #[]] 93)).alloc (.cells #[.func (.func 86) #[] #[.pointer (some ⟨W.heap.size, 0, none⟩), .pointer (some ⟨ba, 0, none⟩), .pointer (some ⟨W.heap.size + 1, 0, none⟩)]] 115)) :=
    (Ext.al _ _).alloc _
  generalize hW4 : ((W.alloc (.cells #[.func (.yield l) #[] #[]] 93)).alloc (.cells #[.func (.func 86) #[] #[.pointer (some ⟨W.heap.size, 0, none⟩), .pointer (some ⟨ba, 0, none⟩), .pointer (some ⟨W.heap.size + 1, 0, none⟩)]] 115)) = W4 at hE4
  have hE5 := hE.trans hE4
  have hk : ∀ {b i : Nat} {v : Value}, w.cell? ⟨b, i, none⟩ = some v → W4.cell? ⟨b, i, none⟩ = some v := fun hc => (hE5.cells.1 _ _ (is_cells hc).1).trans hc
  have HLM := Lib.hid (show LM 86 l W.heap.size ba (W.heap.size + 1) ca A all W4 from ⟨hk ha, fun i x hx => by obtain ⟨bb, off, e, hc⟩ := hs i x hx; exact ⟨bb, off, e, hk hc⟩, by rw [← hW4]; simp [go_sem], by rw [← hW4]; simp [go_sem]⟩)
  have HBM := Lib.hid (hk hm)
  have HS4 := Lib.hid hE4.size
  have xb : ∀ b, w.heap.size ≤ b → ¬ X b := fun b hb h => by have := hX b h; omega
  have HCH := Lib.hid (choose_any (fid := 86) (l := l) (by' := W.heap.size) (ba := ba) (bl := W.heap.size + 1) (ca := ca) (n₀ := n₀) (x₀ := w.heap.size) (X := X) (A := A) (all := all) (J := J) (Jx := Jx) rfl (by omega) hX (xb _ hsz) x2 (xb _ (by omega)) x4 hJ hY)
  have HJ := Lib.hid (show J [] W4 from hJ _ _ _ h0 hE4)
  have HAL := Lib.hid hal
  have HN := Lib.hid (show n₀ ≤ W4.heap.size ∧ w.heap.size ≤ W4.heap.size by have := hE4.size; omega)
  have X1 := Lib.hid (xb W.heap.size hsz)
  have X2 := Lib.hid (xb (W.heap.size + 1) (by omega))
  have c0 := HLM.out.a
  have c1 := HBM.out
  clear ha hs hm hk hE hE4 hE5 hJ hJx hY h0 hL xb
  go_enter Tryz.func85, Tryz.ntmps85
  go_wp2_with fail

  clear hW4 c0 c1
  go_loopg [5, 12] (M + 1) (fun gg _ s12 wr => ∃ (q : Nat), q ≤ M + 1 ∧ M + 1 - q ≤ gg ∧ s12 = .int .i64 (q : Int) ∧ Aside (J (listsTo all q) wr) ∧ Aside (Keep n₀ X W4 wr))
  case atStart => exact ⟨0, by omega, by omega, rfl, HJ.out, Keep.refl _⟩
  case round =>
    obtain ⟨q, hq, hgg, rfl, HJQ, HK⟩ := hrel
    have HMQ := Lib.hid (HLM.out.keep HK.out X1.out x2 X2.out x4)
    have m1 := HMQ.out.f
    by_cases hqN : q < M + 1
    · have hqz : (q : Int) < (M : Int) + 1 := by omega
      have hsk := HK.out.b.size
      have hnn := HN.out
      have H := HCH.out q [] none 0 0 0 (listsTo all q) wr (by simp; omega) (by omega) (Sl.nil wr) (fun b o e => by cases e) HMQ.out HJQ.out (by omega) (by omega) (by rw [List.drop_zero, ← listsTo_succ]; exact listsTo_pre all (by omega))
      rw [List.drop_zero, ← listsTo_succ] at H
      clear hnn
      go_wp2_with (refine H.mono ?_; clear H; rintro e w' (⟨rfl, g1, g2⟩ | ⟨rfl, q', g1, g2⟩))
      · go_wp2
        go_roundg (M + 1 - (q + 1))
        case measure => omega
        case rel => exact ⟨q + 1, by omega, by omega, by simp, g1, HK.out.trans g2⟩
      · go_wp2
        refine bodyPost_ret (results_none rfl _ _ _) rfl ?_
        exact ⟨⟨_, rfl⟩, .inr ⟨listsTo all q ++ q', (by
          have h1 : listsTo all q ++ q' <+: listsTo all (q + 1) := by rw [listsTo_succ]; exact (List.prefix_append_right_inj _).2 g1
          exact h1.trans (listsTo_pre all (by omega))), g2⟩⟩
    · have hqe : q = M + 1 := by omega
      subst hqe
      go_wp2
      go_end0
      exact ⟨⟨_, rfl⟩, .inl HJQ.out⟩

theorem lists_any (A : Option Addr) (n c : Nat) (m : Int) (w : World) :
    Calls Tryz.prog 61 #[.slice A n c, .int .i64 m] w fun e w' => e = .returned (.func (.func 85) #[] #[.pointer (some ⟨w.heap.size, 0, none⟩), .pointer (some ⟨w.heap.size + 1, 0, none⟩)]) ∧
      w' = (w.alloc (.cells #[.slice A n c] 55)).alloc (.cells #[.int .i64 m] 3) := by
  go_enter Tryz.func61, Tryz.ntmps61
  go_wp2
  go_ret
  exact ⟨rfl, rfl⟩
end Go.Proofs.YtfhmfbhpehldpaaGreatDoor
/- core.first: the first thing that is as it should be. -/
namespace Go.Proofs.YtfhmfbhpehldpaaGreatDoor
open Go.RowKit Go.Shelf Go.Lib
set_option maxRecDepth 100000
set_option linter.unusedSimpArgs false
attribute [local go_sem] Oper.semAt_some

/-- **THE STATEMENT**, where the body is told that the loop's two records are no cells. -/
theorem wp_rangeFunc2 {α : Type} {P : Program} {g : Operand} {p : Tmp} {assign body : Code} {Q : Exit → Act → World → Prop} {a : Act} {w : World} {gf : FuncId} {lb : Array Value} (hg : a.eval g = .func (.func gf) #[] lb)
    (eg : ∀ args w, (callFunc gf args).run P w = .ok (.enter gf args) w) {n₀ : Nat} {X : Nat → Prop} {H : α → Value → World → Prop} {xs : List α} {w0 : World} (hseq : Seqs P gf lb n₀ X H xs w0) (hE : Ext w0 w) (hn : n₀ ≤ w.heap.size)
    (hH : ∀ x v W r o, H x v W → W.heap[w.heap.size + 1]? = some (.loop r) → H x v (W.putObj (w.heap.size + 1) o))
    (I : List α → World → Prop) (Ix : Code → List α → World → Prop) (hI : ∀ pre A B, I pre A → w.heap.size + 1 < A.heap.size → Turn w.heap.size A B → I pre B) (hIx : ∀ c pre A B, Ix c pre A → w.heap.size + 1 < A.heap.size → Turn w.heap.size A B → Ix c pre B)
    (h0 : ∀ W, Ext w W → I [] W) (a₁ : Value → Act)
    (hassign : ∀ (m l : Nat) (v : Value) (W : World) (K : Act → World → Prop), K (a₁ v) W → assign.wpIn (Fence.wide.inRound l) m P (Exit.then K (fun _ _ _ => False)) { tmps := a.tmps.setIfInBounds p v, defers := [] } W)
    (hbody : ∀ (m l : Nat) (pre : List α) (x : α) (v : Value) (W : World), I pre W → H x v W → pre ++ [x] <+: xs → w.heap.size + 1 < W.heap.size → (∃ d, W.heap[w.heap.size]? = some (.deferred d)) → (∃ r, W.heap[w.heap.size + 1]? = some (.loop r)) → body.wpIn (Fence.wide.inRound l) m P (rPost n₀ X w.heap.size I Ix (pre ++ [x]) W) (a₁ v) W)
    (hdone : ∀ W, I xs W → w.heap.size + 1 < W.heap.size → W.heap[w.heap.size]? = some (.deferred (some [])) → Q .normal { a with defers := { target := .collected w.heap.size, args := #[] } :: a.defers } W)
    (hstop : ∀ c pre W, pre <+: xs → Ix c pre W → w.heap.size + 1 < W.heap.size → W.heap[w.heap.size]? = some (.deferred (some [])) → c.wp P Q { a with defers := { target := .collected w.heap.size, args := #[] } :: a.defers } W) :
    (Code.rangeFunc g #[p] assign body).wp P Q a w := by
  refine (wpIn_wide (n := 0)).1 (wpIn_rangeFunc ?_)
  intro fn _
  obtain ⟨rec, hrec⟩ : ∃ rec : LoopState → Option Code → Loop, rec = fun st pe => { state := st, pending := pe, fn, tmps := a.tmps, params := #[p], assign, body, defers := w.heap.size } := ⟨_, rfl⟩
  generalize hW1 : (w.alloc (.deferred (some []))).alloc (.loop (rec .ready none)) = W1
  have hE1 : Ext w W1 := by rw [← hW1]; exact (Ext.al _ _).alloc _
  have hL1 : W1.heap[w.heap.size + 1]? = some (.loop (rec .ready none)) := by
    rw [← hW1]; have := World.alloc_heap_new (w.alloc (.deferred (some []))) (.loop (rec .ready none)); rwa [World.size_alloc] at this
  have hK1 : W1.heap[w.heap.size]? = some (.deferred (some [])) := by
    rw [← hW1]; exact (Below.heap_alloc _ _ _ (by simp)).trans (World.alloc_heap_new w _)
  have lt_of : ∀ {W : World} {o : Obj}, W.heap[w.heap.size + 1]? = some o → w.heap.size + 1 < W.heap.size := fun h => (Array.getElem?_eq_some_iff.1 h).1
  refine ⟨w.heap.size + 1, [{ target := .collected w.heap.size, args := #[] }], W1, { target := .fn (.func gf) lb, args := #[.func (.yield (w.heap.size + 1)) #[] #[]] }, W1, gf, #[.func (.yield (w.heap.size + 1)) #[] #[]] ++ lb, W1, ?_, ?_, fun _ _ => trivial, ?_, wide_depth _, ?_⟩
  · rw [wide_none, ← hW1, hrec]; exact run_enterLoop_outer _ _ _ _ _
  · simp only [resolve, hg]
    simp [go_sem]
  · simp [invoke, go_sem, eg]
  refine callsIn_wide.2 ((hseq (w.heap.size + 1)
    (fun pre W => I pre W ∧ W.heap[w.heap.size + 1]? = some (.loop (rec .ready none)) ∧ W.heap[w.heap.size]? = some (.deferred (some [])))
    (fun pre W => ∃ c, Ix c pre W ∧ W.heap[w.heap.size + 1]? = some (.loop (rec .done (some c))) ∧ W.heap[w.heap.size]? = some (.deferred (some [])))
    W1 (hE.trans hE1) ?_ ?_ ?_ ⟨h0 _ hE1, hL1, hK1⟩).mono ?_)
  · rintro pre A B ⟨h1, h2, h3⟩ hAB
    have hl := lt_of h2
    exact ⟨hI _ _ _ h1 hl (Turn.ext hAB), (hAB.block _ hl).trans h2, (hAB.block _ (by omega)).trans h3⟩
  · rintro pre A B ⟨c, h1, h2, h3⟩ hAB
    have hl := lt_of h2
    exact ⟨c, hIx _ _ _ _ h1 hl (Turn.ext hAB), (hAB.block _ hl).trans h2, (hAB.block _ (by omega)).trans h3⟩
  · rintro m pre x v W ⟨hi, hl, hk⟩ hx hpre
    have hlt := lt_of hl
    have hy := run_yield (P := P) (args := #[v]) hl (by rw [hrec]; rfl)
    refine ⟨fn, a.tmps.setIfInBounds p v, assign, body, by rw [hy, hrec]; simp, roundIn_of_wpIn trivial ?_⟩
    have hsz : ∀ (W : World) o, (W.putObj (w.heap.size + 1) o).heap.size = W.heap.size := fun _ _ => World.putObj_size
    have hb2 : (W.putObj (w.heap.size + 1) (.loop { rec .ready none with state := .busy })).heap[w.heap.size + 1]? = some (.loop { rec .ready none with state := .busy }) := World.putObj_heap_same hlt
    have hd2 : (W.putObj (w.heap.size + 1) (.loop { rec .ready none with state := .busy })).heap[w.heap.size]? = some (.deferred (some [])) := (World.putObj_heap_other (by omega)).trans hk
    have fin : ∀ (jump : Option Code) (W3 : World), W3.heap[w.heap.size + 1]? = some (.loop { rec .ready none with state := .busy }) → W3.heap[w.heap.size]? = some (.deferred (some [])) →
        (Instr.endRound (w.heap.size + 1) jump).run P W3 = .ok (.bool jump.isNone) (W3.putObj (w.heap.size + 1) (.loop (rec (if jump.isNone then .ready else .done) jump))) ∧
        (W3.putObj (w.heap.size + 1) (.loop (rec (if jump.isNone then .ready else .done) jump))).heap[w.heap.size + 1]? = some (.loop (rec (if jump.isNone then .ready else .done) jump)) ∧
        (W3.putObj (w.heap.size + 1) (.loop (rec (if jump.isNone then .ready else .done) jump))).heap[w.heap.size]? = some (.deferred (some [])) := fun jump W3 h1 h2 => by
      have := run_endRound (P := P) jump h1
      rw [hrec] at this ⊢
      exact ⟨this, World.putObj_heap_same (lt_of h1), (World.putObj_heap_other (by omega)).trans h2⟩
    have hstart : ∀ {A : Act}, A = a₁ v → ∃ w₂, (Instr.beginRound (w.heap.size + 1)).run P W = .ok () w₂ ∧ body.wpIn (Fence.wide.inRound (w.heap.size + 1)) m P (roundPost P (w.heap.size + 1) fun e W' =>
        (e = .returned (.bool true) ∧ (I (pre ++ [x]) W' ∧ W'.heap[w.heap.size + 1]? = some (.loop (rec .ready none)) ∧ W'.heap[w.heap.size]? = some (.deferred (some []))) ∧ Keep n₀ X W W') ∨
        (e = .returned (.bool false) ∧ ∃ c, Ix c (pre ++ [x]) W' ∧ W'.heap[w.heap.size + 1]? = some (.loop (rec .done (some c))) ∧ W'.heap[w.heap.size]? = some (.deferred (some [])))) A w₂ := by
      rintro A rfl
      refine ⟨_, run_beginRound hl (by rw [hrec]), wpIn_mono (hbody m _ pre x v _ (hI _ _ _ hi hlt (Turn.put _ _)) (hH _ _ _ _ _ hx hl) hpre (by rw [hsz]; exact hlt) ⟨_, hd2⟩ ⟨_, hb2⟩) ?_⟩
      rintro e a3 W3 hp
      cases e with
      | normal =>
        obtain ⟨hk3, hd3, hl3, hi3⟩ := hp
        rw [hb2] at hl3; rw [hd2] at hd3
        obtain ⟨hr, hl4, hd4⟩ := fin none W3 hl3 hd3
        exact ⟨_, _, hr, .inl ⟨rfl, ⟨hI _ _ _ hi3 (lt_of hl3) (Turn.put _ _), hl4, hd4⟩, ((keep_put hl hn).trans hk3).trans (keep_put hl3 hn)⟩⟩
      | ret =>
        obtain ⟨hd3, hl3, hi3⟩ := hp
        rw [hb2] at hl3; rw [hd2] at hd3
        obtain ⟨hr, hl4, hd4⟩ := fin (some .ret) W3 hl3 hd3
        exact ⟨_, _, hr, .inr ⟨rfl, .ret, hIx _ _ _ _ hi3 (lt_of hl3) (Turn.put _ _), hl4, hd4⟩⟩
      | exit id =>
        obtain ⟨hd3, hl3, hi3⟩ := hp
        rw [hb2] at hl3; rw [hd2] at hd3
        obtain ⟨hr, hl4, hd4⟩ := fin (some (.exit id)) W3 hl3 hd3
        exact ⟨_, _, hr, .inr ⟨rfl, .exit id, hIx _ _ _ _ hi3 (lt_of hl3) (Turn.put _ _), hl4, hd4⟩⟩
      | goto t =>
        obtain ⟨hd3, hl3, hi3⟩ := hp
        rw [hb2] at hl3; rw [hd2] at hd3
        obtain ⟨hr, hl4, hd4⟩ := fin (some (.goto t)) W3 hl3 hd3
        exact ⟨_, _, hr, .inr ⟨rfl, .goto t, hIx _ _ _ _ hi3 (lt_of hl3) (Turn.put _ _), hl4, hd4⟩⟩
      | panic ch => exact hp.elim
      | outgrown => exact hp.elim
    refine hassign m (w.heap.size + 1) v W _ ?_
    exact hstart rfl
  · rintro e W2 ⟨⟨v, rfl⟩, (⟨hi, hl, hk⟩ | ⟨pre, hpre, c, hi, hl, hk⟩)⟩
    · refine ⟨none, _, by have := run_endLoop (P := P) hl (by rw [hrec]; simp); rw [hrec] at this; exact this, ?_⟩
      exact hdone _ (hI _ _ _ hi (lt_of hl) (Turn.put _ _)) (by rw [World.putObj_size]; exact lt_of hl) ((World.putObj_heap_other (by omega)).trans hk)
    · refine ⟨some c, _, by have := run_endLoop (P := P) hl (by rw [hrec]; simp); rw [hrec] at this; exact this, ?_⟩
      exact wpIn_wide.2 (hstop c pre _ hpre (hIx _ _ _ _ hi (lt_of hl) (Turn.put _ _)) (by rw [World.putObj_size]; exact lt_of hl) ((World.putObj_heap_other (by omega)).trans hk))

@[go_sem] theorem callVal_func2 (g : FuncId) (fi lb vs : Array Value) : callVal (.func (.func g) fi lb) vs = callFunc g (fi ++ vs ++ lb) := by
  simp only [callVal, Deferred.ofValue]
  rfl
/-- A slice that does not lie in a loop's two records. -/
def SlX (s : Nat) (W : World) (v : Value) (x : List Int) : Prop :=
  ∃ a c, v = .slice a x.length c ∧ x.length ≤ c ∧ c ≤ maxLen ∧ (0 < x.length → ∃ b off, a = some ⟨b, off, none⟩ ∧ b < W.heap.size ∧ (b ≠ s ∧ b ≠ s + 1) ∧ ∀ k y, x[k]? = some y → ∀ j u, (encI y)[j]? = some u → W.cell? ⟨b, off + k * 1 + j, none⟩ = some u)
theorem SlX.sl {s : Nat} {W : World} {v : Value} {x : List Int} (h : SlX s W v x) : SlI W v x := by
  obtain ⟨a, c, hv, hl, hc, hcell⟩ := h
  refine ⟨a, c, hv, hl, hc, fun hz => ?_⟩
  obtain ⟨b, off, hA, hb, -, hcell⟩ := hcell hz
  exact ⟨b, off, hA, hb, hcell⟩
theorem SlX.of {s : Nat} {A : World} {v : Value} {x : List Int} (h : SlI A v x) (h0 : ∃ d, A.heap[s]? = some (.deferred d)) (h1 : ∃ r, A.heap[s + 1]? = some (.loop r)) : SlX s A v x := by
  obtain ⟨a, c, hv, hl, hc, hcell⟩ := h
  refine ⟨a, c, hv, hl, hc, fun hz => ?_⟩
  obtain ⟨b, off, hA, hb, hcell⟩ := hcell hz
  obtain ⟨d, h0⟩ := h0
  obtain ⟨r, h1⟩ := h1
  obtain ⟨c', t, f, hbk⟩ := (is_cells (hcell 0 x[0] (List.getElem?_eq_getElem hz) 0 _ rfl)).2
  exact ⟨b, off, hA, hb, ⟨(by rintro rfl; rw [hbk] at h0; cases h0), (by rintro rfl; rw [hbk] at h1; cases h1)⟩, hcell⟩
theorem SlX.turn {s : Nat} {A B : World} {v : Value} {x : List Int} (h : SlX s A v x) (hT : Turn s A B) : SlX s B v x := by
  obtain ⟨a, c, hv, hl, hc, hcell⟩ := h
  refine ⟨a, c, hv, hl, hc, fun hz => ?_⟩
  obtain ⟨b, off, hA, hb, hn, hcell⟩ := hcell hz
  exact ⟨b, off, hA, Nat.lt_of_lt_of_le hb hT.size, hn, fun k y hy j u hu => (World.cell?_of_block (a := ⟨b, _, none⟩) (hT.block b hb hn.1 hn.2)).trans (hcell k y hy j u hu)⟩
theorem SlX.ext {s : Nat} {A B : World} {v : Value} {x : List Int} (h : SlX s A v x) (hE : Ext A B) : SlX s B v x := h.turn (Turn.ext hE)
theorem SlX.set {s : Nat} {A : World} {v : Value} {x : List Int} (h : SlX s A v x) {g i : Nat} {t : TypeId} {u0 : Value} (hB : Blk A g t #[u0]) (hu0 : ∀ n, u0 ≠ .int .i64 n) (u : Value) : SlX s (A.setCell ⟨g, i, none⟩ u) v x := by
  obtain ⟨a, c, hv, hl, hc, hcell⟩ := h
  refine ⟨a, c, hv, hl, hc, fun hz => ?_⟩
  obtain ⟨b, off, hA, hb, hn, hcell⟩ := hcell hz
  refine ⟨b, off, hA, by simpa [World.setCell] using hb, hn, fun k y hy j w hw => ?_⟩
  have hx := hcell k y hy j w hw
  have hw' : w = .int .i64 y := by
    match j, hw with
    | 0, hw => simpa using hw.symm
  have hbg : b ≠ g := by
    rintro rfl
    rw [hB.cell, hw'] at hx
    cases hi : off + k * 1 + j with
    | zero => rw [hi] at hx; simp at hx; exact hu0 _ hx
    | succ m => rw [hi] at hx; simp at hx
  exact (World.cell?_of_block (a := ⟨b, _, none⟩) (Below.heap_setCell A ⟨g, i, none⟩ u b hbg)).trans hx

set_option maxHeartbeats 2000000 in
theorem first_any {gf tf : FuncId} {lb fi tlb : Array Value} (eg : ∀ args w, (callFunc gf args).run Tryz.prog w = .ok (.enter gf args) w) (et : ∀ args w, (callFunc tf args).run Tryz.prog w = .ok (.enter tf args) w)
    {xs : List (List Int)} {p : List Int → Bool} {w : World} (hseq : Seqs Tryz.prog gf lb w.heap.size (fun _ => False) (fun x v W => SlI W v x) xs w)
    (htest : ∀ x ∈ xs, ∀ v W, Below w.heap.size w W → SlI W v x → Calls Tryz.prog tf (fi.push v ++ tlb) W fun e W' => e = .returned (.bool (p x)) ∧ Ext W W') :
    Calls Tryz.prog 60 #[.func (.func gf) #[] lb, .func (.func tf) fi tlb] w fun e w' => ∃ v, e = .returned (.tuple #[v, .bool (xs.find? p).isSome]) ∧ SlI w' v ((xs.find? p).getD []) ∧ Below w.heap.size w w' := by
  refine calls_of_wp_marks Tryz.func60 rfl ?_
  simp only [Tryz.ntmps60, List.size_toArray, List.length_cons, List.length_nil, Nat.reduceAdd, Nat.reduceSub, Array.replicate_succ, Array.replicate_zero, List.push_toArray, List.append_toArray, List.nil_append, List.cons_append]
  go_wp2_with fail
  generalize hw3 : (((w.alloc (.cells #[.func (.func tf) fi tlb] 93)).alloc (.cells #[.slice none 0 0] 55)).alloc (.cells #[.bool false] 4)) = w3
  have E3 : Ext w w3 := by rw [← hw3]; exact ((Ext.al _ _).alloc _).alloc _
  have hz3 : w3.heap.size = w.heap.size + 3 := by rw [← hw3]; simp
  have B0 : Blk w3 w.heap.size 93 #[.func (.func tf) fi tlb] := by rw [← hw3]; exact ((Blk.new _ _ _).alloc _).alloc _
  have B1 : Blk w3 (w.heap.size + 1) 55 #[.slice none 0 0] := by rw [← hw3]; exact (Blk.at_ (by simp)).alloc _
  have B2 : Blk w3 (w.heap.size + 1 + 1) 4 #[.bool false] := by rw [← hw3]; exact Blk.at_ (by simp)
  refine wp_rangeFunc2 (by rfl) eg hseq E3 (by omega) (fun x v W r o h hr => sl_put h hr)
    (fun pre W => (∀ y ∈ pre, p y = false) ∧ Blk W w.heap.size 93 #[.func (.func tf) fi tlb] ∧ Blk W (w.heap.size + 1) 55 #[.slice none 0 0] ∧ Blk W (w.heap.size + 1 + 1) 4 #[.bool false] ∧ Below w.heap.size w W)
    (fun c pre W => c = .ret ∧ ∃ pre0 x v, pre = pre0 ++ [x] ∧ p x = true ∧ (∀ y ∈ pre0, p y = false) ∧ Blk W (w.heap.size + 1) 55 #[v] ∧ Blk W (w.heap.size + 1 + 1) 4 #[.bool true] ∧ SlX w3.heap.size W v x ∧ Below w.heap.size w W)
    ?_ ?_ ?_ (fun v => { tmps := #[.func (.func gf) #[] lb, .func (.func tf) fi tlb, undef, .pointer (some ⟨w.heap.size, 0, none⟩), .pointer (some ⟨w.heap.size + 1, 0, none⟩), .pointer (some ⟨w.heap.size + 1 + 1, 0, none⟩), v, undef, .func (.func gf) #[] lb, v, undef, undef, undef, undef, undef], defers := [] }) ?_ ?_ ?_ ?_
  · rintro pre A B ⟨h1, h2, h3, h4, h5⟩ hA hT
    exact ⟨h1, h2.turn hT (by omega) (by omega), h3.turn hT (by omega) (by omega), h4.turn hT (by omega) (by omega), hT.below h5 (by omega) (by omega)⟩
  · rintro c pre A B ⟨rfl, pre0, x, v, h1, h2, h3, h4, h5, h6, h7⟩ hA hT
    exact ⟨rfl, pre0, x, v, h1, h2, h3, h4.turn hT (by omega) (by omega), h5.turn hT (by omega) (by omega), h6.turn hT, hT.below h7 (by omega) (by omega)⟩
  · intro W hW
    exact ⟨by simp, B0.ext hW, B1.ext hW, B2.ext hW, E3.trans hW⟩
  · intro m l v W K hK
    gi_wp2
    exact hK
  · rintro m l pre x v W ⟨h1, h2, h3, h4, h5⟩ hv hpre hlt hd hr
    have hx : x ∈ xs := by
      obtain ⟨q, hq⟩ := hpre
      rw [← hq]; simp
    have HV := Lib.hid hv; have H1 := Lib.hid h1; have H2 := Lib.hid h2; have H3 := Lib.hid h3; have H4 := Lib.hid h4; have H5 := Lib.hid h5
    have HT := Lib.hid (htest x hx v W h5 hv)
    have HX := Lib.hid (SlX.of hv hd hr)
    have c0 := h2.cell 0
    simp at c0
    clear hx hv hpre hd hr h1 h2 h3 h4 h5 B0 B1 B2 hseq htest
    obtain ⟨Av, nv, cv, rfl, hnv, -, -⟩ := HV.out.form
    gi_wp2_with fail
    refine ⟨trivial, wide_depth _, ?_⟩
    refine (CallsIn.inRound l (callsIn_wide.2 HT.out)).mono ?_
    rintro e W1 ⟨rfl, hE⟩
    have HE := Lib.hid hE
    have HX1 := Lib.hid (HX.out.ext hE)
    have HB1 := Lib.hid (H3.out.ext hE); have HB2 := Lib.hid (H4.out.ext hE)
    have e1 := HB1.out.cell 0
    have e2 := HB2.out.cell 0
    have ef := HB1.out.frozen
    have eg' := HB2.out.frozen
    have l1 := HB1.out.lt
    have l2 := HB2.out.lt
    simp at e1 e2
    clear hE
    by_cases hpx : p x = true
    · rw [hpx]
      gi_wp2
      have hw := H5.out.size
      have hs1 := HE.out.size
      refine ⟨?_, ?_, rfl, pre, x, _, rfl, hpx, H1.out, ?_, ?_, (HX1.out.set HB1.out (by intro n h; cases h) _).set (HB2.out.far (by dsimp only; omega) _) (by intro n h; cases h) _, ((H5.out.trans (HE.out.mono hw)).setCell (by dsimp only; omega) _).setCell (by dsimp only; omega) _⟩
      · rw [Below.heap_setCell _ _ _ _ (by dsimp only; omega), Below.heap_setCell _ _ _ _ (by dsimp only; omega)]; exact HE.out.block _ (by omega)
      · rw [Below.heap_setCell _ _ _ _ (by dsimp only; omega), Below.heap_setCell _ _ _ _ (by dsimp only; omega)]; exact HE.out.block _ (by omega)
      · exact (HB1.out.set_ 0 _).far (by dsimp only; omega) _
      · exact (HB2.out.far (by dsimp only; omega) _).set_ 0 _
    · have hpf : p x = false := by simpa using hpx
      rw [hpf]
      gi_wp2
      have hw := H5.out.size
      exact ⟨Keep.ext HE.out hw, HE.out.block _ (by omega), HE.out.block _ (by omega), fun y hy => by
        rcases List.mem_append.1 hy with hy | hy
        · exact H1.out y hy
        · simp at hy; subst hy; exact hpf, H2.out.ext HE.out, HB1.out, HB2.out, H5.out.trans (HE.out.mono hw)⟩
  · rintro W ⟨h1, h2, h3, h4, h5⟩ hlt hK
    have hf : xs.find? p = none := List.find?_eq_none.2 fun x hx => by rw [h1 x hx]; simp
    have HF := Lib.hid hf
    have H3 := Lib.hid h3; have H4 := Lib.hid h4; have H5 := Lib.hid h5; have HKK := Lib.hid hK
    have e1 := h3.cell 0
    have e2 := h4.cell 0
    have ef := h3.frozen
    have eg' := h4.frozen
    have l1 := h3.lt
    have l2 := h4.lt
    simp at e1 e2
    clear h1 h2 h3 h4 h5 B0 B1 B2 hf hK
    go_wp2
    have hw := H5.out.size
    have hK' : ((W.setCell ⟨w.heap.size + 1, 0, none⟩ (.slice none 0 0)).setCell ⟨w.heap.size + 1 + 1, 0, none⟩ (.bool false)).heap[w3.heap.size]? = some (.deferred (some [])) := by
      rw [Below.heap_setCell _ _ _ _ (by dsimp only; omega), Below.heap_setCell _ _ _ _ (by dsimp only; omega)]; exact HKK.out
    refine ⟨by simp, .inl ⟨_, _, rfl, run_takeDeferred hK', ?_⟩⟩
    have HBA := Lib.hid (show Blk (((W.setCell ⟨w.heap.size + 1, 0, none⟩ (.slice none 0 0)).setCell ⟨w.heap.size + 1 + 1, 0, none⟩ (.bool false)).putObj w3.heap.size (.deferred none)) (w.heap.size + 1) 55 #[.slice none 0 0] from (World.putObj_heap_other (by omega)).trans ((H3.out.set_ 0 _).far (by dsimp only; omega) _))
    have HBB := Lib.hid (show Blk (((W.setCell ⟨w.heap.size + 1, 0, none⟩ (.slice none 0 0)).setCell ⟨w.heap.size + 1 + 1, 0, none⟩ (.bool false)).putObj w3.heap.size (.deferred none)) (w.heap.size + 1 + 1) 4 #[.bool false] from (World.putObj_heap_other (by omega)).trans ((H4.out.far (by dsimp only; omega) _).set_ 0 _))
    have u0 := HBA.out.cell 0
    have u1 := HBB.out.cell 0
    simp at u0 u1
    refine ⟨.tuple #[.slice none 0 0, .bool false], by simp [results, Tryz.results60, go_sem, u0, u1], .slice none 0 0, ?_, ?_, ?_⟩
    · rw [HF.out]; rfl
    · rw [HF.out]; exact Sl.nil _
    · have hbel : Below w.heap.size w ((W.setCell ⟨w.heap.size + 1, 0, none⟩ (.slice none 0 0)).setCell ⟨w.heap.size + 1 + 1, 0, none⟩ (.bool false)) := (H5.out.setCell (by dsimp only; omega) _).setCell (by dsimp only; omega) _
      exact Turn.below hbel (Turn.put0 (s := w3.heap.size) _ _) (by omega) hbel.size
  · rintro c pre W hpre ⟨rfl, pre0, x, v, rfl, hpx, hp0, h3, h4, h5, h6⟩ hlt hK
    have hf : xs.find? p = some x := by
      obtain ⟨q, hq⟩ := hpre
      rw [List.find?_eq_some_iff_append]
      exact ⟨hpx, pre0, q, by rw [← hq]; simp, fun y hy => by rw [hp0 y hy]; rfl⟩
    have HF := Lib.hid hf
    have H3 := Lib.hid h3; have H4 := Lib.hid h4; have H5 := Lib.hid h5; have H6 := Lib.hid h6; have HKK := Lib.hid hK
    clear hp0 h3 h4 h5 h6 B0 B1 B2 hf hK hpre hpx
    go_wp2
    have hw := H6.out.size
    refine ⟨by simp, .inl ⟨_, _, rfl, run_takeDeferred HKK.out, ?_⟩⟩
    have HBA := Lib.hid (show Blk (W.putObj w3.heap.size (.deferred none)) (w.heap.size + 1) 55 #[v] from (World.putObj_heap_other (by omega)).trans H3.out)
    have HBB := Lib.hid (show Blk (W.putObj w3.heap.size (.deferred none)) (w.heap.size + 1 + 1) 4 #[.bool true] from (World.putObj_heap_other (by omega)).trans H4.out)
    have u0 := HBA.out.cell 0
    have u1 := HBB.out.cell 0
    simp at u0 u1
    refine ⟨.tuple #[v, .bool true], by simp [results, Tryz.results60, go_sem, u0, u1], v, ?_, ?_, ?_⟩
    · rw [HF.out]; rfl
    · rw [HF.out]; exact (H5.out.turn (Turn.put0 (s := w3.heap.size) _ _)).sl
    · exact Turn.below H6.out (Turn.put0 (s := w3.heap.size) _ _) (by omega) H6.out.size
end Go.Proofs.YtfhmfbhpehldpaaGreatDoor
