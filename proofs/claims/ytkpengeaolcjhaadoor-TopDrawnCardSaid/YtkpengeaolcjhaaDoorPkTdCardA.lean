/- The reference's cuts: a recursion that notes each cut in an array. -/
import Derived.Test.YtkpengeaolcjhaaDoorPkMlTellsCardL
import Derived.Test.YtkpengeaolcjhaaDoorPkMlTellsCardN
import Derived.Test.YtkpengeaolcjhaaDoorPkMlTellsCardM
import Derived.Test.YtkpengeaolcjhaaDoorPkMlTellsCardK
import Derived.DeepKeys4
import Derived.Maps.Views
import Derived.Test.YtkpengeaolcjhaaDoorPkMlTellsCardO
namespace Go.Proofs.YtkpengeaolcjhaaDoor
open Go.RowKit Go.Shelf Go.Lib
set_option maxRecDepth 100000
set_option linter.unusedSimpArgs false

abbrev marksV (m : Nat → Bool) : Array Value := #[.bool (m 0), .bool (m 1), .bool (m 2), .bool (m 3), .bool (m 4), .bool (m 5)]
def cutM (l : List Int) (i : Nat) : Bool := decide (kindR l = 2) && (decide (1 ≤ i) && (decide (i < l.length) && cutR l i))
/-- .. so far. -/
def cutTo (l : List Int) (n i : Nat) : Bool := decide (1 ≤ i) && (decide (i < n) && cutR l i)
def rcm (m : Nat → Bool) (ls : List (List Int)) : Nat → Bool := fun i => m i || ls.any fun l => cutM l i
theorem rcm_append (m : Nat → Bool) (a b : List (List Int)) : rcm m (a ++ b) = rcm (rcm m a) b := by
  funext i; unfold rcm; rw [List.any_append, Bool.or_assoc]
theorem marks_set (m : Nat → Bool) {k : Nat} (h : k < 6) : (marksV m).setIfInBounds k (.bool true) = marksV (fun i => m i || (i == k)) := by
  obtain rfl | rfl | rfl | rfl | rfl | rfl : k = 0 ∨ k = 1 ∨ k = 2 ∨ k = 3 ∨ k = 4 ∨ k = 5 := by omega
  all_goals simp [marksV]
theorem cutTo_step (l : List Int) {n : Nat} (h1 : 1 ≤ n) : cutTo l (n + 1) = fun i => cutTo l n i || (i == n && cutR l n) := by
  funext i
  unfold cutTo
  by_cases hi : i = n
  · subst hi; simp [h1]
  · by_cases hlt : i < n
    · simp [hi, hlt, show i < n + 1 by omega]
    · simp [hi, hlt, show ¬ i < n + 1 by omega]

end Go.Proofs.YtkpengeaolcjhaaDoor
/- The reference's Cut. -/
namespace Go.Proofs.YtkpengeaolcjhaaDoor
open Go.RowKit Go.Shelf Go.Lib
set_option maxRecDepth 100000
set_option linter.unusedSimpArgs false

/-- The cuts that were noted, from the last one on. -/
def dn (M : Nat → Bool) : Nat → Span
  | 0 => ⟨0, 0⟩
  | j + 1 => if M (5 - j) then ⟨((5 - j : Nat) : Int), max (dn M j).hi ((5 - j : Nat) : Int)⟩ else dn M j
def marksB (b : Bale) : Nat → Bool := rcm (fun _ => false) (exts [] (zOf (spans b)))
def rcutS (b : Bale) : Span := dn (marksB b) 5
def rcutB (b : Bale) : Span := if askE b true 0 = 0 then rcutS b else ⟨0, 0⟩
def rcutE (b : Bale) : Int := if askE b true 0 = 0 then (if (rcutS b).hi = 0 then 6 else 0) else askE b true 0

end Go.Proofs.YtkpengeaolcjhaaDoor
/- The plain law: Cut. -/
namespace Go.Proofs.YtkpengeaolcjhaaDoor
open Go.RowKit Go.Shelf
set_option linter.unusedSimpArgs false

theorem cutFold_flat (s : Span) (ls : List (List Int)) : cutFold s ls = (ls.flatMap cutsL).foldl cutStep s := by
  unfold cutFold
  induction ls generalizing s with
  | nil => rfl
  | cons l ls ih => rw [List.foldl_cons, ih, List.flatMap_cons, List.foldl_append]
theorem cutStep_fold : ∀ (ks : List Int) (s : Span), (ks.foldl cutStep s).lo ≤ s.lo ∧ s.hi ≤ (ks.foldl cutStep s).hi ∧ (∀ k ∈ ks, (ks.foldl cutStep s).lo ≤ k ∧ k ≤ (ks.foldl cutStep s).hi) ∧ ((ks.foldl cutStep s).lo = s.lo ∨ (ks.foldl cutStep s).lo ∈ ks) ∧ ((ks.foldl cutStep s).hi = s.hi ∨ (ks.foldl cutStep s).hi ∈ ks)
  | [], s => ⟨by simp, by simp, by simp, .inl rfl, .inl rfl⟩
  | k :: ks, s => by
    obtain ⟨h1, h2, h3, h4, h5⟩ := cutStep_fold ks (cutStep s k)
    rw [List.foldl_cons]
    generalize ks.foldl cutStep (cutStep s k) = r at *
    have e1 : (cutStep s k).lo = min s.lo k := rfl
    have e2 : (cutStep s k).hi = max s.hi k := rfl
    rw [e1] at h1 h4
    rw [e2] at h2 h5
    refine ⟨by omega, by omega, fun y hy => ?_, ?_, ?_⟩
    · rcases List.mem_cons.1 hy with rfl | hy
      · omega
      · exact h3 y hy
    · rcases h4 with h4 | h4
      · by_cases hk : s.lo ≤ k
        · left; omega
        · right; rw [show r.lo = k by omega]; simp
      · right; simp [h4]
    · rcases h5 with h5 | h5
      · by_cases hk : k ≤ s.hi
        · left; omega
        · right; rw [show r.hi = k by omega]; simp
      · right; simp [h5]
theorem cutsTo_mem {l : List Int} {x : Int} : ∀ m : Nat, x ∈ cutsTo l m ↔ ∃ k : Nat, k < m ∧ cutAt l k = true ∧ x = (k : Int)
  | 0 => by simp [cutsTo]
  | m + 1 => by
    rw [cutsTo, List.mem_append, cutsTo_mem m]
    constructor
    · rintro (⟨k, h1, h2, h3⟩ | h)
      · exact ⟨k, by omega, h2, h3⟩
      · split at h
        · rename_i hc
          simp at h
          exact ⟨m, by omega, hc, h⟩
        · cases h
    · rintro ⟨k, h1, h2, h3⟩
      by_cases hk : k = m
      · subst hk; right; rw [if_pos h2]; simp [h3]
      · left; exact ⟨k, by omega, h2, h3⟩
theorem cutM_iff {l : List Int} (h0 : 0 < l.length) (h : Gr l) (k : Nat) : cutM l k = true ↔ (k : Int) ∈ cutsL l := by
  unfold cutM
  rw [kindR_eq h0 h]
  cases ha : alikeL l with
  | true =>
    have h1 : kindL l = 1 := by unfold kindL; rw [ha]; rfl
    have h2 : cutsL l = [] := by unfold cutsL; rw [ha]; rfl
    rw [h1, h2]; simp
  | false =>
    have h2 : cutsL l = cutsTo l l.length := by unfold cutsL; rw [ha]; rfl
    simp only [Bool.and_eq_true, decide_eq_true_eq]
    rw [h2, cutsTo_mem]
    constructor
    · rintro ⟨-, h3, h4, h5⟩
      exact ⟨k, h4, by rw [← cut_eq h3 h4 h]; exact h5, rfl⟩
    · rintro ⟨k', h3, h4, h5⟩
      obtain rfl : k = k' := by omega
      have h1 : 1 ≤ k := by unfold cutAt at h4; simp at h4; exact h4.1
      refine ⟨?_, h1, h3, by rw [cut_eq h1 h3 h]; exact h4⟩
      unfold kindL
      rw [ha, if_neg (by simp), if_pos]
      rw [h2]
      exact cutsTo_pos _ |>.2 ⟨k, h3, h4⟩
theorem truths_gr {b : Bale} (hv : valid b = true) : ∀ l ∈ truthsB b, l.length = b.layers.toNat ∧ Gr l := by
  intro l hl
  unfold truthsB at hl
  have hB := valid_bds hv
  have hlen := spans_len b
  obtain ⟨h1, h2⟩ := truthsL_mem hl
  refine ⟨by rw [h1, List.length_zip]; have := hB.l5; simp; omega, fun n hn => ?_⟩
  obtain ⟨y, hy, h3⟩ := h2 n hn
  have := spans_bd hv y.1 (List.of_mem_zip hy).1
  omega
theorem marks_iff {b : Bale} (hv : valid b = true) (k : Nat) : marksB b k = true ↔ (k : Int) ∈ (truthsB b).flatMap cutsL := by
  have hB := valid_bds hv
  have hlen := spans_len b
  unfold marksB rcm
  rw [exts_nil, zOf_zip (by have := hB.l5; omega)]
  show (false || (truthsB b).any _) = true ↔ _
  rw [Bool.false_or, List.any_eq_true, List.mem_flatMap]
  constructor
  · rintro ⟨l, hl, h⟩
    obtain ⟨h1, h2⟩ := truths_gr hv l hl
    exact ⟨l, hl, (cutM_iff (by have := hB.l1; omega) h2 k).1 h⟩
  · rintro ⟨l, hl, h⟩
    obtain ⟨h1, h2⟩ := truths_gr hv l hl
    exact ⟨l, hl, (cutM_iff (by have := hB.l1; omega) h2 k).2 h⟩
theorem cutsL_bd {l : List Int} {x : Int} (h : x ∈ cutsL l) : ∃ k : Nat, 1 ≤ k ∧ k < l.length ∧ x = (k : Int) := by
  unfold cutsL at h
  split at h
  · cases h
  · obtain ⟨k, h1, h2, h3⟩ := (cutsTo_mem _).1 h
    refine ⟨k, ?_, h1, h3⟩
    unfold cutAt at h2; simp at h2; exact h2.1
theorem cut_law {b : Bale} (hv : valid b = true) : rcutS b = if (cutS b).hi = 0 then ⟨0, 0⟩ else cutS b := by
  have hB := valid_bds hv
  have hl5 := hB.l5
  unfold rcutS cutS
  rw [cutFold_flat]
  have hbd : ∀ x ∈ (truthsB b).flatMap cutsL, 1 ≤ x ∧ x ≤ 4 ∧ x < b.layers := by
    intro x hx
    obtain ⟨l, hl, h⟩ := List.mem_flatMap.1 hx
    obtain ⟨h1, h2⟩ := truths_gr hv l hl
    obtain ⟨k, h3, h4, h5⟩ := cutsL_bd h
    omega
  have m1 := marks_iff hv 1
  have m2 := marks_iff hv 2
  have m3 := marks_iff hv 3
  have m4 := marks_iff hv 4
  have m5 := marks_iff hv 5
  generalize (truthsB b).flatMap cutsL = ks at *
  generalize marksB b = M at *
  obtain ⟨h1, h2, h3, h4, h5⟩ := cutStep_fold ks ⟨b.layers, 0⟩
  generalize ks.foldl cutStep ⟨b.layers, 0⟩ = r at *
  obtain ⟨lo, hi⟩ := r
  dsimp only at h1 h2 h3 h4 h5 ⊢
  have q5 : M 5 = false := by
    cases h : M 5
    · rfl
    · have := hbd _ (m5.1 h); simp at this
  have lo_m : lo ∈ ks → lo = 1 ∧ M 1 = true ∨ lo = 2 ∧ M 2 = true ∨ lo = 3 ∧ M 3 = true ∨ lo = 4 ∧ M 4 = true := by
    intro h
    have := hbd _ h
    have hc : lo = 1 ∨ lo = 2 ∨ lo = 3 ∨ lo = 4 := by omega
    rcases hc with e | e | e | e <;> subst e
    · exact .inl ⟨rfl, m1.2 h⟩
    · exact .inr (.inl ⟨rfl, m2.2 h⟩)
    · exact .inr (.inr (.inl ⟨rfl, m3.2 h⟩))
    · exact .inr (.inr (.inr ⟨rfl, m4.2 h⟩))
  have hi_m : hi ∈ ks → hi = 1 ∧ M 1 = true ∨ hi = 2 ∧ M 2 = true ∨ hi = 3 ∧ M 3 = true ∨ hi = 4 ∧ M 4 = true := by
    intro h
    have := hbd _ h
    have hc : hi = 1 ∨ hi = 2 ∨ hi = 3 ∨ hi = 4 := by omega
    rcases hc with e | e | e | e <;> subst e
    · exact .inl ⟨rfl, m1.2 h⟩
    · exact .inr (.inl ⟨rfl, m2.2 h⟩)
    · exact .inr (.inr (.inl ⟨rfl, m3.2 h⟩))
    · exact .inr (.inr (.inr ⟨rfl, m4.2 h⟩))
  have b1 : M 1 = true → lo ≤ 1 ∧ 1 ≤ hi ∧ 1 < b.layers := fun h => ⟨(h3 _ (m1.1 h)).1, (h3 _ (m1.1 h)).2, (hbd _ (m1.1 h)).2.2⟩
  have b2 : M 2 = true → lo ≤ 2 ∧ 2 ≤ hi ∧ 2 < b.layers := fun h => ⟨(h3 _ (m2.1 h)).1, (h3 _ (m2.1 h)).2, (hbd _ (m2.1 h)).2.2⟩
  have b3 : M 3 = true → lo ≤ 3 ∧ 3 ≤ hi ∧ 3 < b.layers := fun h => ⟨(h3 _ (m3.1 h)).1, (h3 _ (m3.1 h)).2, (hbd _ (m3.1 h)).2.2⟩
  have b4 : M 4 = true → lo ≤ 4 ∧ 4 ≤ hi ∧ 4 < b.layers := fun h => ⟨(h3 _ (m4.1 h)).1, (h3 _ (m4.1 h)).2, (hbd _ (m4.1 h)).2.2⟩
  have lo2 : lo = b.layers ∨ (lo = 1 ∧ M 1 = true ∨ lo = 2 ∧ M 2 = true ∨ lo = 3 ∧ M 3 = true ∨ lo = 4 ∧ M 4 = true) := h4.imp id lo_m
  have hi2 : hi = 0 ∨ (hi = 1 ∧ M 1 = true ∨ hi = 2 ∧ M 2 = true ∨ hi = 3 ∧ M 3 = true ∨ hi = 4 ∧ M 4 = true) := h5.imp id hi_m
  clear h3 h4 h5 lo_m hi_m m1 m2 m3 m4 m5 hbd
  simp only [dn]
  rw [show 5 - 0 = 5 from rfl, show 5 - 1 = 4 from rfl, show 5 - 2 = 3 from rfl, show 5 - 3 = 2 from rfl, show 5 - 4 = 1 from rfl, q5]
  cases e1 : M 1 <;> cases e2 : M 2 <;> cases e3 : M 3 <;> cases e4 : M 4 <;> simp only [e1, e2, e3, e4] at b1 b2 b3 b4 lo2 hi2 <;> simp at b1 b2 b3 b4 lo2 hi2 ⊢ <;> (try split) <;> (try simp only [Span.mk.injEq]) <;> omega
theorem cut_same (b : Bale) : rcutB b = cutB b ∧ rcutE b = cutE b := by
  unfold rcutB cutB rcutE cutE
  by_cases hz : askE b true 0 = 0
  · obtain ⟨h1, h3⟩ : valid b = true ∧ okB b = true := by
      unfold askE at hz
      split at hz
      · simp at hz; exact ⟨by assumption, hz⟩
      · cases hz
    rw [if_pos hz, if_pos hz, if_pos hz, if_pos hz, cut_law h1]
    refine ⟨rfl, ?_⟩
    by_cases h0 : (cutS b).hi = 0
    · simp [h0]
    · simp [h0]
  · simp [hz]
end Go.Proofs.YtkpengeaolcjhaaDoor
/- The plain law of CoreTruth: what holds of each truth of a bale. -/
namespace Go.Proofs.YtkpengeaolcjhaaDoor
open Go.RowKit Go.Shelf Go.Lib
set_option maxRecDepth 100000
set_option linter.unusedSimpArgs false

theorem rise_lt : ∀ (l : List Int) (last : Int), risingB last l = true → l.Pairwise (· < ·) ∧ ∀ n ∈ l, last < n
  | [], _, _ => ⟨.nil, by simp⟩
  | n :: l, last, h => by
    unfold risingB inB at h
    simp only [Bool.and_eq_true, decide_eq_true_eq] at h
    obtain ⟨h1, h2⟩ := rise_lt l n h.2
    refine ⟨List.Pairwise.cons h2 h1, fun m hm => ?_⟩
    rcases List.mem_cons.1 hm with rfl | hm
    · omega
    · have := h2 m hm; omega
theorem rise_of : ∀ (l : List Int) (last : Int), l.Pairwise (· < ·) → (∀ n ∈ l, last < n ∧ n ≤ 9999) → risingB last l = true
  | [], _, _, _ => rfl
  | n :: l, last, h, hb => by
    rw [List.pairwise_cons] at h
    unfold risingB inB
    simp only [Bool.and_eq_true, decide_eq_true_eq]
    have h1 := hb n (by simp)
    exact ⟨by omega, rise_of l n h.2 fun m hm => ⟨h.1 m hm, (hb m (by simp [hm])).2⟩⟩
/-- The grade of a layer, by choices. -/
def pickN (s : Span) (c : List Int) (i : Nat) : Int := if c.length = 0 then s.lo else s.lo + (c[i % c.length]?).getD 0 % (s.hi - s.lo + 1)
def chosenL (b : Bale) (c : List Int) : List Int := (List.range b.layers.toNat).map fun (i : Nat) => pickN (spanAt b.draws (i : Int)) c i
theorem pick_in {s : Span} (h : s.lo ≤ s.hi) (c : List Int) (i : Nat) : s.lo ≤ pickN s c i ∧ pickN s c i ≤ s.hi := by
  unfold pickN
  split
  · omega
  · have h1 := Int.emod_nonneg ((c[i % c.length]?).getD 0) (show s.hi - s.lo + 1 ≠ 0 by omega)
    have h2 := Int.emod_lt_of_pos ((c[i % c.length]?).getD 0) (show 0 < s.hi - s.lo + 1 by omega)
    omega
theorem spans_get {b : Bale} {i : Nat} (h : i < b.layers.toNat) : (spans b)[i]? = some (spanAt b.draws (i : Int)) := by
  unfold spans spansTo
  rw [List.getElem?_map, List.getElem?_range h]
  rfl
theorem grown_at {b : Bale} (h : grown (spans b) = true) : ∀ x ∈ spans b, x.lo ≤ x.hi := by
  unfold grown at h
  rw [List.all_eq_true] at h
  intro x hx
  simpa [okS] using h x hx
theorem ok_grown {b : Bale} (h : okB b = true) : grown (spans b) = true := by
  unfold okB at h
  simp only [Bool.and_eq_true] at h
  exact h.1
theorem spans5 {b : Bale} (hv : valid b = true) : (spans b).length ≤ 5 ∧ 0 < (spans b).length ∧ (spans b).length = b.layers.toNat := by
  have hB := valid_bds hv
  have hl := spans_len b
  have := hB.l1; have := hB.l5
  omega
theorem truth_iff {b : Bale} (hv : valid b = true) (t : List Int) : t ∈ truthsB b ↔ t.length = b.layers.toNat ∧ ∀ (i : Nat) x, (spans b)[i]? = some x → ∃ n, (x.lo ≤ n ∧ n ≤ x.hi) ∧ t[i]? = some n := by
  unfold truthsB
  rw [truths_mem (spans5 hv).1, (spans5 hv).2.2]
theorem chosen_mem {b : Bale} (hv : valid b = true) (hg : grown (spans b) = true) (c : List Int) : chosenL b c ∈ truthsB b := by
  rw [truth_iff hv]
  refine ⟨by unfold chosenL; simp, fun i x hx => ?_⟩
  have hi : i < b.layers.toNat := by have := (List.getElem?_eq_some_iff.1 hx).1; rw [(spans5 hv).2.2] at this; exact this
  have hx2 := hx
  rw [spans_get hi] at hx
  injection hx with hx
  subst hx
  have hlh := grown_at hg _ (List.mem_of_getElem? hx2)
  exact ⟨_, pick_in hlh c i, by unfold chosenL; rw [List.getElem?_map, List.getElem?_range hi]; rfl⟩
theorem ask_ok {b : Bale} (hv : valid b = true) (ho : okB b = true) (e : Int) : askE b true e = 0 := by
  unfold askE; rw [hv, ho]; rfl
theorem layer_ok {b : Bale} (hv : valid b = true) (ho : okB b = true) {i : Nat} (hi : i < b.layers.toNat) : layerB b (inB 0 (b.layers - 1) (i : Int)) (i : Int) = spanAt b.draws (i : Int) ∧ inB 0 (b.layers - 1) (i : Int) = true := by
  have h1 : inB 0 (b.layers - 1) (i : Int) = true := by unfold inB; simp; omega
  rw [h1]
  refine ⟨?_, rfl⟩
  unfold layerB
  rw [ask_ok hv ho, if_pos rfl, Int.toNat_natCast, spans_get hi]
  rfl
theorem truth_layer {b : Bale} (hv : valid b = true) {t : List Int} (ht : t ∈ truthsB b) {i : Nat} (hi : i < b.layers.toNat) : ∃ n, t[i]? = some n ∧ (spanAt b.draws (i : Int)).lo ≤ n ∧ n ≤ (spanAt b.draws (i : Int)).hi := by
  obtain ⟨n, h1, h2⟩ := ((truth_iff hv t).1 ht).2 i _ (spans_get hi)
  exact ⟨n, h2, h1.1, h1.2⟩

/-! The kinds. -/
theorem kind_in {b : Bale} {t : List Int} (ht : t ∈ truthsB b) : (kindS b).has (kindL t) = true := by
  obtain ⟨h1, h2, h3, h4⟩ := kindsOf_iff (truthsB b)
  have hb := kindL_bd t
  have hk : kindL t = 1 ∨ kindL t = 2 ∨ kindL t = 3 ∨ kindL t = 4 := by omega
  unfold S4.has kindS
  rcases hk with e | e | e | e
  · have := h1.2 ⟨t, ht, e⟩; unfold truthsB at this; rw [e, this]; rfl
  · have := h2.2 ⟨t, ht, e⟩; unfold truthsB at this; rw [e, this]; simp
  · have := h3.2 ⟨t, ht, e⟩; unfold truthsB at this; rw [e, this]; simp
  · have := h4.2 ⟨t, ht, e⟩; unfold truthsB at this; rw [e, this]; simp
theorem has2_iff {b : Bale} : (kindS b).has 2 = true ↔ ∃ t ∈ truthsB b, kindL t = 2 := by
  have h2 := (kindsOf_iff (truthsB b)).2.1
  rw [← h2]
  unfold S4.has kindS truthsB
  simp
theorem kindB_ok {b : Bale} (hv : valid b = true) (ho : okB b = true) {k : Int} (h1 : 1 ≤ k) (h4 : k ≤ 4) : kindB b k = kindK (kindS b) k ∧ inB 1 4 k = true := by
  have h : inB 1 4 k = true := by unfold inB; simp; omega
  refine ⟨?_, h⟩
  unfold kindB
  rw [h, ask_ok hv ho, if_pos rfl]
/-- How many kinds are sure, and how many may be, of those up to n. -/
def sureN (s : S4) : Nat → Int
  | 0 => 0
  | n + 1 => sureN s n + (if kindK s ((n : Int) + 1) = 2 then 1 else 0)
def mayN (s : S4) : Nat → Int
  | 0 => 0
  | n + 1 => mayN s n + (if kindK s ((n : Int) + 1) = 0 then 0 else 1)
theorem kind_own {s : S4} {own k : Int} (h : s.has own = true) (h1 : 1 ≤ k) (h4 : k ≤ 4) : (k = own → kindK s k ≠ 0) ∧ (k ≠ own → kindK s k ≠ 2) := by
  have hb : own = 1 ∨ own = 2 ∨ own = 3 ∨ own = 4 := by
    unfold S4.has at h
    simp at h
    omega
  have hk : k = 1 ∨ k = 2 ∨ k = 3 ∨ k = 4 := by omega
  obtain ⟨a, b, c, d⟩ := s
  rcases hb with rfl | rfl | rfl | rfl <;> rcases hk with rfl | rfl | rfl | rfl <;> revert h <;> cases a <;> cases b <;> cases c <;> cases d <;> decide
theorem sure_may {s : S4} {own : Int} (h : s.has own = true) : mayN s 4 ≠ 0 ∧ (sureN s 4 = 1 ↔ mayN s 4 = 1) ∧ sureN s 4 ≤ 1 := by
  have hb : own = 1 ∨ own = 2 ∨ own = 3 ∨ own = 4 := by
    unfold S4.has at h
    simp at h
    omega
  obtain ⟨a, b, c, d⟩ := s
  rcases hb with rfl | rfl | rfl | rfl <;> revert h <;> cases a <;> cases b <;> cases c <;> cases d <;> decide
theorem sureN_bd (s : S4) : ∀ n, 0 ≤ sureN s n ∧ sureN s n ≤ n
  | 0 => by simp [sureN]
  | n + 1 => by have := sureN_bd s n; unfold sureN; split <;> omega
theorem mayN_bd (s : S4) : ∀ n, 0 ≤ mayN s n ∧ mayN s n ≤ n
  | 0 => by simp [mayN]
  | n + 1 => by have := mayN_bd s n; unfold mayN; split <;> omega
theorem kindK_bd (s : S4) (k : Int) : kindK s k = 0 ∨ kindK s k = 1 ∨ kindK s k = 2 := by
  unfold kindK; split
  · split <;> simp
  · simp

/-! The ends. -/
theorem ends_fold (f : Int → Int → Int) : ∀ (l : List Span) (s : Span), l.foldl (endStep f) s = ⟨(l.map (·.lo)).foldl f s.lo, (l.map (·.hi)).foldl f s.hi⟩
  | [], s => rfl
  | x :: l, s => by rw [List.foldl_cons, ends_fold f l]; rfl
theorem ends_min {l : List Span} (h0 : 0 < l.length) : endsOf min l = ⟨mins (l.map (·.lo)), mins (l.map (·.hi))⟩ := by
  unfold endsOf mins
  rw [ends_fold]
  simp [List.getElem?_eq_getElem h0]
theorem ends_max {l : List Span} (h0 : 0 < l.length) : endsOf max l = ⟨maxs (l.map (·.lo)), maxs (l.map (·.hi))⟩ := by
  unfold endsOf maxs
  rw [ends_fold]
  simp [List.getElem?_eq_getElem h0]
theorem mins_le {l : List Int} : ∀ y ∈ l, mins l ≤ y := (foldl_min_le l _).2
theorem maxs_ge {l : List Int} : ∀ y ∈ l, y ≤ maxs l := (foldl_max_ge l _).2
theorem ends_law {b : Bale} (hv : valid b = true) (ho : okB b = true) {t : List Int} (ht : t ∈ truthsB b) :
    ((endsB min b).lo ≤ t.foldl min 9 ∧ t.foldl min 9 ≤ (endsB min b).hi) ∧ ((endsB max b).lo ≤ t.foldl max 1 ∧ t.foldl max 1 ≤ (endsB max b).hi) ∧ (endsB min b).hi ≤ (endsB max b).hi ∧ (endsB min b).lo ≤ (endsB max b).lo := by
  obtain ⟨h5, h0, hl⟩ := spans5 hv
  have hgr := truths_gr hv t ht
  have ht0 : 0 < t.length := by have := hgr.1; omega
  have hM := (truth_iff hv t).1 ht
  unfold endsB
  rw [ask_ok hv ho, if_pos rfl, if_pos rfl, ends_min h0, ends_max h0]
  rw [max_eq ht0 (fun y hy => (hgr.2 y hy).1), min_eq ht0 (fun y hy => (hgr.2 y hy).2)]
  dsimp only
  have at_t : ∀ x ∈ t, ∃ s ∈ spans b, s.lo ≤ x ∧ x ≤ s.hi := fun x hx => by
    obtain ⟨i, hi, rfl⟩ := List.mem_iff_getElem.1 hx
    have hi2 : i < (spans b).length := by rw [hl]; have := hgr.1; omega
    obtain ⟨n, h1, h2⟩ := hM.2 i _ (List.getElem?_eq_getElem hi2)
    rw [List.getElem?_eq_getElem hi] at h2
    injection h2 with h2
    exact ⟨_, List.getElem_mem hi2, by rw [h2]; exact h1⟩
  have at_s : ∀ s ∈ spans b, ∃ x ∈ t, s.lo ≤ x ∧ x ≤ s.hi := fun s hs => by
    obtain ⟨i, hi, rfl⟩ := List.mem_iff_getElem.1 hs
    obtain ⟨n, h1, h2⟩ := hM.2 i _ (List.getElem?_eq_getElem hi)
    exact ⟨n, List.mem_of_getElem? h2, h1⟩
  have hmn := mins_mem ht0
  have hmx := maxs_mem ht0
  have hlo0 : 0 < ((spans b).map (·.lo)).length := by simpa using h0
  have hhi0 : 0 < ((spans b).map (·.hi)).length := by simpa using h0
  obtain ⟨a, ha, ha2⟩ := List.mem_map.1 (mins_mem hlo0)
  obtain ⟨c, hc, hc2⟩ := List.mem_map.1 (mins_mem hhi0)
  obtain ⟨d, hd, hd2⟩ := List.mem_map.1 (maxs_mem hlo0)
  obtain ⟨e, he, he2⟩ := List.mem_map.1 (maxs_mem hhi0)
  obtain ⟨s1, hs1, g1⟩ := at_t _ hmn
  obtain ⟨s2, hs2, g2⟩ := at_t _ hmx
  obtain ⟨x1, hx1, g3⟩ := at_s c hc
  obtain ⟨x2, hx2, g4⟩ := at_s d hd
  have k1 := mins_le _ (List.mem_map_of_mem (f := (·.lo)) hs1)
  have k2 := mins_le _ hx1
  have k3 := maxs_ge _ hx2
  have k4 := maxs_ge _ (List.mem_map_of_mem (f := (·.hi)) hs2)
  have k5 := maxs_ge _ (List.mem_map_of_mem (f := (·.hi)) hc)
  have k6 := maxs_ge _ (List.mem_map_of_mem (f := (·.lo)) ha)
  exact ⟨⟨by omega, by omega⟩, ⟨by omega, by omega⟩, by omega, by omega⟩

/-! The cuts. -/
theorem kind2_iff (t : List Int) : kindL t = 2 ↔ 0 < (cutsL t).length := by
  unfold kindL
  by_cases ha : alikeL t = true
  · rw [if_pos ha]
    unfold cutsL
    rw [if_pos ha]
    simp
  · rw [if_neg ha]
    split
    · simp_all
    · split <;> simp_all
theorem cut_hi {b : Bale} : (cutS b).hi ≠ 0 ↔ ∃ t ∈ truthsB b, kindL t = 2 := by
  unfold cutS
  rw [cutFold_flat]
  obtain ⟨h1, h2, h3, h4, h5⟩ := cutStep_fold ((truthsB b).flatMap cutsL) ⟨b.layers, 0⟩
  have hpos : ∀ k ∈ (truthsB b).flatMap cutsL, 1 ≤ k := fun k hk => by
    obtain ⟨t, _, h⟩ := List.mem_flatMap.1 hk
    obtain ⟨j, hj, _, e⟩ := cutsL_bd h
    omega
  constructor
  · intro h
    rcases h5 with e | e
    · exact absurd e h
    · obtain ⟨t, ht, h⟩ := List.mem_flatMap.1 e
      exact ⟨t, ht, (kind2_iff t).2 (List.length_pos_of_mem h)⟩
  · rintro ⟨t, ht, h⟩
    rw [kind2_iff] at h
    obtain ⟨k, hk⟩ := List.exists_mem_of_length_pos h
    have hm := List.mem_flatMap.2 ⟨t, ht, hk⟩
    have := h3 k hm
    have := hpos k hm
    omega
theorem cutE_ok {b : Bale} (hv : valid b = true) (ho : okB b = true) : (cutE b = 0 ∨ cutE b = 6) ∧ (cutE b = 0 ↔ kindK (kindS b) 2 ≠ 0) := by
  have h : kindK (kindS b) 2 ≠ 0 ↔ (cutS b).hi ≠ 0 := by
    rw [cut_hi, ← has2_iff]
    unfold kindK
    cases hh : (kindS b).has 2
    · simp
    · simp only [if_true]
      split <;> simp
  unfold cutE
  rw [ask_ok hv ho, if_pos rfl, h]
  split <;> simp_all
theorem cut_in {b : Bale} (hv : valid b = true) (ho : okB b = true) {t : List Int} (ht : t ∈ truthsB b) {k : Nat} (h1 : 1 ≤ k) (hk : k < t.length) (ha : alikeL t = false) (hl : alikeL (t.take k) = true) (hr : alikeL (t.drop k) = true) :
    (cutB b).lo ≤ k ∧ k ≤ (cutB b).hi := by
  have hm : (k : Int) ∈ cutsL t := by
    unfold cutsL
    rw [ha]
    refine (cutsTo_mem t.length).2 ⟨k, hk, ?_, rfl⟩
    unfold cutAt
    rw [hl, hr]
    simpa using h1
  have hin := List.mem_flatMap.2 ⟨t, ht, hm⟩
  have hh : (cutS b).hi ≠ 0 := cut_hi.2 ⟨t, ht, (kind2_iff t).2 (List.length_pos_of_mem hm)⟩
  unfold cutB
  rw [ask_ok hv ho, if_pos rfl, if_neg hh]
  unfold cutS
  rw [cutFold_flat]
  exact (cutStep_fold ((truthsB b).flatMap cutsL) ⟨b.layers, 0⟩).2.2.1 _ hin
theorem kind1_iff {t : List Int} : kindL t = 1 ↔ alikeL t = true := by
  unfold kindL
  by_cases ha : alikeL t = true
  · rw [if_pos ha]; simp [ha]
  · rw [if_neg ha]
    constructor
    · intro h
      split at h
      · cases h
      · split at h <;> cases h
    · intro h; exact absurd h ha
end Go.Proofs.YtkpengeaolcjhaaDoor
/- The plain law of bales with one draw of each layer. -/
namespace Go.Proofs.YtkpengeaolcjhaaDoor
open Go.RowKit Go.Shelf Go.Lib
set_option maxRecDepth 100000
set_option linter.unusedSimpArgs false

/-- One draw of each layer, that shows a span. -/
def layD (f : Nat → Span) (n : Nat) : List Draw := (List.range n).map fun (j : Nat) => ⟨(j : Int) + 1, (j : Int), f j⟩
def layB (b : Bale) (f : Nat → Span) : Bale := ⟨b.id, b.layers, b.dry, layD f b.layers.toNat, b.weighs⟩
theorem layD_succ (f : Nat → Span) (n : Nat) : layD f (n + 1) = layD f n ++ [⟨(n : Int) + 1, (n : Int), f n⟩] := by
  unfold layD; rw [List.range_succ, List.map_append]; rfl
theorem layD_len (f : Nat → Span) (n : Nat) : (layD f n).length = n := by unfold layD; simp
theorem layD_at {f : Nat → Span} {n i : Nat} (h : i < n) : (layD f n)[i]? = some ⟨(i : Int) + 1, (i : Int), f i⟩ := by
  unfold layD; rw [List.getElem?_map, List.getElem?_range h]; rfl
theorem span_lay (f : Nat → Span) (i : Nat) : ∀ k : Nat, (layD f k).foldl (spanStep (i : Int)) ⟨1, 9⟩ = if i < k then ⟨max 1 (f i).lo, min 9 (f i).hi⟩ else ⟨1, 9⟩
  | 0 => rfl
  | k + 1 => by
    rw [layD_succ, List.foldl_append, span_lay f i k, List.foldl_cons, List.foldl_nil]
    unfold spanStep
    dsimp only
    by_cases h : i < k
    · rw [if_pos h, if_neg (by omega), if_pos (by omega)]
    · rw [if_neg h]
      by_cases e : i = k
      · subst e; simp
      · rw [if_neg (by omega), if_neg (by omega)]
/-- Spans that grades can have. -/
def FitS (f : Nat → Span) (n : Nat) : Prop := ∀ i, i < n → 1 ≤ (f i).lo ∧ (f i).lo ≤ (f i).hi ∧ (f i).hi ≤ 9
theorem lay_at {b : Bale} {f : Nat → Span} (hf : FitS f b.layers.toNat) {i : Nat} (hi : i < b.layers.toNat) : spanAt (layB b f).draws (i : Int) = f i := by
  unfold spanAt layB
  dsimp only
  rw [span_lay, if_pos hi]
  have := hf i hi
  rw [show max 1 (f i).lo = (f i).lo by omega, show min 9 (f i).hi = (f i).hi by omega]
theorem lay_spans {b : Bale} {f : Nat → Span} (hf : FitS f b.layers.toNat) : spans (layB b f) = (List.range b.layers.toNat).map f := by
  unfold spans spansTo
  refine List.map_congr_left fun i hi => ?_
  exact lay_at hf (List.mem_range.1 hi)
theorem lay_dries (b : Bale) (f : Nat → Span) : dries (layB b f) = dries b := rfl
theorem lay_valid {b : Bale} {f : Nat → Span} (h1 : chk1 b = true) (hw : b.weighs.length ≤ 8 ∧ risingB 0 (b.weighs.map (·.number)) = true ∧ b.weighs.any badW = false) (hf : FitS f b.layers.toNat) : valid (layB b f) = true := by
  have hl := chk1_layers h1
  unfold valid
  simp only [Bool.and_eq_true]
  refine ⟨h1, ?_, ?_, ?_⟩
  · unfold chk2
    simp only [Bool.and_eq_true, decide_eq_true_eq]
    refine ⟨⟨⟨?_, ?_⟩, ?_⟩, hw.2.1⟩
    · show ((layD f b.layers.toNat).length : Int) ≤ 10
      rw [layD_len]; omega
    · have := hw.1
      show (b.weighs.length : Int) ≤ 8
      omega
    · refine rise_of _ _ ?_ ?_
      · show ((layD f b.layers.toNat).map (·.number)).Pairwise (· < ·)
        unfold layD
        rw [List.map_map, List.pairwise_map]
        exact List.pairwise_lt_range.imp fun h => by simp; omega
      · intro n hn
        obtain ⟨x, hx, rfl⟩ := List.mem_map.1 hn
        obtain ⟨j, hj, rfl⟩ := List.mem_map.1 (show x ∈ layD f b.layers.toNat from hx)
        rw [List.mem_range] at hj
        dsimp only
        omega
  · simp only [Bool.not_eq_true', List.any_eq_false]
    intro x hx
    obtain ⟨j, hj, rfl⟩ := List.mem_map.1 (show x ∈ layD f b.layers.toNat from hx)
    rw [List.mem_range] at hj
    have := hf j hj
    have e1 : inB 0 ((layB b f).layers - 1) (j : Int) = true := by unfold inB layB; simp; omega
    have e2 : rightB (f j).lo (f j).hi 1 9 = true := by unfold rightB inB; simp; omega
    unfold badD
    dsimp only
    rw [e1, e2]
    decide
  · rw [show (layB b f).weighs = b.weighs from rfl, hw.2.2]; rfl
theorem weighs_ok {b : Bale} (hv : valid b = true) : chk1 b = true ∧ b.weighs.length ≤ 8 ∧ risingB 0 (b.weighs.map (·.number)) = true ∧ b.weighs.any badW = false := by
  have hB := valid_bds hv
  have h := hv
  unfold valid chk2 at h
  simp only [Bool.and_eq_true, Bool.not_eq_true'] at h
  exact ⟨h.1, hB.nw, h.2.1.2, h.2.2.2⟩
theorem lay_ok {b : Bale} {f : Nat → Span} (hd : 0 < (dries b).length) (hf : FitS f b.layers.toNat) : okB (layB b f) = true := by
  unfold okB grown
  simp only [Bool.and_eq_true, List.all_eq_true]
  refine ⟨fun x hx => ?_, ?_⟩
  · rw [lay_spans hf] at hx
    obtain ⟨i, hi, rfl⟩ := List.mem_map.1 hx
    have := hf i (List.mem_range.1 hi)
    simp [okS]; omega
  · rw [lay_dries]
    cases h : dries b with
    | nil => rw [h] at hd; cases hd
    | cons => rfl

/-! All layers are shown. -/
theorem truthsG_ones : ∀ g : List Int, truthsG (g.map fun n => [n]) = [g]
  | [] => rfl
  | n :: g => by
    rw [List.map_cons]
    unfold truthsG
    rw [truthsG_ones g]
    rfl
theorem zip_pins : ∀ (g z : List Int), g.length ≤ z.length → (∀ x ∈ z, x = 0) → ((g.map fun n => (⟨n, n⟩ : Span)).zip z).map (fun y => gradesOf y.1 y.2) = g.map fun n => [n]
  | [], _, _, _ => rfl
  | n :: g, [], h, _ => by simp at h
  | n :: g, x :: z, h, hz => by
    have hx := hz x (by simp)
    subst hx
    rw [List.map_cons, List.zip_cons_cons, List.map_cons, grades_pin, zip_pins g z (by simpa using h) fun y hy => hz y (by simp [hy])]
    rfl
theorem truths_pins {g : List Int} (h : g.length ≤ 5) : truthsL ((g.map fun n => (⟨n, n⟩ : Span)).zip [0, 0, 0, 0, 0]) = [g] := by
  rw [truthsL_G, zip_pins g _ (by simpa using h) (by simp), truthsG_ones]
end Go.Proofs.YtkpengeaolcjhaaDoor
/- A map whose keys are five numbers each, as a function from lists. -/
namespace Go.Proofs.YtkpengeaolcjhaaDoor
open Go.RowKit Go.Shelf
set_option maxRecDepth 100000
set_option linter.unusedSimpArgs false

theorem mg_laid : laidOutB Tryd.prog = true := by kernel_rfl
theorem mg_row : (153 : TypeId) < Tryd.prog.types.size := of_decide_eq_true (by kernel_rfl)
theorem mg_wide : (match Tryd.prog.underlying 153 with | some (.array _ _) | some (.struct _) => true | _ => false) = true := by rw [Tryd.underlying153]
theorem mg_law : Maps.Keyed Tryd.prog 153 := Maps.Keyed.of_law (deep_law_laid mg_laid (m := 2) (by omega) mg_row (by kernel_rfl) mg_wide)
theorem mg_key : Tryd.prog.keyType 153 = true := by kernel_rfl
theorem mg_cells : Tryd.prog.cellsOf 153 = 5 := by kernel_rfl
theorem mg_cell : Tryd.prog.cellsOf 3 = 1 := by kernel_rfl
theorem mg_types : ∃ n, Tryd.prog.types.size + 1 = n + 2 := ⟨Tryd.prog.types.size - 1, by have h : 0 < Tryd.prog.types.size := Nat.lt_of_le_of_lt (Nat.zero_le _) mg_row; omega⟩

def agg5 (l : List Int) : Value := .agg (l.map (Value.int .i64)).toArray
def K5 (l : List Int) : Prop := l.length = 5 ∧ ∀ n ∈ l, 0 ≤ n ∧ n ≤ 9
theorem agg5_inj {l l' : List Int} (h : agg5 l = agg5 l') : l = l' := by
  unfold agg5 at h
  injection h with h
  have h2 := congrArg Array.toList h
  simp only at h2
  exact (List.map_inj_right (fun a b e => by injection e)).1 h2
theorem small_wf {n : Int} (h : 0 ≤ n ∧ n ≤ 9) : (Lit.int .i64 n).wf = true := by
  have : n = 0 ∨ n = 1 ∨ n = 2 ∨ n = 3 ∨ n = 4 ∨ n = 5 ∨ n = 6 ∨ n = 7 ∨ n = 8 ∨ n = 9 := by omega
  rcases this with rfl | rfl | rfl | rfl | rfl | rfl | rfl | rfl | rfl | rfl <;> decide
theorem lits_one (n : Nat) {a : Int} (h : (Lit.int .i64 a).wf = true) : Tryd.prog.keyLits (n + 1) 3 [.int .i64 a] = some [.int .i64 a] := by
  unfold Program.keyLits
  rw [Tryd.underlying3]
  simp only [h, and_self, if_true]
theorem lits_five (n : Nat) {a b c d e : Int} (wa : (Lit.int .i64 a).wf = true) (wb : (Lit.int .i64 b).wf = true) (wc : (Lit.int .i64 c).wf = true) (wd : (Lit.int .i64 d).wf = true) (we : (Lit.int .i64 e).wf = true) :
    Tryd.prog.keyLits (n + 2) 153 [.int .i64 a, .int .i64 b, .int .i64 c, .int .i64 d, .int .i64 e] = some [.int .i64 a, .int .i64 b, .int .i64 c, .int .i64 d, .int .i64 e] := by
  unfold Program.keyLits
  rw [Tryd.underlying153]
  have hr : List.range 5 = [0, 1, 2, 3, 4] := by decide
  simp only [mg_cells, mg_cell, List.length_cons, List.length_nil, Nat.zero_add, Nat.reduceAdd, if_true, hr, List.mapM_cons, List.mapM_nil, Nat.mul_one, List.drop_zero, List.drop_succ_cons, List.take_succ_cons, List.take_zero, lits_one n wa, lits_one n wb, lits_one n wc, lits_one n wd, lits_one n we, Option.bind_eq_bind, Option.bind_some, Option.pure_def, Option.map_some, List.flatten_cons, List.flatten_nil, List.cons_append, List.nil_append]
theorem key_some {l : List Int} (h : K5 l) : ∃ kl, keyOf Tryd.prog 153 (agg5 l) = some kl := by
  obtain ⟨hl, hb⟩ := h
  match l, hl with
  | [a, b, c, d, e], _ =>
    obtain ⟨n, hn⟩ := mg_types
    have wa := small_wf (hb a (by simp))
    have wb := small_wf (hb b (by simp))
    have wc := small_wf (hb c (by simp))
    have wd := small_wf (hb d (by simp))
    have we := small_wf (hb e (by simp))
    refine ⟨.string (keyBytes [.int .i64 a, .int .i64 b, .int .i64 c, .int .i64 d, .int .i64 e]), ?_⟩
    have hf : (agg5 [a, b, c, d, e]).formed Tryd.prog 153 = true := by
      unfold agg5 Value.formed
      simp only [Tryd.underlying153, mg_cells]
      rfl
    unfold keyOf
    rw [Tryd.underlying153]
    simp only [mg_key, hf, Bool.and_self, if_true, hn]
    show (Program.keyLits Tryd.prog (n + 2) 153 [.int .i64 a, .int .i64 b, .int .i64 c, .int .i64 d, .int .i64 e]).map _ = _
    rw [lits_five n wa wb wc wd we]
    rfl

def MapG (W : World) (m n : Nat) (g : List Int → Option Int) : Prop :=
  ∃ D : DataW Unit, W.ownsMap Tryd.prog 153 (plainElem Tryd.prog 3) m n D ∧ ∀ l, K5 l → ∀ kl, keyOf Tryd.prog 153 (agg5 l) = some kl → Maps.has D kl = (g l).isSome ∧ ∀ v, g l = some v → ∀ z, D.atKey kl z = .lit (.int .i64 v)
theorem MapG.made (w : World) : MapG (w.alloc (.map #[] 0)) w.heap.size 0 (fun _ => none) :=
  ⟨.map [], World.ownsMap_made w _ _ _, fun l _ kl _ => ⟨rfl, fun v h => by cases h⟩⟩
theorem MapG.lt {W : World} {m n : Nat} {g : List Int → Option Int} (h : MapG W m n g) : m < W.heap.size := by
  obtain ⟨D, h, _⟩ := h
  exact World.ownsMap.lt h
theorem MapG.at_ {W W' : World} {m n : Nat} {g : List Int → Option Int} (h : MapG W m n g) (e : W'.heap[m]? = W.heap[m]?) : MapG W' m n g := by
  obtain ⟨D, ⟨es, clock, hb, F, hs, hD⟩, hg⟩ := h
  exact ⟨D, ⟨es, clock, e.trans hb, F, hs, hD⟩, hg⟩
theorem MapG.ext {W W' : World} {m n : Nat} {g : List Int → Option Int} (h : MapG W m n g) (e : Ext W W') : MapG W' m n g := h.at_ (e.block m h.lt)
theorem MapG.noCells {W : World} {m n : Nat} {g : List Int → Option Int} (h : MapG W m n g) : ¬ ∃ c t f, W.heap[m]? = some (.cells c t f) := by
  obtain ⟨D, ⟨es, clock, hb, _⟩, _⟩ := h
  rintro ⟨c, t, f, h⟩
  rw [hb] at h
  cases h
end Go.Proofs.YtkpengeaolcjhaaDoor
/- core's decides: whether the draws of some layers decide. -/
namespace Go.Proofs.YtkpengeaolcjhaaDoor
open Go.RowKit Go.Shelf Go.Lib
set_option maxRecDepth 100000
set_option linter.unusedSimpArgs false
attribute [local go_sem] Oper.semAt_some

/-- What the map holds when some truths are looked at. -/
def gOf (l : List Int) (pre : List (List Int)) : List Int → Option Int := pre.foldl (fun g t => fun x => if x = restr l t then some (kindL t) else g x) (fun _ => none)
theorem gOf_snoc (l : List Int) (pre : List (List Int)) (t : List Int) : gOf l (pre ++ [t]) = fun x => if x = restr l t then some (kindL t) else gOf l pre x := by unfold gOf; rw [List.foldl_append]; rfl
theorem gOf_some (l : List Int) (pre : List (List Int)) : ∀ k v, gOf l pre k = some v → ∃ t ∈ pre, restr l t = k ∧ kindL t = v := by
  refine rev_ind (p := fun pre => ∀ k v, gOf l pre k = some v → ∃ t ∈ pre, restr l t = k ∧ kindL t = v) (fun k v h => by cases h) (fun pre t ih k v h => ?_) pre
  rw [gOf_snoc] at h
  simp only at h
  split at h
  · rename_i hk
    injection h with h
    exact ⟨t, by simp, hk.symm, h⟩
  · obtain ⟨u, hu, h1⟩ := ih k v h
    exact ⟨u, List.mem_append_left _ hu, h1⟩
theorem gOf_none (l : List Int) (pre : List (List Int)) : ∀ k, gOf l pre k = none → ∀ t ∈ pre, restr l t ≠ k := by
  refine rev_ind (p := fun pre => ∀ k, gOf l pre k = none → ∀ t ∈ pre, restr l t ≠ k) (fun k _ t ht => by cases ht) (fun pre t ih k h => ?_) pre
  rw [gOf_snoc] at h
  simp only at h
  split at h
  · cases h
  · rename_i hk
    intro u hu
    rcases List.mem_append.1 hu with hu | hu
    · exact ih k h u hu
    · simp at hu; subst hu; exact fun e => hk e.symm
theorem cons_snoc {l : List Int} {pre : List (List Int)} {x : List Int} (h : consB l pre = true) (hg : ∀ v, gOf l pre (restr l x) = some v → v = kindL x) : consB l (pre ++ [x]) = true := by
  rw [consB_iff] at h ⊢
  have key : ∀ t ∈ pre, restr l t = restr l x → kindL t = kindL x := by
    intro t ht e
    cases hx : gOf l pre (restr l x) with
    | none => exact absurd e (gOf_none l pre _ hx t ht)
    | some v =>
      obtain ⟨u, hu, h1, h2⟩ := gOf_some l pre _ v hx
      rw [← hg v hx, ← h2]
      exact h t ht u hu (e.trans h1.symm)
  intro t ht u hu e
  rcases List.mem_append.1 ht with ht | ht <;> rcases List.mem_append.1 hu with hu | hu
  · exact h t ht u hu e
  · rw [List.mem_singleton] at hu; rw [hu] at e ⊢; exact key t ht e
  · rw [List.mem_singleton] at ht; rw [ht] at e ⊢; exact (key u hu e.symm).symm
  · simp at ht hu; rw [ht, hu]
theorem cons_fail {l : List Int} {pre : List (List Int)} {x : List Int} {v : Int} (hg : gOf l pre (restr l x) = some v) (hv : v ≠ kindL x) : consB l (pre ++ [x]) = false := by
  cases hc : consB l (pre ++ [x]) with
  | false => rfl
  | true =>
    rw [consB_iff] at hc
    obtain ⟨u, hu, h1, h2⟩ := gOf_some l pre _ v hg
    exact absurd (h2.symm.trans (hc u (List.mem_append_left _ hu) x (by simp) h1)) hv
theorem cons_pre {l : List Int} {pre T : List (List Int)} (h : pre <+: T) (hc : consB l pre = false) : consB l T = false := by
  cases hT : consB l T with
  | false => rfl
  | true =>
    rw [consB_iff] at hT
    obtain ⟨q, rfl⟩ := h
    have : consB l pre = true := (consB_iff l pre).2 fun t ht u hu e => hT t (List.mem_append_left _ ht) u (List.mem_append_left _ hu) e
    rw [this] at hc
    cases hc
theorem Keep.mapG {n₀ m n : Nat} {X : Nat → Prop} {A B : World} {g : List Int → Option Int} (hg : A.grownBy B (some m)) (hm : MapG A m n g) (hn : n₀ ≤ m) (hz : n₀ ≤ A.heap.size) : Keep n₀ X A B :=
  ⟨(Below.refl n₀ A).grown hg hz (fun k e => by injection e with e; omega), fun k hk _ hc => hg.block k hk (by intro e; injection e with e; subst e; exact hm.noCells hc)⟩
theorem restr_k5 {l x : List Int} (h : ∀ n ∈ x, 1 ≤ n ∧ n ≤ 9) : K5 (restr l x) := by
  refine ⟨restr_len l x, ?_⟩
  have key : ∀ (l s : List Int), (∀ n ∈ s, 0 ≤ n ∧ n ≤ 9) → ∀ n ∈ l.foldl (fun s i => s.set i.toNat (x[i.toNat]?.getD 0)) s, 0 ≤ n ∧ n ≤ 9 := by
    intro l
    induction l with
    | nil => intro s hs; exact hs
    | cons i l ih =>
      intro s hs
      rw [List.foldl_cons]
      refine ih _ fun n hn => ?_
      rcases List.mem_or_eq_of_mem_set hn with hn | rfl
      · exact hs n hn
      · cases e : x[i.toNat]? with
        | none => simp
        | some y => have := h y (List.mem_of_getElem? e); simp; omega
  exact key l _ (by simp)
theorem restr_snoc (l x : List Int) (i : Int) : restr (l ++ [i]) x = (restr l x).set i.toNat (x[i.toNat]?.getD 0) := by unfold restr; rw [List.foldl_append]; rfl
theorem truthsL_len {z : List (Span × Int)} (h : ∀ y ∈ z, 1 ≤ y.1.lo ∧ y.1.hi ≤ 9) : (truthsL z).length ≤ 9 ^ z.length := by
  induction z with
  | nil => simp [truthsL]
  | cons y z ih =>
    have hy := h y (List.mem_cons_self ..)
    have ih := ih fun y' hy' => h y' (List.mem_cons_of_mem _ hy')
    have hg : (gradesOf y.1 y.2).length ≤ 9 := by
      unfold gradesOf gTo
      refine Nat.le_trans (List.length_filter_le _ _) ?_
      rw [List.length_map, List.length_range]
      omega
    unfold truthsL
    rw [List.length_flatMap]
    have hm : ((gradesOf y.1 y.2).map fun n => ((truthsL z).map (n :: ·)).length).sum ≤ (gradesOf y.1 y.2).length * 9 ^ z.length := by
      generalize gradesOf y.1 y.2 = g
      clear hg
      induction g with
      | nil => simp
      | cons n g ih2 => simp only [List.map_cons, List.sum_cons, List.length_cons, List.length_map] at *; rw [Nat.add_mul]; omega
    refine Nat.le_trans hm ?_
    rw [List.length_cons, Nat.pow_succ, Nat.mul_comm]
    exact Nat.mul_le_mul_left _ hg

end Go.Proofs.YtkpengeaolcjhaaDoor
/- core.Decide. -/
namespace Go.Proofs.YtkpengeaolcjhaaDoor
open Go.RowKit Go.Shelf Go.Lib
set_option maxRecDepth 100000
set_option linter.unusedSimpArgs false

/-- The fewest layers whose draws decide. -/
def decS (sp : List Span) : List Int := ((listsL (ints sp.length) sp.length).find? fun l => consB l (truthsL (sp.zip [0, 0, 0, 0, 0]))).getD []
def decB (b : Bale) : List Int := if askE b true 0 = 0 then decS (spans b) else []
theorem ints_succ (j : Nat) : ints (j + 1) = ints j ++ [(j : Int)] := by unfold ints; rw [List.range_succ, List.map_append]; rfl
theorem ints_len (j : Nat) : (ints j).length = j := by simp [ints]

end Go.Proofs.YtkpengeaolcjhaaDoor
/- The plain law of CoreKind: a bale whose layers are shown. -/
namespace Go.Proofs.YtkpengeaolcjhaaDoor
open Go.RowKit Go.Shelf Go.Lib
set_option maxRecDepth 100000
set_option linter.unusedSimpArgs false

/-! Grades turned round are of the same kind. -/
theorem maxs_eq_of {l k : List Int} (h0 : 0 < l.length) (h1 : ∀ x, x ∈ l ↔ x ∈ k) : maxs l = maxs k := by
  have h0' : 0 < k.length := List.length_pos_of_mem ((h1 _).1 (maxs_mem h0))
  have a := maxs_ge _ ((h1 _).1 (maxs_mem h0))
  have b := maxs_ge _ ((h1 _).2 (maxs_mem h0'))
  omega
theorem mins_eq_of {l k : List Int} (h0 : 0 < l.length) (h1 : ∀ x, x ∈ l ↔ x ∈ k) : mins l = mins k := by
  have h0' : 0 < k.length := List.length_pos_of_mem ((h1 _).1 (mins_mem h0))
  have a := mins_le _ ((h1 _).1 (mins_mem h0))
  have b := mins_le _ ((h1 _).2 (mins_mem h0'))
  omega
theorem maxs_rev (l : List Int) : maxs l.reverse = maxs l := by
  cases l with
  | nil => rfl
  | cons x l => exact maxs_eq_of (by simp) fun y => List.mem_reverse
theorem mins_rev (l : List Int) : mins l.reverse = mins l := by
  cases l with
  | nil => rfl
  | cons x l => exact mins_eq_of (by simp) fun y => List.mem_reverse
theorem alike_rev (l : List Int) : alikeL l.reverse = alikeL l := by unfold alikeL; rw [maxs_rev, mins_rev]
theorem cutAt_rev {l : List Int} {k : Nat} (h : k < l.length) (hc : cutAt l k = true) : cutAt l.reverse (l.length - k) = true := by
  unfold cutAt at hc ⊢
  simp only [Bool.and_eq_true, decide_eq_true_eq] at hc ⊢
  refine ⟨by omega, ?_, ?_⟩
  · rw [List.take_reverse, alike_rev, show l.length - (l.length - k) = k by omega]; exact hc.2.2
  · rw [List.drop_reverse, alike_rev, show l.length - (l.length - k) = k by omega]; exact hc.2.1
theorem cutsTo_rev {l : List Int} (h : 0 < (cutsTo l l.length).length) : 0 < (cutsTo l.reverse l.reverse.length).length := by
  obtain ⟨k, hk, hc⟩ := (cutsTo_pos _).1 h
  have h1 : 1 ≤ k := by unfold cutAt at hc; simp at hc; omega
  exact (cutsTo_pos _).2 ⟨l.length - k, by rw [List.length_reverse]; omega, cutAt_rev hk hc⟩
theorem cutsL_rev (l : List Int) : (0 < (cutsL l.reverse).length) = (0 < (cutsL l).length) := by
  unfold cutsL
  rw [alike_rev]
  by_cases ha : alikeL l = true
  · rw [if_pos ha, if_pos ha]
  · rw [if_neg ha, if_neg ha]
    refine propext ⟨fun h => ?_, cutsTo_rev⟩
    have := cutsTo_rev h
    rwa [List.reverse_reverse] at this
theorem first_rev (l : List Int) : firstL l.reverse = lastL l := by
  unfold firstL lastL
  by_cases h : 0 < l.length
  · rw [List.getElem?_reverse h, show l.length - 1 - 0 = l.length - 1 by omega]
  · rw [List.getElem?_eq_none (by rw [List.length_reverse]; omega), List.getElem?_eq_none (by omega)]
theorem last_rev (l : List Int) : lastL l.reverse = firstL l := by
  have := first_rev l.reverse
  rw [List.reverse_reverse] at this
  exact this.symm
theorem inner_rev (l : List Int) : innerL l.reverse = (innerL l).reverse := by
  unfold innerL
  rw [List.length_reverse]
  by_cases h : 2 ≤ l.length
  · rw [List.drop_reverse, List.take_reverse, List.length_take]
    congr 1
    rw [show min (l.length - 1) l.length - (l.length - 2) = 1 by omega, List.drop_take]
    congr 1
  · rw [show l.length - 2 = 0 by omega, List.take_zero, List.take_zero]; rfl
theorem kindL_rev (l : List Int) : kindL l.reverse = kindL l := by
  unfold kindL worseL
  rw [alike_rev, first_rev, last_rev, inner_rev, mins_rev, maxs_rev, show ([lastL l, firstL l] : List Int) = [firstL l, lastL l].reverse from rfl, alike_rev, Int.max_comm (lastL l)]
  simp only [cutsL_rev]

/-! The bale. -/
def oneF (g : List Int) (i : Nat) : Span := ⟨(g[i]?).getD 0, (g[i]?).getD 0⟩
def bareB (n : Nat) : Bale := ⟨1, (n : Int), ⟨1, 1⟩, [], []⟩
def oneB (g : List Int) : Bale := ⟨1, (g.length : Int), ⟨1, 1⟩, layD (oneF g) g.length, []⟩
theorem one_lay (g : List Int) : oneB g = layB (bareB g.length) (oneF g) := rfl
theorem one_fit {g : List Int} (hg : Gr g) : FitS (oneF g) (bareB g.length).layers.toNat := by
  intro i hi
  have hi : i < g.length := hi
  unfold oneF
  rw [List.getElem?_eq_getElem hi]
  have := hg _ (List.getElem_mem hi)
  simp; omega
theorem one_spans {g : List Int} (hg : Gr g) : spans (oneB g) = g.map fun n => (⟨n, n⟩ : Span) := by
  rw [one_lay, lay_spans (one_fit hg)]
  apply List.ext_getElem?
  intro i
  rw [List.getElem?_map, List.getElem?_map]
  by_cases h : i < g.length
  · rw [List.getElem?_range (show i < (bareB g.length).layers.toNat from h), List.getElem?_eq_getElem h]
    unfold oneF
    rw [Option.map_some, List.getElem?_eq_getElem h]
    rfl
  · rw [List.getElem?_eq_none (by rw [List.length_range]; exact Nat.le_of_not_lt h), List.getElem?_eq_none (Nat.le_of_not_lt h)]; rfl
theorem one_valid {g : List Int} (h0 : 0 < g.length) (h5 : g.length ≤ 5) (hg : Gr g) : valid (oneB g) = true := by
  rw [one_lay]
  refine lay_valid ?_ ⟨by simp [bareB], rfl, rfl⟩ (one_fit hg)
  unfold chk1 rightB inB bareB
  simp
  omega
theorem one_ok {g : List Int} (hg : Gr g) : okB (oneB g) = true := by
  rw [one_lay]
  refine lay_ok ?_ (one_fit hg)
  unfold dries
  rw [show ((bareB g.length).dry.hi - (bareB g.length).dry.lo + 1).toNat = 1 from rfl]
  unfold driesTo bareB
  simp
theorem one_truths {g : List Int} (h5 : g.length ≤ 5) (hg : Gr g) : truthsB (oneB g) = [g] := by
  unfold truthsB; rw [one_spans hg, truths_pins h5]
theorem one_kinds {g : List Int} (h5 : g.length ≤ 5) (hg : Gr g) : kindS (oneB g) = S4.none.add (kindL g) := by
  have := one_truths h5 hg
  unfold truthsB at this
  unfold kindS
  rw [this]
  rfl
theorem kindK_one {own k : Int} (o1 : 1 ≤ own) (o4 : own ≤ 4) (h1 : 1 ≤ k) (h4 : k ≤ 4) : kindK (S4.none.add own) k = if k = own then 2 else 0 := by
  rcases four o1 o4 with rfl | rfl | rfl | rfl <;> rcases four h1 h4 with rfl | rfl | rfl | rfl <;> decide
/-- No layer need be drawn where one kind is left. -/
theorem lists_nil (all : List Int) (most : Nat) : ∃ r, listsL all most = [] :: r := by
  unfold listsL
  rw [List.range_succ_eq_map, List.flatMap_cons, show combos 0 all = [[]] by simp [combos]]
  exact ⟨_, rfl⟩
theorem dec_nil {sp : List Span} (h : consB [] (truthsL (sp.zip [0, 0, 0, 0, 0])) = true) : decS sp = [] := by
  unfold decS
  obtain ⟨r, e⟩ := lists_nil (ints sp.length) sp.length
  rw [e, List.find?_cons, h]
  rfl
theorem one_dec {g : List Int} (h0 : 0 < g.length) (h5 : g.length ≤ 5) (hg : Gr g) : decB (oneB g) = [] := by
  unfold decB
  rw [ask_ok (one_valid h0 h5 hg) (one_ok hg), if_pos rfl]
  refine dec_nil ?_
  have := one_truths h5 hg
  unfold truthsB at this
  rw [this, consB_iff]
  intro t ht u hu _
  rw [List.mem_singleton.1 ht, List.mem_singleton.1 hu]
/-- The draw that is told: the first layer with the least worst. -/
theorem ask_spec (f : Nat → Int → Int) (sp : List Span) (most : Int) (hm : ∀ j, layN f sp j < most) : ∀ n : Nat, 0 < n →
    ∃ a : Nat, a < n ∧ askTo f sp most n = ((a : Int), layN f sp a) ∧ (∀ j, j < n → layN f sp a ≤ layN f sp j) ∧ ∀ j, j < a → layN f sp a < layN f sp j
  | 0, h => absurd h (by omega)
  | 1, _ => by
    refine ⟨0, by omega, ?_, fun j hj => ?_, fun j hj => absurd hj (by omega)⟩
    · unfold askTo; rw [if_pos (by unfold askTo; exact hm 0)]
    · obtain rfl : j = 0 := by omega
      exact Int.le_refl _
  | n + 2, _ => by
    obtain ⟨a, h1, h2, h3, h4⟩ := ask_spec f sp most hm (n + 1) (by omega)
    rw [askTo, h2]
    dsimp only
    by_cases h : layN f sp (n + 1) < layN f sp a
    · rw [if_pos h]
      refine ⟨n + 1, by omega, rfl, fun j hj => ?_, fun j hj => ?_⟩
      · by_cases e : j = n + 1
        · rw [e]; exact Int.le_refl _
        · have := h3 j (by omega); omega
      · have := h3 j hj; omega
    · rw [if_neg h]
      refine ⟨a, by omega, rfl, fun j hj => ?_, h4⟩
      by_cases e : j = n + 1
      · rw [e]; omega
      · exact h3 j (by omega)
theorem num_pins {g : List Int} (h5 : g.length ≤ 5) (hg : Gr g) {j : Nat} (h : j < g.length) : numK (g.map fun n => (⟨n, n⟩ : Span)) j g[j] = 1 := by
  have hb := hg _ (List.getElem_mem h)
  have hx : (g.map fun n => (⟨n, n⟩ : Span))[j]? = some ⟨g[j], g[j]⟩ := by rw [List.getElem?_map, List.getElem?_eq_getElem h]; rfl
  have e := pin_eq (sp := g.map fun n => (⟨n, n⟩ : Span)) (by simpa using h5) hx (n := g[j]) (Int.le_refl _) (Int.le_refl _) (by omega)
  rw [show (g.map fun n => (⟨n, n⟩ : Span)).set j ⟨g[j], g[j]⟩ = g.map fun n => (⟨n, n⟩ : Span) from by
    apply List.ext_getElem?
    intro i
    rw [List.getElem?_set]
    split
    · rename_i hji
      subst hji
      rw [if_pos (by simpa using h), hx]
    · rfl, truths_pins h5] at e
  unfold numK
  rw [← e]
  have := kindL_bd g
  show (((S4.none.add (kindL g)).num : Nat) : Int) = 1
  rcases four this.1 this.2 with h | h | h | h <;> rw [h] <;> decide
theorem one_ask {g : List Int} (h0 : 0 < g.length) (h5 : g.length ≤ 5) (hg : Gr g) : askB (oneB g) = (0, 1) := by
  unfold askB
  rw [ask_ok (one_valid h0 h5 hg) (one_ok hg), if_pos rfl]
  unfold askS
  rw [one_spans hg]
  have key : ∀ j, j < g.length → layN (numK (g.map fun n => (⟨n, n⟩ : Span))) (g.map fun n => (⟨n, n⟩ : Span)) j = 1 := by
    intro j hj
    unfold layN
    rw [List.getElem?_map, List.getElem?_eq_getElem hj]
    dsimp only [Option.map_some]
    rw [show (g[j] - g[j] + 1).toNat = 1 by omega]
    unfold wst wst
    rw [show g[j] + ((0 : Nat) : Int) = g[j] by simp, num_pins h5 hg hj]
    rfl
  obtain ⟨a, h1, h2, h3, h4⟩ := ask_spec (numK (g.map fun n => (⟨n, n⟩ : Span))) (g.map fun n => (⟨n, n⟩ : Span)) 5 (fun j => by have := layN_bd (g.map fun n => (⟨n, n⟩ : Span)) j; omega) (g.map fun n => (⟨n, n⟩ : Span)).length (by simpa using h0)
  rw [h2]
  have h1 : a < g.length := by simpa using h1
  have ha : a = 0 := by
    refine Nat.eq_zero_of_not_pos fun hp => ?_
    have := h4 0 hp
    rw [key a h1, key 0 h0] at this
    omega
  subst ha
  rw [key 0 h0]
  rfl
/-- The cut that is told is one of the grades' cuts, at both of its ends. -/
theorem one_cut {g : List Int} (h0 : 0 < g.length) (h5 : g.length ≤ 5) (hg : Gr g) :
    (kindL g ≠ 2 → cutE (oneB g) = 6) ∧ (kindL g = 2 → cutE (oneB g) = 0 ∧ ∃ p q : Nat, cutB (oneB g) = ⟨(p : Int), (q : Int)⟩ ∧ 1 ≤ p ∧ p ≤ q ∧ q < g.length ∧ kindL (g.take p) = 1 ∧ kindL (g.drop q) = 1) := by
  have hv := one_valid h0 h5 hg
  have ho := one_ok hg
  have hb := kindL_bd g
  obtain ⟨q1, q2⟩ := cutE_ok hv ho
  rw [one_kinds h5 hg, kindK_one hb.1 hb.2 (by decide) (by decide)] at q2
  refine ⟨fun h => ?_, fun h => ?_⟩
  · rw [if_neg (fun e => h e.symm)] at q2
    rcases q1 with q1 | q1
    · exact absurd rfl (q2.1 q1)
    · exact q1
  · rw [if_pos h.symm] at q2
    refine ⟨q2.2 (by decide), ?_⟩
    have hh : (cutS (oneB g)).hi ≠ 0 := cut_hi.2 ⟨g, by rw [one_truths h5 hg]; exact List.mem_singleton.2 rfl, h⟩
    have hne : ∃ x, x ∈ cutsL g := List.exists_mem_of_length_pos ((kind2_iff g).1 h)
    have hal : alikeL g = false := by
      cases ha : alikeL g with
      | false => rfl
      | true => rw [kind1_iff.2 ha] at h; cases h
    have hcut : ∀ {x : Int}, x ∈ cutsL g → ∃ k : Nat, x = (k : Int) ∧ 1 ≤ k ∧ k < g.length ∧ kindL (g.take k) = 1 ∧ kindL (g.drop k) = 1 := by
      intro x hx
      obtain ⟨k, h1, h2, h3⟩ := cutsL_bd hx
      unfold cutsL at hx
      rw [hal] at hx
      obtain ⟨k', h4, h5, h6⟩ := (cutsTo_mem _).1 hx
      obtain rfl : k = k' := by omega
      unfold cutAt at h5
      simp only [Bool.and_eq_true, decide_eq_true_eq] at h5
      exact ⟨k, h3, h1, h2, kind1_iff.2 h5.2.1, kind1_iff.2 h5.2.2⟩
    unfold cutB
    rw [ask_ok hv ho, if_pos rfl, if_neg hh]
    have e : cutS (oneB g) = (cutsL g).foldl cutStep ⟨(g.length : Int), 0⟩ := by
      unfold cutS; rw [one_truths h5 hg, cutFold_flat]
      show (([g] : List (List Int)).flatMap cutsL).foldl cutStep _ = _
      rw [List.flatMap_cons, List.flatMap_nil, List.append_nil]
      rfl
    rw [e] at hh ⊢
    obtain ⟨h1, h2, h3, h4, h6⟩ := cutStep_fold (cutsL g) ⟨(g.length : Int), 0⟩
    generalize (cutsL g).foldl cutStep ⟨(g.length : Int), 0⟩ = r at *
    obtain ⟨x, hx⟩ := hne
    obtain ⟨k, rfl, k1, k2, -, -⟩ := hcut hx
    have h3x := h3 _ hx
    have hlo : r.lo ∈ cutsL g := by
      rcases h4 with h4 | h4
      · exfalso; dsimp only at h4; omega
      · exact h4
    have hhi : r.hi ∈ cutsL g := by
      rcases h6 with h6 | h6
      · exact absurd h6 hh
      · exact h6
    obtain ⟨p, e1, p1, p2, p3, -⟩ := hcut hlo
    obtain ⟨q, e2, q3, q4, -, q6⟩ := hcut hhi
    obtain ⟨lo, hi⟩ := r
    dsimp only at e1 e2 h3x
    exact ⟨p, q, by rw [e1, e2], p1, by omega, q4, p3, q6⟩
end Go.Proofs.YtkpengeaolcjhaaDoor
/- The plain law of CoreAsk: the draw that is told leaves as few kinds as any. -/
namespace Go.Proofs.YtkpengeaolcjhaaDoor
open Go.RowKit Go.Shelf Go.Lib
set_option maxRecDepth 100000
set_option linter.unusedSimpArgs false

/-- The spans of a bale, one layer pinned. -/
def ownF (b : Bale) (j : Nat) : Span := spanAt b.draws (j : Int)
def pinF (b : Bale) (i : Nat) (n : Int) (j : Nat) : Span := if j = i then ⟨n, n⟩ else ownF b j
theorem own_fit {b : Bale} (hv : valid b = true) (hg : grown (spans b) = true) : FitS (ownF b) b.layers.toNat := by
  intro i hi
  have hm := List.mem_of_getElem? (spans_get hi)
  have h1 := spans_bd hv _ hm
  have h2 := grown_at hg _ hm
  unfold ownF
  omega
theorem pin_fit {b : Bale} (hv : valid b = true) (hg : grown (spans b) = true) {i : Nat} {n : Int} (h1 : 1 ≤ n) (h9 : n ≤ 9) : FitS (pinF b i n) b.layers.toNat := by
  intro j hj
  unfold pinF
  split
  · exact ⟨h1, Int.le_refl _, h9⟩
  · exact own_fit hv hg j hj
theorem map_own (b : Bale) : (List.range b.layers.toNat).map (ownF b) = spans b := rfl
theorem map_pin (b : Bale) {i : Nat} (hi : i < b.layers.toNat) (n : Int) : (List.range b.layers.toNat).map (pinF b i n) = (spans b).set i ⟨n, n⟩ := by
  apply List.ext_getElem?
  intro j
  rw [List.getElem?_map, List.getElem?_set]
  by_cases hj : j < b.layers.toNat
  · rw [List.getElem?_range hj, Option.map_some]
    unfold pinF
    by_cases e : i = j
    · subst e; rw [if_pos rfl, if_pos rfl, if_pos (by rw [spans_len]; exact hj)]
    · rw [if_neg (fun h => e h.symm), if_neg e, spans_get hj]; rfl
  · rw [List.getElem?_eq_none (by rw [List.length_range]; omega), if_neg (by omega), List.getElem?_eq_none (by rw [spans_len]; omega)]; rfl
theorem lay_fine {b : Bale} {f : Nat → Span} (hv : valid b = true) (ho : okB b = true) (hf : FitS f b.layers.toNat) : valid (layB b f) = true ∧ okB (layB b f) = true := by
  obtain ⟨w1, w2⟩ := weighs_ok hv
  refine ⟨lay_valid w1 w2 hf, lay_ok ?_ hf⟩
  unfold okB at ho
  simp only [Bool.and_eq_true, Bool.not_eq_true'] at ho
  cases h : dries b with
  | nil => rw [h] at ho; simp at ho
  | cons => simp
theorem mayN_num (s : S4) : mayN s 4 = (s.num : Int) := by
  obtain ⟨a, b, c, d⟩ := s
  cases a <;> cases b <;> cases c <;> cases d <;> decide
theorem num_pos {T : List (List Int)} (h : T ≠ []) : 1 ≤ (kindsOf T).num := by
  obtain ⟨t, ht⟩ := List.exists_mem_of_ne_nil _ h
  obtain ⟨h1, h2, h3, h4⟩ := kindsOf_iff T
  have hb := kindL_bd t
  unfold S4.num
  rcases four hb.1 hb.2 with e | e | e | e
  · rw [h1.2 ⟨t, ht, e⟩]; simp; omega
  · rw [h2.2 ⟨t, ht, e⟩]; simp; omega
  · rw [h3.2 ⟨t, ht, e⟩]; simp; omega
  · rw [h4.2 ⟨t, ht, e⟩]; simp
/-- How many kinds a bale can be of. -/
theorem kinds_lay {b : Bale} {f : Nat → Span} (hf : FitS f b.layers.toNat) : kindS (layB b f) = kindsOf (truthsL (((List.range b.layers.toNat).map f).zip [0, 0, 0, 0, 0])) := by
  unfold kindS; rw [lay_spans hf]
theorem kinds_pin {b : Bale} (hv : valid b = true) (ho : okB b = true) {i : Nat} (hi : i < b.layers.toNat) {n : Int} (h1 : (ownF b i).lo ≤ n) (h2 : n ≤ (ownF b i).hi) : mayN (kindS (layB b (pinF b i n))) 4 = numK (spans b) i n := by
  have hfi := own_fit hv (ok_grown ho) i hi
  rw [mayN_num, kinds_lay (pin_fit hv (ok_grown ho) (by omega) (by omega)), map_pin b hi]
  unfold numK
  rw [pin_eq (spans5 hv).1 (spans_get hi) h1 h2 (by omega)]
theorem numK_pos {b : Bale} (hv : valid b = true) (ho : okB b = true) {i : Nat} (hi : i < b.layers.toNat) {n : Int} (h1 : (ownF b i).lo ≤ n) (h2 : n ≤ (ownF b i).hi) : 1 ≤ numK (spans b) i n := by
  have hfi := own_fit hv (ok_grown ho) i hi
  unfold numK
  rw [← pin_eq (spans5 hv).1 (spans_get hi) h1 h2 (by omega)]
  have hl := (spans5 hv).1
  have := num_pos (truths_ne (sp := (spans b).set i ⟨n, n⟩) (by rw [List.length_set]; exact hl) (fun x hx => by
    rcases List.mem_or_eq_of_mem_set hx with hx | rfl
    · exact grown_at (ok_grown ho) x hx
    · exact Int.le_refl _))
  omega
theorem wst_ge (f : Int → Int) (lo : Int) : ∀ (k i : Nat), i < k → f (lo + (i : Int)) ≤ wst f lo k
  | 0, i, h => absurd h (by omega)
  | k + 1, i, h => by
    unfold wst
    by_cases e : i = k
    · subst e; omega
    · have := wst_ge f lo k i (by omega); omega
/-- The most kinds that are left where a layer is drawn. -/
def mostN (b : Bale) (i k : Nat) : Int := wst (numK (spans b) i) (ownF b i).lo k
theorem layN_most {b : Bale} {i : Nat} (hi : i < b.layers.toNat) : layN (numK (spans b)) (spans b) i = mostN b i ((ownF b i).hi - (ownF b i).lo + 1).toNat := by
  unfold layN; rw [spans_get hi]; rfl
theorem most_bd (b : Bale) (i k : Nat) : 0 ≤ mostN b i k ∧ mostN b i k ≤ 4 := wst_bd (numK_bd (spans b) i) _ _
theorem most_succ (b : Bale) (i k : Nat) : mostN b i (k + 1) = max (mostN b i k) (numK (spans b) i ((ownF b i).lo + (k : Int))) := rfl
theorem most_ge {b : Bale} {i : Nat} {n : Int} (h1 : (ownF b i).lo ≤ n) (h2 : n ≤ (ownF b i).hi) : numK (spans b) i n ≤ mostN b i ((ownF b i).hi - (ownF b i).lo + 1).toNat := by
  have := wst_ge (numK (spans b) i) (ownF b i).lo ((ownF b i).hi - (ownF b i).lo + 1).toNat (n - (ownF b i).lo).toNat (by omega)
  rwa [show (ownF b i).lo + (((n - (ownF b i).lo).toNat : Nat) : Int) = n by omega] at this
theorem askO_law {b : Bale} (hv : valid b = true) (ho : okB b = true) : ∃ (a : Nat) (L : Int), askB b = ((a : Int), L) ∧ a < b.layers.toNat ∧ 1 ≤ L ∧ L ≤ 4 ∧
    L = mostN b a ((ownF b a).hi - (ownF b a).lo + 1).toNat ∧ ∀ i, i < b.layers.toNat → L ≤ mostN b i ((ownF b i).hi - (ownF b i).lo + 1).toNat ∧ (i < a → L < mostN b i ((ownF b i).hi - (ownF b i).lo + 1).toNat) := by
  obtain ⟨s1, s2, s3⟩ := spans5 hv
  obtain ⟨a, h1, h2, h3, h4⟩ := ask_spec (numK (spans b)) (spans b) 5 (fun j => by have := layN_bd (spans b) j; omega) (spans b).length s2
  rw [s3] at h1 h3
  refine ⟨a, _, ?_, h1, ?_, ?_, layN_most h1, fun i hi => ⟨?_, fun hia => ?_⟩⟩
  · unfold askB
    rw [ask_ok hv ho, if_pos rfl]
    unfold askS
    exact h2
  · have hf := own_fit hv (ok_grown ho) a h1
    have p := numK_pos hv ho h1 (Int.le_refl _) hf.2.1
    have q := most_ge (b := b) (i := a) (Int.le_refl _) hf.2.1
    rw [layN_most h1]
    omega
  · exact layN_bd (spans b) a
  · rw [← layN_most hi]; exact h3 i hi
  · rw [← layN_most hi]; exact h4 i hia
end Go.Proofs.YtkpengeaolcjhaaDoor
/- core.Wrong: the draws and weighings that must be false. -/
namespace Go.Proofs.YtkpengeaolcjhaaDoor
open Go.RowKit Go.Shelf Go.Lib
set_option maxRecDepth 100000
set_option linter.unusedSimpArgs false

/-- A bale lies whole in block g. -/
structure BaleAt (b : Bale) (g : Nat) (dv wv : Value) (W : World) : Prop where
  k : Blk W g 59 #[.int .i64 b.id, .int .i64 b.layers, .int .i64 b.dry.lo, .int .i64 b.dry.hi, dv, wv]
  d : SlD W dv b.draws
  w : SlW W wv b.weighs
theorem BaleAt.ext {b : Bale} {g : Nat} {dv wv : Value} {W W' : World} (h : BaleAt b g dv wv W) (e : Ext W W') : BaleAt b g dv wv W' := ⟨h.k.ext e, h.d.ext e, h.w.ext e⟩
theorem withB_bds {b : Bale} (h : Bds b) (l k : List Int) : ∀ x ∈ (withB b l k).weighs, 0 ≤ x.damp.lo ∧ x.damp.lo ≤ 1000000 ∧ 0 ≤ x.damp.hi ∧ x.damp.hi ≤ 1000000 := fun x hx => by
  have := h.w x (List.mem_filter.1 hx).1
  omega

/-- What must be false, draws and weighings. -/
def wrongD (b : Bale) : Option (List Int) := (listsL (b.draws.map (·.number)) 3).find? fun l => grown (spans (withB b l []))
def wrongW (b : Bale) : Option (List Int) := (listsL (b.weighs.map (·.number)) 3).find? fun l => decide (0 < (dries (withB b [] l)).length)
def wrongE (b : Bale) : Int := if valid b then (if (wrongD b).isSome && (wrongW b).isSome then 0 else 4) else 30
def wrongL (b : Bale) : List Int := if wrongE b = 0 then (wrongD b).getD [] else []
def wrongK (b : Bale) : List Int := if wrongE b = 0 then (wrongW b).getD [] else []

/-- A slice of numbers, as the enumerator reads it. -/
theorem sl_at {W : World} {A : Option Addr} {n c : Nat} {l : List Int} (h : SlI W (.slice A n c) l) : ∀ i x, l[i]? = some x → ∃ bb off, A = some ⟨bb, off, none⟩ ∧ W.cell? ⟨bb, off + i, none⟩ = some (.int .i64 x) := by
  intro i x hx
  have hi : i < n := by
    have h1 := (List.getElem?_eq_some_iff.1 hx).1
    obtain ⟨_, _, e, _⟩ := h
    injection e with _ e _
    omega
  obtain ⟨bb, off, y, e1, hy, hbb, hc⟩ := h.at_ hi
  rw [hx] at hy
  injection hy with hy
  subst hy
  exact ⟨bb, off, e1, SlI.cell hc (Ext.refl _)⟩

end Go.Proofs.YtkpengeaolcjhaaDoor
/- The reference's has and without. -/
namespace Go.Proofs.YtkpengeaolcjhaaDoor
open Go.RowKit Go.Shelf Go.Lib
set_option maxRecDepth 100000
set_option linter.unusedSimpArgs false

theorem filter_snoc {α : Type} (f : α → Bool) {l : List α} {k : Nat} {x : α} (h : l[k]? = some x) : (l.take (k + 1)).filter f = (l.take k).filter f ++ (if f x then [x] else []) := by
  rw [List.take_add_one, h, List.filter_append]
  simp only [Option.toList_some, List.filter_cons, List.filter_nil]
theorem encD_1 (x : Draw) : ∀ u ∈ encD x, u.oneCell' = true := by intro u hu; simp at hu; rcases hu with rfl | rfl | rfl | rfl <;> rfl
theorem encW_1 (x : Weigh) : ∀ u ∈ encW x, u.oneCell' = true := by intro u hu; simp at hu; rcases hu with rfl | rfl | rfl | rfl <;> rfl

end Go.Proofs.YtkpengeaolcjhaaDoor
