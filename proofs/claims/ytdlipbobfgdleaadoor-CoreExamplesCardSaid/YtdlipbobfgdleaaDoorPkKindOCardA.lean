/- The plain law of bales with one draw of each layer. -/
import Derived.Test.YtdlipbobfgdleaaDoorPkTruthCardS
import Derived.Test.YtdlipbobfgdleaaDoorPkTruthCardR
namespace Go.Proofs.YtdlipbobfgdleaaDoor
open Go.RowKit Go.Shelf Go.Lib
set_option maxRecDepth 100000
set_option linter.unusedSimpArgs false

/-- One draw of each layer, that shows a span. -/
def layD (f : Nat → Span) (n : Nat) : List Draw := (List.range n).map fun (j : Nat) => ⟨(j : Int) + 1, (j : Int), f j⟩
def layB (b : Bale) (f : Nat → Span) : Bale := ⟨b.id, b.layers, b.dry, layD f b.layers.toNat, b.weighs⟩
theorem layD_succ (f : Nat → Span) (n : Nat) : layD f (n + 1) = layD f n ++ [⟨(n : Int) + 1, (n : Int), f n⟩] := by
  unfold layD; rw [List.range_succ, List.map_append]; rfl
theorem layD_len (f : Nat → Span) (n : Nat) : (layD f n).length = n := by unfold layD; simp
theorem layD_at {f : Nat → Span} {n i : Nat} (h : i < n) : (layD f n)[i]? = some ⟨(i : Int) + 1, (i : Int), f i⟩ := by
  unfold layD; rw [List.getElem?_map, List.getElem?_range h]; rfl
theorem span_lay (f : Nat → Span) (i : Nat) : ∀ k : Nat, (layD f k).foldl (spanStep (i : Int)) ⟨1, 9⟩ = if i < k then ⟨max 1 (f i).lo, min 9 (f i).hi⟩ else ⟨1, 9⟩
  | 0 => rfl
  | k + 1 => by
    rw [layD_succ, List.foldl_append, span_lay f i k, List.foldl_cons, List.foldl_nil]
    unfold spanStep
    dsimp only
    by_cases h : i < k
    · rw [if_pos h, if_neg (by omega), if_pos (by omega)]
    · rw [if_neg h]
      by_cases e : i = k
      · subst e; simp
      · rw [if_neg (by omega), if_neg (by omega)]
/-- Spans that grades can have. -/
def FitS (f : Nat → Span) (n : Nat) : Prop := ∀ i, i < n → 1 ≤ (f i).lo ∧ (f i).lo ≤ (f i).hi ∧ (f i).hi ≤ 9
theorem lay_at {b : Bale} {f : Nat → Span} (hf : FitS f b.layers.toNat) {i : Nat} (hi : i < b.layers.toNat) : spanAt (layB b f).draws (i : Int) = f i := by
  unfold spanAt layB
  dsimp only
  rw [span_lay, if_pos hi]
  have := hf i hi
  rw [show max 1 (f i).lo = (f i).lo by omega, show min 9 (f i).hi = (f i).hi by omega]
theorem lay_spans {b : Bale} {f : Nat → Span} (hf : FitS f b.layers.toNat) : spans (layB b f) = (List.range b.layers.toNat).map f := by
  unfold spans spansTo
  refine List.map_congr_left fun i hi => ?_
  exact lay_at hf (List.mem_range.1 hi)
theorem lay_dries (b : Bale) (f : Nat → Span) : dries (layB b f) = dries b := rfl
theorem lay_valid {b : Bale} {f : Nat → Span} (h1 : chk1 b = true) (hw : b.weighs.length ≤ 8 ∧ risingB 0 (b.weighs.map (·.number)) = true ∧ b.weighs.any badW = false) (hf : FitS f b.layers.toNat) : valid (layB b f) = true := by
  have hl := chk1_layers h1
  unfold valid
  simp only [Bool.and_eq_true]
  refine ⟨h1, ?_, ?_, ?_⟩
  · unfold chk2
    simp only [Bool.and_eq_true, decide_eq_true_eq]
    refine ⟨⟨⟨?_, ?_⟩, ?_⟩, hw.2.1⟩
    · show ((layD f b.layers.toNat).length : Int) ≤ 10
      rw [layD_len]; omega
    · have := hw.1
      show (b.weighs.length : Int) ≤ 8
      omega
    · refine rise_of _ _ ?_ ?_
      · show ((layD f b.layers.toNat).map (·.number)).Pairwise (· < ·)
        unfold layD
        rw [List.map_map, List.pairwise_map]
        exact List.pairwise_lt_range.imp fun h => by simp; omega
      · intro n hn
        obtain ⟨x, hx, rfl⟩ := List.mem_map.1 hn
        obtain ⟨j, hj, rfl⟩ := List.mem_map.1 (show x ∈ layD f b.layers.toNat from hx)
        rw [List.mem_range] at hj
        dsimp only
        omega
  · simp only [Bool.not_eq_true', List.any_eq_false]
    intro x hx
    obtain ⟨j, hj, rfl⟩ := List.mem_map.1 (show x ∈ layD f b.layers.toNat from hx)
    rw [List.mem_range] at hj
    have := hf j hj
    have e1 : inB 0 ((layB b f).layers - 1) (j : Int) = true := by unfold inB layB; simp; omega
    have e2 : rightB (f j).lo (f j).hi 1 9 = true := by unfold rightB inB; simp; omega
    unfold badD
    dsimp only
    rw [e1, e2]
    decide
  · rw [show (layB b f).weighs = b.weighs from rfl, hw.2.2]; rfl
theorem weighs_ok {b : Bale} (hv : valid b = true) : chk1 b = true ∧ b.weighs.length ≤ 8 ∧ risingB 0 (b.weighs.map (·.number)) = true ∧ b.weighs.any badW = false := by
  have hB := valid_bds hv
  have h := hv
  unfold valid chk2 at h
  simp only [Bool.and_eq_true, Bool.not_eq_true'] at h
  exact ⟨h.1, hB.nw, h.2.1.2, h.2.2.2⟩
theorem lay_ok {b : Bale} {f : Nat → Span} (hd : 0 < (dries b).length) (hf : FitS f b.layers.toNat) : okB (layB b f) = true := by
  unfold okB grown
  simp only [Bool.and_eq_true, List.all_eq_true]
  refine ⟨fun x hx => ?_, ?_⟩
  · rw [lay_spans hf] at hx
    obtain ⟨i, hi, rfl⟩ := List.mem_map.1 hx
    have := hf i (List.mem_range.1 hi)
    simp [okS]; omega
  · rw [lay_dries]
    cases h : dries b with
    | nil => rw [h] at hd; cases hd
    | cons => rfl

/-! All layers are shown. -/
theorem truthsG_ones : ∀ g : List Int, truthsG (g.map fun n => [n]) = [g]
  | [] => rfl
  | n :: g => by
    rw [List.map_cons]
    unfold truthsG
    rw [truthsG_ones g]
    rfl
theorem zip_pins : ∀ (g z : List Int), g.length ≤ z.length → (∀ x ∈ z, x = 0) → ((g.map fun n => (⟨n, n⟩ : Span)).zip z).map (fun y => gradesOf y.1 y.2) = g.map fun n => [n]
  | [], _, _, _ => rfl
  | n :: g, [], h, _ => by simp at h
  | n :: g, x :: z, h, hz => by
    have hx := hz x (by simp)
    subst hx
    rw [List.map_cons, List.zip_cons_cons, List.map_cons, grades_pin, zip_pins g z (by simpa using h) fun y hy => hz y (by simp [hy])]
    rfl
theorem truths_pins {g : List Int} (h : g.length ≤ 5) : truthsL ((g.map fun n => (⟨n, n⟩ : Span)).zip [0, 0, 0, 0, 0]) = [g] := by
  rw [truthsL_G, zip_pins g _ (by simpa using h) (by simp), truthsG_ones]
end Go.Proofs.YtdlipbobfgdleaaDoor
/- The plain law of CoreKind: a bale whose layers are shown. -/
namespace Go.Proofs.YtdlipbobfgdleaaDoor
open Go.RowKit Go.Shelf Go.Lib
set_option maxRecDepth 100000
set_option linter.unusedSimpArgs false

/-! Grades turned round are of the same kind. -/
theorem maxs_eq_of {l k : List Int} (h0 : 0 < l.length) (h1 : ∀ x, x ∈ l ↔ x ∈ k) : maxs l = maxs k := by
  have h0' : 0 < k.length := List.length_pos_of_mem ((h1 _).1 (maxs_mem h0))
  have a := maxs_ge _ ((h1 _).1 (maxs_mem h0))
  have b := maxs_ge _ ((h1 _).2 (maxs_mem h0'))
  omega
theorem mins_eq_of {l k : List Int} (h0 : 0 < l.length) (h1 : ∀ x, x ∈ l ↔ x ∈ k) : mins l = mins k := by
  have h0' : 0 < k.length := List.length_pos_of_mem ((h1 _).1 (mins_mem h0))
  have a := mins_le _ ((h1 _).1 (mins_mem h0))
  have b := mins_le _ ((h1 _).2 (mins_mem h0'))
  omega
theorem maxs_rev (l : List Int) : maxs l.reverse = maxs l := by
  cases l with
  | nil => rfl
  | cons x l => exact maxs_eq_of (by simp) fun y => List.mem_reverse
theorem mins_rev (l : List Int) : mins l.reverse = mins l := by
  cases l with
  | nil => rfl
  | cons x l => exact mins_eq_of (by simp) fun y => List.mem_reverse
theorem alike_rev (l : List Int) : alikeL l.reverse = alikeL l := by unfold alikeL; rw [maxs_rev, mins_rev]
theorem cutAt_rev {l : List Int} {k : Nat} (h : k < l.length) (hc : cutAt l k = true) : cutAt l.reverse (l.length - k) = true := by
  unfold cutAt at hc ⊢
  simp only [Bool.and_eq_true, decide_eq_true_eq] at hc ⊢
  refine ⟨by omega, ?_, ?_⟩
  · rw [List.take_reverse, alike_rev, show l.length - (l.length - k) = k by omega]; exact hc.2.2
  · rw [List.drop_reverse, alike_rev, show l.length - (l.length - k) = k by omega]; exact hc.2.1
theorem cutsTo_rev {l : List Int} (h : 0 < (cutsTo l l.length).length) : 0 < (cutsTo l.reverse l.reverse.length).length := by
  obtain ⟨k, hk, hc⟩ := (cutsTo_pos _).1 h
  have h1 : 1 ≤ k := by unfold cutAt at hc; simp at hc; omega
  exact (cutsTo_pos _).2 ⟨l.length - k, by rw [List.length_reverse]; omega, cutAt_rev hk hc⟩
theorem cutsL_rev (l : List Int) : (0 < (cutsL l.reverse).length) = (0 < (cutsL l).length) := by
  unfold cutsL
  rw [alike_rev]
  by_cases ha : alikeL l = true
  · rw [if_pos ha, if_pos ha]
  · rw [if_neg ha, if_neg ha]
    refine propext ⟨fun h => ?_, cutsTo_rev⟩
    have := cutsTo_rev h
    rwa [List.reverse_reverse] at this
theorem first_rev (l : List Int) : firstL l.reverse = lastL l := by
  unfold firstL lastL
  by_cases h : 0 < l.length
  · rw [List.getElem?_reverse h, show l.length - 1 - 0 = l.length - 1 by omega]
  · rw [List.getElem?_eq_none (by rw [List.length_reverse]; omega), List.getElem?_eq_none (by omega)]
theorem last_rev (l : List Int) : lastL l.reverse = firstL l := by
  have := first_rev l.reverse
  rw [List.reverse_reverse] at this
  exact this.symm
theorem inner_rev (l : List Int) : innerL l.reverse = (innerL l).reverse := by
  unfold innerL
  rw [List.length_reverse]
  by_cases h : 2 ≤ l.length
  · rw [List.drop_reverse, List.take_reverse, List.length_take]
    congr 1
    rw [show min (l.length - 1) l.length - (l.length - 2) = 1 by omega, List.drop_take]
    congr 1
  · rw [show l.length - 2 = 0 by omega, List.take_zero, List.take_zero]; rfl
theorem kindL_rev (l : List Int) : kindL l.reverse = kindL l := by
  unfold kindL worseL
  rw [alike_rev, first_rev, last_rev, inner_rev, mins_rev, maxs_rev, show ([lastL l, firstL l] : List Int) = [firstL l, lastL l].reverse from rfl, alike_rev, Int.max_comm (lastL l)]
  simp only [cutsL_rev]

/-! The bale. -/
def oneF (g : List Int) (i : Nat) : Span := ⟨(g[i]?).getD 0, (g[i]?).getD 0⟩
def bareB (n : Nat) : Bale := ⟨1, (n : Int), ⟨1, 1⟩, [], []⟩
def oneB (g : List Int) : Bale := ⟨1, (g.length : Int), ⟨1, 1⟩, layD (oneF g) g.length, []⟩
theorem one_lay (g : List Int) : oneB g = layB (bareB g.length) (oneF g) := rfl
theorem one_fit {g : List Int} (hg : Gr g) : FitS (oneF g) (bareB g.length).layers.toNat := by
  intro i hi
  have hi : i < g.length := hi
  unfold oneF
  rw [List.getElem?_eq_getElem hi]
  have := hg _ (List.getElem_mem hi)
  simp; omega
theorem one_spans {g : List Int} (hg : Gr g) : spans (oneB g) = g.map fun n => (⟨n, n⟩ : Span) := by
  rw [one_lay, lay_spans (one_fit hg)]
  apply List.ext_getElem?
  intro i
  rw [List.getElem?_map, List.getElem?_map]
  by_cases h : i < g.length
  · rw [List.getElem?_range (show i < (bareB g.length).layers.toNat from h), List.getElem?_eq_getElem h]
    unfold oneF
    rw [Option.map_some, List.getElem?_eq_getElem h]
    rfl
  · rw [List.getElem?_eq_none (by rw [List.length_range]; exact Nat.le_of_not_lt h), List.getElem?_eq_none (Nat.le_of_not_lt h)]; rfl
theorem one_valid {g : List Int} (h0 : 0 < g.length) (h5 : g.length ≤ 5) (hg : Gr g) : valid (oneB g) = true := by
  rw [one_lay]
  refine lay_valid ?_ ⟨by simp [bareB], rfl, rfl⟩ (one_fit hg)
  unfold chk1 rightB inB bareB
  simp
  omega
theorem one_ok {g : List Int} (hg : Gr g) : okB (oneB g) = true := by
  rw [one_lay]
  refine lay_ok ?_ (one_fit hg)
  unfold dries
  rw [show ((bareB g.length).dry.hi - (bareB g.length).dry.lo + 1).toNat = 1 from rfl]
  unfold driesTo bareB
  simp
theorem one_truths {g : List Int} (h5 : g.length ≤ 5) (hg : Gr g) : truthsB (oneB g) = [g] := by
  unfold truthsB; rw [one_spans hg, truths_pins h5]
theorem one_kinds {g : List Int} (h5 : g.length ≤ 5) (hg : Gr g) : kindS (oneB g) = S4.none.add (kindL g) := by
  have := one_truths h5 hg
  unfold truthsB at this
  unfold kindS
  rw [this]
  rfl
theorem kindK_one {own k : Int} (o1 : 1 ≤ own) (o4 : own ≤ 4) (h1 : 1 ≤ k) (h4 : k ≤ 4) : kindK (S4.none.add own) k = if k = own then 2 else 0 := by
  rcases four o1 o4 with rfl | rfl | rfl | rfl <;> rcases four h1 h4 with rfl | rfl | rfl | rfl <;> decide
/-- No layer need be drawn where one kind is left. -/
theorem lists_nil (all : List Int) (most : Nat) : ∃ r, listsL all most = [] :: r := by
  unfold listsL
  rw [List.range_succ_eq_map, List.flatMap_cons, show combos 0 all = [[]] by simp [combos]]
  exact ⟨_, rfl⟩
theorem dec_nil {sp : List Span} (h : consB [] (truthsL (sp.zip [0, 0, 0, 0, 0])) = true) : decS sp = [] := by
  unfold decS
  obtain ⟨r, e⟩ := lists_nil (ints sp.length) sp.length
  rw [e, List.find?_cons, h]
  rfl
theorem one_dec {g : List Int} (h0 : 0 < g.length) (h5 : g.length ≤ 5) (hg : Gr g) : decB (oneB g) = [] := by
  unfold decB
  rw [ask_ok (one_valid h0 h5 hg) (one_ok hg), if_pos rfl]
  refine dec_nil ?_
  have := one_truths h5 hg
  unfold truthsB at this
  rw [this, consB_iff]
  intro t ht u hu _
  rw [List.mem_singleton.1 ht, List.mem_singleton.1 hu]
/-- The draw that is told: the first layer with the least worst. -/
theorem ask_spec (f : Nat → Int → Int) (sp : List Span) (most : Int) (hm : ∀ j, layN f sp j < most) : ∀ n : Nat, 0 < n →
    ∃ a : Nat, a < n ∧ askTo f sp most n = ((a : Int), layN f sp a) ∧ (∀ j, j < n → layN f sp a ≤ layN f sp j) ∧ ∀ j, j < a → layN f sp a < layN f sp j
  | 0, h => absurd h (by omega)
  | 1, _ => by
    refine ⟨0, by omega, ?_, fun j hj => ?_, fun j hj => absurd hj (by omega)⟩
    · unfold askTo; rw [if_pos (by unfold askTo; exact hm 0)]
    · obtain rfl : j = 0 := by omega
      exact Int.le_refl _
  | n + 2, _ => by
    obtain ⟨a, h1, h2, h3, h4⟩ := ask_spec f sp most hm (n + 1) (by omega)
    rw [askTo, h2]
    dsimp only
    by_cases h : layN f sp (n + 1) < layN f sp a
    · rw [if_pos h]
      refine ⟨n + 1, by omega, rfl, fun j hj => ?_, fun j hj => ?_⟩
      · by_cases e : j = n + 1
        · rw [e]; exact Int.le_refl _
        · have := h3 j (by omega); omega
      · have := h3 j hj; omega
    · rw [if_neg h]
      refine ⟨a, by omega, rfl, fun j hj => ?_, h4⟩
      by_cases e : j = n + 1
      · rw [e]; omega
      · exact h3 j (by omega)
theorem num_pins {g : List Int} (h5 : g.length ≤ 5) (hg : Gr g) {j : Nat} (h : j < g.length) : numK (g.map fun n => (⟨n, n⟩ : Span)) j g[j] = 1 := by
  have hb := hg _ (List.getElem_mem h)
  have hx : (g.map fun n => (⟨n, n⟩ : Span))[j]? = some ⟨g[j], g[j]⟩ := by rw [List.getElem?_map, List.getElem?_eq_getElem h]; rfl
  have e := pin_eq (sp := g.map fun n => (⟨n, n⟩ : Span)) (by simpa using h5) hx (n := g[j]) (Int.le_refl _) (Int.le_refl _) (by omega)
  rw [show (g.map fun n => (⟨n, n⟩ : Span)).set j ⟨g[j], g[j]⟩ = g.map fun n => (⟨n, n⟩ : Span) from by
    apply List.ext_getElem?
    intro i
    rw [List.getElem?_set]
    split
    · rename_i hji
      subst hji
      rw [if_pos (by simpa using h), hx]
    · rfl, truths_pins h5] at e
  unfold numK
  rw [← e]
  have := kindL_bd g
  show (((S4.none.add (kindL g)).num : Nat) : Int) = 1
  rcases four this.1 this.2 with h | h | h | h <;> rw [h] <;> decide
theorem one_ask {g : List Int} (h0 : 0 < g.length) (h5 : g.length ≤ 5) (hg : Gr g) : askB (oneB g) = (0, 1) := by
  unfold askB
  rw [ask_ok (one_valid h0 h5 hg) (one_ok hg), if_pos rfl]
  unfold askS
  rw [one_spans hg]
  have key : ∀ j, j < g.length → layN (numK (g.map fun n => (⟨n, n⟩ : Span))) (g.map fun n => (⟨n, n⟩ : Span)) j = 1 := by
    intro j hj
    unfold layN
    rw [List.getElem?_map, List.getElem?_eq_getElem hj]
    dsimp only [Option.map_some]
    rw [show (g[j] - g[j] + 1).toNat = 1 by omega]
    unfold wst wst
    rw [show g[j] + ((0 : Nat) : Int) = g[j] by simp, num_pins h5 hg hj]
    rfl
  obtain ⟨a, h1, h2, h3, h4⟩ := ask_spec (numK (g.map fun n => (⟨n, n⟩ : Span))) (g.map fun n => (⟨n, n⟩ : Span)) 5 (fun j => by have := layN_bd (g.map fun n => (⟨n, n⟩ : Span)) j; omega) (g.map fun n => (⟨n, n⟩ : Span)).length (by simpa using h0)
  rw [h2]
  have h1 : a < g.length := by simpa using h1
  have ha : a = 0 := by
    refine Nat.eq_zero_of_not_pos fun hp => ?_
    have := h4 0 hp
    rw [key a h1, key 0 h0] at this
    omega
  subst ha
  rw [key 0 h0]
  rfl
/-- The cut that is told is one of the grades' cuts, at both of its ends. -/
theorem one_cut {g : List Int} (h0 : 0 < g.length) (h5 : g.length ≤ 5) (hg : Gr g) :
    (kindL g ≠ 2 → cutE (oneB g) = 6) ∧ (kindL g = 2 → cutE (oneB g) = 0 ∧ ∃ p q : Nat, cutB (oneB g) = ⟨(p : Int), (q : Int)⟩ ∧ 1 ≤ p ∧ p ≤ q ∧ q < g.length ∧ kindL (g.take p) = 1 ∧ kindL (g.drop q) = 1) := by
  have hv := one_valid h0 h5 hg
  have ho := one_ok hg
  have hb := kindL_bd g
  obtain ⟨q1, q2⟩ := cutE_ok hv ho
  rw [one_kinds h5 hg, kindK_one hb.1 hb.2 (by decide) (by decide)] at q2
  refine ⟨fun h => ?_, fun h => ?_⟩
  · rw [if_neg (fun e => h e.symm)] at q2
    rcases q1 with q1 | q1
    · exact absurd rfl (q2.1 q1)
    · exact q1
  · rw [if_pos h.symm] at q2
    refine ⟨q2.2 (by decide), ?_⟩
    have hh : (cutS (oneB g)).hi ≠ 0 := cut_hi.2 ⟨g, by rw [one_truths h5 hg]; exact List.mem_singleton.2 rfl, h⟩
    have hne : ∃ x, x ∈ cutsL g := List.exists_mem_of_length_pos ((kind2_iff g).1 h)
    have hal : alikeL g = false := by
      cases ha : alikeL g with
      | false => rfl
      | true => rw [kind1_iff.2 ha] at h; cases h
    have hcut : ∀ {x : Int}, x ∈ cutsL g → ∃ k : Nat, x = (k : Int) ∧ 1 ≤ k ∧ k < g.length ∧ kindL (g.take k) = 1 ∧ kindL (g.drop k) = 1 := by
      intro x hx
      obtain ⟨k, h1, h2, h3⟩ := cutsL_bd hx
      unfold cutsL at hx
      rw [hal] at hx
      obtain ⟨k', h4, h5, h6⟩ := (cutsTo_mem _).1 hx
      obtain rfl : k = k' := by omega
      unfold cutAt at h5
      simp only [Bool.and_eq_true, decide_eq_true_eq] at h5
      exact ⟨k, h3, h1, h2, kind1_iff.2 h5.2.1, kind1_iff.2 h5.2.2⟩
    unfold cutB
    rw [ask_ok hv ho, if_pos rfl, if_neg hh]
    have e : cutS (oneB g) = (cutsL g).foldl cutStep ⟨(g.length : Int), 0⟩ := by
      unfold cutS; rw [one_truths h5 hg, cutFold_flat]
      show (([g] : List (List Int)).flatMap cutsL).foldl cutStep _ = _
      rw [List.flatMap_cons, List.flatMap_nil, List.append_nil]
      rfl
    rw [e] at hh ⊢
    obtain ⟨h1, h2, h3, h4, h6⟩ := cutStep_fold (cutsL g) ⟨(g.length : Int), 0⟩
    generalize (cutsL g).foldl cutStep ⟨(g.length : Int), 0⟩ = r at *
    obtain ⟨x, hx⟩ := hne
    obtain ⟨k, rfl, k1, k2, -, -⟩ := hcut hx
    have h3x := h3 _ hx
    have hlo : r.lo ∈ cutsL g := by
      rcases h4 with h4 | h4
      · exfalso; dsimp only at h4; omega
      · exact h4
    have hhi : r.hi ∈ cutsL g := by
      rcases h6 with h6 | h6
      · exact absurd h6 hh
      · exact h6
    obtain ⟨p, e1, p1, p2, p3, -⟩ := hcut hlo
    obtain ⟨q, e2, q3, q4, -, q6⟩ := hcut hhi
    obtain ⟨lo, hi⟩ := r
    dsimp only at e1 e2 h3x
    exact ⟨p, q, by rw [e1, e2], p1, by omega, q4, p3, q6⟩
end Go.Proofs.YtdlipbobfgdleaaDoor
/- The reference's has and without. -/
namespace Go.Proofs.YtdlipbobfgdleaaDoor
open Go.RowKit Go.Shelf Go.Lib
set_option maxRecDepth 100000
set_option linter.unusedSimpArgs false

theorem has_any (l : List Int) (v : Value) (x : Int) (w : World) (hs : SlI w v l) :
    Calls Tryd.prog 148 #[v, .int .i64 x] w fun e w' => e = .returned (.bool (l.any fun y => decide (x = y))) ∧ Ext w w' := by
  have HS := Lib.hid hs
  obtain ⟨A, n, c, rfl, hn, hlc, hcm⟩ := hs.form
  clear hs
  go_enter Tryd.func148, Tryd.ntmps148
  go_wp2
  go_loopg [6, 9] n (fun gg _ s9 wr => ∃ kk : Nat, kk ≤ n ∧ n - kk ≤ gg ∧ s9 = .int .i64 kk ∧ Aside (Ext w wr) ∧ Aside (((l.take kk).any fun y => decide (x = y)) = false))
  case atStart => exact ⟨0, by omega, by omega, rfl, Ext.refl _, by show (_ = false); simp⟩
  case round =>
    obtain ⟨kk, hkk, hgg, rfl, EX, FA⟩ := hrel
    by_cases hlt : kk < n
    · have hltz : (kk : Int) < (n : Int) := by omega
      obtain ⟨bb, off, y, rfl, hy, hb, hcell⟩ := HS.out.at_ hlt
      have c0 := SlI.cell hcell EX.out
      have HTK := Lib.hid (show (l.take (kk + 1)) = l.take kk ++ [y] by rw [List.take_add_one, hy]; rfl)
      have HM := Lib.hid (List.mem_of_getElem? hy)
      clear hy hcell
      by_cases hxy : y = x
      · subst hxy
        have HA := Lib.hid (show (l.any fun z => decide (y = z)) = true from List.any_eq_true.2 ⟨y, HM.out, by simp⟩)
        go_wp2
        go_ret
        exact ⟨by rw [HA.out]; rfl, EX.out⟩
      · have hyb : (y == x) = false := by simpa using hxy
        have HF := Lib.hid (show ((l.take (kk + 1)).any fun z => decide (x = z)) = false by rw [HTK.out, List.any_append, FA.out]; simp; exact fun e => hxy e.symm)
        go_wp2
        go_roundg (n - (kk + 1))
        case measure => omega
        case rel => exact ⟨kk + 1, by omega, by omega, by simp, EX.out, HF.out⟩
    · have HA := Lib.hid (show (l.any fun y => decide (x = y)) = false by have := FA.out; rwa [List.take_of_length_le (by have := hn.out; omega)] at this)
      go_wp2
      go_ret
      exact ⟨by rw [HA.out]; rfl, EX.out⟩

theorem filter_snoc {α : Type} (f : α → Bool) {l : List α} {k : Nat} {x : α} (h : l[k]? = some x) : (l.take (k + 1)).filter f = (l.take k).filter f ++ (if f x then [x] else []) := by
  rw [List.take_add_one, h, List.filter_append]
  simp only [Option.toList_some, List.filter_cons, List.filter_nil]
theorem encD_1 (x : Draw) : ∀ u ∈ encD x, u.oneCell' = true := by intro u hu; simp at hu; rcases hu with rfl | rfl | rfl | rfl <;> rfl
theorem encW_1 (x : Weigh) : ∀ u ∈ encW x, u.oneCell' = true := by intro u hu; simp at hu; rcases hu with rfl | rfl | rfl | rfl <;> rfl

set_option maxHeartbeats 4000000 in
theorem refWithout_any (b : Bale) (l k : List Int) (dv wv lv kv : Value) (w : World) (hd : SlD w dv b.draws) (hw : SlW w wv b.weighs) (hl : SlI w lv l) (hk : SlI w kv k) (hld : b.draws.length ≤ 1000) (hlw : b.weighs.length ≤ 1000) :
    Calls Tryd.prog 121 #[valB b dv wv, lv, kv] w fun e w' => (∃ v, e = .returned v ∧ TwinV (withB b l k) w.heap.size v w') ∧ Ext w w' := by
  have HD := Lib.hid hd; have HW := Lib.hid hw; have HL := Lib.hid hl; have HK := Lib.hid hk
  obtain ⟨A, n, cp, rfl, hn, hlc, hcm⟩ := hd.form
  obtain ⟨A2, n2, cp2, rfl, hn2, hlc2, hcm2⟩ := hw.form
  clear hd hw hl hk
  go_enter Tryd.func121, Tryd.ntmps121
  go_wp2_with fail
  refine (twin_any b _ _ _ ((HD.out.ext (Ext.al _ _)).ext (Ext.al _ _)) ((HW.out.ext (Ext.al _ _)).ext (Ext.al _ _)) hld hlw).mono ?_
  rintro e w2 ⟨⟨v, rfl, dv, wv, rfl, o1, o2⟩, hE2⟩
  obtain ⟨Ad, nd, cd, rfl, -, -, -⟩ := (show SlD w2 dv b.draws from o1.sl (fun _ => rfl)).form
  obtain ⟨Aw, nw, cw, rfl, -, -, -⟩ := (show SlW w2 wv b.weighs from o2.sl (fun _ => rfl)).form
  have HE2 := Lib.hid (((Ext.al w _).alloc _ : Ext w _).trans hE2)
  have HB0 := Lib.hid (((Blk.new w 27 #[.int .i64 b.id, .int .i64 b.layers, .int .i64 b.dry.lo, .int .i64 b.dry.hi, .slice A n cp, .slice A2 n2 cp2]).alloc (.cells #[.int .i64 0, .int .i64 0, .int .i64 0, .int .i64 0, .slice none 0 0, .slice none 0 0] 27)).ext hE2)
  have HB1 := Lib.hid ((Blk.at_ (t := 27) (cs := #[.int .i64 0, .int .i64 0, .int .i64 0, .int .i64 0, .slice none 0 0, .slice none 0 0]) (w := w.alloc (.cells #[.int .i64 b.id, .int .i64 b.layers, .int .i64 b.dry.lo, .int .i64 b.dry.hi, .slice A n cp, .slice A2 n2 cp2] 27)) (g := w.heap.size + 1) (by simp)).ext hE2)
  have hz0 := HB1.out.lt
  have hz1 : w.heap.size < w2.heap.size := HB0.out.lt
  clear o1 o2 hE2
  have x0 := HB0.out.cell 4
  have x1 := HB0.out.cell 5
  simp at x0 x1
  dsimp only [valB]
  go_wp2_with fail
  clear x0 x1
  go_loopg [9, 19] n (fun gg _ s19 wr => ∃ (kk : Nat) (u : Value), kk ≤ n ∧ n - kk ≤ gg ∧ s19 = .int .i64 kk ∧ Aside (Blk wr w2.heap.size 27 #[.int .i64 b.id, .int .i64 b.layers, .int .i64 b.dry.lo, .int .i64 b.dry.hi, u, .slice none 0 0]) ∧ Aside (Own encD 63 4 wr (w2.heap.size + 1) u ((b.draws.take kk).filter fun x => !(l.any fun y => decide (x.number = y)))) ∧ Aside (Ext w2 wr))
  case atStart => exact ⟨0, .slice none 0 0, by omega, by omega, rfl, Blk.new _ _ _, Own.nil _ _, Ext.al _ _⟩
  case round =>
    obtain ⟨kk, u, hkk, hgg, rfl, BK, OW, EX⟩ := hrel
    obtain ⟨Au, nu, cu, rfl, -, -, -⟩ := (show SlD wr u _ from OW.out.sl (fun _ => rfl)).form
    have y0 := BK.out.cell 0
    have y1 := BK.out.cell 1
    have y2 := BK.out.cell 2
    have y3 := BK.out.cell 3
    have y4 := BK.out.cell 4
    have y5 := BK.out.cell 5
    have yl := BK.out.lt
    have yf := BK.out.frozen
    simp at y0 y1 y2 y3 y4 y5
    have X0 := Lib.hid (HB0.out.ext EX.out)
    have x4 := X0.out.cell 4
    have x5 := X0.out.cell 5
    have xl := X0.out.lt
    simp at x4 x5
    by_cases hlt : kk < n
    · have hltz : (kk : Int) < (n : Int) := by omega
      obtain ⟨bb, off, x, rfl, hx, hbb, hxc⟩ := HD.out.at_ hlt
      obtain ⟨c0, c1, c2, c3⟩ := SlD.cells hxc (HE2.out.trans EX.out)
      have HFS := Lib.hid (filter_snoc (fun x : Draw => !(l.any fun y => decide (x.number = y))) hx)
      have HLN := Lib.hid (show ((b.draws.take kk).filter fun x => !(l.any fun y => decide (x.number = y))).length < 100000000000 from Nat.lt_of_le_of_lt (List.length_filter_le _ _) (by rw [List.length_take]; omega))
      clear hx hxc
      have HA := Lib.hid (has_any l _ x.number (wr.alloc (.cells #[.int .i64 x.number, .int .i64 x.layer, .int .i64 x.grade.lo, .int .i64 x.grade.hi] 63)) ((HL.out.ext (HE2.out.trans EX.out)).ext (Ext.al _ _)))
      go_wp2_with fail
      refine HA.out.mono ?_
      rintro e w6 ⟨rfl, hE6⟩
      have HXB := Lib.hid ((Blk.new wr 63 #[.int .i64 x.number, .int .i64 x.layer, .int .i64 x.grade.lo, .int .i64 x.grade.hi]).ext hE6)
      have E6 := Lib.hid (show Ext wr w6 from (Ext.al _ _).trans hE6)
      have BK6 := Lib.hid (BK.out.ext E6.out)
      have OW6 := Lib.hid (OW.out.ext E6.out)
      have EX6 := Lib.hid (EX.out.trans E6.out)
      have s6 := E6.out.size
      clear hE6 y0 y1 y2 y3 y4 y5 yl yf x4 x5 xl c0 c1 c2 c3
      have y0 := BK6.out.cell 0
      have y1 := BK6.out.cell 1
      have y2 := BK6.out.cell 2
      have y3 := BK6.out.cell 3
      have y4 := BK6.out.cell 4
      have y5 := BK6.out.cell 5
      have yl := BK6.out.lt
      simp at y0 y1 y2 y3 y4 y5
      have b0 := HXB.out.cell 0
      have b1 := HXB.out.cell 1
      have b2 := HXB.out.cell 2
      have b3 := HXB.out.cell 3
      have bl := HXB.out.lt
      simp at b0 b1 b2 b3
      cases ha : (l.any fun y => decide (x.number = y)) with
      | true =>
        have HN := Lib.hid (show ((b.draws.take (kk + 1)).filter fun x => !(l.any fun y => decide (x.number = y))) = ((b.draws.take kk).filter fun x => !(l.any fun y => decide (x.number = y))) by rw [HFS.out, ha]; simp)
        clear ha
        go_wp2
        go_roundg (n - (kk + 1))
        case measure => omega
        case rel => exact ⟨kk + 1, _, by omega, by omega, by simp, BK6.out, by rw [HN.out]; exact OW6.out, EX6.out⟩
      | false =>
        have HN := Lib.hid (show ((b.draws.take (kk + 1)).filter fun x => !(l.any fun y => decide (x.number = y))) = ((b.draws.take kk).filter fun x => !(l.any fun y => decide (x.number = y))) ++ [x] by rw [HFS.out, ha]; simp)
        clear ha
        go_wp2_with (at_builtin; refine wpList_app encD 24 63 4 _ 32 Tryd.underlying24 info63x rfl (by decide) (by decide) (fun _ => rfl) encD_1 rfl (.tmp 29) (.tmp 31) rfl (w2.heap.size + 1) _ ((b.draws.take kk).filter fun x => !(l.any fun y => decide (x.number = y))) rfl (OW6.out.alloc _) w6.heap.size 1 x rfl (cells4 (by simp [go_sem]) (by simp [go_sem]) (by simp [go_sem]) (by simp [go_sem])) HLN.out (by simp; omega) ?_)
        intro g cap w7 hown hg2 hbel hgr
        have HO := Lib.hid (show Own encD 63 4 w7 (w2.heap.size + 1) _ ((b.draws.take (kk + 1)).filter fun x => !(l.any fun y => decide (x.number = y))) by rw [HN.out]; exact hown)
        have BK7 := Lib.hid (Blk.below (BK6.out.alloc (.cells #[.int .i64 x.number, .int .i64 x.layer, .int .i64 x.grade.lo, .int .i64 x.grade.hi] 63)) hbel (by omega))
        have EX7 := Lib.hid (show Ext w2 w7 from Below.trans (EX6.out.alloc _) (Below.mono hbel (by omega)))
        clear hown hbel hgr y0 y1 y2 y3 y4 y5 yl b0 b1 b2 b3 bl
        have y0 := BK7.out.cell 0
        have y1 := BK7.out.cell 1
        have y2 := BK7.out.cell 2
        have y3 := BK7.out.cell 3
        have y4 := BK7.out.cell 4
        have y5 := BK7.out.cell 5
        have yl := BK7.out.lt
        have yf := BK7.out.frozen
        simp at y0 y1 y2 y3 y4 y5
        go_wp2
        go_roundg (n - (kk + 1))
        case measure => omega
        case rel => exact ⟨kk + 1, _, by omega, by omega, by simp, by show Blk _ _ _ _; have := BK7.out.set_ 4 (.slice (some ⟨g, 0, none⟩) (((b.draws.take kk).filter fun x => !(l.any fun y => decide (x.number = y))).length + 1) cap); simpa using this, own_set HO.out (by omega), EX7.out.setCell (Nat.le_refl _) _⟩
    · have HW1 := Lib.hid (show ((b.draws.take kk).filter fun x => !(l.any fun y => decide (x.number = y))) = (withB b l k).draws by rw [List.take_of_length_le (by have := hn.out; omega)]; rfl)
      have OW1 := Lib.hid (show Own encD 63 4 wr (w2.heap.size + 1) (.slice Au nu cu) (withB b l k).draws by rw [← HW1.out]; exact OW.out)
      obtain ⟨u0, hu0⟩ : ∃ u0 : Value, u0 = .slice Au nu cu := ⟨_, rfl⟩
      obtain ⟨A0, n0, c0, e0⟩ : ∃ A0 n0 c0, u0 = Value.slice A0 n0 c0 := ⟨_, _, _, hu0⟩
      go_wp2_with fail
      clear y0 y1 y2 y3 y4 y5 yl yf x4 x5 xl
      rw [← hu0] at OW1 BK
      go_loopg [11, 38] n2 (fun gg _ s38 wr => ∃ (kk : Nat) (u : Value), kk ≤ n2 ∧ n2 - kk ≤ gg ∧ s38 = .int .i64 kk ∧ Aside (Blk wr w2.heap.size 27 #[.int .i64 b.id, .int .i64 b.layers, .int .i64 b.dry.lo, .int .i64 b.dry.hi, u0, u]) ∧ Aside (Own encW 65 4 wr (w2.heap.size + 1) u ((b.weighs.take kk).filter fun x => !(k.any fun y => decide (x.number = y)))) ∧ Aside (Ext w2 wr) ∧ Aside (Own encD 63 4 wr (w2.heap.size + 1) u0 (withB b l k).draws))
      case atStart => exact ⟨0, .slice none 0 0, by omega, by omega, rfl, BK.out, Own.nil _ _, EX.out, OW1.out⟩
      case round =>
        obtain ⟨kk, u, hkk, hgg, rfl, BK, OW, EX, OD⟩ := hrel
        obtain ⟨Au, nu, cu, rfl, -, -, -⟩ := (show SlW wr u _ from OW.out.sl (fun _ => rfl)).form
        have y0 := BK.out.cell 0
        have y1 := BK.out.cell 1
        have y2 := BK.out.cell 2
        have y3 := BK.out.cell 3
        have y4 := BK.out.cell 4
        have y5 := BK.out.cell 5
        have yl := BK.out.lt
        have yf := BK.out.frozen
        simp at y0 y1 y2 y3 y4 y5
        have X0 := Lib.hid (HB0.out.ext EX.out)
        have x4 := X0.out.cell 4
        have x5 := X0.out.cell 5
        have xl := X0.out.lt
        simp at x4 x5
        by_cases hlt : kk < n2
        · have hltz : (kk : Int) < (n2 : Int) := by omega
          obtain ⟨bb, off, x, rfl, hx, hbb, hxc⟩ := HW.out.at_ hlt
          obtain ⟨c0, c1, c2, c3⟩ := SlW.cells hxc (HE2.out.trans EX.out)
          have HFS := Lib.hid (filter_snoc (fun x : Weigh => !(k.any fun y => decide (x.number = y))) hx)
          have HLN := Lib.hid (show ((b.weighs.take kk).filter fun x => !(k.any fun y => decide (x.number = y))).length < 100000000000 from Nat.lt_of_le_of_lt (List.length_filter_le _ _) (by rw [List.length_take]; omega))
          clear hx hxc
          have HA := Lib.hid (has_any k _ x.number (wr.alloc (.cells #[.int .i64 x.number, .int .i64 x.pounds, .int .i64 x.damp.lo, .int .i64 x.damp.hi] 65)) ((HK.out.ext (HE2.out.trans EX.out)).ext (Ext.al _ _)))
          go_wp2_with fail
          refine HA.out.mono ?_
          rintro e w6 ⟨rfl, hE6⟩
          have HXB := Lib.hid ((Blk.new wr 65 #[.int .i64 x.number, .int .i64 x.pounds, .int .i64 x.damp.lo, .int .i64 x.damp.hi]).ext hE6)
          have E6 := Lib.hid (show Ext wr w6 from (Ext.al _ _).trans hE6)
          have BK6 := Lib.hid (BK.out.ext E6.out)
          have OW6 := Lib.hid (OW.out.ext E6.out)
          have EX6 := Lib.hid (EX.out.trans E6.out)
          have OD6 := Lib.hid (OD.out.ext E6.out)
          have s6 := E6.out.size
          clear hE6 y0 y1 y2 y3 y4 y5 yl yf x4 x5 xl c0 c1 c2 c3
          have y0 := BK6.out.cell 0
          have y1 := BK6.out.cell 1
          have y2 := BK6.out.cell 2
          have y3 := BK6.out.cell 3
          have y4 := BK6.out.cell 4
          have y5 := BK6.out.cell 5
          have yl := BK6.out.lt
          simp at y0 y1 y2 y3 y4 y5
          have b0 := HXB.out.cell 0
          have b1 := HXB.out.cell 1
          have b2 := HXB.out.cell 2
          have b3 := HXB.out.cell 3
          have bl := HXB.out.lt
          simp at b0 b1 b2 b3
          cases ha : (k.any fun y => decide (x.number = y)) with
          | true =>
            have HN := Lib.hid (show ((b.weighs.take (kk + 1)).filter fun x => !(k.any fun y => decide (x.number = y))) = ((b.weighs.take kk).filter fun x => !(k.any fun y => decide (x.number = y))) by rw [HFS.out, ha]; simp)
            clear ha
            go_wp2
            go_roundg (n2 - (kk + 1))
            case measure => omega
            case rel => exact ⟨kk + 1, _, by omega, by omega, by simp, BK6.out, by rw [HN.out]; exact OW6.out, EX6.out, OD6.out⟩
          | false =>
            have HN := Lib.hid (show ((b.weighs.take (kk + 1)).filter fun x => !(k.any fun y => decide (x.number = y))) = ((b.weighs.take kk).filter fun x => !(k.any fun y => decide (x.number = y))) ++ [x] by rw [HFS.out, ha]; simp)
            clear ha
            go_wp2_with (at_builtin; refine wpList_app encW 25 65 4 _ 32 Tryd.underlying25 info65x rfl (by decide) (by decide) (fun _ => rfl) encW_1 rfl (.tmp 48) (.tmp 50) rfl (w2.heap.size + 1) _ ((b.weighs.take kk).filter fun x => !(k.any fun y => decide (x.number = y))) rfl (OW6.out.alloc _) w6.heap.size 1 x rfl (cells4 (by simp [go_sem]) (by simp [go_sem]) (by simp [go_sem]) (by simp [go_sem])) HLN.out (by simp; omega) ?_)
            intro g cap w7 hown hg2 hbel hgr
            have HO := Lib.hid (show Own encW 65 4 w7 (w2.heap.size + 1) _ ((b.weighs.take (kk + 1)).filter fun x => !(k.any fun y => decide (x.number = y))) by rw [HN.out]; exact hown)
            have BK7 := Lib.hid (Blk.below (BK6.out.alloc (.cells #[.int .i64 x.number, .int .i64 x.pounds, .int .i64 x.damp.lo, .int .i64 x.damp.hi] 65)) hbel (by omega))
            have EX7 := Lib.hid (show Ext w2 w7 from Below.trans (EX6.out.alloc _) (Below.mono hbel (by omega)))
            have OD7 := Lib.hid (own_apart (OD6.out.alloc (.cells #[.int .i64 x.number, .int .i64 x.pounds, .int .i64 x.damp.lo, .int .i64 x.damp.hi] 65)) (OW6.out.alloc _) (by decide) hgr)
            clear hown hbel hgr y0 y1 y2 y3 y4 y5 yl b0 b1 b2 b3 bl
            have y0 := BK7.out.cell 0
            have y1 := BK7.out.cell 1
            have y2 := BK7.out.cell 2
            have y3 := BK7.out.cell 3
            have y4 := BK7.out.cell 4
            have y5 := BK7.out.cell 5
            have yl := BK7.out.lt
            have yf := BK7.out.frozen
            simp at y0 y1 y2 y3 y4 y5
            go_wp2
            go_roundg (n2 - (kk + 1))
            case measure => omega
            case rel => exact ⟨kk + 1, _, by omega, by omega, by simp, by show Blk _ _ _ _; have := BK7.out.set_ 5 (.slice (some ⟨g, 0, none⟩) (((b.weighs.take kk).filter fun x => !(k.any fun y => decide (x.number = y))).length + 1) cap); simpa using this, own_set HO.out (by omega), EX7.out.setCell (Nat.le_refl _) _, own_set OD7.out (by omega)⟩
        · have HW2 := Lib.hid (show ((b.weighs.take kk).filter fun x => !(k.any fun y => decide (x.number = y))) = (withB b l k).weighs by rw [List.take_of_length_le (by have := hn2.out; omega)]; rfl)
          have OW2 := Lib.hid (show Own encW 65 4 wr (w2.heap.size + 1) (.slice Au nu cu) (withB b l k).weighs by rw [← HW2.out]; exact OW.out)
          have HR := Lib.hid (HB1.out.ext EX.out)
          have t0 := HR.out.cell 0
          have t1 := HR.out.cell 1
          have t2 := HR.out.cell 2
          have t3 := HR.out.cell 3
          have t4 := HR.out.cell 4
          have t5 := HR.out.cell 5
          have tl := HR.out.lt
          have tf := HR.out.frozen
          simp at t0 t1 t2 t3 t4 t5
          subst e0
          clear hu0
          go_wp2
          refine ret_set6 HR.out fun W' ⟨b0, b1, b2, b3, b4, b5⟩ hW => ?_
          refine bodyPost_ret (v := valB b (.slice A0 n0 c0) (.slice Au nu cu)) (by simp [results, Tryd.results121, go_sem, b0, b1, b2, b3, b4, b5]) rfl ?_
          exact ⟨⟨_, rfl, ⟨_, _, rfl, own_mono (own_kept OD.out hW (by omega)) (by omega), own_mono (own_kept OW2.out hW (by omega)) (by omega)⟩⟩, ext_grown (HE2.out.trans EX.out) hW (by omega)⟩
end Go.Proofs.YtdlipbobfgdleaaDoor
