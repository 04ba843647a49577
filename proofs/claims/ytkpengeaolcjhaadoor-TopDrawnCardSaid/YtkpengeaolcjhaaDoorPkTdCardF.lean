/- The plain law of CoreWeight: what holds of each dry weight that can be. -/
import Derived.Test.YtkpengeaolcjhaaDoorPkTdCardA
import Derived.Test.YtkpengeaolcjhaaDoorPkTdCardD
import Derived.Test.YtkpengeaolcjhaaDoorPkTdCardE
import Derived.Test.YtkpengeaolcjhaaDoorPkTdCardC
import Derived.Test.YtkpengeaolcjhaaDoorPkMlTellsCardN
import Derived.Test.YtkpengeaolcjhaaDoorPkMlTellsCardF
import Derived.Test.YtkpengeaolcjhaaDoorPkMlTellsCardD
import Derived.Test.YtkpengeaolcjhaaDoorPkMlTellsCardG
namespace Go.Proofs.YtkpengeaolcjhaaDoor
open Go.RowKit Go.Shelf Go.Lib
set_option maxRecDepth 100000
set_option linter.unusedSimpArgs false

theorem valid_weighs {b : Bale} (h : valid b = true) : (b.weighs.map (·.number)).Pairwise (· < ·) := by
  unfold valid chk2 at h
  simp only [Bool.and_eq_true] at h
  exact (rise_lt _ _ h.2.1.2).1
theorem dries_mem {b : Bale} {d : Int} : d ∈ dries b ↔ (b.dry.lo ≤ d ∧ d ≤ b.dry.hi) ∧ ∀ x ∈ b.weighs, could d x = true := by
  unfold dries driesTo
  rw [List.mem_filter, List.mem_map, List.all_eq_true]
  constructor
  · rintro ⟨⟨i, hi, rfl⟩, h⟩
    rw [List.mem_range] at hi
    exact ⟨by omega, h⟩
  · rintro ⟨h1, h2⟩
    exact ⟨⟨(d - b.dry.lo).toNat, List.mem_range.2 (by omega), by omega⟩, h2⟩
theorem dry_first {b : Bale} (ho : okB b = true) : (dryOf (dries b)).lo ∈ dries b ∧ (dryOf (dries b)).hi ∈ dries b ∧ ∀ d ∈ dries b, (dryOf (dries b)).lo ≤ d ∧ d ≤ (dryOf (dries b)).hi := by
  have h0 := ok_pos ho
  have hs := List.pairwise_iff_getElem.1 (dries_sorted b)
  unfold dryOf
  dsimp only
  rw [List.getElem?_eq_getElem h0, List.getElem?_eq_getElem (show (dries b).length - 1 < (dries b).length by omega)]
  refine ⟨List.getElem_mem _, List.getElem_mem _, fun d hd => ?_⟩
  obtain ⟨i, hi, rfl⟩ := List.mem_iff_getElem.1 hd
  simp only [Option.getD_some]
  constructor
  · rcases Nat.eq_zero_or_pos i with e | e
    · subst e; omega
    · exact hs 0 i h0 hi e
  · by_cases e : i = (dries b).length - 1
    · subst e; omega
    · exact hs i _ hi (by omega) (by omega)
theorem dry_mid {b : Bale} (hv : valid b = true) (ho : okB b = true) {d : Int} (h1 : (dryOf (dries b)).lo ≤ d) (h2 : d ≤ (dryOf (dries b)).hi) : d ∈ dries b := by
  obtain ⟨ha, hb, -⟩ := dry_first ho
  rw [dries_mem] at ha hb ⊢
  refine ⟨by omega, fun x hx => ?_⟩
  have hB := valid_bds hv
  have hw := hB.w x hx
  have ha2 := ha.2 x hx
  have hb2 := hb.2 x hx
  unfold could inB at ha2 hb2 ⊢
  simp only [Bool.and_eq_true, decide_eq_true_eq] at ha2 hb2 ⊢
  have k1 := weight_le_d x.damp.lo h2 (by omega)
  have k2 := weight_le_d x.damp.hi h1 (by omega)
  omega
theorem dryB_ok {b : Bale} (hv : valid b = true) (ho : okB b = true) : dryB b = dryOf (dries b) := by
  unfold dryB; rw [ask_ok hv ho, if_pos rfl]
theorem damp_in {n : Int} (h0 : 0 ≤ n) (h1 : n ≤ 200) : inB 0 200 n = true := by unfold inB; simp; omega
theorem payB_ok {b : Bale} (hv : valid b = true) (ho : okB b = true) {n : Int} (h0 : 0 ≤ n) (h1 : n ≤ 200) : payB b n = ⟨weight (dryOf (dries b)).lo n, weight (dryOf (dries b)).hi n⟩ := by
  unfold payB; rw [damp_in h0 h1, ask_ok hv ho, if_pos rfl]; rfl
theorem asideB_ok {b : Bale} (hv : valid b = true) (ho : okB b = true) {n : Int} (h0 : 0 ≤ n) (h1 : n ≤ 200) : asideB b n = asideL (surelyL b n) (mayL b n) (kindS b) := by
  unfold asideB; rw [damp_in h0 h1, ask_ok hv ho, if_pos rfl]
theorem wet_at {b : Bale} (hv : valid b = true) (ho : okB b = true) {x : Weigh} (hx : x ∈ b.weighs) :
    decide (0 ≤ wIdx b x.number) = true ∧ wetB b x.number = ⟨dLo (dryOf (dries b)).hi x, dHi (dryOf (dries b)).lo x⟩ := by
  obtain ⟨i, hi⟩ := List.getElem?_of_mem hx
  have hp := List.pairwise_iff_getElem.1 (valid_weighs hv)
  have hil := (List.getElem?_eq_some_iff.1 hi).1
  have hidx : wIdx b x.number = (i : Int) := by
    unfold wIdx
    refine idxF_some _ _ i x hi (by simp) fun j y hj hy => ?_
    have hjl := (List.getElem?_eq_some_iff.1 hy).1
    have := hp j i (by simpa using hjl) (by simpa using hil) hj
    rw [List.getElem_map, List.getElem_map] at this
    rw [(List.getElem?_eq_some_iff.1 hy).2, (List.getElem?_eq_some_iff.1 hi).2] at this
    simp
    omega
  have hz : decide (0 ≤ wIdx b x.number) = true := by rw [hidx]; simp
  refine ⟨hz, ?_⟩
  unfold wetB
  rw [hz, ask_ok hv ho, if_pos rfl]
  unfold wetOf
  rw [hidx, Int.toNat_natCast, hi]
theorem wet_law {b : Bale} (hv : valid b = true) (ho : okB b = true) {x : Weigh} (hx : x ∈ b.weighs) :
    x.damp.lo ≤ (wetB b x.number).lo ∧ (wetB b x.number).lo ≤ (wetB b x.number).hi ∧ (wetB b x.number).hi ≤ x.damp.hi ∧
    ∀ d ∈ dries b, (wetB b x.number).lo ≤ dLo d x ∧ dLo d x ≤ dHi d x ∧ dHi d x ≤ (wetB b x.number).hi ∧ weight d (dLo d x) = x.pounds := by
  have hB := valid_bds hv
  obtain ⟨h1, h2, h3⟩ := dry_first ho
  rw [(wet_at hv ho hx).2]
  dsimp only
  have each : ∀ d ∈ dries b, dLo (dryOf (dries b)).hi x ≤ dLo d x ∧ dLo d x ≤ dHi d x ∧ dHi d x ≤ dHi (dryOf (dries b)).lo x ∧ weight d (dLo d x) = x.pounds := fun d hd => by
    have f := bds_fit hB hd hx
    have f1 := bds_fit hB h1 hx
    have f2 := bds_fit hB h2 hx
    have a1 := dLo_anti f f2 (h3 d hd).2
    have a2 := dHi_anti f1 f (h3 d hd).1
    have s1 := dLo_spec f
    have s2 := dHi_spec f
    refine ⟨a1, ?_, a2, s1.2.2.1⟩
    rcases Int.lt_or_le (dHi d x) (dLo d x) with hlt | hle
    · have := s1.2.2.2 (dHi d x) s2.1 hlt
      omega
    · exact hle
  have g1 := each _ h1
  have g2 := each _ h2
  have s1 := dLo_spec (bds_fit hB h2 hx)
  have s2 := dHi_spec (bds_fit hB h1 hx)
  exact ⟨s1.1, by omega, s2.2.1, each⟩
/-- What is known of each weighing, against the bale's being put aside. -/
theorem aside_law {b : Bale} (hv : valid b = true) (ho : okB b = true) {n : Int} (h0 : 0 ≤ n) (h1 : n ≤ 200) :
    (kindK (kindS b) 1 = 0 → asideB b n = 2) ∧ (kindK (kindS b) 1 = 1 → asideB b n ≠ 0) ∧
    (∀ x ∈ b.weighs, (n < (wetB b x.number).lo → asideB b n = 2) ∧ (n < (wetB b x.number).hi → asideB b n ≠ 0)) ∧
    (asideB b n = 2 → (∃ x ∈ b.weighs, n < (wetB b x.number).hi) ∨ kindK (kindS b) 1 = 0) ∧
    (asideB b n = 0 → (¬ ∃ x ∈ b.weighs, n < (wetB b x.number).hi) ∧ kindK (kindS b) 1 = 2) ∧
    (b.weighs.length ≤ 1 → (asideB b n = 2 ↔ (∃ x ∈ b.weighs, n < (wetB b x.number).lo) ∨ kindK (kindS b) 1 = 0)) := by
  have hB := valid_bds hv
  obtain ⟨f1, f2, f3⟩ := dry_first ho
  have hsu : surelyL b n = true ↔ ∀ d ∈ dries b, ∃ x ∈ b.weighs, n < dLo d x := by
    unfold surelyL; simp [List.all_eq_true, List.any_eq_true]
  have hmy : mayL b n = true ↔ ∃ d ∈ dries b, ∃ x ∈ b.weighs, n < dHi d x := by
    unfold mayL; simp [List.any_eq_true]
  have hmy2 : mayL b n = true ↔ ∃ x ∈ b.weighs, n < (wetB b x.number).hi := by
    rw [hmy]
    constructor
    · rintro ⟨d, hd, x, hx, h⟩
      have := (wet_law hv ho hx).2.2.2 d hd
      exact ⟨x, hx, by omega⟩
    · rintro ⟨x, hx, h⟩
      rw [(wet_at hv ho hx).2] at h
      exact ⟨_, f1, x, hx, h⟩
  have hsu1 : (∃ x ∈ b.weighs, n < (wetB b x.number).lo) → surelyL b n = true := by
    rintro ⟨x, hx, h⟩
    rw [hsu]
    intro d hd
    have := (wet_law hv ho hx).2.2.2 d hd
    exact ⟨x, hx, by omega⟩
  have hsm : surelyL b n = true → mayL b n = true := fun h => by
    rw [hsu] at h
    rw [hmy]
    obtain ⟨x, hx, hh⟩ := h _ f1
    have := (wet_law hv ho hx).2.2.2 _ f1
    exact ⟨_, f1, x, hx, by omega⟩
  rw [asideB_ok hv ho h0 h1]
  have hk : (kindK (kindS b) 1 = 0 ↔ (kindS b).has 1 = false) ∧ (kindK (kindS b) 1 = 1 ↔ (kindS b).has 1 = true ∧ (kindS b).num ≠ 1) ∧ (kindK (kindS b) 1 = 2 ↔ (kindS b).has 1 = true ∧ (kindS b).num = 1) := by
    unfold kindK
    cases hh : (kindS b).has 1
    · simp
    · simp only [if_true]
      split <;> simp_all
  have hn : (kindS b).has 1 = true → 1 ≤ (kindS b).num := has1_num _
  rw [hk.1, hk.2.1, hk.2.2]
  have h2 : asideL (surelyL b n) (mayL b n) (kindS b) = 2 ↔ surelyL b n = true ∨ (kindS b).has 1 = false := by
    unfold asideL
    cases surelyL b n <;> cases (kindS b).has 1 <;> cases mayL b n <;> simp <;> split <;> simp
  have h00 : asideL (surelyL b n) (mayL b n) (kindS b) = 0 ↔ surelyL b n = false ∧ (kindS b).has 1 = true ∧ mayL b n = false ∧ ¬ 1 < (kindS b).num := by
    unfold asideL
    cases surelyL b n <;> cases (kindS b).has 1 <;> cases mayL b n <;> simp <;> omega
  refine ⟨fun h => h2.2 (.inr h), fun h => ?_, fun x hx => ⟨fun h => h2.2 (.inl (hsu1 ⟨x, hx, h⟩)), fun h => ?_⟩, fun h => ?_, fun h => ?_, fun hl => ?_⟩
  · rw [Ne, h00]
    rintro ⟨-, -, -, h4⟩
    have := hn h.1
    omega
  · rw [Ne, h00]
    rintro ⟨-, -, h3, -⟩
    rw [hmy2.2 ⟨x, hx, h⟩] at h3
    cases h3
  · rcases h2.1 h with h | h
    · exact .inl (hmy2.1 (hsm h))
    · exact .inr h
  · obtain ⟨g1, g2, g3, g4⟩ := h00.1 h
    refine ⟨fun hx => ?_, g2, by have := hn g2; omega⟩
    rw [hmy2.2 hx] at g3
    cases g3
  · rw [h2]
    constructor
    · rintro (h | h)
      · left
        rw [hsu] at h
        obtain ⟨x, hx, hh⟩ := h _ f2
        exact ⟨x, hx, by rw [(wet_at hv ho hx).2]; exact hh⟩
      · exact .inr h
    · rintro (h | h)
      · exact .inl (hsu1 h)
      · exact .inr h
/-- Whether one of the first k weighings was surely, or perhaps, damper. -/
def wetTo (b : Bale) (n : Int) (k : Nat) : Bool := (b.weighs.take k).any fun x => decide (n < (wetB b x.number).lo)
def dampTo (b : Bale) (n : Int) (k : Nat) : Bool := (b.weighs.take k).any fun x => decide (n < (wetB b x.number).hi)
theorem wetTo_succ {b : Bale} {n : Int} {k : Nat} {x : Weigh} (h : b.weighs[k]? = some x) : wetTo b n (k + 1) = (wetTo b n k || decide (n < (wetB b x.number).lo)) := by
  unfold wetTo; rw [List.take_add_one, h]; simp
theorem dampTo_succ {b : Bale} {n : Int} {k : Nat} {x : Weigh} (h : b.weighs[k]? = some x) : dampTo b n (k + 1) = (dampTo b n k || decide (n < (wetB b x.number).hi)) := by
  unfold dampTo; rw [List.take_add_one, h]; simp
/-- Whether one of the first j dampnesses explains a weighing. -/
def fndTo (d lo p : Int) (j : Nat) : Bool := (List.range j).any fun i => weight d (lo + (i : Int)) == p
theorem fndTo_succ (d lo p : Int) (j : Nat) : fndTo d lo p (j + 1) = (fndTo d lo p j || (weight d (lo + (j : Int)) == p)) := by
  unfold fndTo; rw [List.range_succ]; simp
theorem fnd_true {d lo p r : Int} {j : Nat} (h1 : lo ≤ r) (h2 : r < lo + (j : Int)) (h3 : weight d r = p) : fndTo d lo p j = true := by
  unfold fndTo
  rw [List.any_eq_true]
  refine ⟨(r - lo).toNat, List.mem_range.2 (by omega), ?_⟩
  rw [show lo + ((r - lo).toNat : Int) = r by omega, h3]
  simp
theorem wet_all (b : Bale) (n : Int) {k : Nat} (h : b.weighs.length ≤ k) : wetTo b n k = true ↔ ∃ x ∈ b.weighs, n < (wetB b x.number).lo := by
  unfold wetTo; rw [List.take_of_length_le h]; simp [List.any_eq_true]
theorem damp_all (b : Bale) (n : Int) {k : Nat} (h : b.weighs.length ≤ k) : dampTo b n k = true ↔ ∃ x ∈ b.weighs, n < (wetB b x.number).hi := by
  unfold dampTo; rw [List.take_of_length_le h]; simp [List.any_eq_true]
theorem aside_bd {b : Bale} (hv : valid b = true) (ho : okB b = true) {n : Int} (h0 : 0 ≤ n) (h1 : n ≤ 200) : asideB b n = 0 ∨ asideB b n = 1 ∨ asideB b n = 2 := by
  rw [asideB_ok hv ho h0 h1]
  unfold asideL
  split
  · simp
  · split <;> simp

/-- What stands in the last line of the law, hidden from simp. -/
def AsideFacts (b : Bale) (n v sd : Int) : Prop :=
  (sd = 2 → (∃ x ∈ b.weighs, n < (wetB b x.number).hi) ∨ v = 0) ∧ (sd = 0 → (¬ ∃ x ∈ b.weighs, n < (wetB b x.number).hi) ∧ v = 2) ∧ (b.weighs.length ≤ 1 → (sd = 2 ↔ (∃ x ∈ b.weighs, n < (wetB b x.number).lo) ∨ v = 0))
theorem aside_facts {b : Bale} (hv : valid b = true) (ho : okB b = true) {n : Int} (h0 : 0 ≤ n) (h1 : n ≤ 200) : AsideFacts b n (kindK (kindS b) 1) (asideB b n) := by
  obtain ⟨_, _, _, a4, a5, a6⟩ := aside_law hv ho h0 h1
  exact ⟨a4, a5, a6⟩
theorem aside_fin {b : Bale} {n v sd : Int} (h : AsideFacts b n v sd) {k : Nat} (hk : b.weighs.length = k) :
    (sd = 2 → dampTo b n k = true ∨ v = 0) ∧ (sd = 0 → dampTo b n k = false ∧ v = 2) ∧ (1 < k ∨ (sd = 2 ↔ wetTo b n k = true ∨ v = 0)) := by
  obtain ⟨a4, a5, a6⟩ := h
  have hd := damp_all b n (k := k) (by omega)
  have hw := wet_all b n (k := k) (by omega)
  refine ⟨fun h => by rw [hd]; exact a4 h, fun h => ⟨?_, (a5 h).2⟩, ?_⟩
  · cases hb : dampTo b n k with
    | false => rfl
    | true => exact absurd (hd.1 hb) (a5 h).1
  · by_cases h : 1 < k
    · exact .inl h
    · exact .inr (by rw [hw]; exact a6 (by omega))
end Go.Proofs.YtkpengeaolcjhaaDoor
/- The plain law of CoreMore: one draw more, or one weighing, never makes less known. -/
namespace Go.Proofs.YtkpengeaolcjhaaDoor
open Go.RowKit Go.Shelf Go.Lib
set_option maxRecDepth 100000
set_option linter.unusedSimpArgs false

/-- A bale with more draws and weighings. -/
structure MoreOf (b y : Bale) : Prop where
  lay : y.layers = b.layers
  dry : y.dry = b.dry
  draws : ∀ x ∈ b.draws, x ∈ y.draws
  weighs : ∀ x ∈ b.weighs, x ∈ y.weighs
theorem MoreOf.trans {a b c : Bale} (h : MoreOf a b) (k : MoreOf b c) : MoreOf a c := ⟨k.lay.trans h.lay, k.dry.trans h.dry, fun x hx => k.draws x (h.draws x hx), fun x hx => k.weighs x (h.weighs x hx)⟩

/-! Grades. -/
theorem span_iff (i : Int) : ∀ (l : List Draw) (s : Span) (n : Int), ((l.foldl (spanStep i) s).lo ≤ n ∧ n ≤ (l.foldl (spanStep i) s).hi) ↔ (s.lo ≤ n ∧ n ≤ s.hi) ∧ ∀ x ∈ l, x.layer = i → x.grade.lo ≤ n ∧ n ≤ x.grade.hi
  | [], s, n => by simp
  | x :: l, s, n => by
    rw [List.foldl_cons, span_iff i l]
    unfold spanStep
    by_cases h : x.layer = i
    · rw [if_pos h]
      dsimp only
      constructor
      · rintro ⟨h1, h2⟩
        refine ⟨by omega, fun y hy e => ?_⟩
        rcases List.mem_cons.1 hy with rfl | hy
        · omega
        · exact h2 y hy e
      · rintro ⟨h1, h2⟩
        have := h2 x (List.mem_cons_self ..) h
        exact ⟨by omega, fun y hy e => h2 y (List.mem_cons_of_mem _ hy) e⟩
    · rw [if_neg h]
      refine and_congr_right fun _ => ⟨fun h2 y hy e => ?_, fun h2 y hy e => h2 y (List.mem_cons_of_mem _ hy) e⟩
      rcases List.mem_cons.1 hy with rfl | hy
      · exact absurd e h
      · exact h2 y hy e
theorem more_span {b y : Bale} (h : MoreOf b y) {i n : Int} (hn : (spanAt y.draws i).lo ≤ n ∧ n ≤ (spanAt y.draws i).hi) : (spanAt b.draws i).lo ≤ n ∧ n ≤ (spanAt b.draws i).hi := by
  unfold spanAt at *
  rw [span_iff] at hn ⊢
  exact ⟨hn.1, fun x hx e => hn.2 x (h.draws x hx) e⟩
def innerS (a b : Span) : Prop := b.lo ≤ a.lo ∧ a.hi ≤ b.hi ∧ a.lo ≤ a.hi
theorem more_layer {b y : Bale} (h : MoreOf b y) (ho : okB y = true) {i : Nat} (hi : i < y.layers.toNat) : innerS (spanAt y.draws (i : Int)) (spanAt b.draws (i : Int)) := by
  have hle := grown_at (ok_grown ho) _ (List.mem_of_getElem? (spans_get hi))
  have h1 := more_span h (i := (i : Int)) (n := (spanAt y.draws (i : Int)).lo) ⟨Int.le_refl _, hle⟩
  have h2 := more_span h (i := (i : Int)) (n := (spanAt y.draws (i : Int)).hi) ⟨hle, Int.le_refl _⟩
  exact ⟨h1.1, h2.2, hle⟩

/-! Kinds. -/
theorem more_truth {b y : Bale} (h : MoreOf b y) (hv : valid b = true) (hv' : valid y = true) {t : List Int} (ht : t ∈ truthsB y) : t ∈ truthsB b := by
  rw [truth_iff hv'] at ht
  rw [truth_iff hv]
  obtain ⟨h1, h2⟩ := ht
  rw [h.lay] at h1
  refine ⟨h1, fun i x hx => ?_⟩
  have hi : i < b.layers.toNat := by have := (List.getElem?_eq_some_iff.1 hx).1; rwa [(spans5 hv).2.2] at this
  rw [spans_get hi] at hx
  injection hx with hx
  subst hx
  obtain ⟨n, hn, e⟩ := h2 i _ (spans_get (by rw [h.lay]; exact hi))
  exact ⟨n, more_span h hn, e⟩
theorem kind_sub : ∀ (s t : S4), (t.a = true → s.a = true) → (t.b = true → s.b = true) → (t.c = true → s.c = true) → (t.d = true → s.d = true) → 1 ≤ t.num → ∀ k, k = 1 ∨ k = 2 ∨ k = 3 ∨ k = 4 → kindK s k ≠ 1 → kindK t k = kindK s k := by
  rintro ⟨a, b, c, d⟩ ⟨a', b', c', d'⟩
  cases a <;> cases b <;> cases c <;> cases d <;> cases a' <;> cases b' <;> cases c' <;> cases d' <;> (intro h1 h2 h3 h4 h5 k hk; revert h1 h2 h3 h4 h5; rcases hk with rfl | rfl | rfl | rfl <;> decide)
theorem more_flags {b y : Bale} (h : MoreOf b y) (hv : valid b = true) (hv' : valid y = true) : ((kindS y).a = true → (kindS b).a = true) ∧ ((kindS y).b = true → (kindS b).b = true) ∧ ((kindS y).c = true → (kindS b).c = true) ∧ ((kindS y).d = true → (kindS b).d = true) := by
  obtain ⟨a1, a2, a3, a4⟩ := kindsOf_iff (truthsB y)
  obtain ⟨b1, b2, b3, b4⟩ := kindsOf_iff (truthsB b)
  have e1 : kindS y = kindsOf (truthsB y) := rfl
  have e2 : kindS b = kindsOf (truthsB b) := rfl
  rw [e1, e2]
  refine ⟨fun k => b1.2 ?_, fun k => b2.2 ?_, fun k => b3.2 ?_, fun k => b4.2 ?_⟩
  · obtain ⟨t, ht, e⟩ := a1.1 k; exact ⟨t, more_truth h hv hv' ht, e⟩
  · obtain ⟨t, ht, e⟩ := a2.1 k; exact ⟨t, more_truth h hv hv' ht, e⟩
  · obtain ⟨t, ht, e⟩ := a3.1 k; exact ⟨t, more_truth h hv hv' ht, e⟩
  · obtain ⟨t, ht, e⟩ := a4.1 k; exact ⟨t, more_truth h hv hv' ht, e⟩
theorem more_kind {b y : Bale} (h : MoreOf b y) (hv : valid b = true) (hv' : valid y = true) (ho' : okB y = true) {k : Int} (h1 : 1 ≤ k) (h4 : k ≤ 4) (hk : kindK (kindS b) k ≠ 1) : kindK (kindS y) k = kindK (kindS b) k := by
  obtain ⟨f1, f2, f3, f4⟩ := more_flags h hv hv'
  have hn := num_pos (truths_ne (spans5 hv').1 (grown_at (ok_grown ho')))
  exact kind_sub _ _ f1 f2 f3 f4 hn k (four h1 h4) hk

/-! Weights. -/
theorem more_dries {b y : Bale} (h : MoreOf b y) {d : Int} (hd : d ∈ dries y) : d ∈ dries b := by
  rw [dries_mem] at hd ⊢
  rw [h.dry] at hd
  exact ⟨hd.1, fun x hx => hd.2 x (h.weighs x hx)⟩
theorem more_dry {b y : Bale} (h : MoreOf b y) (hv : valid b = true) (ho : okB b = true) (hv' : valid y = true) (ho' : okB y = true) : innerS (dryB y) (dryB b) := by
  rw [dryB_ok hv ho, dryB_ok hv' ho']
  obtain ⟨a1, a2, a3⟩ := dry_first ho
  obtain ⟨c1, c2, c3⟩ := dry_first ho'
  exact ⟨(a3 _ (more_dries h c1)).1, (a3 _ (more_dries h c2)).2, (c3 _ c1).2⟩
theorem more_wet {b y : Bale} (h : MoreOf b y) (hv : valid b = true) (ho : okB b = true) (hv' : valid y = true) (ho' : okB y = true) {x : Weigh} (hx : x ∈ b.weighs) : innerS (wetB y x.number) (wetB b x.number) := by
  have hxy := h.weighs x hx
  have hB := valid_bds hv
  obtain ⟨a1, a2, a3⟩ := dry_first ho
  obtain ⟨c1, c2, c3⟩ := dry_first ho'
  have w1 := wet_law hv' ho' hxy
  rw [(wet_at hv ho hx).2, (wet_at hv' ho' hxy).2] at *
  have f1 := bds_fit hB a1 hx
  have f2 := bds_fit hB a2 hx
  have g1 := bds_fit hB (more_dries h c1) hx
  have g2 := bds_fit hB (more_dries h c2) hx
  exact ⟨dLo_anti g2 f2 (a3 _ (more_dries h c2)).2, dHi_anti f1 g1 (a3 _ (more_dries h c1)).1, w1.2.1⟩
theorem aside_yes (su my : Bool) (s : S4) : asideL su my s = 2 ↔ (su = true ∨ s.has 1 = false) := by
  unfold asideL
  cases su <;> cases my <;> cases s.has 1 <;> simp <;> split <;> simp
theorem more_aside {b y : Bale} (h : MoreOf b y) (hv : valid b = true) (ho : okB b = true) (hv' : valid y = true) (ho' : okB y = true) {n : Int} (h0 : 0 ≤ n) (h1 : n ≤ 200) (ha : asideB b n = 2) : asideB y n = 2 := by
  rw [asideB_ok hv ho h0 h1, aside_yes] at ha
  rw [asideB_ok hv' ho' h0 h1, aside_yes]
  rcases ha with ha | ha
  · left
    unfold surelyL at ha ⊢
    rw [List.all_eq_true] at ha ⊢
    intro d hd
    have := ha d (more_dries h hd)
    rw [List.any_eq_true] at this ⊢
    obtain ⟨x, hx, e⟩ := this
    exact ⟨x, h.weighs x hx, e⟩
  · right
    have hf := (more_flags h hv hv').1
    have e1 : (kindS b).has 1 = (kindS b).a := by unfold S4.has; simp
    have e2 : (kindS y).has 1 = (kindS y).a := by unfold S4.has; simp
    rw [e1] at ha
    rw [e2]
    cases hy : (kindS y).a with
    | false => rfl
    | true => rw [hf hy] at ha; cases ha

/-! The least number that none has. -/
def freshN (l : List Int) (m : Int) : Int := l.foldl (fun n x => if x = n then n + 1 else n) m
theorem fresh_stay : ∀ (l : List Int) (m : Int), (∀ x ∈ l, m < x) → freshN l m = m
  | [], _, _ => rfl
  | x :: l, m, h => by
    unfold freshN
    rw [List.foldl_cons, if_neg (by have := h x (List.mem_cons_self ..); omega)]
    exact fresh_stay l m fun y hy => h y (List.mem_cons_of_mem _ hy)
theorem fresh_spec : ∀ (l : List Int) (m : Int), l.Pairwise (· < ·) → (∀ x ∈ l, m ≤ x) → m ≤ freshN l m ∧ freshN l m ≤ m + l.length ∧ freshN l m ∉ l
  | [], m, _, _ => by unfold freshN; simp
  | x :: l, m, hp, hb => by
    rw [List.pairwise_cons] at hp
    have hx := hb x (List.mem_cons_self ..)
    by_cases e : x = m
    · have ih := fresh_spec l (m + 1) hp.2 (fun y hy => by have := hp.1 y hy; omega)
      have e2 : freshN (x :: l) m = freshN l (m + 1) := by unfold freshN; rw [List.foldl_cons, if_pos e]
      rw [e2, List.length_cons]
      refine ⟨by omega, by omega, fun hm => ?_⟩
      rcases List.mem_cons.1 hm with hm | hm
      · omega
      · exact ih.2.2 hm
    · have e2 : freshN (x :: l) m = m := fresh_stay _ _ fun y hy => by
        rcases List.mem_cons.1 hy with rfl | hy
        · omega
        · have := hp.1 y hy; omega
      rw [e2, List.length_cons]
      refine ⟨Int.le_refl _, by omega, fun hm => ?_⟩
      rcases List.mem_cons.1 hm with hm | hm
      · omega
      · have := hp.1 m hm; omega

/-! One draw more, one weighing more. -/
theorem insD_mem {l : List Draw} {x z : Draw} : z ∈ insDI l x ↔ z ∈ l ∨ z = x := by
  unfold insDI
  rw [List.append_assoc, List.mem_append, List.mem_append, List.mem_singleton]
  constructor
  · rintro (h | h | h)
    · exact .inl (List.mem_of_mem_take h)
    · exact .inr h
    · exact .inl (List.mem_of_mem_drop h)
  · rintro (h | h)
    · rw [← List.take_append_drop (spotDI l x) l, List.mem_append] at h
      rcases h with h | h
      · exact .inl h
      · exact .inr (.inr h)
    · exact .inr (.inl h)
theorem insD_up {l : List Draw} {x : Draw} (hp : (l.map (·.number)).Pairwise (· < ·)) (hne : ∀ y ∈ l, y.number ≠ x.number) : ((insDI l x).map (·.number)).Pairwise (· < ·) := by
  have e1 : l.take (spotDI l x) = l.takeWhile (fun y => decide (y.number < x.number)) := by
    unfold spotDI
    conv => lhs; rw [← List.takeWhile_append_dropWhile (p := fun y => decide (y.number < x.number)) (l := l)]
    rw [List.take_left']
    simp
  have e2 : l.drop (spotDI l x) = l.dropWhile (fun y => decide (y.number < x.number)) := by
    unfold spotDI
    conv => lhs; rw [← List.takeWhile_append_dropWhile (p := fun y => decide (y.number < x.number)) (l := l)]
    rw [List.drop_left']
    simp
  unfold insDI
  rw [e1, e2, List.append_assoc, List.map_append, List.map_append, List.pairwise_append]
  have t1 := take_ltI x l
  have t2 := drop_gtI x l hp hne
  refine ⟨hp.sublist (List.Sublist.map _ (List.takeWhile_sublist _)), ?_, ?_⟩
  · rw [List.map_cons, List.map_nil, List.singleton_append, List.pairwise_cons]
    refine ⟨fun n hn => ?_, hp.sublist (List.Sublist.map _ (List.dropWhile_sublist _))⟩
    obtain ⟨y, hy, rfl⟩ := List.mem_map.1 hn
    exact t2 y hy
  · intro n hn m hm
    obtain ⟨y, hy, rfl⟩ := List.mem_map.1 hn
    have h1 := t1 y hy
    rw [List.mem_append] at hm
    rcases hm with hm | hm
    · rw [List.map_cons, List.map_nil, List.mem_singleton] at hm; omega
    · obtain ⟨z, hz, rfl⟩ := List.mem_map.1 hm
      have := t2 z hz; omega
theorem put_more {b : Bale} {x : Draw} (hv : valid b = true) (hl : b.draws.length ≠ 10) (hne : ∀ y ∈ b.draws, y.number ≠ x.number) (hn : 1 ≤ x.number ∧ x.number ≤ 9999) (hx : badD b.layers x = false) : putE b x = 0 ∧ valid (putB b x) = true ∧ MoreOf b (putB b x) ∧ (putB b x).weighs = b.weighs := by
  have hp := valid_drawsI hv
  have hi := sort_insI hp hne
  have hw : valid (withD b x) = true := by
    have h := hv
    have hB := valid_bds hv
    unfold valid chk2 at h ⊢
    simp only [Bool.and_eq_true, Bool.not_eq_true', decide_eq_true_eq] at h ⊢
    obtain ⟨h1, ⟨⟨⟨h2, h3⟩, h4⟩, h5⟩, h6, h7⟩ := h
    unfold withD
    dsimp only
    rw [hi]
    refine ⟨h1, ⟨⟨⟨?_, h3⟩, ?_⟩, h5⟩, ?_, h7⟩
    · have : (insDI b.draws x).length = b.draws.length + 1 := by
        unfold insDI
        have hs : spotDI b.draws x ≤ b.draws.length := by unfold spotDI; exact (List.takeWhile_sublist _).length_le
        simp
        omega
      omega
    · refine rise_of _ _ (insD_up hp hne) fun n hm => ?_
      obtain ⟨z, hz, rfl⟩ := List.mem_map.1 hm
      rcases insD_mem.1 hz with hz | rfl
      · exact ⟨(rise_lt _ _ h4).2 _ (List.mem_map_of_mem hz), rising_leI _ _ h4 _ (List.mem_map_of_mem hz)⟩
      · omega
    · rw [List.any_eq_false] at h6 ⊢
      intro z hz
      rcases insD_mem.1 hz with hz | rfl
      · exact h6 z hz
      · rw [hx]; simp
  have he : putE b x = 0 := by unfold putE; rw [if_pos hv, if_neg hl, if_pos hw]
  have hb : putB b x = withD b x := by unfold putB; rw [if_pos he]
  refine ⟨he, by rw [hb]; exact hw, ?_, by rw [hb]; rfl⟩
  rw [hb]
  refine ⟨rfl, rfl, fun z hz => ?_, fun z hz => hz⟩
  show z ∈ sortD (b.draws ++ [x]) (b.draws.length + 1)
  rw [hi]
  exact insD_mem.2 (.inl hz)
theorem insW_mem {l : List Weigh} {x z : Weigh} : z ∈ insWI l x ↔ z ∈ l ∨ z = x := by
  unfold insWI
  rw [List.append_assoc, List.mem_append, List.mem_append, List.mem_singleton]
  constructor
  · rintro (h | h | h)
    · exact .inl (List.mem_of_mem_take h)
    · exact .inr h
    · exact .inl (List.mem_of_mem_drop h)
  · rintro (h | h)
    · rw [← List.take_append_drop (spotWI l x) l, List.mem_append] at h
      rcases h with h | h
      · exact .inl h
      · exact .inr (.inr h)
    · exact .inr (.inl h)
theorem insW_up {l : List Weigh} {x : Weigh} (hp : (l.map (·.number)).Pairwise (· < ·)) (hne : ∀ y ∈ l, y.number ≠ x.number) : ((insWI l x).map (·.number)).Pairwise (· < ·) := by
  have e1 : l.take (spotWI l x) = l.takeWhile (fun y => decide (y.number < x.number)) := by
    unfold spotWI
    conv => lhs; rw [← List.takeWhile_append_dropWhile (p := fun y => decide (y.number < x.number)) (l := l)]
    rw [List.take_left']
    simp
  have e2 : l.drop (spotWI l x) = l.dropWhile (fun y => decide (y.number < x.number)) := by
    unfold spotWI
    conv => lhs; rw [← List.takeWhile_append_dropWhile (p := fun y => decide (y.number < x.number)) (l := l)]
    rw [List.drop_left']
    simp
  unfold insWI
  rw [e1, e2, List.append_assoc, List.map_append, List.map_append, List.pairwise_append]
  have t1 := take_ltWI x l
  have t2 := drop_gtWI x l hp hne
  refine ⟨hp.sublist (List.Sublist.map _ (List.takeWhile_sublist _)), ?_, ?_⟩
  · rw [List.map_cons, List.map_nil, List.singleton_append, List.pairwise_cons]
    refine ⟨fun n hn => ?_, hp.sublist (List.Sublist.map _ (List.dropWhile_sublist _))⟩
    obtain ⟨y, hy, rfl⟩ := List.mem_map.1 hn
    exact t2 y hy
  · intro n hn m hm
    obtain ⟨y, hy, rfl⟩ := List.mem_map.1 hn
    have h1 := t1 y hy
    rw [List.mem_append] at hm
    rcases hm with hm | hm
    · rw [List.map_cons, List.map_nil, List.mem_singleton] at hm; omega
    · obtain ⟨z, hz, rfl⟩ := List.mem_map.1 hm
      have := t2 z hz; omega
theorem lift_more {b : Bale} {x : Weigh} (hv : valid b = true) (hl : b.weighs.length ≠ 8) (hne : ∀ y ∈ b.weighs, y.number ≠ x.number) (hn : 1 ≤ x.number ∧ x.number ≤ 9999) (hx : badW x = false) : liftE b x = 0 ∧ valid (liftB b x) = true ∧ MoreOf b (liftB b x) := by
  have hp := valid_weighsI hv
  have hi := sort_insWI hp hne
  have hw : valid (withX b x) = true := by
    have h := hv
    have hB := valid_bds hv
    unfold valid chk2 at h ⊢
    simp only [Bool.and_eq_true, Bool.not_eq_true', decide_eq_true_eq] at h ⊢
    obtain ⟨h1, ⟨⟨⟨h2, h3⟩, h4⟩, h5⟩, h6, h7⟩ := h
    unfold withX
    dsimp only
    rw [hi]
    refine ⟨h1, ⟨⟨⟨h2, ?_⟩, h4⟩, ?_⟩, h6, ?_⟩
    · have : (insWI b.weighs x).length = b.weighs.length + 1 := by
        unfold insWI
        have hs : spotWI b.weighs x ≤ b.weighs.length := by unfold spotWI; exact (List.takeWhile_sublist _).length_le
        simp
        omega
      omega
    · refine rise_of _ _ (insW_up hp hne) fun n hm => ?_
      obtain ⟨z, hz, rfl⟩ := List.mem_map.1 hm
      rcases insW_mem.1 hz with hz | rfl
      · exact ⟨(rise_lt _ _ h5).2 _ (List.mem_map_of_mem hz), rising_leI _ _ h5 _ (List.mem_map_of_mem hz)⟩
      · omega
    · rw [List.any_eq_false] at h7 ⊢
      intro z hz
      rcases insW_mem.1 hz with hz | rfl
      · exact h7 z hz
      · rw [hx]; simp
  have he : liftE b x = 0 := by unfold liftE; rw [if_pos hv, if_neg hl, if_pos hw]
  have hb : liftB b x = withX b x := by unfold liftB; rw [if_pos he]
  refine ⟨he, by rw [hb]; exact hw, ?_⟩
  rw [hb]
  refine ⟨rfl, rfl, fun z hz => hz, fun z hz => ?_⟩
  show z ∈ sortW (b.weighs ++ [x]) (b.weighs.length + 1)
  rw [hi]
  exact insW_mem.2 (.inl hz)
/-- The draw and the weighing that are put. -/
theorem more_setup {b : Bale} (hv : valid b = true) (hd : b.draws.length ≠ 10) (hw : b.weighs.length ≠ 8) {i g h p r s : Int} (hi : 0 ≤ i ∧ i ≤ b.layers - 1) (hg : 1 ≤ g ∧ g ≤ h ∧ h ≤ 9) (hp : 1 ≤ p ∧ p ≤ 1200) (hr : 0 ≤ r ∧ r ≤ s ∧ s ≤ 200) :
    putE b ⟨freshN (b.draws.map (·.number)) 1, i, ⟨g, h⟩⟩ = 0 ∧
    liftE (putB b ⟨freshN (b.draws.map (·.number)) 1, i, ⟨g, h⟩⟩) ⟨freshN (b.weighs.map (·.number)) 1, p, ⟨r, s⟩⟩ = 0 ∧
    valid (liftB (putB b ⟨freshN (b.draws.map (·.number)) 1, i, ⟨g, h⟩⟩) ⟨freshN (b.weighs.map (·.number)) 1, p, ⟨r, s⟩⟩) = true ∧
    MoreOf b (liftB (putB b ⟨freshN (b.draws.map (·.number)) 1, i, ⟨g, h⟩⟩) ⟨freshN (b.weighs.map (·.number)) 1, p, ⟨r, s⟩⟩) := by
  obtain ⟨n1, n2, n3, n4⟩ := number_ltI hv
  have hB := valid_bds hv
  have f1 := fresh_spec (b.draws.map (·.number)) 1 n1 (fun x hx => by have := (rise_lt _ _ n3).2 x hx; omega)
  have f2 := fresh_spec (b.weighs.map (·.number)) 1 n2 (fun x hx => by have := (rise_lt _ _ n4).2 x hx; omega)
  rw [List.length_map] at f1 f2
  have b1 := hB.nd
  have b2 := hB.nw
  generalize hn : freshN (b.draws.map (·.number)) 1 = n at f1
  generalize hm : freshN (b.weighs.map (·.number)) 1 = m at f2
  have hx : badD b.layers ⟨n, i, ⟨g, h⟩⟩ = false := by unfold badD rightB inB; simp; omega
  have hy : badW ⟨m, p, ⟨r, s⟩⟩ = false := by unfold badW rightB inB; simp; omega
  obtain ⟨p1, p2, p3, p4⟩ := put_more hv hd (fun y hy e => f1.2.2 (by have h := List.mem_map_of_mem (f := fun z : Draw => z.number) hy; rw [show y.number = n from e] at h; exact h)) (show 1 ≤ n ∧ n ≤ 9999 by omega) hx
  obtain ⟨q1, q2, q3⟩ := lift_more (x := ⟨m, p, ⟨r, s⟩⟩) p2 (by rw [p4]; exact hw) (fun y hy e => f2.2.2 (by rw [p4] at hy; have h := List.mem_map_of_mem (f := fun z : Weigh => z.number) hy; rw [show y.number = m from e] at h; exact h)) (show 1 ≤ m ∧ m ≤ 9999 by omega) hy
  exact ⟨p1, q1, q2, p3.trans q3⟩
end Go.Proofs.YtkpengeaolcjhaaDoor
/- The values of the chapter's examples. -/
namespace Go.Proofs.YtkpengeaolcjhaaDoor
open Go.RowKit Go.Shelf Go.Lib
set_option maxRecDepth 100000
set_option linter.unusedSimpArgs false

/-- The bale of the examples, with draws more. -/
def exB (m : List Draw) : Bale := ⟨1, 4, ⟨400, 500⟩, [⟨1, 0, ⟨3, 3⟩⟩, ⟨2, 3, ⟨3, 4⟩⟩, ⟨3, 1, ⟨3, 6⟩⟩] ++ m, [⟨1, 480, ⟨60, 90⟩⟩, ⟨2, 470, ⟨40, 70⟩⟩]⟩
/-- A draw of it that cannot be true. -/
def odD : Draw := ⟨4, 0, ⟨5, 6⟩⟩

theorem ex_valid : valid (exB []) = true := by kernel_rfl
theorem ex_ok : okB (exB []) = true := by kernel_rfl
theorem ex_spans : spans (exB []) = [⟨3, 3⟩, ⟨3, 6⟩, ⟨1, 9⟩, ⟨3, 4⟩] := by kernel_rfl
theorem ex_ask (r : Bool) (e : Int) : askE (exB []) r e = if r then 0 else e := by
  unfold askE; rw [ex_valid, ex_ok]; simp
theorem ex_layer1 : layerB (exB []) (inB 0 ((exB []).layers - 1) 1) 1 = ⟨3, 6⟩ := by kernel_rfl
theorem ex_best : endsB min (exB []) = ⟨1, 3⟩ := by kernel_rfl
theorem ex_worst : endsB max (exB []) = ⟨3, 9⟩ := by kernel_rfl
theorem ex_kinds : kindS (exB []) = S4.all := by kernel_rfl
theorem ex_cutS : cutS (exB []) = ⟨1, 3⟩ := by kernel_rfl
theorem ex_askS : askS (exB []) = (2, 3) := by kernel_rfl
theorem ex_dec : decS (spans (exB [])) = [1, 2, 3] := by
  rw [ex_spans]
  exact (decide_eq (sp := [⟨3, 3⟩, ⟨3, 6⟩, ⟨1, 9⟩, ⟨3, 4⟩]) (by decide) (by decide) (by decide)).symm.trans (by kernel_rfl)
theorem ex_dryB : dryB (exB []) = ⟨441, 452⟩ := by kernel_rfl
theorem ex_wet1 : wetB (exB []) 1 = ⟨62, 90⟩ := by kernel_rfl
theorem ex_pay85 : payB (exB []) 85 = ⟨478, 490⟩ := by kernel_rfl
theorem ex_aside90 : asideB (exB []) 90 = 1 := by kernel_rfl
theorem od_valid : valid (exB [odD]) = true := by kernel_rfl
theorem od_ok : okB (exB [odD]) = false := by kernel_rfl
theorem od_wrongE : wrongE (exB [odD]) = 0 := by kernel_rfl
theorem od_wrongL : wrongL (exB [odD]) = [1] := by kernel_rfl
theorem od_wrongK : wrongK (exB [odD]) = [] := by kernel_rfl
end Go.Proofs.YtkpengeaolcjhaaDoor
/- The small functions of the outright laws: span, draw, weigh, bale, odd, ints, in. -/
namespace Go.Proofs.YtkpengeaolcjhaaDoor
open Go.RowKit Go.Shelf Go.Lib
set_option maxRecDepth 100000
set_option linter.unusedSimpArgs false

theorem ret_set4 {P : Program} {fn : Func} {R : Ending → World → Prop} {ex : Exit} {a : Act} {w1 : World} {g : Nat} {t : TypeId} {x0 x1 x2 x3 y0 y1 y2 y3 : Value} (hB : Blk w1 g t #[x0, x1, x2, x3])
    (h : ∀ W, (W.cell? ⟨g, 0, none⟩ = some y0 ∧ W.cell? ⟨g, 1, none⟩ = some y1 ∧ W.cell? ⟨g, 2, none⟩ = some y2 ∧ W.cell? ⟨g, 3, none⟩ = some y3) → w1.grownBy W (some g) → bodyPost P fn R ex a W) :
    bodyPost P fn R ex a ((((w1.setCell ⟨g, 0, none⟩ y0).setCell ⟨g, 1, none⟩ y1).setCell ⟨g, 2, none⟩ y2).setCell ⟨g, 3, none⟩ y3) := by
  have H := (((hB.set_ 0 y0).set_ 1 y1).set_ 2 y2).set_ 3 y3
  exact h _ ⟨H.cell 0, H.cell 1, H.cell 2, H.cell 3⟩ (grown_set (grown_set (grown_set (grown_set (World.grownBy.refl _ _) (p := ⟨g, 0, none⟩) (.inl rfl) y0) (p := ⟨g, 1, none⟩) (.inl rfl) y1) (p := ⟨g, 2, none⟩) (.inl rfl) y2) (p := ⟨g, 3, none⟩) (.inl rfl) y3)
theorem ret_set6b {P : Program} {fn : Func} {R : Ending → World → Prop} {ex : Exit} {a : Act} {w1 : World} {g : Nat} {t t2 : TypeId} {cs : Array Value} {x0 x1 x2 x3 x4 x5 y0 y1 y2 y3 y4 y5 : Value} (hB : Blk w1 g t #[x0, x1, x2, x3, x4, x5])
    (h : ∀ W, (W.cell? ⟨g, 0, none⟩ = some y0 ∧ W.cell? ⟨g, 1, none⟩ = some y1 ∧ W.cell? ⟨g, 2, none⟩ = some y2 ∧ W.cell? ⟨g, 3, none⟩ = some y3 ∧ W.cell? ⟨g, 4, none⟩ = some y4 ∧ W.cell? ⟨g, 5, none⟩ = some y5) → w1.grownBy W (some g) → Blk W w1.heap.size t2 cs → bodyPost P fn R ex a W) :
    bodyPost P fn R ex a (((((((w1.setCell ⟨g, 0, none⟩ y0).setCell ⟨g, 1, none⟩ y1).setCell ⟨g, 2, none⟩ y2).setCell ⟨g, 3, none⟩ y3).setCell ⟨g, 4, none⟩ y4).setCell ⟨g, 5, none⟩ y5).alloc (.cells cs t2)) := by
  have K := (hB.set6 y0 y1 y2 y3 y4 y5).alloc (.cells cs t2)
  exact h _ ⟨K.cell 0, K.cell 1, K.cell 2, K.cell 3, K.cell 4, K.cell 5⟩ (grown_ext (grown_set (grown_set (grown_set (grown_set (grown_set (grown_set (World.grownBy.refl _ _) (p := ⟨g, 0, none⟩) (.inl rfl) y0) (p := ⟨g, 1, none⟩) (.inl rfl) y1) (p := ⟨g, 2, none⟩) (.inl rfl) y2) (p := ⟨g, 3, none⟩) (.inl rfl) y3) (p := ⟨g, 4, none⟩) (.inl rfl) y4) (p := ⟨g, 5, none⟩) (.inl rfl) y5) (Ext.al _ _))
    (Blk.at_ (by simp [World.setCell]))
theorem encD_o : ∀ x : Draw, ∀ u ∈ encD x, u.oneCell' = true := fun x u hu => by
  simp at hu
  rcases hu with rfl | rfl | rfl | rfl <;> rfl
theorem Own.lit {α : Type} {enc : α → List Value} {e : TypeId} {sz : Nat} {W : World} {base g : Nat} {l : List α} {cs : Array Value} (henc : ∀ x, (enc x).length = sz) (h : Blk W g e cs) (hcs : cs = (l.flatMap enc).toArray) (hb : base ≤ g) (hl : l.length ≤ 1000) : Own enc e sz W base (.slice (some ⟨g, 0, none⟩) l.length l.length) l := by
  have hlen := enc_len henc l
  subst hcs
  exact ⟨hlen, .inr ⟨g, l.length, _, rfl, hb, h, Nat.le_refl _, by unfold maxLen; omega, by simpa using hlen, by rw [← hlen, List.toList_toArray, List.take_length]⟩⟩
/-- append of a whole slice onto one of the call's own. -/
theorem wpList_appL {α : Type} (enc : α → List Value) (t e : TypeId) (sz : Nat) (z : Value) (bytes : Nat) (ht : Tryd.prog.underlying t = some (.slice e))
    (hinfo : (Tryd.prog.info? e).map (fun i => (i.zero, i.size, i.bytes)) = some (some z, sz, bytes)) (hzs : z.cells.size = sz) (hsz : 0 < sz) (hbytes : bytes ≤ 1000)
    (henc : ∀ x, (enc x).length = sz) (h1 : ∀ x, ∀ u ∈ enc x, u.oneCell' = true)
    {ops : Array Oper} {rest : List Oper} {o : Oper} {a : Act} {Q : Exit → Act → World → Prop} {w : World} (hgd : o.guard = none) (s x : Operand)
    (ho : o.op = .call { callee := .builtin .append, args := #[s, x], argTypes := #[t, t] }) (base : Nat) (v xv : Value) (l m : List α) (hs : a.eval s = v) (hown : Own enc e sz w base v l)
    (hx : a.eval x = xv) (hm : Sl enc sz w xv m) (hlen : l.length + m.length < 100000000000) (hbase : base ≤ w.heap.size)
    (h : ∀ v' w', Own enc e sz w' base v' (l ++ m) → Below base w w' → wpList Tryd.prog ops Q rest (a.put o.dst v') w') :
    wpList Tryd.prog ops Q (o :: rest) a w := by
  obtain ⟨i0, hi, hz0, hz1, hz2⟩ := info_parts hinfo
  have hrun : ∃ v' W', (Builtin.append_ #[t, t] o.type #[v, xv]).run Tryd.prog w = .ok v' W' ∧ Own enc e sz W' base v' (l ++ m) ∧ Below base w W' := by
    obtain ⟨A, n, c, rfl, hn, hlc, hcm⟩ := id hm.form
    by_cases h0 : m.length = 0
    · have : m = [] := List.eq_nil_of_length_eq_zero h0
      subst this
      have hn0 : n = 0 := hn.out
      subst hn0
      have hS : Src Tryd.prog i0.size t (.slice A 0 c) 0 [] w := ⟨.inl ⟨e, ht⟩, fun _ => by simp [Builtin.lenOf], by cases A <;> simp [Builtin.firstCells, loadCells, loadCellsFrom], by cases A <;> simp [Builtin.firstCells, loadCells, loadCellsFrom], by simp, by simp⟩
      rcases id hown.2 with ⟨rfl, -⟩ | ⟨g, cap, cur, rfl, -, -, hle, -⟩
      · exact ⟨_, _, run_append_nothing w t t o.type e i0 ht hi _ 0 0 (Nat.le_refl _) _ hS, by rw [List.append_nil]; exact hown, Below.refl _ _⟩
      · exact ⟨_, _, run_append_nothing w t t o.type e i0 ht hi _ _ _ hle _ hS, by rw [List.append_nil]; exact hown, Below.refl _ _⟩
    · have hnp : 0 < n := by have := hn.out; omega
      obtain ⟨b, off, y, rfl, -, -, -⟩ := hm.at_ hnp
      obtain ⟨v', W', hr, k1, k2, _⟩ := run_append_own (P := Tryd.prog) w base t o.type e i0 z sz bytes ht hi hz0 hz1 hz2 hzs hsz v l.length (l.flatMap enc) hown ⟨b, off, none⟩ n c (m.flatMap enc) (by rw [enc_len henc, hn.out]) (Sl.flat henc hsz hm)
        (fun u hu => by obtain ⟨y, _, hy⟩ := List.mem_flatMap.1 hu; exact h1 y u hy) (by have := hn.out; unfold maxLen; omega)
        (by have : (l.length + n) * bytes ≤ 100000000000 * 1000 := Nat.mul_le_mul (by have := hn.out; omega) hbytes
            omega) hbase
      refine ⟨v', W', hr, ?_, (Below.refl base w).grown k2 hbase (fun k hk => (World.ownsRow.lt hown k hk).1)⟩
      unfold Own
      rw [List.length_append, List.flatMap_append, ← hn.out]
      exact k1
  obtain ⟨v', W', hr, k1, k2⟩ := hrun
  refine wpList_plain hgd fun K hK => ?_
  unfold Oper.wp execOp
  simp only [ho, resolve, invoke, builtin, Sem.run_bind, Sem.run_pure, Result.andThen_ok, List.map_toArray, List.map_cons, List.map_nil, hs, hx, hr]
  exact hK _ _ (h v' W' k1 k2)

end Go.Proofs.YtkpengeaolcjhaaDoor
/- The outright laws' ready and chosen. -/
namespace Go.Proofs.YtkpengeaolcjhaaDoor
open Go.RowKit Go.Shelf Go.Lib
set_option maxRecDepth 100000
set_option linter.unusedSimpArgs false

/-- Bytes. -/
abbrev encU (x : Int) : List Value := [.int .u8 x]
abbrev SlU (w : World) (v : Value) (l : List Int) : Prop := Sl encU 1 w v l
def Bytes (l : List Int) : Prop := ∀ x ∈ l, 0 ≤ x ∧ x ≤ 255
theorem SlU.cell {w W : World} {b off k : Nat} {x : Int} (h : ∀ W, Ext w W → ∀ j u, (encU x)[j]? = some u → W.cell? ⟨b, off + k * 1 + j, none⟩ = some u) (hW : Ext w W) : W.cell? ⟨b, off + k, none⟩ = some (.int .u8 x) := by
  simpa using h W hW 0 _ rfl

def readyB (b : Bale) : Bool := !greatB b && (valid b && okB b)
theorem ready_len {b : Bale} (h : readyB b = true) : valid b = true ∧ okB b = true ∧ b.draws.length ≤ 20 ∧ b.weighs.length ≤ 16 := by
  unfold readyB greatB at h
  simp at h
  exact ⟨h.2.1, h.2.2, by omega, by omega⟩

def chosenTo (b : Bale) (c : List Int) (k : Nat) : List Int := (List.range k).map fun (i : Nat) => pickN (spanAt b.draws (i : Int)) c i
theorem chosenTo_succ (b : Bale) (c : List Int) (k : Nat) : chosenTo b c (k + 1) = chosenTo b c k ++ [pickN (spanAt b.draws (k : Int)) c k] := by
  unfold chosenTo; rw [List.range_succ, List.map_append]; rfl
theorem chosenTo_len (b : Bale) (c : List Int) (k : Nat) : (chosenTo b c k).length = k := by unfold chosenTo; simp

end Go.Proofs.YtkpengeaolcjhaaDoor
