/- The plain law of CoreWeight: what holds of each dry weight that can be. -/
import Derived.Test.YtdlipbobfgdleaaDoorPkTruthCardS
import Derived.Test.YtdlipbobfgdleaaDoorPkTruthCardE
import Derived.Test.YtdlipbobfgdleaaDoorPkTruthCardN
namespace Go.Proofs.YtdlipbobfgdleaaDoor
open Go.RowKit Go.Shelf Go.Lib
set_option maxRecDepth 100000
set_option linter.unusedSimpArgs false

theorem valid_weighs {b : Bale} (h : valid b = true) : (b.weighs.map (·.number)).Pairwise (· < ·) := by
  unfold valid chk2 at h
  simp only [Bool.and_eq_true] at h
  exact (rise_lt _ _ h.2.1.2).1
theorem dries_mem {b : Bale} {d : Int} : d ∈ dries b ↔ (b.dry.lo ≤ d ∧ d ≤ b.dry.hi) ∧ ∀ x ∈ b.weighs, could d x = true := by
  unfold dries driesTo
  rw [List.mem_filter, List.mem_map, List.all_eq_true]
  constructor
  · rintro ⟨⟨i, hi, rfl⟩, h⟩
    rw [List.mem_range] at hi
    exact ⟨by omega, h⟩
  · rintro ⟨h1, h2⟩
    exact ⟨⟨(d - b.dry.lo).toNat, List.mem_range.2 (by omega), by omega⟩, h2⟩
theorem dry_first {b : Bale} (ho : okB b = true) : (dryOf (dries b)).lo ∈ dries b ∧ (dryOf (dries b)).hi ∈ dries b ∧ ∀ d ∈ dries b, (dryOf (dries b)).lo ≤ d ∧ d ≤ (dryOf (dries b)).hi := by
  have h0 := ok_pos ho
  have hs := List.pairwise_iff_getElem.1 (dries_sorted b)
  unfold dryOf
  dsimp only
  rw [List.getElem?_eq_getElem h0, List.getElem?_eq_getElem (show (dries b).length - 1 < (dries b).length by omega)]
  refine ⟨List.getElem_mem _, List.getElem_mem _, fun d hd => ?_⟩
  obtain ⟨i, hi, rfl⟩ := List.mem_iff_getElem.1 hd
  simp only [Option.getD_some]
  constructor
  · rcases Nat.eq_zero_or_pos i with e | e
    · subst e; omega
    · exact hs 0 i h0 hi e
  · by_cases e : i = (dries b).length - 1
    · subst e; omega
    · exact hs i _ hi (by omega) (by omega)
theorem dry_mid {b : Bale} (hv : valid b = true) (ho : okB b = true) {d : Int} (h1 : (dryOf (dries b)).lo ≤ d) (h2 : d ≤ (dryOf (dries b)).hi) : d ∈ dries b := by
  obtain ⟨ha, hb, -⟩ := dry_first ho
  rw [dries_mem] at ha hb ⊢
  refine ⟨by omega, fun x hx => ?_⟩
  have hB := valid_bds hv
  have hw := hB.w x hx
  have ha2 := ha.2 x hx
  have hb2 := hb.2 x hx
  unfold could inB at ha2 hb2 ⊢
  simp only [Bool.and_eq_true, decide_eq_true_eq] at ha2 hb2 ⊢
  have k1 := weight_le_d x.damp.lo h2 (by omega)
  have k2 := weight_le_d x.damp.hi h1 (by omega)
  omega
theorem dryB_ok {b : Bale} (hv : valid b = true) (ho : okB b = true) : dryB b = dryOf (dries b) := by
  unfold dryB; rw [ask_ok hv ho, if_pos rfl]
theorem damp_in {n : Int} (h0 : 0 ≤ n) (h1 : n ≤ 200) : inB 0 200 n = true := by unfold inB; simp; omega
theorem payB_ok {b : Bale} (hv : valid b = true) (ho : okB b = true) {n : Int} (h0 : 0 ≤ n) (h1 : n ≤ 200) : payB b n = ⟨weight (dryOf (dries b)).lo n, weight (dryOf (dries b)).hi n⟩ := by
  unfold payB; rw [damp_in h0 h1, ask_ok hv ho, if_pos rfl]; rfl
theorem asideB_ok {b : Bale} (hv : valid b = true) (ho : okB b = true) {n : Int} (h0 : 0 ≤ n) (h1 : n ≤ 200) : asideB b n = asideL (surelyL b n) (mayL b n) (kindS b) := by
  unfold asideB; rw [damp_in h0 h1, ask_ok hv ho, if_pos rfl]
theorem wet_at {b : Bale} (hv : valid b = true) (ho : okB b = true) {x : Weigh} (hx : x ∈ b.weighs) :
    decide (0 ≤ wIdx b x.number) = true ∧ wetB b x.number = ⟨dLo (dryOf (dries b)).hi x, dHi (dryOf (dries b)).lo x⟩ := by
  obtain ⟨i, hi⟩ := List.getElem?_of_mem hx
  have hp := List.pairwise_iff_getElem.1 (valid_weighs hv)
  have hil := (List.getElem?_eq_some_iff.1 hi).1
  have hidx : wIdx b x.number = (i : Int) := by
    unfold wIdx
    refine idxF_some _ _ i x hi (by simp) fun j y hj hy => ?_
    have hjl := (List.getElem?_eq_some_iff.1 hy).1
    have := hp j i (by simpa using hjl) (by simpa using hil) hj
    rw [List.getElem_map, List.getElem_map] at this
    rw [(List.getElem?_eq_some_iff.1 hy).2, (List.getElem?_eq_some_iff.1 hi).2] at this
    simp
    omega
  have hz : decide (0 ≤ wIdx b x.number) = true := by rw [hidx]; simp
  refine ⟨hz, ?_⟩
  unfold wetB
  rw [hz, ask_ok hv ho, if_pos rfl]
  unfold wetOf
  rw [hidx, Int.toNat_natCast, hi]
theorem wet_law {b : Bale} (hv : valid b = true) (ho : okB b = true) {x : Weigh} (hx : x ∈ b.weighs) :
    x.damp.lo ≤ (wetB b x.number).lo ∧ (wetB b x.number).lo ≤ (wetB b x.number).hi ∧ (wetB b x.number).hi ≤ x.damp.hi ∧
    ∀ d ∈ dries b, (wetB b x.number).lo ≤ dLo d x ∧ dLo d x ≤ dHi d x ∧ dHi d x ≤ (wetB b x.number).hi ∧ weight d (dLo d x) = x.pounds := by
  have hB := valid_bds hv
  obtain ⟨h1, h2, h3⟩ := dry_first ho
  rw [(wet_at hv ho hx).2]
  dsimp only
  have each : ∀ d ∈ dries b, dLo (dryOf (dries b)).hi x ≤ dLo d x ∧ dLo d x ≤ dHi d x ∧ dHi d x ≤ dHi (dryOf (dries b)).lo x ∧ weight d (dLo d x) = x.pounds := fun d hd => by
    have f := bds_fit hB hd hx
    have f1 := bds_fit hB h1 hx
    have f2 := bds_fit hB h2 hx
    have a1 := dLo_anti f f2 (h3 d hd).2
    have a2 := dHi_anti f1 f (h3 d hd).1
    have s1 := dLo_spec f
    have s2 := dHi_spec f
    refine ⟨a1, ?_, a2, s1.2.2.1⟩
    rcases Int.lt_or_le (dHi d x) (dLo d x) with hlt | hle
    · have := s1.2.2.2 (dHi d x) s2.1 hlt
      omega
    · exact hle
  have g1 := each _ h1
  have g2 := each _ h2
  have s1 := dLo_spec (bds_fit hB h2 hx)
  have s2 := dHi_spec (bds_fit hB h1 hx)
  exact ⟨s1.1, by omega, s2.2.1, each⟩
/-- What is known of each weighing, against the bale's being put aside. -/
theorem aside_law {b : Bale} (hv : valid b = true) (ho : okB b = true) {n : Int} (h0 : 0 ≤ n) (h1 : n ≤ 200) :
    (kindK (kindS b) 1 = 0 → asideB b n = 2) ∧ (kindK (kindS b) 1 = 1 → asideB b n ≠ 0) ∧
    (∀ x ∈ b.weighs, (n < (wetB b x.number).lo → asideB b n = 2) ∧ (n < (wetB b x.number).hi → asideB b n ≠ 0)) ∧
    (asideB b n = 2 → (∃ x ∈ b.weighs, n < (wetB b x.number).hi) ∨ kindK (kindS b) 1 = 0) ∧
    (asideB b n = 0 → (¬ ∃ x ∈ b.weighs, n < (wetB b x.number).hi) ∧ kindK (kindS b) 1 = 2) ∧
    (b.weighs.length ≤ 1 → (asideB b n = 2 ↔ (∃ x ∈ b.weighs, n < (wetB b x.number).lo) ∨ kindK (kindS b) 1 = 0)) := by
  have hB := valid_bds hv
  obtain ⟨f1, f2, f3⟩ := dry_first ho
  have hsu : surelyL b n = true ↔ ∀ d ∈ dries b, ∃ x ∈ b.weighs, n < dLo d x := by
    unfold surelyL; simp [List.all_eq_true, List.any_eq_true]
  have hmy : mayL b n = true ↔ ∃ d ∈ dries b, ∃ x ∈ b.weighs, n < dHi d x := by
    unfold mayL; simp [List.any_eq_true]
  have hmy2 : mayL b n = true ↔ ∃ x ∈ b.weighs, n < (wetB b x.number).hi := by
    rw [hmy]
    constructor
    · rintro ⟨d, hd, x, hx, h⟩
      have := (wet_law hv ho hx).2.2.2 d hd
      exact ⟨x, hx, by omega⟩
    · rintro ⟨x, hx, h⟩
      rw [(wet_at hv ho hx).2] at h
      exact ⟨_, f1, x, hx, h⟩
  have hsu1 : (∃ x ∈ b.weighs, n < (wetB b x.number).lo) → surelyL b n = true := by
    rintro ⟨x, hx, h⟩
    rw [hsu]
    intro d hd
    have := (wet_law hv ho hx).2.2.2 d hd
    exact ⟨x, hx, by omega⟩
  have hsm : surelyL b n = true → mayL b n = true := fun h => by
    rw [hsu] at h
    rw [hmy]
    obtain ⟨x, hx, hh⟩ := h _ f1
    have := (wet_law hv ho hx).2.2.2 _ f1
    exact ⟨_, f1, x, hx, by omega⟩
  rw [asideB_ok hv ho h0 h1]
  have hk : (kindK (kindS b) 1 = 0 ↔ (kindS b).has 1 = false) ∧ (kindK (kindS b) 1 = 1 ↔ (kindS b).has 1 = true ∧ (kindS b).num ≠ 1) ∧ (kindK (kindS b) 1 = 2 ↔ (kindS b).has 1 = true ∧ (kindS b).num = 1) := by
    unfold kindK
    cases hh : (kindS b).has 1
    · simp
    · simp only [if_true]
      split <;> simp_all
  have hn : (kindS b).has 1 = true → 1 ≤ (kindS b).num := has1_num _
  rw [hk.1, hk.2.1, hk.2.2]
  have h2 : asideL (surelyL b n) (mayL b n) (kindS b) = 2 ↔ surelyL b n = true ∨ (kindS b).has 1 = false := by
    unfold asideL
    cases surelyL b n <;> cases (kindS b).has 1 <;> cases mayL b n <;> simp <;> split <;> simp
  have h00 : asideL (surelyL b n) (mayL b n) (kindS b) = 0 ↔ surelyL b n = false ∧ (kindS b).has 1 = true ∧ mayL b n = false ∧ ¬ 1 < (kindS b).num := by
    unfold asideL
    cases surelyL b n <;> cases (kindS b).has 1 <;> cases mayL b n <;> simp <;> omega
  refine ⟨fun h => h2.2 (.inr h), fun h => ?_, fun x hx => ⟨fun h => h2.2 (.inl (hsu1 ⟨x, hx, h⟩)), fun h => ?_⟩, fun h => ?_, fun h => ?_, fun hl => ?_⟩
  · rw [Ne, h00]
    rintro ⟨-, -, -, h4⟩
    have := hn h.1
    omega
  · rw [Ne, h00]
    rintro ⟨-, -, h3, -⟩
    rw [hmy2.2 ⟨x, hx, h⟩] at h3
    cases h3
  · rcases h2.1 h with h | h
    · exact .inl (hmy2.1 (hsm h))
    · exact .inr h
  · obtain ⟨g1, g2, g3, g4⟩ := h00.1 h
    refine ⟨fun hx => ?_, g2, by have := hn g2; omega⟩
    rw [hmy2.2 hx] at g3
    cases g3
  · rw [h2]
    constructor
    · rintro (h | h)
      · left
        rw [hsu] at h
        obtain ⟨x, hx, hh⟩ := h _ f2
        exact ⟨x, hx, by rw [(wet_at hv ho hx).2]; exact hh⟩
      · exact .inr h
    · rintro (h | h)
      · exact .inl (hsu1 h)
      · exact .inr h
/-- Whether one of the first k weighings was surely, or perhaps, damper. -/
def wetTo (b : Bale) (n : Int) (k : Nat) : Bool := (b.weighs.take k).any fun x => decide (n < (wetB b x.number).lo)
def dampTo (b : Bale) (n : Int) (k : Nat) : Bool := (b.weighs.take k).any fun x => decide (n < (wetB b x.number).hi)
theorem wetTo_succ {b : Bale} {n : Int} {k : Nat} {x : Weigh} (h : b.weighs[k]? = some x) : wetTo b n (k + 1) = (wetTo b n k || decide (n < (wetB b x.number).lo)) := by
  unfold wetTo; rw [List.take_add_one, h]; simp
theorem dampTo_succ {b : Bale} {n : Int} {k : Nat} {x : Weigh} (h : b.weighs[k]? = some x) : dampTo b n (k + 1) = (dampTo b n k || decide (n < (wetB b x.number).hi)) := by
  unfold dampTo; rw [List.take_add_one, h]; simp
/-- Whether one of the first j dampnesses explains a weighing. -/
def fndTo (d lo p : Int) (j : Nat) : Bool := (List.range j).any fun i => weight d (lo + (i : Int)) == p
theorem fndTo_succ (d lo p : Int) (j : Nat) : fndTo d lo p (j + 1) = (fndTo d lo p j || (weight d (lo + (j : Int)) == p)) := by
  unfold fndTo; rw [List.range_succ]; simp
theorem fnd_true {d lo p r : Int} {j : Nat} (h1 : lo ≤ r) (h2 : r < lo + (j : Int)) (h3 : weight d r = p) : fndTo d lo p j = true := by
  unfold fndTo
  rw [List.any_eq_true]
  refine ⟨(r - lo).toNat, List.mem_range.2 (by omega), ?_⟩
  rw [show lo + ((r - lo).toNat : Int) = r by omega, h3]
  simp
theorem wet_all (b : Bale) (n : Int) {k : Nat} (h : b.weighs.length ≤ k) : wetTo b n k = true ↔ ∃ x ∈ b.weighs, n < (wetB b x.number).lo := by
  unfold wetTo; rw [List.take_of_length_le h]; simp [List.any_eq_true]
theorem damp_all (b : Bale) (n : Int) {k : Nat} (h : b.weighs.length ≤ k) : dampTo b n k = true ↔ ∃ x ∈ b.weighs, n < (wetB b x.number).hi := by
  unfold dampTo; rw [List.take_of_length_le h]; simp [List.any_eq_true]
theorem aside_bd {b : Bale} (hv : valid b = true) (ho : okB b = true) {n : Int} (h0 : 0 ≤ n) (h1 : n ≤ 200) : asideB b n = 0 ∨ asideB b n = 1 ∨ asideB b n = 2 := by
  rw [asideB_ok hv ho h0 h1]
  unfold asideL
  split
  · simp
  · split <;> simp

/-- What stands in the last line of the law, hidden from simp. -/
def AsideFacts (b : Bale) (n v sd : Int) : Prop :=
  (sd = 2 → (∃ x ∈ b.weighs, n < (wetB b x.number).hi) ∨ v = 0) ∧ (sd = 0 → (¬ ∃ x ∈ b.weighs, n < (wetB b x.number).hi) ∧ v = 2) ∧ (b.weighs.length ≤ 1 → (sd = 2 ↔ (∃ x ∈ b.weighs, n < (wetB b x.number).lo) ∨ v = 0))
theorem aside_facts {b : Bale} (hv : valid b = true) (ho : okB b = true) {n : Int} (h0 : 0 ≤ n) (h1 : n ≤ 200) : AsideFacts b n (kindK (kindS b) 1) (asideB b n) := by
  obtain ⟨_, _, _, a4, a5, a6⟩ := aside_law hv ho h0 h1
  exact ⟨a4, a5, a6⟩
theorem aside_fin {b : Bale} {n v sd : Int} (h : AsideFacts b n v sd) {k : Nat} (hk : b.weighs.length = k) :
    (sd = 2 → dampTo b n k = true ∨ v = 0) ∧ (sd = 0 → dampTo b n k = false ∧ v = 2) ∧ (1 < k ∨ (sd = 2 ↔ wetTo b n k = true ∨ v = 0)) := by
  obtain ⟨a4, a5, a6⟩ := h
  have hd := damp_all b n (k := k) (by omega)
  have hw := wet_all b n (k := k) (by omega)
  refine ⟨fun h => by rw [hd]; exact a4 h, fun h => ⟨?_, (a5 h).2⟩, ?_⟩
  · cases hb : dampTo b n k with
    | false => rfl
    | true => exact absurd (hd.1 hb) (a5 h).1
  · by_cases h : 1 < k
    · exact .inl h
    · exact .inr (by rw [hw]; exact a6 (by omega))
end Go.Proofs.YtdlipbobfgdleaaDoor
