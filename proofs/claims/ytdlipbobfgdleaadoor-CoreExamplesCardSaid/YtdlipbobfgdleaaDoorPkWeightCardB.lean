/- The end of a region that drew its order: the frame that came in, the region's own slots put in. -/
import Derived.Test.YtdlipbobfgdleaaDoorPkTruthCardB
namespace Go.Proofs.YtdlipbobfgdleaaDoor
open Go.RowKit Go.Shelf

/-- The frame l with what ρ gives put into the slots of F. -/
def putF (ρ : Operand → Value) : Facts → List Value → List Value
  | [], l => l
  | (some d, _) :: F, l => putF ρ F (l.set d (ρ (.tmp d)))
  | (none, _) :: F, l => putF ρ F l
theorem putF_len (ρ : Operand → Value) : ∀ (F : Facts) (l : List Value), (putF ρ F l).length = l.length
  | [], l => rfl
  | (some d, _) :: F, l => by rw [putF, putF_len ρ F, List.length_set]
  | (none, _) :: F, l => by rw [putF, putF_len ρ F]
theorem putF_in (ρ : Operand → Value) : ∀ (F : Facts) (l : List Value) (j : Nat), j < l.length → (some j ∈ F.map (·.1) ∨ l[j]? = some (ρ (.tmp j))) → (putF ρ F l)[j]? = some (ρ (.tmp j))
  | [], l, j, _, h => by rw [putF]; simpa using h
  | (some d, U) :: F, l, j, hj, h => by
    rw [putF]
    refine putF_in ρ F _ j (by rw [List.length_set]; exact hj) ?_
    by_cases e : d = j
    · subst e
      right
      rw [List.getElem?_set_self hj]
    · rcases h with h | h
      · rw [List.map_cons, List.mem_cons] at h
        rcases h with h | h
        · injection h with h
          exact absurd h.symm e
        · exact .inl h
      · right
        rw [List.getElem?_set_ne e]
        exact h
  | (none, U) :: F, l, j, hj, h => by
    rw [putF]
    refine putF_in ρ F _ j hj ?_
    rcases h with h | h
    · rw [List.map_cons, List.mem_cons] at h
      rcases h with h | h
      · cases h
      · exact .inl h
    · exact .inr h
section
variable {P : Program} {C : World → Prop} {R : World → World → Prop} {a0 : Act} {ds : List (Option Tmp)} {Q : Act → World → Prop} {n : Nat} {F : Facts}
theorem tame_end_put (hds : F.map (·.1) = ds) (hn : n = F.length) (h : ∀ ρ W, C W → Rd a0 ds ρ → allF F ρ W → Q { tmps := (putF ρ F a0.tmps.toList).toArray, defers := a0.defers } W) : wpTame P C R ds a0 Q n [] F := by
  intro A W hC hS hF
  have hA : A = { tmps := (putF A.eval F a0.tmps.toList).toArray, defers := a0.defers } := by
    obtain ⟨h1, h2, h3⟩ := hS
    obtain ⟨tmps, defers⟩ := A
    simp only at h1 h2
    subst h1
    congr 1
    apply Array.ext_getElem?
    intro j
    by_cases hj : j < tmps.size
    · have e : (Act.mk tmps a0.defers).eval (.tmp j) = tmps[j] := by simp [Act.eval, hj]
      have hp : (putF (Act.mk tmps a0.defers).eval F a0.tmps.toList).toArray[j]? = some tmps[j] := by
        rw [List.getElem?_toArray, putF_in _ F _ j (by simpa using h2 ▸ hj), e]
        by_cases hm : some j ∈ F.map (·.1)
        · exact .inl hm
        · right
          have hni : notIn ds j = true := by
            unfold notIn
            rw [List.all_eq_true]
            intro d hd
            rw [← hds] at hd
            simp only [bne_iff_ne, ne_eq]
            intro e2
            exact hm (e2 ▸ hd)
          rw [h3 j hni]
          have hj2 : j < a0.tmps.size := h2 ▸ hj
          simp [Act.eval, hj2]
      rw [hp]; simp [hj]
    · rw [Array.getElem?_eq_none (by omega), List.getElem?_toArray, List.getElem?_eq_none (by rw [putF_len]; simp; omega)]
  rw [hA]
  exact h A.eval W hC (Rd.of hS) (allF_of _ _ _ (hn ▸ hF))
end
end Go.Proofs.YtdlipbobfgdleaaDoor
