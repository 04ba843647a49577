/- A region that draws its order and whose last operation stands behind all others: that one is walked by itself, when the others are done. -/
import Derived.Test.YtafdbgielmlihaaDoorTame
namespace Go.Proofs.YtafdbgielmlihaaDoor
open Go.RowKit Go.Shelf

def lastQ (P : Program) (oL : Oper) (Q : Exit → Act → World → Prop) : Exit → Act → World → Prop := fun x A W =>
  match x with
  | .normal => oL.wp P A W (fun A' W' => Q .normal A' W') Q ∨ (oL.asks P A W ∧ LetsOut Q)
  | x => Q x A W
/-- Every operation but the last has one behind it. -/
def lastB (l : List Oper) : Bool :=
  (List.range (l.length - 1)).all fun j => l.zipIdx.any fun (o, k) => decide (j < k) && o.after.toList.any (fun e => e.on == j && Region.binds .any e)

section
variable {P : Program} {l : List Oper} {oL : Oper} {Q : Exit → Act → World → Prop}
theorem wp_lastQ {o : Oper} {a : Act} {w : World} {K : Act → World → Prop} (hh : o.wp P a w K (lastQ P oL Q)) : o.wp P a w K Q := by
  unfold Oper.wp at *
  generalize (execOp a.eval o).run P w = r at *
  cases r with
  | ok n w' =>
    cases n <;> simp only [Oper.upon] at hh ⊢ <;>
      first
        | exact hh
        | exact Calls.mono hh (fun e w'' he => by cases e <;> exact he)
  | halt x w' => cases x <;> simp only [Oper.upon] at hh ⊢ <;> exact hh

theorem push_old {listed : Array Bool} {j : Nat} (hj : j < listed.size) (b : Bool) : (listed.push false).getD j b = listed.getD j b := by
  simp [Array.getD_eq_getD_getElem?, Array.getElem?_push, hj, Nat.ne_of_lt hj]

theorem tame_lastL (hback : ∀ (i : Nat) (o : Oper), (l ++ [oL])[i]? = some o → (∀ e ∈ o.after, Region.binds .any e = true → e.on < i) ∧ ∀ (j : Nat) (b : Bool), o.guard = some (j, b) → j < i) (hL : lastB (l ++ [oL]) = true) (hgL : oL.guard = none) :
    ∀ (fuel : Nat) (listed : Array Bool) (A : Act) (W : World), listed.size = l.length →
      (∀ j o, l[j]? = some o → listed.getD j false = true → ∀ e ∈ o.after, Region.binds .any e = true → listed.getD e.on false = true) →
      wpAny P .any l.toArray (lastQ P oL Q) fuel listed A W → wpAny P .any (l ++ [oL]).toArray Q (fuel + 1) (listed.push false) A W := by
  have hchain : ∀ j, j < l.length → ∃ k o, (l ++ [oL])[k]? = some o ∧ j < k ∧ ∃ e ∈ o.after, e.on = j ∧ Region.binds .any e = true := by
    intro j hj
    unfold lastB at hL
    rw [List.all_eq_true] at hL
    have h := hL j (by simp; exact hj)
    rw [List.any_eq_true] at h
    obtain ⟨⟨o, k⟩, hm, h⟩ := h
    rw [List.mem_zipIdx_iff_getElem?] at hm
    simp only [Bool.and_eq_true, decide_eq_true_eq, List.any_eq_true, beq_iff_eq] at h
    obtain ⟨h1, e, he, h2, h3⟩ := h
    exact ⟨k, o, by simpa using hm, h1, e, Array.mem_toList_iff.1 he, h2, h3⟩
  -- all but the last are listed once the last is ready
  have hall : ∀ (listed : Array Bool), listed.size = l.length → (∀ j o, l[j]? = some o → listed.getD j false = true → ∀ e ∈ o.after, Region.binds .any e = true → listed.getD e.on false = true) →
      (∀ e ∈ oL.after, Region.binds .any e = true → (listed.push false).getD e.on false = true) → ∀ j, j < l.length → listed.getD j false = true := by
    intro listed hs hcl hd
    suffices ∀ d j, j < l.length → l.length - j ≤ d → listed.getD j false = true from fun j hj => this _ j hj (Nat.le_refl _)
    intro d
    induction d with
    | zero => intro j hj h; omega
    | succ d ih =>
      intro j hj h
      obtain ⟨k, o, hk, hjk, e, he, h2, h3⟩ := hchain j hj
      by_cases hkl : k < l.length
      · rw [List.getElem?_append_left hkl] at hk
        have := hcl k o hk (ih k hkl (by omega)) e he h3
        rw [h2] at this; exact this
      · have hk' : k = l.length := by have := (List.getElem?_eq_some_iff.1 hk).1; simp at this; omega
        subst hk'
        simp at hk
        subst hk
        have := hd e he h3
        rw [h2, push_old (by omega)] at this
        exact this
  have hnone : ∀ listed : Array Bool, listed.size = l.length → (∀ j, j < l.length → listed.getD j false = true) → Region.ready .any l.toArray listed = [] := by
    intro listed hs h
    rw [List.eq_nil_iff_forall_not_mem]
    intro k hk
    rw [mem_ready] at hk
    obtain ⟨h0, o, ho, _⟩ := hk
    have hkl : k < l.length := by simpa using (Array.getElem?_eq_some_iff.1 ho).1
    have h1 := h k hkl
    have hks : k < listed.size := by omega
    simp [Array.getD_eq_getD_getElem?, hks] at h0 h1
    rw [h0] at h1; cases h1
  have hnoneL : ∀ listed : Array Bool, listed.size = l.length → (∀ j, j < l.length → listed.getD j false = true) → Region.ready .any (l ++ [oL]).toArray ((listed.push false).setIfInBounds l.length true) = [] := by
    intro listed hs h
    rw [List.eq_nil_iff_forall_not_mem]
    intro k hk
    rw [mem_ready] at hk
    obtain ⟨h0, o, ho, _⟩ := hk
    have hkl : k < l.length + 1 := by simpa using (Array.getElem?_eq_some_iff.1 ho).1
    by_cases hk2 : k = l.length
    · subst hk2
      simp [Array.getD_eq_getD_getElem?, hs] at h0
    · rw [getD_set_ne true (Ne.symm hk2), push_old (by omega)] at h0
      have h1 := h k (by omega)
      have hks : k < listed.size := by omega
      simp [Array.getD_eq_getD_getElem?, hks] at h0 h1
      rw [h0] at h1; cases h1
  -- something is ready as long as the last is not listed
  have hsome : ∀ listed : Array Bool, listed.size = l.length → Region.ready .any (l ++ [oL]).toArray (listed.push false) ≠ [] := by
    intro listed hs hr
    have key : ∀ k, k < l.length → listed.getD k false = true := by
      intro k
      induction k using Nat.strongRecOn with
      | _ k ih =>
        intro hk
        cases hv : listed.getD k false with
        | true => rfl
        | false =>
          exfalso
          have hmem : k ∈ Region.ready .any (l ++ [oL]).toArray (listed.push false) := by
            rw [mem_ready]
            have hkl : k < listed.size := by omega
            have hget : (l ++ [oL])[k]? = some l[k] := by rw [List.getElem?_append_left hk]; simp
            refine ⟨by rw [push_old hkl]; simpa [Array.getD_eq_getD_getElem?, hkl] using hv, l[k], by simpa using hget, fun e he hb => ?_⟩
            have := (hback k _ hget).1 e he hb
            rw [push_old (by omega)]
            exact ih e.on this (by omega)
          rw [hr] at hmem
          cases hmem
    have hmem : l.length ∈ Region.ready .any (l ++ [oL]).toArray (listed.push false) := by
      rw [mem_ready]
      refine ⟨by simp [Array.getD_eq_getD_getElem?, ← hs], oL, by simp, fun e he hb => ?_⟩
      have := (hback l.length oL (by simp)).1 e he hb
      rw [push_old (by omega)]
      exact key e.on this
    rw [hr] at hmem
    cases hmem
  -- the step of the last
  have hlast : ∀ (fuel : Nat) (listed : Array Bool) (A : Act) (W : World), listed.size = l.length → (∀ j o, l[j]? = some o → listed.getD j false = true → ∀ e ∈ o.after, Region.binds .any e = true → listed.getD e.on false = true) →
      (Region.ready .any l.toArray listed = [] → lastQ P oL Q .normal A W) → l.length ∈ Region.ready .any (l ++ [oL]).toArray (listed.push false) →
      wpOp P (l ++ [oL]).toArray Q l.length (wpAny P .any (l ++ [oL]).toArray Q fuel ((listed.push false).setIfInBounds l.length true)) A W := by
    intro fuel listed A W hs hcl hq hm
    rw [mem_ready] at hm
    obtain ⟨_, o, ho, hd⟩ := hm
    have hoL : o = oL := by simpa using ho.symm
    subst hoL
    have ha := hall listed hs hcl hd
    have h := hq (hnone listed hs ha)
    unfold wpOp
    simp only [ho]
    have hw : Region.wanted o (yielded (l ++ [o]).toArray A.tmps) = true := by simp [Region.wanted, hgL]
    rw [hw, if_pos rfl]
    refine h.imp (Oper.wp_mono (fun A' W' h' => ?_)) id
    have hr := hnoneL listed hs ha
    cases fuel with
    | zero => exact ⟨hr, h'⟩
    | succ f => exact ⟨fun _ => h', fun i hi => by rw [hr] at hi; cases hi⟩
  have hidx : ∀ (listed : Array Bool) (i : Nat), i ∈ Region.ready .any (l ++ [oL]).toArray (listed.push false) → i < l.length ∨ i = l.length := by
    intro listed i hi
    rw [mem_ready] at hi
    obtain ⟨_, o, ho, _⟩ := hi
    have : i < l.length + 1 := by simpa using (Array.getElem?_eq_some_iff.1 ho).1
    omega
  have hdown : ∀ (listed : Array Bool) (i : Nat), listed.size = l.length → i < l.length → i ∈ Region.ready .any (l ++ [oL]).toArray (listed.push false) → i ∈ Region.ready .any l.toArray listed := by
    intro listed i hs hi hm
    rw [mem_ready] at hm ⊢
    obtain ⟨h0, o, ho, hd⟩ := hm
    have hget : (l ++ [oL])[i]? = some o := by simpa using ho
    refine ⟨by rw [push_old (by omega)] at h0; exact h0, o, ?_, fun e he hb => ?_⟩
    · rw [List.getElem?_append_left hi] at hget; simpa using hget
    · have := (hback i o hget).1 e he hb
      have h := hd e he hb
      rw [push_old (by omega)] at h
      exact h
  intro fuel
  induction fuel with
  | zero =>
    intro listed A W hs hcl h
    refine ⟨fun hr => absurd hr (hsome listed hs), fun i hi => ?_⟩
    rcases hidx listed i hi with hlt | rfl
    · have := hdown listed i hs hlt hi
      rw [h.1] at this; cases this
    · exact hlast 0 listed A W hs hcl (fun _ => h.2) hi
  | succ fuel ih =>
    intro listed A W hs hcl h
    refine ⟨fun hr => absurd hr (hsome listed hs), fun i hi => ?_⟩
    rcases hidx listed i hi with hlt | rfl
    · have hdn := hdown listed i hs hlt hi
      have hstep := h.2 i hdn
      have hnext : ∀ A' W', wpAny P .any l.toArray (lastQ P oL Q) fuel (listed.setIfInBounds i true) A' W' → wpAny P .any (l ++ [oL]).toArray Q (fuel + 1) ((listed.push false).setIfInBounds i true) A' W' := by
        intro A' W' h'
        have e1 : (listed.push false).setIfInBounds i true = (listed.setIfInBounds i true).push false := by
          apply Array.ext_getElem?
          intro j
          simp only [Array.getElem?_setIfInBounds, Array.getElem?_push, Array.size_push, Array.size_setIfInBounds]
          by_cases h1 : i = j
          · subst h1
            have : ¬ i = listed.size := by omega
            simp [this, show i < listed.size by omega, show i < listed.size + 1 by omega]
          · simp [h1]
        rw [e1]
        refine ih _ A' W' (by simpa using hs) ?_ h'
        intro j o ho hj e he hb
        by_cases hji : j = i
        · subst hji
          rw [mem_ready] at hdn
          obtain ⟨_, o', ho', hd⟩ := hdn
          have : o' = o := by
            have h2 : l[j]? = some o' := by simpa using ho'
            rw [ho] at h2; injection h2 with h2; exact h2.symm
          subst this
          have h3 := hd e he hb
          by_cases hej : e.on = j
          · rw [hej]; simp [Array.getD_eq_getD_getElem?, show j < listed.size by omega]
          · rw [getD_set_ne false (Ne.symm hej)]; exact h3
        · rw [getD_set_ne false (Ne.symm hji)] at hj
          have h3 := hcl j o ho hj e he hb
          by_cases hej : e.on = i
          · rw [hej]; simp [Array.getD_eq_getD_getElem?, show i < listed.size by omega]
          · rw [getD_set_ne false (Ne.symm hej)]; exact h3
      unfold wpOp at hstep ⊢
      have hg1 : l.toArray[i]? = some l[i] := by simp [hlt]
      have hg2 : (l ++ [oL]).toArray[i]? = some l[i] := by simp [List.getElem?_append_left hlt]
      have hgb := (hback i l[i] (by simpa using hg2)).2
      simp only [hg1] at hstep
      simp only [hg2]
      have hw : Region.wanted l[i] (yielded (l ++ [oL]).toArray A.tmps) = Region.wanted l[i] (yielded l.toArray A.tmps) := by
        unfold Region.wanted
        cases hg : (l[i]).guard with
        | none => rfl
        | some jb =>
          obtain ⟨j, b⟩ := jb
          have hj := hgb j b hg
          have : yielded (l ++ [oL]).toArray A.tmps j = yielded l.toArray A.tmps j := by
            unfold yielded
            simp [List.getElem?_append_left (show j < l.length by omega)]
          simp only [this]
      rw [hw]
      cases hq : Region.wanted l[i] (yielded l.toArray A.tmps) with
      | false =>
        rw [hq] at hstep
        exact hnext _ _ hstep
      | true =>
        rw [hq] at hstep
        simp only [if_true] at hstep ⊢
        exact hstep.imp (fun h => Oper.wp_mono hnext (wp_lastQ h)) (fun h => ⟨h.1, h.2⟩)
    · exact hlast (fuel + 1) listed A W hs hcl h.1 hi
end

/-- **A REGION THAT DRAWS ITS ORDER, AND ENDS IN ONE OPERATION THAT STANDS BEHIND ALL OTHERS.** -/
theorem wp_region_tame_last {P : Program} {id : Nat} {Q : Exit → Act → World → Prop} {w : World} {a0 : Act} {l : List Oper} {oL : Oper} (C : World → Prop) (R : World → World → Prop) (hm : P.follows .mixedOrders = true) (n : Nat) (hn : a0.tmps.size = n)
    (hB : tameB (l ++ [oL]) n = true) (hB' : tameB l n = true) (hL : lastB (l ++ [oL]) = true) (hgL : oL.guard = none) (hC : C w.drew)
    (h : wpTame P C R (l.map (·.dst)) a0 (fun A W => oL.wp P A W (fun A' W' => Q .normal A' W') Q ∨ (oL.asks P A W ∧ LetsOut Q)) l.length l []) : (Code.region id (l ++ [oL]).toArray true).wp P Q a0 w := by
  subst hn
  obtain ⟨G, hlen, _, hfin, hops⟩ := wpTame_facts l [] h
  have h1 := tame_any (Q := lastQ P oL Q) (Qn := fun A W => oL.wp P A W (fun A' W' => Q .normal A' W') Q ∨ (oL.asks P A W ∧ LetsOut Q)) (fun _ _ h => h) hB' G (by simpa using hlen) hfin (by simpa using hops) l.length (Array.replicate l.length false) a0 w.drew (by simp)
    (Nat.le_trans (List.length_filter_le _ _) (by simp)) hC ⟨rfl, rfl, fun _ _ => rfl⟩ (by
      intro j hj
      have : (Array.replicate l.length false).getD j false = false := by
        rw [Array.getD_eq_getD_getElem?, Array.getElem?_replicate]; split <;> rfl
      rw [this] at hj
      cases hj)
  have hback : ∀ (i : Nat) (o : Oper), (l ++ [oL])[i]? = some o → (∀ e ∈ o.after, Region.binds .any e = true → e.on < i) ∧ ∀ (j : Nat) (b : Bool), o.guard = some (j, b) → j < i := by
    intro i o hi
    unfold tameB at hB
    rw [Bool.and_eq_true, List.all_eq_true] at hB
    have h := hB.1 (o, i) (by rw [List.mem_zipIdx_iff_getElem?]; simpa using hi)
    simp only [Bool.and_eq_true] at h
    obtain ⟨⟨h1, h2⟩, h3⟩ := h
    refine ⟨fun e he hbd => ?_, fun j b hg => ?_⟩
    · rw [List.all_eq_true] at h1
      have := h1 e (Array.mem_toList_iff.2 he)
      simpa [hbd] using this
    · rw [hg] at h3
      simp only [Bool.and_eq_true, decide_eq_true_eq] at h3
      exact h3.1
  refine wp_region_any hm ?_
  have h2 := tame_lastL (P := P) (Q := Q) hback hL hgL _ _ _ _ (by simp) (by
    intro j o ho hj
    have : (Array.replicate l.length false).getD j false = false := by
      rw [Array.getD_eq_getD_getElem?, Array.getElem?_replicate]; split <;> rfl
    rw [this] at hj
    cases hj) h1
  have e1 : (l ++ [oL]).toArray.size = l.length + 1 := by simp
  rw [e1, Array.replicate_succ]
  exact h2
/-- The same, for the walk: the last operation is walked as others are. -/
theorem wp_region_tame_cut {P : Program} {id : Nat} {Q : Exit → Act → World → Prop} {w : World} {a0 : Act} {l : List Oper} (C : World → Prop) (R : World → World → Prop) (hm : P.follows .mixedOrders = true) (n : Nat) (hn : a0.tmps.size = n) (oL : Oper) (ho : l.getLast? = some oL)
    (hB : tameB l n = true) (hB' : tameB l.dropLast n = true) (hL : lastB l = true) (hgL : oL.guard = none) (hC : C w.drew)
    (h : wpTame P C R (l.dropLast.map (·.dst)) a0 (fun A W => wpList P l.toArray Q [oL] A W) l.dropLast.length l.dropLast []) : (Code.region id l.toArray true).wp P Q a0 w := by
  have e : l.dropLast ++ [oL] = l := by
    obtain ⟨ys, rfl⟩ := List.getLast?_eq_some_iff.1 ho
    rw [List.dropLast_concat]
  have := wp_region_tame_last (P := P) (id := id) (Q := Q) (w := w) (a0 := a0) (l := l.dropLast) (oL := oL) C R hm n hn (by rw [e]; exact hB) hB' (by rw [e]; exact hL) hgL hC (by
    have hw : ∀ A : Act, Region.wanted oL (yielded l.toArray A.tmps) = true := fun A => by simp [Region.wanted, hgL]
    simpa only [wpList, hw, if_true] using h)
  rw [e] at this
  exact this
end Go.Proofs.YtafdbgielmlihaaDoor
