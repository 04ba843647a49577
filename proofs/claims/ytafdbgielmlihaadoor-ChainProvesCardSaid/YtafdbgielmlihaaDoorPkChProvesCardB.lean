/- A region that draws its order, with a word on the frame and the world together that each operation keeps: two rows made in it are not the same. -/
import Derived.Test.YtafdbgielmlihaaDoorPkChTellsCardA
namespace Go.Proofs.YtafdbgielmlihaaDoor
open Go.RowKit Go.Shelf

/-- The walk, in the order of the text. -/
def wpTameJ (P : Program) (C : World → Prop) (R : World → World → Prop) (I : Act → World → Prop) (ds : List (Option Tmp)) (a0 : Act) (Q : Act → World → Prop) (n : Nat) : List Oper → Facts → Prop
  | [], F => ∀ A W, C W → Same0 ds a0 A → I A W → (∀ j, j < n → Fact F A.eval W j) → Q A W
  | o :: rest, F => ∃ U : Value → World → Prop, (∀ v W W', C W' → R W W' → U v W → U v W') ∧
      (∀ A W, C W → Same0 ds a0 A → I A W → (∀ e ∈ o.after, Region.binds .any e = true → Fact F A.eval W e.on) → o.guard = none ∧ opGives P C R o A.eval W (fun v W' => U (if o.dst.isSome then v else undef) W' ∧ I (A.put o.dst v) W')) ∧
      wpTameJ P C R I ds a0 Q n rest (F ++ [(o.dst, U)])
theorem wpTameJ_facts {P : Program} {C : World → Prop} {R : World → World → Prop} {ds : List (Option Tmp)} {a0 : Act} {Q : Act → World → Prop} {n : Nat} {I : Act → World → Prop} : ∀ (l : List Oper) (F : Facts), wpTameJ P C R I ds a0 Q n l F →
    ∃ G : Facts, G.length = F.length + l.length ∧ (∀ j, j < F.length → G[j]? = F[j]?) ∧ (∀ A W, C W → Same0 ds a0 A → I A W → (∀ j, j < n → Fact G A.eval W j) → Q A W) ∧
      ∀ i o, l[i]? = some o → ∃ U, G[F.length + i]? = some (o.dst, U) ∧ (∀ v W W', C W' → R W W' → U v W → U v W') ∧
        (∀ A W, C W → Same0 ds a0 A → I A W → (∀ e ∈ o.after, Region.binds .any e = true → Fact (G.take (F.length + i)) A.eval W e.on) → o.guard = none ∧ opGives P C R o A.eval W (fun v W' => U (if o.dst.isSome then v else undef) W' ∧ I (A.put o.dst v) W'))
  | [], F, h => ⟨F, by simp, fun _ _ => rfl, h, fun i o hi => by simp at hi⟩
  | o :: rest, F, h => by
    obtain ⟨U, hst, hstep, hrest⟩ := h
    obtain ⟨G, hlen, hpre, hfin, hops⟩ := wpTameJ_facts rest (F ++ [(o.dst, U)]) hrest
    have hF : G.take F.length = F := by
      apply List.ext_getElem?
      intro j
      rw [List.getElem?_take]
      by_cases hj : j < F.length
      · rw [if_pos hj, hpre j (by simp; omega), List.getElem?_append_left hj]
      · rw [if_neg hj, List.getElem?_eq_none (by omega)]
    refine ⟨G, by rw [hlen]; simp; omega, fun j hj => by rw [hpre j (by simp; omega), List.getElem?_append_left hj], hfin, fun i o' hi => ?_⟩
    cases i with
    | zero =>
      simp at hi; subst hi
      refine ⟨U, ?_, hst, ?_⟩
      · rw [Nat.add_zero, hpre F.length (by simp)]; simp
      · rw [Nat.add_zero, hF]; exact hstep
    | succ i =>
      obtain ⟨U', h1, h2, h3⟩ := hops i o' (by simpa using hi)
      have e : (F ++ [(o.dst, U)]).length + i = F.length + (i + 1) := by simp; omega
      rw [e] at h1 h3
      exact ⟨U', h1, h2, h3⟩


section
variable {P : Program} {C : World → Prop} {R : World → World → Prop} {a0 : Act} {l : List Oper}

theorem tame_anyJ {I : Act → World → Prop} {Q : Exit → Act → World → Prop} {Qn : Act → World → Prop} (hQ : ∀ A W, Qn A W → Q .normal A W) (hB : tameB l a0.tmps.size = true) (G : Facts) (hlen : G.length = l.length)
    (hfin : ∀ A W, C W → Same0 (l.map (·.dst)) a0 A → I A W → (∀ j, j < l.length → Fact G A.eval W j) → Qn A W)
    (hops : ∀ i o, l[i]? = some o → ∃ U, G[i]? = some (o.dst, U) ∧ (∀ v W W', C W' → R W W' → U v W → U v W') ∧
        (∀ A W, C W → Same0 (l.map (·.dst)) a0 A → I A W → (∀ e ∈ o.after, Region.binds .any e = true → Fact (G.take i) A.eval W e.on) → o.guard = none ∧ opGives P C R o A.eval W (fun v W' => U (if o.dst.isSome then v else undef) W' ∧ I (A.put o.dst v) W'))) :
    ∀ (fuel : Nat) (listed : Array Bool) (A : Act) (W : World), listed.size = l.length → ((List.range l.length).filter fun j => !listed.getD j true).length ≤ fuel → C W → Same0 (l.map (·.dst)) a0 A → I A W →
      (∀ j, listed.getD j false = true → Fact G A.eval W j) → wpAny P .any l.toArray Q fuel listed A W := by
  have hB' := hB
  unfold tameB at hB'
  rw [Bool.and_eq_true, List.all_eq_true, List.all_eq_true] at hB'
  obtain ⟨hb1, hb2⟩ := hB'
  have hback : ∀ (i : Nat) (o : Oper), l[i]? = some o → (∀ e ∈ o.after, Region.binds .any e = true → e.on < i) ∧ (∀ d, o.dst = some d → d < a0.tmps.size) ∧ (∀ (j : Nat) (b : Bool), o.guard = some (j, b) → j < i ∧ ∃ e ∈ o.after, e.on = j ∧ Region.binds .any e = true) := by
    intro i o hi
    have h := hb1 (o, i) (by rw [List.mem_zipIdx_iff_getElem?]; simpa using hi)
    simp only [Bool.and_eq_true] at h
    obtain ⟨⟨h1, h2⟩, h3⟩ := h
    refine ⟨fun e he hbd => ?_, fun d hd => ?_, fun j b hg => ?_⟩
    · rw [List.all_eq_true] at h1
      have := h1 e (Array.mem_toList_iff.2 he)
      simpa [hbd] using this
    · rw [hd] at h2; simpa using h2
    · rw [hg] at h3
      simp only [Bool.and_eq_true, decide_eq_true_eq] at h3
      refine ⟨h3.1, ?_⟩
      obtain ⟨_, h3⟩ := h3
      rw [List.any_eq_true] at h3
      obtain ⟨e, he, h4⟩ := h3
      exact ⟨e, Array.mem_toList_iff.1 he, by simpa using h4⟩
  have hdist : ∀ (i j : Nat) (o p : Oper) (d : Tmp), l[i]? = some o → l[j]? = some p → o.dst = some d → i ≠ j → p.dst ≠ some d := by
    intro i j o p d hi hj hd hne
    have h := hb2 (o, i) (by rw [List.mem_zipIdx_iff_getElem?]; simpa using hi)
    simp only [hd] at h
    rw [List.all_eq_true] at h
    have := h (p, j) (by rw [List.mem_zipIdx_iff_getElem?]; simpa using hj)
    simpa [hne] using this
  have hall : ∀ (listed : Array Bool) (A : Act) (W : World), listed.size = l.length → C W → Same0 (l.map (·.dst)) a0 A → I A W → (∀ j, listed.getD j false = true → Fact G A.eval W j) → Region.ready .any l.toArray listed = [] → Q .normal A W := by
    intro listed A W hs hC hS hIA hF hr
    refine hQ _ _ (hfin A W hC hS hIA fun j hj => hF j ?_)
    -- the least one that is not listed would be ready
    have key : ∀ k, k < l.length → listed.getD k false = true := by
      intro k
      induction k using Nat.strongRecOn with
      | _ k ih =>
        intro hk
        cases hv : listed.getD k false with
        | true => rfl
        | false =>
          exfalso
          have hmem : k ∈ Region.ready .any l.toArray listed := by
            rw [mem_ready]
            have hkl : k < listed.size := by omega
            refine ⟨by simpa [Array.getD_eq_getD_getElem?, hkl] using hv, l[k], by simp, fun e he hb => ?_⟩
            have := (hback k _ (List.getElem?_eq_getElem hk)).1 e he hb
            exact ih e.on this (by omega)
          rw [hr] at hmem
          cases hmem
    exact key j hj
  intro fuel
  induction fuel with
  | zero =>
    intro listed A W hs hcount hC hS hIA hF
    have hr : Region.ready .any l.toArray listed = [] := by
      rw [List.eq_nil_iff_forall_not_mem]
      intro k hk
      rw [mem_ready] at hk
      obtain ⟨h0, o, ho, _⟩ := hk
      have hkl : k < l.length := by simpa using (Array.getElem?_eq_some_iff.1 ho).1
      have : k ∈ (List.range l.length).filter fun j => !listed.getD j true := by simp [hkl]; simpa using h0
      have := List.length_pos_of_mem this
      omega
    exact ⟨hr, hall listed A W hs hC hS hIA hF hr⟩
  | succ fuel ih =>
    intro listed A W hs hcount hC hS hIA hF
    refine ⟨hall listed A W hs hC hS hIA hF, fun i hi => ?_⟩
    rw [mem_ready] at hi
    obtain ⟨h0, o, ho, hdeps⟩ := hi
    have hil : i < l.length := by simpa using (Array.getElem?_eq_some_iff.1 ho).1
    have hlo : l[i]? = some o := by simpa using ho
    obtain ⟨U, hU, hst, hstep⟩ := hops i o hlo
    obtain ⟨hb, hdb, hgb⟩ := hback i o hlo
    have htake : ∀ j, j < i → Fact (G.take i) A.eval W j = Fact G A.eval W j := fun j hj => by
      unfold Fact; rw [List.getElem?_take, if_pos hj]
    obtain ⟨hgn, hstep'⟩ := hstep A W hC hS hIA (fun e he hbd => by rw [htake e.on (hb e he hbd)]; exact hF e.on (hdeps e he hbd))
    have hrun : Region.wanted o (yielded l.toArray A.tmps) = runs (G.take i) A.eval o.guard := by
      unfold Region.wanted runs
      cases hg : o.guard with
      | none => rfl
      | some jb =>
        obtain ⟨j, b⟩ := jb
        obtain ⟨hj, _⟩ := hgb j b hg
        have hjl : j < l.length := by omega
        obtain ⟨Uj, hUj, _⟩ := hops j l[j] (List.getElem?_eq_getElem hjl)
        simp only [List.getElem?_take, if_pos hj, hUj]
        cases hd : (l[j]).dst with
        | none =>
          simp only [yielded]
          simp [List.getElem?_eq_getElem hjl, hd]
        | some d => exact yielded_isB (by simp) hd b
    -- what stands behind the operation
    have hnext : ∀ (v : Value) (W' : World), C W' → I (A.put o.dst v) W' → (∀ j d V, G[j]? = some (d, V) → listed.getD j false = true → ∀ u, V u W → V u W') → U (if o.dst.isSome then v else undef) W' →
        wpAny P .any l.toArray Q fuel (listed.setIfInBounds i true) (A.put o.dst v) W' := by
      intro v W' hC' hI' hkeep hUv
      refine ih _ _ _ (by simpa using hs) ?_ hC' (same0_put hS (by rw [List.mem_map]; exact ⟨o, List.mem_of_getElem? hlo, rfl⟩) v) hI' ?_
      · have hsub : ((List.range l.length).filter fun j => !(listed.setIfInBounds i true).getD j true).length < ((List.range l.length).filter fun j => !listed.getD j true).length := by
          have h1 : (List.range l.length).filter (fun j => !(listed.setIfInBounds i true).getD j true) = ((List.range l.length).filter fun j => !listed.getD j true).filter (fun j => j != i) := by
            rw [List.filter_filter]
            refine List.filter_congr fun j hj => ?_
            by_cases hji : j = i
            · subst hji
              simp [Array.getD_eq_getD_getElem?, show j < listed.size by omega]
            · rw [getD_set_ne true (Ne.symm hji)]; simp [hji]
          rw [h1]
          have hmem : i ∈ (List.range l.length).filter fun j => !listed.getD j true := by simp [hil]; simpa using h0
          refine Nat.lt_of_le_of_ne (List.length_filter_le _ _) fun he => ?_
          have := (List.length_filter_eq_length_iff.1 he) i hmem
          simp at this
        omega
      · intro j hj
        by_cases hji : j = i
        · subst hji
          unfold Fact
          rw [hU]
          cases hd : o.dst with
          | none => simpa [hd, atD] using hUv
          | some d =>
            have hsz : d < A.tmps.size := by rw [hS.2.1]; exact hdb d hd
            simp only [atD, eval_put_self hsz]
            simpa [hd] using hUv
        · rw [getD_set_ne false (Ne.symm hji)] at hj
          have hFj := hF j hj
          unfold Fact at hFj ⊢
          cases hGj : G[j]? with
          | none => trivial
          | some dV =>
            obtain ⟨d, V⟩ := dV
            rw [hGj] at hFj
            have hval : atD (A.put o.dst v).eval d = atD A.eval d := by
              cases d with
              | none => rfl
              | some d =>
                cases hdo : o.dst with
                | none => rfl
                | some d' =>
                  simp only [atD]
                  refine eval_put_ne fun he => ?_
                  have hjl : j < l.length := by rw [← hlen]; exact (List.getElem?_eq_some_iff.1 hGj).1
                  obtain ⟨Uj, hUj, _⟩ := hops j l[j] (List.getElem?_eq_getElem hjl)
                  rw [hGj] at hUj
                  injection hUj with hUj
                  have hdj : (l[j]).dst = some d := (Prod.mk.inj hUj).1.symm
                  exact hdist i j o _ d' hlo (List.getElem?_eq_getElem hjl) hdo (Ne.symm hji) (by rw [hdj, he])
            show V (atD (A.put o.dst v).eval d) W'
            rw [hval]
            exact hkeep j d V hGj hj _ hFj
    have hstab : ∀ W', C W' → R W W' → ∀ j d V, G[j]? = some (d, V) → listed.getD j false = true → ∀ u, V u W → V u W' := by
      intro W' hC' hR j d V hGj hj u hu
      have hjl : j < l.length := by rw [← hlen]; exact (List.getElem?_eq_some_iff.1 hGj).1
      obtain ⟨Uj, hUj, hstj, _⟩ := hops j l[j] (List.getElem?_eq_getElem hjl)
      rw [hGj] at hUj
      injection hUj with hUj
      have hV : V = Uj := (Prod.mk.inj hUj).2
      subst hV
      exact hstj u W W' hC' hR hu
    unfold wpOp
    simp only [ho]
    rw [hrun]
    have hw : runs (G.take i) A.eval o.guard = true := by unfold runs; rw [hgn]
    rw [hw]
    simp only [if_true]
    left
    unfold Oper.wp
    unfold opGives opPost at hstep'
    generalize (execOp A.eval o).run P W = r at hstep'
    cases r with
    | halt x w' => exact hstep'.elim
    | ok nx w' =>
      cases nx with
      | value v => obtain ⟨⟨h1, h2⟩, h3, h4⟩ := hstep'; exact hnext v w' h1 h4 (hstab w' h1 h2) h3
      | skip => obtain ⟨⟨h1, h2⟩, h3, h4⟩ := hstep'; exact hnext undef w' h1 h4 (hstab w' h1 h2) (by cases hds : o.dst.isSome <;> simpa [hds] using h3)
      | enter f args =>
        refine Calls.mono (R' := _) hstep' ?_
        rintro e w'' ⟨v, rfl, ⟨h1, h2⟩, h3, h4⟩
        exact hnext v w'' h1 h4 (hstab w'' h1 h2) h3
      | _ => exact hstep'.elim

theorem wp_region_tameJ {id : Nat} {Q : Exit → Act → World → Prop} {w : World} (C : World → Prop) (R : World → World → Prop) (I : Act → World → Prop) (hm : P.follows .mixedOrders = true) (n : Nat) (hn : a0.tmps.size = n) (hB : tameB l n = true) (hC : C w.drew) (hI0 : I a0 w.drew)
    (h : wpTameJ P C R I (l.map (·.dst)) a0 (fun A W => I A W → Q .normal A W) l.length l []) : (Code.region id l.toArray true).wp P Q a0 w := by
  subst hn
  obtain ⟨G, hlen, _, hfin, hops⟩ := wpTameJ_facts l [] h
  refine wp_region_any hm (tame_anyJ (I := I) (Q := Q) (Qn := fun A W => Q .normal A W) (fun _ _ h => h) hB G (by simpa using hlen) (fun A W a b c d => hfin A W a b c d c) (by simpa using hops) _ _ _ _ (by simp) ?_ hC ⟨rfl, rfl, fun _ _ => rfl⟩ hI0 ?_)
  · refine Nat.le_trans (List.length_filter_le _ _) (by simp)
  · intro j hj
    have : (Array.replicate l.toArray.size false).getD j false = false := by
      rw [Array.getD_eq_getD_getElem?, Array.getElem?_replicate]; split <;> rfl
    rw [this] at hj
    cases hj
variable {ds : List (Option Tmp)} {Q : Act → World → Prop} {I : Act → World → Prop} {n : Nat} {o : Oper} {rest : List Oper} {F : Facts}
theorem opGives_mono {ρ : Operand → Value} {W : World} {U U' : Value → World → Prop} (h : opGives P C R o ρ W U) (k : ∀ v W', CR C R W W' → U v W' → U' v W') : opGives P C R o ρ W U' := by
  unfold opGives opPost at h ⊢
  generalize (execOp ρ o).run P W = r at h ⊢
  cases r with
  | halt x w' => exact h
  | ok nx w' =>
    cases nx with
    | value v => exact ⟨h.1, k v w' h.1 h.2⟩
    | skip => exact ⟨h.1, k undef w' h.1 h.2⟩
    | enter f args =>
      refine Calls.mono (R' := _) h ?_
      rintro e w'' ⟨v, rfl, h1, h2⟩
      exact ⟨v, rfl, h1, k v w'' h1 h2⟩
    | _ => exact h
/-- An operation of which the word on the frame does not speak. -/
theorem tameJ_q {d : Tmp} (hd : o.dst = some d) (hg : o.guard = none) (hIR : ∀ A W W' v, Same0 ds a0 A → I A W → R W W' → I (A.put (some d) v) W') (v0 : Value)
    (hstep : ∀ ρ W, C W → Rd a0 ds ρ → (∀ e ∈ o.after, Region.binds .any e = true → Fact F ρ W e.on) → opGives P C R o ρ W (fun v _ => Is v0 v))
    (h : wpTameJ P C R I ds a0 Q n rest (F ++ [(some d, fun v _ => v = v0)])) : wpTameJ P C R I ds a0 Q n (o :: rest) F := by
  refine ⟨fun v _ => v = v0, fun _ _ _ _ _ h => h, fun A W hC hS hIA hD => ⟨hg, ?_⟩, by rw [hd]; exact h⟩
  refine opGives_mono (hstep A.eval W hC (Rd.of hS) hD) fun v W' hcr hv => ?_
  rw [hd]
  exact ⟨hv, hIR A W W' v hS hIA hcr.2⟩
/-- An operation of which the word on the frame speaks. -/
theorem tameJ_m {d : Tmp} (hd : o.dst = some d) (hg : o.guard = none) (U : Value → World → Prop) (hst : ∀ v W W', C W' → R W W' → U v W → U v W')
    (hstep : ∀ ρ W, C W → Rd a0 ds ρ → (∀ e ∈ o.after, Region.binds .any e = true → Fact F ρ W e.on) → opGives P C R o ρ W (fun v W' => U v W' ∧ ∀ A, A.eval = ρ → Same0 ds a0 A → I A W → I (A.put (some d) v) W'))
    (h : wpTameJ P C R I ds a0 Q n rest (F ++ [(some d, U)])) : wpTameJ P C R I ds a0 Q n (o :: rest) F := by
  refine ⟨U, hst, fun A W hC hS hIA hD => ⟨hg, ?_⟩, by rw [hd]; exact h⟩
  refine opGives_mono (hstep A.eval W hC (Rd.of hS) hD) fun v W' hcr hv => ?_
  rw [hd]
  exact ⟨hv.1, hv.2 A rfl hS hIA⟩
theorem tameJ_end (m : Nat) (hm : a0.tmps.size = m) (hn : n = F.length) (h : ∀ ρ W, C W → Rd a0 ds ρ → I { tmps := (evs ρ 0 m).toArray, defers := a0.defers } W → allF F ρ W → Q { tmps := (evs ρ 0 m).toArray, defers := a0.defers } W) : wpTameJ P C R I ds a0 Q n [] F := by
  intro A W hC hS hI hF
  have e : A = { tmps := (evs A.eval 0 m).toArray, defers := a0.defers } := by
    rw [← hS.1]
    exact frame_lit (A := A) (m := m) (by rw [hS.2.1, hm])
  have h1 := h A.eval W hC (Rd.of hS) (e ▸ hI) (allF_of _ _ _ (hn ▸ hF))
  rw [e]
  exact h1
end
/-- Temporaries of two kinds that do not hold the same row. -/
structure Sep (L1 L2 : List Tmp) (A : Act) (W : World) : Prop where
  lt : ∀ d, d ∈ L1 ∨ d ∈ L2 → ∀ g n c, A.eval (.tmp d) = .slice (some ⟨g, 0, none⟩) n c → g < W.heap.size
  ne : ∀ d d', d ∈ L1 → d' ∈ L2 → ∀ g n c g' n' c', A.eval (.tmp d) = .slice (some ⟨g, 0, none⟩) n c → A.eval (.tmp d') = .slice (some ⟨g', 0, none⟩) n' c' → g ≠ g'
theorem Sep.put {L1 L2 : List Tmp} {d : Tmp} {A : Act} {W W' : World} (h : Sep L1 L2 A W) (k : Ext W W') (h1 : d ∉ L1) (h2 : d ∉ L2) (v : Value) : Sep L1 L2 (A.put (some d) v) W' := by
  have e0 : ∀ x, x ∈ L1 ∨ x ∈ L2 → (A.put (some d) v).eval (.tmp x) = A.eval (.tmp x) := fun x hx => eval_put_ne (fun e => by subst e; exact hx.elim h1 h2)
  refine ⟨fun x hx g n c e => ?_, fun x y hx hy g n c g' n' c' e e' => ?_⟩
  · rw [e0 x hx] at e; exact Nat.lt_of_lt_of_le (h.lt x hx g n c e) k.size
  · rw [e0 x (.inl hx)] at e; rw [e0 y (.inr hy)] at e'; exact h.ne x y hx hy g n c g' n' c' e e'
/-- A new row. -/
theorem Sep.fresh {L1 L2 : List Tmp} {d : Tmp} {A : Act} {W : World} {o : Obj} {n c : Nat} (h : Sep L1 L2 A W) (hd : d < A.tmps.size) (h12 : ∀ x, x ∈ L1 → x ∉ L2) : Sep L1 L2 (A.put (some d) (.slice (some ⟨W.heap.size, 0, none⟩) n c)) (W.alloc o) := by
  have ev : ∀ x g n' c', (x ∈ L1 ∨ x ∈ L2) → (A.put (some d) (.slice (some ⟨W.heap.size, 0, none⟩) n c)).eval (.tmp x) = .slice (some ⟨g, 0, none⟩) n' c' → (x = d ∧ g = W.heap.size) ∨ (x ≠ d ∧ g < W.heap.size) := fun x g n' c' hx e => by
    by_cases hxd : x = d
    · subst hxd
      rw [eval_put_self hd] at e
      injection e with e; injection e with e; injection e with e
      exact .inl ⟨rfl, e.symm⟩
    · rw [eval_put_ne (fun e => hxd e.symm)] at e
      exact .inr ⟨hxd, h.lt x hx g n' c' e⟩
  refine ⟨fun x hx g n' c' e => ?_, fun x y hx hy g n1 c1 g' n2 c2 e e' => ?_⟩
  · rw [World.size_alloc]
    rcases ev x g n' c' hx e with ⟨-, h⟩ | ⟨-, h⟩ <;> omega
  · rcases ev x g n1 c1 (.inl hx) e with ⟨h1, h2⟩ | ⟨h1, h2⟩ <;> rcases ev y g' n2 c2 (.inr hy) e' with ⟨h3, h4⟩ | ⟨h3, h4⟩
    · subst h1; subst h3; exact absurd hy (h12 _ hx)
    · omega
    · omega
    · rw [eval_put_ne (fun e => h1 e.symm)] at e
      rw [eval_put_ne (fun e => h3 e.symm)] at e'
      exact h.ne x y hx hy g n1 c1 g' n2 c2 e e'
/-- A row by another name. -/
theorem Sep.copy1 {L1 L2 : List Tmp} {d d0 : Tmp} {A : Act} {W : World} (h : Sep L1 L2 A W) (hd : d < A.tmps.size) (h0 : d0 ∈ L1) (h2 : d ∉ L2) : Sep L1 L2 (A.put (some d) (A.eval (.tmp d0))) W := by
  have ev : ∀ x, (A.put (some d) (A.eval (.tmp d0))).eval (.tmp x) = if x = d then A.eval (.tmp d0) else A.eval (.tmp x) := fun x => by
    by_cases hxd : x = d
    · subst hxd; rw [eval_put_self hd, if_pos rfl]
    · rw [eval_put_ne (fun e => hxd e.symm), if_neg hxd]
  refine ⟨fun x hx g n c e => ?_, fun x y hx hy g n c g' n' c' e e' => ?_⟩
  · rw [ev] at e
    split at e
    · exact h.lt d0 (.inl h0) g n c e
    · exact h.lt x hx g n c e
  · rw [ev] at e e'
    rw [if_neg (fun e => by subst e; exact h2 hy)] at e'
    split at e
    · exact h.ne d0 y h0 hy g n c g' n' c' e e'
    · exact h.ne x y hx hy g n c g' n' c' e e'
theorem Sep.copy2 {L1 L2 : List Tmp} {d d0 : Tmp} {A : Act} {W : World} (h : Sep L1 L2 A W) (hd : d < A.tmps.size) (h0 : d0 ∈ L2) (h1 : d ∉ L1) : Sep L1 L2 (A.put (some d) (A.eval (.tmp d0))) W := by
  have ev : ∀ x, (A.put (some d) (A.eval (.tmp d0))).eval (.tmp x) = if x = d then A.eval (.tmp d0) else A.eval (.tmp x) := fun x => by
    by_cases hxd : x = d
    · subst hxd; rw [eval_put_self hd, if_pos rfl]
    · rw [eval_put_ne (fun e => hxd e.symm), if_neg hxd]
  refine ⟨fun x hx g n c e => ?_, fun x y hx hy g n c g' n' c' e e' => ?_⟩
  · rw [ev] at e
    split at e
    · exact h.lt d0 (.inr h0) g n c e
    · exact h.lt x hx g n c e
  · rw [ev] at e e'
    rw [if_neg (fun e => by subst e; exact h1 hx)] at e
    split at e'
    · exact h.ne x d0 hx h0 g n c g' n' c' e e'
    · exact h.ne x y hx hy g n c g' n' c' e e'
end Go.Proofs.YtafdbgielmlihaaDoor
