/- A region that draws its order and holds a store that others must go ahead of: what holds until then is known to them. -/
import Derived.Test.YtkpengeaolcjhaaGreatDoorPkMlBestCardC
namespace Go.Proofs.YtkpengeaolcjhaaGreatDoor
open Go.RowKit Go.Shelf

/-- Operation i is the s-th, or the s-th stands behind it. -/
def early (l : List Oper) (s i : Nat) : Bool := i == s || (match l[s]? with | some os => os.after.toList.any (fun e => e.on == i && Region.binds .any e) | none => false)
/-- What a step keeps: N, too, but for the s-th. -/
def RN (R : World → World → Prop) (N : World → Prop) (b : Bool) (W W' : World) : Prop := R W W' ∧ (b = true → N W → N W')

/-- The walk, in the order of the text. -/
def wpTameN (P : Program) (C : World → Prop) (R : World → World → Prop) (N : World → Prop) (l0 : List Oper) (s : Nat) (ds : List (Option Tmp)) (a0 : Act) (Q : Act → World → Prop) (n : Nat) : List Oper → Facts → Prop
  | [], F => ∀ A W, C W → Same0 ds a0 A → (∀ j, j < n → Fact F A.eval W j) → Q A W
  | o :: rest, F => ∃ U : Value → World → Prop, (∀ v W W', C W' → R W W' → U v W → U v W') ∧
      (∀ A W, C W → (early l0 s F.length = true → N W) → Same0 ds a0 A → (∀ e ∈ o.after, Region.binds .any e = true → Fact F A.eval W e.on) → if runs F A.eval o.guard then opGives P C (RN R N (F.length != s)) o A.eval W (fun v => U (if o.dst.isSome then v else undef)) else U undef W) ∧
      wpTameN P C R N l0 s ds a0 Q n rest (F ++ [(o.dst, U)])

theorem wpTameN_facts {P : Program} {N : World → Prop} {l0 : List Oper} {s : Nat} {C : World → Prop} {R : World → World → Prop} {ds : List (Option Tmp)} {a0 : Act} {Q : Act → World → Prop} {n : Nat} : ∀ (l : List Oper) (F : Facts), wpTameN P C R N l0 s ds a0 Q n l F →
    ∃ G : Facts, G.length = F.length + l.length ∧ (∀ j, j < F.length → G[j]? = F[j]?) ∧ (∀ A W, C W → Same0 ds a0 A → (∀ j, j < n → Fact G A.eval W j) → Q A W) ∧
      ∀ i o, l[i]? = some o → ∃ U, G[F.length + i]? = some (o.dst, U) ∧ (∀ v W W', C W' → R W W' → U v W → U v W') ∧
        (∀ A W, C W → (early l0 s (F.length + i) = true → N W) → Same0 ds a0 A → (∀ e ∈ o.after, Region.binds .any e = true → Fact (G.take (F.length + i)) A.eval W e.on) → if runs (G.take (F.length + i)) A.eval o.guard then opGives P C (RN R N (F.length + i != s)) o A.eval W (fun v => U (if o.dst.isSome then v else undef)) else U undef W)
  | [], F, h => ⟨F, by simp, fun _ _ => rfl, h, fun i o hi => by simp at hi⟩
  | o :: rest, F, h => by
    obtain ⟨U, hst, hstep, hrest⟩ := h
    obtain ⟨G, hlen, hpre, hfin, hops⟩ := wpTameN_facts rest (F ++ [(o.dst, U)]) hrest
    have hF : G.take F.length = F := by
      apply List.ext_getElem?
      intro j
      rw [List.getElem?_take]
      by_cases hj : j < F.length
      · rw [if_pos hj, hpre j (by simp; omega), List.getElem?_append_left hj]
      · rw [if_neg hj, List.getElem?_eq_none (by omega)]
    refine ⟨G, by rw [hlen]; simp; omega, fun j hj => by rw [hpre j (by simp; omega), List.getElem?_append_left hj], hfin, fun i o' hi => ?_⟩
    cases i with
    | zero =>
      simp at hi; subst hi
      refine ⟨U, ?_, hst, ?_⟩
      · rw [Nat.add_zero, hpre F.length (by simp)]; simp
      · rw [Nat.add_zero, hF]; exact hstep
    | succ i =>
      obtain ⟨U', h1, h2, h3⟩ := hops i o' (by simpa using hi)
      have e : (F ++ [(o.dst, U)]).length + i = F.length + (i + 1) := by simp; omega
      rw [e] at h1 h3
      exact ⟨U', h1, h2, h3⟩


section
variable {P : Program} {C : World → Prop} {R : World → World → Prop} {a0 : Act} {l : List Oper}

theorem tame_anyN {N : World → Prop} {s : Nat} {Q : Exit → Act → World → Prop} {Qn : Act → World → Prop} (hQ : ∀ A W, Qn A W → Q .normal A W) (hB : tameB l a0.tmps.size = true) (G : Facts) (hlen : G.length = l.length)
    (hfin : ∀ A W, C W → Same0 (l.map (·.dst)) a0 A → (∀ j, j < l.length → Fact G A.eval W j) → Qn A W)
    (hops : ∀ i o, l[i]? = some o → ∃ U, G[i]? = some (o.dst, U) ∧ (∀ v W W', C W' → R W W' → U v W → U v W') ∧
        (∀ A W, C W → (early l s i = true → N W) → Same0 (l.map (·.dst)) a0 A → (∀ e ∈ o.after, Region.binds .any e = true → Fact (G.take i) A.eval W e.on) → if runs (G.take i) A.eval o.guard then opGives P C (RN R N (i != s)) o A.eval W (fun v => U (if o.dst.isSome then v else undef)) else U undef W)) :
    ∀ (fuel : Nat) (listed : Array Bool) (A : Act) (W : World), listed.size = l.length → ((List.range l.length).filter fun j => !listed.getD j true).length ≤ fuel → C W → Same0 (l.map (·.dst)) a0 A →
      (∀ j, listed.getD j false = true → Fact G A.eval W j) → (∀ (j : Nat) (o : Oper), l[j]? = some o → listed.getD j false = true → ∀ e ∈ o.after, Region.binds .any e = true → listed.getD e.on false = true) → (listed.getD s false = false → N W) → wpAny P .any l.toArray Q fuel listed A W := by
  have hB' := hB
  unfold tameB at hB'
  rw [Bool.and_eq_true, List.all_eq_true, List.all_eq_true] at hB'
  obtain ⟨hb1, hb2⟩ := hB'
  have hback : ∀ (i : Nat) (o : Oper), l[i]? = some o → (∀ e ∈ o.after, Region.binds .any e = true → e.on < i) ∧ (∀ d, o.dst = some d → d < a0.tmps.size) ∧ (∀ (j : Nat) (b : Bool), o.guard = some (j, b) → j < i ∧ ∃ e ∈ o.after, e.on = j ∧ Region.binds .any e = true) := by
    intro i o hi
    have h := hb1 (o, i) (by rw [List.mem_zipIdx_iff_getElem?]; simpa using hi)
    simp only [Bool.and_eq_true] at h
    obtain ⟨⟨h1, h2⟩, h3⟩ := h
    refine ⟨fun e he hbd => ?_, fun d hd => ?_, fun j b hg => ?_⟩
    · rw [List.all_eq_true] at h1
      have := h1 e (Array.mem_toList_iff.2 he)
      simpa [hbd] using this
    · rw [hd] at h2; simpa using h2
    · rw [hg] at h3
      simp only [Bool.and_eq_true, decide_eq_true_eq] at h3
      refine ⟨h3.1, ?_⟩
      obtain ⟨_, h3⟩ := h3
      rw [List.any_eq_true] at h3
      obtain ⟨e, he, h4⟩ := h3
      exact ⟨e, Array.mem_toList_iff.1 he, by simpa using h4⟩
  have hdist : ∀ (i j : Nat) (o p : Oper) (d : Tmp), l[i]? = some o → l[j]? = some p → o.dst = some d → i ≠ j → p.dst ≠ some d := by
    intro i j o p d hi hj hd hne
    have h := hb2 (o, i) (by rw [List.mem_zipIdx_iff_getElem?]; simpa using hi)
    simp only [hd] at h
    rw [List.all_eq_true] at h
    have := h (p, j) (by rw [List.mem_zipIdx_iff_getElem?]; simpa using hj)
    simpa [hne] using this
  have hall : ∀ (listed : Array Bool) (A : Act) (W : World), listed.size = l.length → C W → Same0 (l.map (·.dst)) a0 A → (∀ j, listed.getD j false = true → Fact G A.eval W j) → Region.ready .any l.toArray listed = [] → Q .normal A W := by
    intro listed A W hs hC hS hF hr
    refine hQ _ _ (hfin A W hC hS fun j hj => hF j ?_)
    -- the least one that is not listed would be ready
    have key : ∀ k, k < l.length → listed.getD k false = true := by
      intro k
      induction k using Nat.strongRecOn with
      | _ k ih =>
        intro hk
        cases hv : listed.getD k false with
        | true => rfl
        | false =>
          exfalso
          have hmem : k ∈ Region.ready .any l.toArray listed := by
            rw [mem_ready]
            have hkl : k < listed.size := by omega
            refine ⟨by simpa [Array.getD_eq_getD_getElem?, hkl] using hv, l[k], by simp, fun e he hb => ?_⟩
            have := (hback k _ (List.getElem?_eq_getElem hk)).1 e he hb
            exact ih e.on this (by omega)
          rw [hr] at hmem
          cases hmem
    exact key j hj
  intro fuel
  induction fuel with
  | zero =>
    intro listed A W hs hcount hC hS hF hcl hNw
    have hr : Region.ready .any l.toArray listed = [] := by
      rw [List.eq_nil_iff_forall_not_mem]
      intro k hk
      rw [mem_ready] at hk
      obtain ⟨h0, o, ho, _⟩ := hk
      have hkl : k < l.length := by simpa using (Array.getElem?_eq_some_iff.1 ho).1
      have : k ∈ (List.range l.length).filter fun j => !listed.getD j true := by simp [hkl]; simpa using h0
      have := List.length_pos_of_mem this
      omega
    exact ⟨hr, hall listed A W hs hC hS hF hr⟩
  | succ fuel ih =>
    intro listed A W hs hcount hC hS hF hcl hNw
    refine ⟨hall listed A W hs hC hS hF, fun i hi => ?_⟩
    rw [mem_ready] at hi
    obtain ⟨h0, o, ho, hdeps⟩ := hi
    have hil : i < l.length := by simpa using (Array.getElem?_eq_some_iff.1 ho).1
    have hlo : l[i]? = some o := by simpa using ho
    obtain ⟨U, hU, hst, hstep⟩ := hops i o hlo
    obtain ⟨hb, hdb, hgb⟩ := hback i o hlo
    have htake : ∀ j, j < i → Fact (G.take i) A.eval W j = Fact G A.eval W j := fun j hj => by
      unfold Fact; rw [List.getElem?_take, if_pos hj]
    have hearly : early l s i = true → N W := fun he => hNw (by
      cases hv : listed.getD s false with
      | false => rfl
      | true =>
        exfalso
        unfold early at he
        rw [Bool.or_eq_true] at he
        have hif : listed.getD i false = false := by
          have hkl : i < listed.size := by omega
          simpa [Array.getD_eq_getD_getElem?, hkl] using h0
        rcases he with he | he
        · rw [show i = s by simpa using he, hv] at hif
          cases hif
        · cases hos : l[s]? with
          | none => rw [hos] at he; simp at he
          | some os =>
            rw [hos] at he
            simp only [List.any_eq_true, Bool.and_eq_true, beq_iff_eq] at he
            obtain ⟨e, hm, h1, h2⟩ := he
            have := hcl s os hos hv e (Array.mem_toList_iff.1 hm) h2
            rw [h1, hif] at this
            cases this)
    have hstep' := hstep A W hC hearly hS (fun e he hbd => by rw [htake e.on (hb e he hbd)]; exact hF e.on (hdeps e he hbd))
    have hrun : Region.wanted o (yielded l.toArray A.tmps) = runs (G.take i) A.eval o.guard := by
      unfold Region.wanted runs
      cases hg : o.guard with
      | none => rfl
      | some jb =>
        obtain ⟨j, b⟩ := jb
        obtain ⟨hj, _⟩ := hgb j b hg
        have hjl : j < l.length := by omega
        obtain ⟨Uj, hUj, _⟩ := hops j l[j] (List.getElem?_eq_getElem hjl)
        simp only [List.getElem?_take, if_pos hj, hUj]
        cases hd : (l[j]).dst with
        | none =>
          simp only [yielded]
          simp [List.getElem?_eq_getElem hjl, hd]
        | some d => exact yielded_isB (by simp) hd b
    -- what stands behind the operation
    have hnext : ∀ (v : Value) (W' : World), C W' → (∀ j d V, G[j]? = some (d, V) → listed.getD j false = true → ∀ u, V u W → V u W') → (i ≠ s → N W → N W') → U (if o.dst.isSome then v else undef) W' →
        wpAny P .any l.toArray Q fuel (listed.setIfInBounds i true) (A.put o.dst v) W' := by
      intro v W' hC' hkeep hNk hUv
      refine ih _ _ _ (by simpa using hs) ?_ hC' (same0_put hS (by rw [List.mem_map]; exact ⟨o, List.mem_of_getElem? hlo, rfl⟩) v) ?_ ?_ ?_
      · have hsub : ((List.range l.length).filter fun j => !(listed.setIfInBounds i true).getD j true).length < ((List.range l.length).filter fun j => !listed.getD j true).length := by
          have h1 : (List.range l.length).filter (fun j => !(listed.setIfInBounds i true).getD j true) = ((List.range l.length).filter fun j => !listed.getD j true).filter (fun j => j != i) := by
            rw [List.filter_filter]
            refine List.filter_congr fun j hj => ?_
            by_cases hji : j = i
            · subst hji
              simp [Array.getD_eq_getD_getElem?, show j < listed.size by omega]
            · rw [getD_set_ne true (Ne.symm hji)]; simp [hji]
          rw [h1]
          have hmem : i ∈ (List.range l.length).filter fun j => !listed.getD j true := by simp [hil]; simpa using h0
          refine Nat.lt_of_le_of_ne (List.length_filter_le _ _) fun he => ?_
          have := (List.length_filter_eq_length_iff.1 he) i hmem
          simp at this
        omega
      · intro j hj
        by_cases hji : j = i
        · subst hji
          unfold Fact
          rw [hU]
          cases hd : o.dst with
          | none => simpa [hd, atD] using hUv
          | some d =>
            have hsz : d < A.tmps.size := by rw [hS.2.1]; exact hdb d hd
            simp only [atD, eval_put_self hsz]
            simpa [hd] using hUv
        · rw [getD_set_ne false (Ne.symm hji)] at hj
          have hFj := hF j hj
          unfold Fact at hFj ⊢
          cases hGj : G[j]? with
          | none => trivial
          | some dV =>
            obtain ⟨d, V⟩ := dV
            rw [hGj] at hFj
            have hval : atD (A.put o.dst v).eval d = atD A.eval d := by
              cases d with
              | none => rfl
              | some d =>
                cases hdo : o.dst with
                | none => rfl
                | some d' =>
                  simp only [atD]
                  refine eval_put_ne fun he => ?_
                  have hjl : j < l.length := by rw [← hlen]; exact (List.getElem?_eq_some_iff.1 hGj).1
                  obtain ⟨Uj, hUj, _⟩ := hops j l[j] (List.getElem?_eq_getElem hjl)
                  rw [hGj] at hUj
                  injection hUj with hUj
                  have hdj : (l[j]).dst = some d := (Prod.mk.inj hUj).1.symm
                  exact hdist i j o _ d' hlo (List.getElem?_eq_getElem hjl) hdo (Ne.symm hji) (by rw [hdj, he])
            show V (atD (A.put o.dst v).eval d) W'
            rw [hval]
            exact hkeep j d V hGj hj _ hFj
      · intro j oj hoj hj e he hbd
        by_cases hji : j = i
        · subst hji
          rw [hlo] at hoj
          injection hoj with hoj
          subst hoj
          exact getD_set_true (hdeps e he hbd)
        · rw [getD_set_ne false (Ne.symm hji)] at hj
          exact getD_set_true (hcl j oj hoj hj e he hbd)
      · intro hsf
        have hsi : i ≠ s := by
          intro he
          subst he
          have hkl : i < listed.size := by omega
          simp [Array.getD_eq_getD_getElem?, hkl] at hsf
        rw [getD_set_ne false hsi] at hsf
        exact hNk hsi (hNw hsf)
    have hstab : ∀ W', C W' → R W W' → ∀ j d V, G[j]? = some (d, V) → listed.getD j false = true → ∀ u, V u W → V u W' := by
      intro W' hC' hR j d V hGj hj u hu
      have hjl : j < l.length := by rw [← hlen]; exact (List.getElem?_eq_some_iff.1 hGj).1
      obtain ⟨Uj, hUj, hstj, _⟩ := hops j l[j] (List.getElem?_eq_getElem hjl)
      rw [hGj] at hUj
      injection hUj with hUj
      have hV : V = Uj := (Prod.mk.inj hUj).2
      subst hV
      exact hstj u W W' hC' hR hu
    unfold wpOp
    simp only [ho]
    rw [hrun]
    cases hw : runs (G.take i) A.eval o.guard with
    | false =>
      rw [hw] at hstep'
      simp only [Bool.false_eq_true, if_false] at hstep' ⊢
      exact hnext undef W hC (fun _ _ _ _ _ _ h => h) (fun _ h => h) (by cases hds : o.dst.isSome <;> simpa using hstep')
    | true =>
      rw [hw] at hstep'
      simp only [if_true] at hstep' ⊢
      left
      unfold Oper.wp
      unfold opGives opPost at hstep'
      generalize (execOp A.eval o).run P W = r at hstep'
      cases r with
      | halt x w' => exact hstep'.elim
      | ok nx w' =>
        cases nx with
        | value v => obtain ⟨⟨h1, h2, h4⟩, h3⟩ := hstep'; exact hnext v w' h1 (hstab w' h1 h2) (fun hne => h4 (by simpa using hne)) h3
        | skip => obtain ⟨⟨h1, h2, h4⟩, h3⟩ := hstep'; exact hnext undef w' h1 (hstab w' h1 h2) (fun hne => h4 (by simpa using hne)) (by cases hds : o.dst.isSome <;> simpa [hds] using h3)
        | enter f args =>
          refine Calls.mono (R' := _) hstep' ?_
          rintro e w'' ⟨v, rfl, ⟨h1, h2, h4⟩, h3⟩
          exact hnext v w'' h1 (hstab w'' h1 h2) (fun hne => h4 (by simpa using hne)) h3
        | _ => exact hstep'.elim


theorem wp_region_tameN_cut {id : Nat} {Q : Exit → Act → World → Prop} {w : World} (C : World → Prop) (R : World → World → Prop) (N : World → Prop) (s : Nat) (hm : P.follows .mixedOrders = true) (n : Nat) (hn : a0.tmps.size = n) (oL : Oper) (ho : l.getLast? = some oL)
    (hB : tameB l n = true) (hB' : tameB l.dropLast n = true) (hL : lastB l = true) (hgL : oL.guard = none) (hC : C w.drew) (hN : N w.drew)
    (h : wpTameN P C R N l.dropLast s (l.dropLast.map (·.dst)) a0 (fun A W => wpList P l.toArray Q [oL] A W) l.dropLast.length l.dropLast []) : (Code.region id l.toArray true).wp P Q a0 w := by
  subst hn
  have e : l.dropLast ++ [oL] = l := by
    obtain ⟨ys, rfl⟩ := List.getLast?_eq_some_iff.1 ho
    rw [List.dropLast_concat]
  obtain ⟨G, hlen, _, hfin, hops⟩ := wpTameN_facts l.dropLast [] h
  have hw : ∀ A : Act, Region.wanted oL (yielded l.toArray A.tmps) = true := fun A => by simp [Region.wanted, hgL]
  have hno : ∀ (m j : Nat), (Array.replicate m false).getD j false = false := fun m j => by
    rw [Array.getD_eq_getD_getElem?, Array.getElem?_replicate]; split <;> rfl
  have h1 := tame_anyN (N := N) (s := s) (Q := lastQ P oL Q) (Qn := fun A W => lastQ P oL Q .normal A W) (fun _ _ h => h) hB' G (by simpa using hlen) (fun A W c s f => by
      have := hfin A W c s (by simpa using f)
      simp only [wpList, hw, if_true] at this
      exact this) (by simpa using hops) l.dropLast.length (Array.replicate l.dropLast.length false) a0 w.drew (by simp)
    (Nat.le_trans (List.length_filter_le _ _) (by simp)) hC ⟨rfl, rfl, fun _ _ => rfl⟩ (by intro j hj; rw [hno] at hj; cases hj) (by intro j o _ hj; rw [hno] at hj; cases hj) (fun _ => hN)
  refine wp_region_any hm ?_
  have h2 := tame_lastL (P := P) (Q := Q) (l := l.dropLast) (oL := oL) (tame_back (by rw [e]; exact hB)) (by rw [e]; exact hL) hgL _ _ _ _ (by simp) (by intro j o _ hj; rw [hno] at hj; cases hj) h1
  rw [← Array.replicate_succ, e] at h2
  have e1 : l.toArray.size = l.dropLast.length + 1 := by
    have := congrArg List.length e
    simp only [List.length_append, List.length_singleton] at this
    simp only [List.size_toArray]
    omega
  rw [e1]
  exact h2

variable {N : World → Prop} {l0 : List Oper} {s : Nat} {ds : List (Option Tmp)} {Q : Act → World → Prop} {n : Nat} {o : Oper} {rest : List Oper} {F : Facts}
theorem tameN_n (U : Value → World → Prop) (hst : ∀ v W W', C W' → R W W' → U v W → U v W')
    (hstep : ∀ ρ W, C W → (early l0 s F.length = true → N W) → Rd a0 ds ρ → (∀ e ∈ o.after, Region.binds .any e = true → Fact F ρ W e.on) → if runs F ρ o.guard then opGives P C (RN R N (F.length != s)) o ρ W (fun v => U (if o.dst.isSome then v else undef)) else U undef W)
    (h : wpTameN P C R N l0 s ds a0 Q n rest (F ++ [(o.dst, U)])) : wpTameN P C R N l0 s ds a0 Q n (o :: rest) F :=
  ⟨U, hst, fun A W hC hN hS hD => hstep A.eval W hC hN (Rd.of hS) hD, h⟩
theorem tameN_v {d : Tmp} (hd : o.dst = some d) (U : Value → World → Prop) (hst : ∀ v W W', C W' → R W W' → U v W → U v W')
    (hstep : ∀ ρ W, C W → (early l0 s F.length = true → N W) → Rd a0 ds ρ → (∀ e ∈ o.after, Region.binds .any e = true → Fact F ρ W e.on) → if runs F ρ o.guard then opGives P C (RN R N (F.length != s)) o ρ W U else U undef W)
    (h : wpTameN P C R N l0 s ds a0 Q n rest (F ++ [(some d, U)])) : wpTameN P C R N l0 s ds a0 Q n (o :: rest) F := by
  refine tameN_n U hst ?_ (hd ▸ h)
  intro ρ W hC hN hr hD
  have := hstep ρ W hC hN hr hD
  rw [hd]
  exact this
theorem tameN_q {d : Tmp} (hd : o.dst = some d) (v0 : Value)
    (hstep : ∀ ρ W, C W → (early l0 s F.length = true → N W) → Rd a0 ds ρ → (∀ e ∈ o.after, Region.binds .any e = true → Fact F ρ W e.on) → if runs F ρ o.guard then opGives P C (RN R N (F.length != s)) o ρ W (fun v _ => Is v0 v) else Is v0 undef)
    (h : wpTameN P C R N l0 s ds a0 Q n rest (F ++ [(some d, fun v _ => v = v0)])) : wpTameN P C R N l0 s ds a0 Q n (o :: rest) F := by
  refine tameN_v hd (fun v _ => Is v0 v) (fun _ _ _ _ _ h => h) ?_ h
  intro ρ W hC hN hr hD
  exact hstep ρ W hC hN hr hD
theorem tameN_end (m : Nat) (hm : a0.tmps.size = m) (hn : n = F.length) (h : ∀ ρ W, C W → Rd a0 ds ρ → allF F ρ W → Q { tmps := (evs ρ 0 m).toArray, defers := a0.defers } W) : wpTameN P C R N l0 s ds a0 Q n [] F :=
  tame_end (P := P) (R := R) m hm hn h
end
end Go.Proofs.YtkpengeaolcjhaaGreatDoor
