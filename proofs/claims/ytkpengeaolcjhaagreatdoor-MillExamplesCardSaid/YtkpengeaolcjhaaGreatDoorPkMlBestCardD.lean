/- The laws of Tame, inside a fence, for a region that ends in operations that each stand behind all before them: these are walked by themselves, in the order of the text, guarded or not. Printed by gentamein.py. -/
import Derived.Test.YtkpengeaolcjhaaGreatDoorPkMlBestCardB
import Derived.OrdersIn
import Derived.OwnWalkIn
import Derived.RangeFuncCalls
import Derived.RangeFuncSeq
namespace Go.Proofs.YtkpengeaolcjhaaGreatDoor
open Go.RowKit Go.Shelf

/-- A fence that lets every call. -/
structure Open (F : Fence) (m : Nat) : Prop where
  fn : ∀ f, F.fn f
  depth : F.depth.isSome = true → 1 ≤ m
  calls : ∀ {P : Program} {f : FuncId} {args : Array Value} {w : World} {R : Ending → World → Prop}, Calls P f args w R → CallsIn F (m - 1) P f args w R
theorem Open.wide (m : Nat) : Open Fence.wide m := ⟨fun _ => trivial, fun h => (by cases h), fun h => callsIn_wide.2 h⟩
theorem Open.round (m l : Nat) : Open (Fence.wide.inRound l) m := ⟨fun _ => trivial, fun h => (by cases h), fun h => CallsIn.inRound l (callsIn_wide.2 h)⟩
def noDefer (l : List Oper) : Bool := l.all fun o => match o.op with | .defer _ => false | _ => true
theorem noDefer_of {l : List Oper} (h : noDefer l = true) {i : Nat} {o : Oper} (hi : l[i]? = some o) : ∀ c, o.op ≠ .defer c := by
  intro c hc
  unfold noDefer at h
  have := List.all_eq_true.1 h o (List.mem_of_getElem? hi)
  rw [hc] at this
  cases this
def tailQ (F : Fence) (m : Nat) (P : Program) (ops : Array Oper) (Q : Exit → Act → World → Prop) (r : List Oper) : Exit → Act → World → Prop := fun x A W =>
  match x with
  | .normal => wpListIn F m P ops Q r A W
  | x => Q x A W
theorem tailQ_nil (F : Fence) (m : Nat) (P : Program) (ops : Array Oper) (Q : Exit → Act → World → Prop) : tailQ F m P ops Q [] = Q := by
  funext x A W
  cases x <;> rfl

section
variable {F : Fence} {m : Nat} {P : Program} {C : World → Prop} {R : World → World → Prop} {a0 : Act} {l : List Oper}

theorem tame_anyIn (hOp : Open F m) (hnd : noDefer l = true) {Q : Exit → Act → World → Prop} {Qn : Act → World → Prop} (hQ : ∀ A W, Qn A W → Q .normal A W) (hB : tameB l a0.tmps.size = true) (G : Facts) (hlen : G.length = l.length)
    (hfin : ∀ A W, C W → Same0 (l.map (·.dst)) a0 A → (∀ j, j < l.length → Fact G A.eval W j) → Qn A W)
    (hops : ∀ i o, l[i]? = some o → ∃ U, G[i]? = some (o.dst, U) ∧ (∀ v W W', C W' → R W W' → U v W → U v W') ∧
        (∀ A W, C W → Same0 (l.map (·.dst)) a0 A → (∀ e ∈ o.after, Region.binds .any e = true → Fact (G.take i) A.eval W e.on) → if runs (G.take i) A.eval o.guard then opGives P C R o A.eval W (fun v => U (if o.dst.isSome then v else undef)) else U undef W)) :
    ∀ (fuel : Nat) (listed : Array Bool) (A : Act) (W : World), listed.size = l.length → ((List.range l.length).filter fun j => !listed.getD j true).length ≤ fuel → C W → Same0 (l.map (·.dst)) a0 A →
      (∀ j, listed.getD j false = true → Fact G A.eval W j) → wpAnyIn F m P .any l.toArray Q fuel listed A W := by
  have hB' := hB
  unfold tameB at hB'
  rw [Bool.and_eq_true, List.all_eq_true, List.all_eq_true] at hB'
  obtain ⟨hb1, hb2⟩ := hB'
  have hback : ∀ (i : Nat) (o : Oper), l[i]? = some o → (∀ e ∈ o.after, Region.binds .any e = true → e.on < i) ∧ (∀ d, o.dst = some d → d < a0.tmps.size) ∧ (∀ (j : Nat) (b : Bool), o.guard = some (j, b) → j < i ∧ ∃ e ∈ o.after, e.on = j ∧ Region.binds .any e = true) := by
    intro i o hi
    have h := hb1 (o, i) (by rw [List.mem_zipIdx_iff_getElem?]; simpa using hi)
    simp only [Bool.and_eq_true] at h
    obtain ⟨⟨h1, h2⟩, h3⟩ := h
    refine ⟨fun e he hbd => ?_, fun d hd => ?_, fun j b hg => ?_⟩
    · rw [List.all_eq_true] at h1
      have := h1 e (Array.mem_toList_iff.2 he)
      simpa [hbd] using this
    · rw [hd] at h2; simpa using h2
    · rw [hg] at h3
      simp only [Bool.and_eq_true, decide_eq_true_eq] at h3
      refine ⟨h3.1, ?_⟩
      obtain ⟨_, h3⟩ := h3
      rw [List.any_eq_true] at h3
      obtain ⟨e, he, h4⟩ := h3
      exact ⟨e, Array.mem_toList_iff.1 he, by simpa using h4⟩
  have hdist : ∀ (i j : Nat) (o p : Oper) (d : Tmp), l[i]? = some o → l[j]? = some p → o.dst = some d → i ≠ j → p.dst ≠ some d := by
    intro i j o p d hi hj hd hne
    have h := hb2 (o, i) (by rw [List.mem_zipIdx_iff_getElem?]; simpa using hi)
    simp only [hd] at h
    rw [List.all_eq_true] at h
    have := h (p, j) (by rw [List.mem_zipIdx_iff_getElem?]; simpa using hj)
    simpa [hne] using this
  have hall : ∀ (listed : Array Bool) (A : Act) (W : World), listed.size = l.length → C W → Same0 (l.map (·.dst)) a0 A → (∀ j, listed.getD j false = true → Fact G A.eval W j) → Region.ready .any l.toArray listed = [] → Q .normal A W := by
    intro listed A W hs hC hS hF hr
    refine hQ _ _ (hfin A W hC hS fun j hj => hF j ?_)
    -- the least one that is not listed would be ready
    have key : ∀ k, k < l.length → listed.getD k false = true := by
      intro k
      induction k using Nat.strongRecOn with
      | _ k ih =>
        intro hk
        cases hv : listed.getD k false with
        | true => rfl
        | false =>
          exfalso
          have hmem : k ∈ Region.ready .any l.toArray listed := by
            rw [mem_ready]
            have hkl : k < listed.size := by omega
            refine ⟨by simpa [Array.getD_eq_getD_getElem?, hkl] using hv, l[k], by simp, fun e he hb => ?_⟩
            have := (hback k _ (List.getElem?_eq_getElem hk)).1 e he hb
            exact ih e.on this (by omega)
          rw [hr] at hmem
          cases hmem
    exact key j hj
  intro fuel
  induction fuel with
  | zero =>
    intro listed A W hs hcount hC hS hF
    have hr : Region.ready .any l.toArray listed = [] := by
      rw [List.eq_nil_iff_forall_not_mem]
      intro k hk
      rw [mem_ready] at hk
      obtain ⟨h0, o, ho, _⟩ := hk
      have hkl : k < l.length := by simpa using (Array.getElem?_eq_some_iff.1 ho).1
      have : k ∈ (List.range l.length).filter fun j => !listed.getD j true := by simp [hkl]; simpa using h0
      have := List.length_pos_of_mem this
      omega
    exact ⟨hr, hall listed A W hs hC hS hF hr⟩
  | succ fuel ih =>
    intro listed A W hs hcount hC hS hF
    refine ⟨hall listed A W hs hC hS hF, fun i hi => ?_⟩
    rw [mem_ready] at hi
    obtain ⟨h0, o, ho, hdeps⟩ := hi
    have hil : i < l.length := by simpa using (Array.getElem?_eq_some_iff.1 ho).1
    have hlo : l[i]? = some o := by simpa using ho
    obtain ⟨U, hU, hst, hstep⟩ := hops i o hlo
    obtain ⟨hb, hdb, hgb⟩ := hback i o hlo
    have htake : ∀ j, j < i → Fact (G.take i) A.eval W j = Fact G A.eval W j := fun j hj => by
      unfold Fact; rw [List.getElem?_take, if_pos hj]
    have hstep' := hstep A W hC hS (fun e he hbd => by rw [htake e.on (hb e he hbd)]; exact hF e.on (hdeps e he hbd))
    have hrun : Region.wanted o (yielded l.toArray A.tmps) = runs (G.take i) A.eval o.guard := by
      unfold Region.wanted runs
      cases hg : o.guard with
      | none => rfl
      | some jb =>
        obtain ⟨j, b⟩ := jb
        obtain ⟨hj, _⟩ := hgb j b hg
        have hjl : j < l.length := by omega
        obtain ⟨Uj, hUj, _⟩ := hops j l[j] (List.getElem?_eq_getElem hjl)
        simp only [List.getElem?_take, if_pos hj, hUj]
        cases hd : (l[j]).dst with
        | none =>
          simp only [yielded]
          simp [List.getElem?_eq_getElem hjl, hd]
        | some d => exact yielded_isB (by simp) hd b
    -- what stands behind the operation
    have hnext : ∀ (v : Value) (W' : World), C W' → (∀ j d V, G[j]? = some (d, V) → listed.getD j false = true → ∀ u, V u W → V u W') → U (if o.dst.isSome then v else undef) W' →
        wpAnyIn F m P .any l.toArray Q fuel (listed.setIfInBounds i true) (A.put o.dst v) W' := by
      intro v W' hC' hkeep hUv
      refine ih _ _ _ (by simpa using hs) ?_ hC' (same0_put hS (by rw [List.mem_map]; exact ⟨o, List.mem_of_getElem? hlo, rfl⟩) v) ?_
      · have hsub : ((List.range l.length).filter fun j => !(listed.setIfInBounds i true).getD j true).length < ((List.range l.length).filter fun j => !listed.getD j true).length := by
          have h1 : (List.range l.length).filter (fun j => !(listed.setIfInBounds i true).getD j true) = ((List.range l.length).filter fun j => !listed.getD j true).filter (fun j => j != i) := by
            rw [List.filter_filter]
            refine List.filter_congr fun j hj => ?_
            by_cases hji : j = i
            · subst hji
              simp [Array.getD_eq_getD_getElem?, show j < listed.size by omega]
            · rw [getD_set_ne true (Ne.symm hji)]; simp [hji]
          rw [h1]
          have hmem : i ∈ (List.range l.length).filter fun j => !listed.getD j true := by simp [hil]; simpa using h0
          refine Nat.lt_of_le_of_ne (List.length_filter_le _ _) fun he => ?_
          have := (List.length_filter_eq_length_iff.1 he) i hmem
          simp at this
        omega
      · intro j hj
        by_cases hji : j = i
        · subst hji
          unfold Fact
          rw [hU]
          cases hd : o.dst with
          | none => simpa [hd, atD] using hUv
          | some d =>
            have hsz : d < A.tmps.size := by rw [hS.2.1]; exact hdb d hd
            simp only [atD, eval_put_self hsz]
            simpa [hd] using hUv
        · rw [getD_set_ne false (Ne.symm hji)] at hj
          have hFj := hF j hj
          unfold Fact at hFj ⊢
          cases hGj : G[j]? with
          | none => trivial
          | some dV =>
            obtain ⟨d, V⟩ := dV
            rw [hGj] at hFj
            have hval : atD (A.put o.dst v).eval d = atD A.eval d := by
              cases d with
              | none => rfl
              | some d =>
                cases hdo : o.dst with
                | none => rfl
                | some d' =>
                  simp only [atD]
                  refine eval_put_ne fun he => ?_
                  have hjl : j < l.length := by rw [← hlen]; exact (List.getElem?_eq_some_iff.1 hGj).1
                  obtain ⟨Uj, hUj, _⟩ := hops j l[j] (List.getElem?_eq_getElem hjl)
                  rw [hGj] at hUj
                  injection hUj with hUj
                  have hdj : (l[j]).dst = some d := (Prod.mk.inj hUj).1.symm
                  exact hdist i j o _ d' hlo (List.getElem?_eq_getElem hjl) hdo (Ne.symm hji) (by rw [hdj, he])
            show V (atD (A.put o.dst v).eval d) W'
            rw [hval]
            exact hkeep j d V hGj hj _ hFj
    have hstab : ∀ W', C W' → R W W' → ∀ j d V, G[j]? = some (d, V) → listed.getD j false = true → ∀ u, V u W → V u W' := by
      intro W' hC' hR j d V hGj hj u hu
      have hjl : j < l.length := by rw [← hlen]; exact (List.getElem?_eq_some_iff.1 hGj).1
      obtain ⟨Uj, hUj, hstj, _⟩ := hops j l[j] (List.getElem?_eq_getElem hjl)
      rw [hGj] at hUj
      injection hUj with hUj
      have hV : V = Uj := (Prod.mk.inj hUj).2
      subst hV
      exact hstj u W W' hC' hR hu
    have hpl : ∀ c, o.op ≠ .defer c := noDefer_of hnd hlo
    unfold wpOpIn
    simp only [ho]
    rw [hrun]
    cases hw : runs (G.take i) A.eval o.guard with
    | false =>
      rw [hw] at hstep'
      simp only [Bool.false_eq_true, if_false] at hstep' ⊢
      exact ⟨fun _ _ => hOp.fn _, hnext undef W hC (fun _ _ _ _ _ _ h => h) (by cases hds : o.dst.isSome <;> simpa using hstep')⟩
    | true =>
      rw [hw] at hstep'
      simp only [if_true] at hstep' ⊢
      refine ⟨fun _ _ => hOp.fn _, ?_⟩
      rw [Oper.semAt_plain F _ _ hpl]
      unfold opGives opPost at hstep'
      generalize (execOp A.eval o).run P W = r at hstep'
      cases r with
      | halt x w' => exact hstep'.elim
      | ok nx w' =>
        cases nx with
        | value v => obtain ⟨⟨h1, h2⟩, h3⟩ := hstep'; exact hnext v w' h1 (hstab w' h1 h2) h3
        | skip => obtain ⟨⟨h1, h2⟩, h3⟩ := hstep'; exact hnext undef w' h1 (hstab w' h1 h2) (by cases hds : o.dst.isSome <;> simpa [hds] using h3)
        | enter f args =>
          refine ⟨hOp.depth, hOp.calls (Calls.mono (R' := _) hstep' ?_)⟩
          rintro e w'' ⟨v, rfl, ⟨h1, h2⟩, h3⟩
          exact hnext v w'' h1 (hstab w'' h1 h2) h3
        | _ => exact hstep'.elim

end
section
variable {F : Fence} {m : Nat} {P : Program} {l : List Oper} {oL : Oper} {Q : Exit → Act → World → Prop} {ops : Array Oper} {r : List Oper}
theorem wpIn_tail {o : Oper} {a : Act} {w : World} {K : Act → World → Prop} (r : List Oper) {r' : List Oper} (hh : o.wpIn F m P a w K (tailQ F m P ops Q r')) : o.wpIn F m P a w K (tailQ F m P ops Q r) := by
  unfold Oper.wpIn at *
  refine ⟨hh.1, ?_⟩
  have hh := hh.2
  generalize (o.semAt F.round a.eval).run P w = r at *
  cases r with
  | ok n w' =>
    cases n <;> simp only [Oper.uponIn] at hh ⊢ <;>
      first
        | exact hh
        | exact ⟨hh.1, CallsIn.mono hh.2 (fun e w'' he => by cases e <;> exact he)⟩
        | exact ⟨hh.1, RoundIn.mono hh.2 (fun e w'' he => by cases e <;> exact he)⟩
  | halt x w' => cases x <;> simp only [Oper.uponIn] at hh ⊢ <;> exact hh
theorem wpIn_tail0 {o : Oper} {a : Act} {w : World} {K : Act → World → Prop} (r : List Oper) (hh : o.wpIn F m P a w K Q) : o.wpIn F m P a w K (tailQ F m P ops Q r) := by
  rw [← tailQ_nil F m P ops Q] at hh
  exact wpIn_tail r hh

theorem tame_lastIn (hops : ∀ j, j ≤ l.length → ops[j]? = (l ++ [oL])[j]?) (hback : ∀ (i : Nat) (o : Oper), (l ++ [oL])[i]? = some o → (∀ e ∈ o.after, Region.binds .any e = true → e.on < i) ∧ ∀ (j : Nat) (b : Bool), o.guard = some (j, b) → j < i) (hL : lastB (l ++ [oL]) = true) :
    ∀ (fuel : Nat) (listed : Array Bool) (A : Act) (W : World), listed.size = l.length →
      (∀ j o, l[j]? = some o → listed.getD j false = true → ∀ e ∈ o.after, Region.binds .any e = true → listed.getD e.on false = true) →
      wpAnyIn F m P .any l.toArray (tailQ F m P ops Q (oL :: r)) fuel listed A W → wpAnyIn F m P .any (l ++ [oL]).toArray (tailQ F m P ops Q r) (fuel + 1) (listed.push false) A W := by
  have hchain : ∀ j, j < l.length → ∃ k o, (l ++ [oL])[k]? = some o ∧ j < k ∧ ∃ e ∈ o.after, e.on = j ∧ Region.binds .any e = true := by
    intro j hj
    unfold lastB at hL
    rw [List.all_eq_true] at hL
    have h := hL j (by simp; exact hj)
    rw [List.any_eq_true] at h
    obtain ⟨⟨o, k⟩, hm, h⟩ := h
    rw [List.mem_zipIdx_iff_getElem?] at hm
    simp only [Bool.and_eq_true, decide_eq_true_eq, List.any_eq_true, beq_iff_eq] at h
    obtain ⟨h1, e, he, h2, h3⟩ := h
    exact ⟨k, o, by simpa using hm, h1, e, Array.mem_toList_iff.1 he, h2, h3⟩
  -- all but the last are listed once the last is ready
  have hall : ∀ (listed : Array Bool), listed.size = l.length → (∀ j o, l[j]? = some o → listed.getD j false = true → ∀ e ∈ o.after, Region.binds .any e = true → listed.getD e.on false = true) →
      (∀ e ∈ oL.after, Region.binds .any e = true → (listed.push false).getD e.on false = true) → ∀ j, j < l.length → listed.getD j false = true := by
    intro listed hs hcl hd
    suffices ∀ d j, j < l.length → l.length - j ≤ d → listed.getD j false = true from fun j hj => this _ j hj (Nat.le_refl _)
    intro d
    induction d with
    | zero => intro j hj h; omega
    | succ d ih =>
      intro j hj h
      obtain ⟨k, o, hk, hjk, e, he, h2, h3⟩ := hchain j hj
      by_cases hkl : k < l.length
      · rw [List.getElem?_append_left hkl] at hk
        have := hcl k o hk (ih k hkl (by omega)) e he h3
        rw [h2] at this; exact this
      · have hk' : k = l.length := by have := (List.getElem?_eq_some_iff.1 hk).1; simp at this; omega
        subst hk'
        simp at hk
        subst hk
        have := hd e he h3
        rw [h2, push_old (by omega)] at this
        exact this
  have hnone : ∀ listed : Array Bool, listed.size = l.length → (∀ j, j < l.length → listed.getD j false = true) → Region.ready .any l.toArray listed = [] := by
    intro listed hs h
    rw [List.eq_nil_iff_forall_not_mem]
    intro k hk
    rw [mem_ready] at hk
    obtain ⟨h0, o, ho, _⟩ := hk
    have hkl : k < l.length := by simpa using (Array.getElem?_eq_some_iff.1 ho).1
    have h1 := h k hkl
    have hks : k < listed.size := by omega
    simp [Array.getD_eq_getD_getElem?, hks] at h0 h1
    rw [h0] at h1; cases h1
  have hnoneL : ∀ listed : Array Bool, listed.size = l.length → (∀ j, j < l.length → listed.getD j false = true) → Region.ready .any (l ++ [oL]).toArray ((listed.push false).setIfInBounds l.length true) = [] := by
    intro listed hs h
    rw [List.eq_nil_iff_forall_not_mem]
    intro k hk
    rw [mem_ready] at hk
    obtain ⟨h0, o, ho, _⟩ := hk
    have hkl : k < l.length + 1 := by simpa using (Array.getElem?_eq_some_iff.1 ho).1
    by_cases hk2 : k = l.length
    · subst hk2
      simp [Array.getD_eq_getD_getElem?, hs] at h0
    · rw [getD_set_ne true (Ne.symm hk2), push_old (by omega)] at h0
      have h1 := h k (by omega)
      have hks : k < listed.size := by omega
      simp [Array.getD_eq_getD_getElem?, hks] at h0 h1
      rw [h0] at h1; cases h1
  -- something is ready as long as the last is not listed
  have hsome : ∀ listed : Array Bool, listed.size = l.length → Region.ready .any (l ++ [oL]).toArray (listed.push false) ≠ [] := by
    intro listed hs hr
    have key : ∀ k, k < l.length → listed.getD k false = true := by
      intro k
      induction k using Nat.strongRecOn with
      | _ k ih =>
        intro hk
        cases hv : listed.getD k false with
        | true => rfl
        | false =>
          exfalso
          have hmem : k ∈ Region.ready .any (l ++ [oL]).toArray (listed.push false) := by
            rw [mem_ready]
            have hkl : k < listed.size := by omega
            have hget : (l ++ [oL])[k]? = some l[k] := by rw [List.getElem?_append_left hk]; simp
            refine ⟨by rw [push_old hkl]; simpa [Array.getD_eq_getD_getElem?, hkl] using hv, l[k], by simpa using hget, fun e he hb => ?_⟩
            have := (hback k _ hget).1 e he hb
            rw [push_old (by omega)]
            exact ih e.on this (by omega)
          rw [hr] at hmem
          cases hmem
    have hmem : l.length ∈ Region.ready .any (l ++ [oL]).toArray (listed.push false) := by
      rw [mem_ready]
      refine ⟨by simp [Array.getD_eq_getD_getElem?, ← hs], oL, by simp, fun e he hb => ?_⟩
      have := (hback l.length oL (by simp)).1 e he hb
      rw [push_old (by omega)]
      exact key e.on this
    rw [hr] at hmem
    cases hmem
  -- the step of the last
  have hlast : ∀ (fuel : Nat) (listed : Array Bool) (A : Act) (W : World), listed.size = l.length → (∀ j o, l[j]? = some o → listed.getD j false = true → ∀ e ∈ o.after, Region.binds .any e = true → listed.getD e.on false = true) →
      (Region.ready .any l.toArray listed = [] → wpListIn F m P ops Q (oL :: r) A W) → l.length ∈ Region.ready .any (l ++ [oL]).toArray (listed.push false) →
      wpOpIn F m P (l ++ [oL]).toArray (tailQ F m P ops Q r) l.length (wpAnyIn F m P .any (l ++ [oL]).toArray (tailQ F m P ops Q r) fuel ((listed.push false).setIfInBounds l.length true)) A W := by
    intro fuel listed A W hs hcl hq hm
    rw [mem_ready] at hm
    obtain ⟨_, o, ho, hd⟩ := hm
    have hoL : o = oL := by simpa using ho.symm
    subst hoL
    have ha := hall listed hs hcl hd
    have h := hq (hnone listed hs ha)
    unfold wpOpIn
    simp only [ho]
    have hw : Region.wanted o (yielded (l ++ [o]).toArray A.tmps) = Region.wanted o (yielded ops A.tmps) := by
      unfold Region.wanted
      cases hg : o.guard with
      | none => rfl
      | some jb =>
        obtain ⟨j, b⟩ := jb
        have hj := (hback l.length o (by simp)).2 j b hg
        have : yielded (l ++ [o]).toArray A.tmps j = yielded ops A.tmps j := by
          unfold yielded
          rw [hops j (by omega)]
          simp
        simp only [this]
    rw [hw]
    unfold wpListIn at h
    have hr := hnoneL listed hs ha
    have hdone : ∀ A' W', wpListIn F m P ops Q r A' W' → wpAnyIn F m P .any (l ++ [o]).toArray (tailQ F m P ops Q r) fuel ((listed.push false).setIfInBounds l.length true) A' W' := by
      intro A' W' h'
      cases fuel with
      | zero => exact ⟨hr, h'⟩
      | succ f => exact ⟨fun _ => h', fun i hi => by rw [hr] at hi; cases hi⟩
    cases hq : Region.wanted o (yielded ops A.tmps) with
    | true =>
      rw [hq] at h
      simp only [if_true] at h ⊢
      exact wpIn_tail0 r (Oper.wpIn_mono hdone h)
    | false =>
      rw [hq] at h
      simp only [Bool.false_eq_true, if_false] at h ⊢
      exact ⟨h.1, hdone _ _ h.2⟩
  have hidx : ∀ (listed : Array Bool) (i : Nat), i ∈ Region.ready .any (l ++ [oL]).toArray (listed.push false) → i < l.length ∨ i = l.length := by
    intro listed i hi
    rw [mem_ready] at hi
    obtain ⟨_, o, ho, _⟩ := hi
    have : i < l.length + 1 := by simpa using (Array.getElem?_eq_some_iff.1 ho).1
    omega
  have hdown : ∀ (listed : Array Bool) (i : Nat), listed.size = l.length → i < l.length → i ∈ Region.ready .any (l ++ [oL]).toArray (listed.push false) → i ∈ Region.ready .any l.toArray listed := by
    intro listed i hs hi hm
    rw [mem_ready] at hm ⊢
    obtain ⟨h0, o, ho, hd⟩ := hm
    have hget : (l ++ [oL])[i]? = some o := by simpa using ho
    refine ⟨by rw [push_old (by omega)] at h0; exact h0, o, ?_, fun e he hb => ?_⟩
    · rw [List.getElem?_append_left hi] at hget; simpa using hget
    · have := (hback i o hget).1 e he hb
      have h := hd e he hb
      rw [push_old (by omega)] at h
      exact h
  intro fuel
  induction fuel with
  | zero =>
    intro listed A W hs hcl h
    refine ⟨fun hr => absurd hr (hsome listed hs), fun i hi => ?_⟩
    rcases hidx listed i hi with hlt | rfl
    · have := hdown listed i hs hlt hi
      rw [h.1] at this; cases this
    · exact hlast 0 listed A W hs hcl (fun _ => h.2) hi
  | succ fuel ih =>
    intro listed A W hs hcl h
    refine ⟨fun hr => absurd hr (hsome listed hs), fun i hi => ?_⟩
    rcases hidx listed i hi with hlt | rfl
    · have hdn := hdown listed i hs hlt hi
      have hstep := h.2 i hdn
      have hnext : ∀ A' W', wpAnyIn F m P .any l.toArray (tailQ F m P ops Q (oL :: r)) fuel (listed.setIfInBounds i true) A' W' → wpAnyIn F m P .any (l ++ [oL]).toArray (tailQ F m P ops Q r) (fuel + 1) ((listed.push false).setIfInBounds i true) A' W' := by
        intro A' W' h'
        have e1 : (listed.push false).setIfInBounds i true = (listed.setIfInBounds i true).push false := by
          apply Array.ext_getElem?
          intro j
          simp only [Array.getElem?_setIfInBounds, Array.getElem?_push, Array.size_push, Array.size_setIfInBounds]
          by_cases h1 : i = j
          · subst h1
            have : ¬ i = listed.size := by omega
            simp [this, show i < listed.size by omega, show i < listed.size + 1 by omega]
          · simp [h1]
        rw [e1]
        refine ih _ A' W' (by simpa using hs) ?_ h'
        intro j o ho hj e he hb
        by_cases hji : j = i
        · subst hji
          rw [mem_ready] at hdn
          obtain ⟨_, o', ho', hd⟩ := hdn
          have : o' = o := by
            have h2 : l[j]? = some o' := by simpa using ho'
            rw [ho] at h2; injection h2 with h2; exact h2.symm
          subst this
          have h3 := hd e he hb
          by_cases hej : e.on = j
          · rw [hej]; simp [Array.getD_eq_getD_getElem?, show j < listed.size by omega]
          · rw [getD_set_ne false (Ne.symm hej)]; exact h3
        · rw [getD_set_ne false (Ne.symm hji)] at hj
          have h3 := hcl j o ho hj e he hb
          by_cases hej : e.on = i
          · rw [hej]; simp [Array.getD_eq_getD_getElem?, show i < listed.size by omega]
          · rw [getD_set_ne false (Ne.symm hej)]; exact h3
      unfold wpOpIn at hstep ⊢
      have hg1 : l.toArray[i]? = some l[i] := by simp [hlt]
      have hg2 : (l ++ [oL]).toArray[i]? = some l[i] := by simp [List.getElem?_append_left hlt]
      have hgb := (hback i l[i] (by simpa using hg2)).2
      simp only [hg1] at hstep
      simp only [hg2]
      have hw : Region.wanted l[i] (yielded (l ++ [oL]).toArray A.tmps) = Region.wanted l[i] (yielded l.toArray A.tmps) := by
        unfold Region.wanted
        cases hg : (l[i]).guard with
        | none => rfl
        | some jb =>
          obtain ⟨j, b⟩ := jb
          have hj := hgb j b hg
          have : yielded (l ++ [oL]).toArray A.tmps j = yielded l.toArray A.tmps j := by
            unfold yielded
            simp [List.getElem?_append_left (show j < l.length by omega)]
          simp only [this]
      rw [hw]
      cases hq : Region.wanted l[i] (yielded l.toArray A.tmps) with
      | false =>
        rw [hq] at hstep
        simp only [Bool.false_eq_true, if_false] at hstep ⊢
        exact ⟨hstep.1, hnext _ _ hstep.2⟩
      | true =>
        rw [hq] at hstep
        simp only [if_true] at hstep ⊢
        exact Oper.wpIn_mono hnext (wpIn_tail r hstep)
    · exact hlast (fuel + 1) listed A W hs hcl h.1 hi
end

theorem tameIn_back {l : List Oper} {n : Nat} (hB : tameB l n = true) : ∀ (i : Nat) (o : Oper), l[i]? = some o → (∀ e ∈ o.after, Region.binds .any e = true → e.on < i) ∧ ∀ (j : Nat) (b : Bool), o.guard = some (j, b) → j < i := by
  intro i o hi
  unfold tameB at hB
  rw [Bool.and_eq_true, List.all_eq_true] at hB
  have h := hB.1 (o, i) (by rw [List.mem_zipIdx_iff_getElem?]; simpa using hi)
  simp only [Bool.and_eq_true] at h
  obtain ⟨⟨h1, h2⟩, h3⟩ := h
  refine ⟨fun e he hbd => ?_, fun j b hg => ?_⟩
  · rw [List.all_eq_true] at h1
    have := h1 e (Array.mem_toList_iff.2 he)
    simpa [hbd] using this
  · rw [hg] at h3
    simp only [Bool.and_eq_true, decide_eq_true_eq] at h3
    exact h3.1

/-- The rest stands, operation by operation, behind all before it. -/
def cutgB (n : Nat) : List Oper → List Oper → Bool
  | _, [] => true
  | l, o :: r => (tameB (l ++ [o]) n && lastB (l ++ [o])) && cutgB n (l ++ [o]) r
theorem any_tailIn {F : Fence} {m : Nat} {P : Program} {n : Nat} (ops : Array Oper) {Q : Exit → Act → World → Prop} : ∀ (r l : List Oper) {fuel : Nat} {A : Act} {W : World}, ops.toList = l ++ r → cutgB n l r = true → wpAnyIn F m P .any l.toArray (tailQ F m P ops Q r) fuel (Array.replicate l.length false) A W →
    wpAnyIn F m P .any (l ++ r).toArray Q (fuel + r.length) (Array.replicate (l.length + r.length) false) A W
  | [], l, fuel, A, W, _, _, h => by rw [tailQ_nil] at h; simpa using h
  | o :: r, l, fuel, A, W, ho, hc, h => by
    unfold cutgB at hc
    simp only [Bool.and_eq_true] at hc
    obtain ⟨⟨h1, h2⟩, h4⟩ := hc
    have h5 := tame_lastIn (Q := Q) (ops := ops) (r := r) (fun j hj => by
      rw [← Array.getElem?_toList, ho]
      rw [show l ++ o :: r = (l ++ [o]) ++ r by simp]
      rw [List.getElem?_append_left (by simp; omega)]) (tameIn_back h1) h2 _ _ _ _ (by simp) (by
      intro j o' ho hj
      have : (Array.replicate l.length false).getD j false = false := by
        rw [Array.getD_eq_getD_getElem?, Array.getElem?_replicate]; split <;> rfl
      rw [this] at hj
      cases hj) h
    rw [← Array.replicate_succ] at h5
    have h6 := any_tailIn ops r (l ++ [o]) (by rw [ho]; simp) h4 (by simpa using h5)
    simpa [Nat.add_assoc, Nat.add_comm, Nat.add_left_comm] using h6

/-- **THE REGION**, its rest from the k-th operation on walked by itself. -/
theorem wpIn_region_tame {F : Fence} {m : Nat} {P : Program} {id : Nat} {Q : Exit → Act → World → Prop} {w : World} {a0 : Act} {l : List Oper} (hF : Open F m) (C : World → Prop) (R : World → World → Prop) (hm : P.follows .mixedOrders = true) (n : Nat) (hn : a0.tmps.size = n) (k : Nat)
    (hB' : tameB (l.take k) n = true) (hcut : cutgB n (l.take k) (l.drop k) = true) (hnd : noDefer (l.take k) = true) (hC : C w.drew)
    (h : wpTame P C R ((l.take k).map (·.dst)) a0 (fun A W => wpListIn F m P l.toArray Q (l.drop k) A W) (l.take k).length (l.take k) []) : (Code.region id l.toArray true).wpIn F m P Q a0 w := by
  subst hn
  obtain ⟨G, hlen, _, hfin, hops⟩ := wpTame_facts (l.take k) [] h
  have h1 := tame_anyIn (F := F) (m := m) hF hnd (Q := tailQ F m P l.toArray Q (l.drop k)) (Qn := fun A W => wpListIn F m P l.toArray Q (l.drop k) A W) (fun _ _ h => h) hB' G (by simpa using hlen) (by simpa using hfin) (by simpa using hops) (l.take k).length (Array.replicate (l.take k).length false) a0 w.drew (by simp)
    (Nat.le_trans (List.length_filter_le _ _) (by simp)) hC ⟨rfl, rfl, fun _ _ => rfl⟩ (by
      intro j hj
      have : (Array.replicate (l.take k).length false).getD j false = false := by
        rw [Array.getD_eq_getD_getElem?, Array.getElem?_replicate]; split <;> rfl
      rw [this] at hj
      cases hj)
  refine wpIn_region_any hm ?_
  have h2 := any_tailIn (n := a0.tmps.size) l.toArray (Q := Q) (l.drop k) (l.take k) (by simp) hcut h1
  rw [List.take_append_drop] at h2
  have e1 : (l.take k).length + (l.drop k).length = l.toArray.size := by rw [← List.length_append, List.take_append_drop]; simp
  rw [e1] at h2
  exact h2
end Go.Proofs.YtkpengeaolcjhaaGreatDoor
