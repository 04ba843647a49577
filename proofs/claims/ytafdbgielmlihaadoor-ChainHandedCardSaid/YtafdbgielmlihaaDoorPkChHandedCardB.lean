/- A region that draws its order, with a word on what is done (as TameD), where operations may be guarded: so a slot may be read ahead of the operation that writes it. -/
import Derived.Test.YtafdbgielmlihaaDoorPkChLeastCardD
namespace Go.Proofs.YtafdbgielmlihaaDoor
open Go.RowKit Go.Shelf

/-- The walk, in the order of the text. -/
def wpTameG (P : Program) (C : World → Prop) (R : World → World → Prop) (I : (Nat → Bool) → (Nat → Value) → World → Prop) (ds : List (Option Tmp)) (a0 : Act) (Q : Act → World → Prop) (n : Nat) : List Oper → Facts → Prop
  | [], F => ∀ A W, C W → Same0 ds a0 A → I (fun j => decide (j < n)) (evT A) W → (∀ j, j < n → Fact F A.eval W j) → Q A W
  | o :: rest, F => ∃ U : Value → World → Prop, (∀ v W W', C W' → R W W' → U v W → U v W') ∧
      (∀ L A W, C W → Same0 ds a0 A → I L (evT A) W → L F.length = false → (∀ e ∈ o.after, Region.binds .any e = true → L e.on = true) → (∀ e ∈ o.after, Region.binds .any e = true → Fact F A.eval W e.on) →
        if runs F A.eval o.guard then opGives P C R o A.eval W (fun v W' => U (if o.dst.isSome then v else undef) W' ∧ I (updD L F.length true) (updDO (evT A) o.dst v) W') else U undef W ∧ I (updD L F.length true) (updDO (evT A) o.dst undef) W) ∧
      wpTameG P C R I ds a0 Q n rest (F ++ [(o.dst, U)])
theorem wpTameG_facts {P : Program} {C : World → Prop} {R : World → World → Prop} {ds : List (Option Tmp)} {a0 : Act} {Q : Act → World → Prop} {n : Nat} {I : (Nat → Bool) → (Nat → Value) → World → Prop} : ∀ (l : List Oper) (F : Facts), wpTameG P C R I ds a0 Q n l F →
    ∃ G : Facts, G.length = F.length + l.length ∧ (∀ j, j < F.length → G[j]? = F[j]?) ∧ (∀ A W, C W → Same0 ds a0 A → I (fun j => decide (j < n)) (evT A) W → (∀ j, j < n → Fact G A.eval W j) → Q A W) ∧
      ∀ i o, l[i]? = some o → ∃ U, G[F.length + i]? = some (o.dst, U) ∧ (∀ v W W', C W' → R W W' → U v W → U v W') ∧
        (∀ L A W, C W → Same0 ds a0 A → I L (evT A) W → L (F.length + i) = false → (∀ e ∈ o.after, Region.binds .any e = true → L e.on = true) → (∀ e ∈ o.after, Region.binds .any e = true → Fact (G.take (F.length + i)) A.eval W e.on) →
          if runs (G.take (F.length + i)) A.eval o.guard then opGives P C R o A.eval W (fun v W' => U (if o.dst.isSome then v else undef) W' ∧ I (updD L (F.length + i) true) (updDO (evT A) o.dst v) W') else U undef W ∧ I (updD L (F.length + i) true) (updDO (evT A) o.dst undef) W)
  | [], F, h => ⟨F, by simp, fun _ _ => rfl, h, fun i o hi => by simp at hi⟩
  | o :: rest, F, h => by
    obtain ⟨U, hst, hstep, hrest⟩ := h
    obtain ⟨G, hlen, hpre, hfin, hops⟩ := wpTameG_facts rest (F ++ [(o.dst, U)]) hrest
    have hF : G.take F.length = F := by
      apply List.ext_getElem?
      intro j
      rw [List.getElem?_take]
      by_cases hj : j < F.length
      · rw [if_pos hj, hpre j (by simp; omega), List.getElem?_append_left hj]
      · rw [if_neg hj, List.getElem?_eq_none (by omega)]
    refine ⟨G, by rw [hlen]; simp; omega, fun j hj => by rw [hpre j (by simp; omega), List.getElem?_append_left hj], hfin, fun i o' hi => ?_⟩
    cases i with
    | zero =>
      simp at hi; subst hi
      refine ⟨U, ?_, hst, ?_⟩
      · rw [Nat.add_zero, hpre F.length (by simp)]; simp
      · rw [Nat.add_zero, hF]; exact hstep
    | succ i =>
      obtain ⟨U', h1, h2, h3⟩ := hops i o' (by simpa using hi)
      have e : (F ++ [(o.dst, U)]).length + i = F.length + (i + 1) := by simp; omega
      rw [e] at h1 h3
      exact ⟨U', h1, h2, h3⟩


section
variable {P : Program} {C : World → Prop} {R : World → World → Prop} {a0 : Act} {l : List Oper}

theorem tame_anyG {I : (Nat → Bool) → (Nat → Value) → World → Prop} {Q : Exit → Act → World → Prop} {Qn : Act → World → Prop} (hQ : ∀ A W, Qn A W → Q .normal A W) (hB : tameB l a0.tmps.size = true) (G : Facts) (hlen : G.length = l.length)
    (hfin : ∀ A W, C W → Same0 (l.map (·.dst)) a0 A → I (fun j => decide (j < l.length)) (evT A) W → (∀ j, j < l.length → Fact G A.eval W j) → Qn A W)
    (hops : ∀ i o, l[i]? = some o → ∃ U, G[i]? = some (o.dst, U) ∧ (∀ v W W', C W' → R W W' → U v W → U v W') ∧
        (∀ L A W, C W → Same0 (l.map (·.dst)) a0 A → I L (evT A) W → L i = false → (∀ e ∈ o.after, Region.binds .any e = true → L e.on = true) → (∀ e ∈ o.after, Region.binds .any e = true → Fact (G.take i) A.eval W e.on) → if runs (G.take i) A.eval o.guard then opGives P C R o A.eval W (fun v W' => U (if o.dst.isSome then v else undef) W' ∧ I (updD L i true) (updDO (evT A) o.dst v) W') else U undef W ∧ I (updD L i true) (updDO (evT A) o.dst undef) W)) :
    ∀ (fuel : Nat) (listed : Array Bool) (A : Act) (W : World), listed.size = l.length → ((List.range l.length).filter fun j => !listed.getD j true).length ≤ fuel → C W → Same0 (l.map (·.dst)) a0 A → I (fun j => listed.getD j false) (evT A) W →
      (∀ j, listed.getD j false = true → Fact G A.eval W j) → wpAny P .any l.toArray Q fuel listed A W := by
  have hB' := hB
  unfold tameB at hB'
  rw [Bool.and_eq_true, List.all_eq_true, List.all_eq_true] at hB'
  obtain ⟨hb1, hb2⟩ := hB'
  have hback : ∀ (i : Nat) (o : Oper), l[i]? = some o → (∀ e ∈ o.after, Region.binds .any e = true → e.on < i) ∧ (∀ d, o.dst = some d → d < a0.tmps.size) ∧ (∀ (j : Nat) (b : Bool), o.guard = some (j, b) → j < i ∧ ∃ e ∈ o.after, e.on = j ∧ Region.binds .any e = true) := by
    intro i o hi
    have h := hb1 (o, i) (by rw [List.mem_zipIdx_iff_getElem?]; simpa using hi)
    simp only [Bool.and_eq_true] at h
    obtain ⟨⟨h1, h2⟩, h3⟩ := h
    refine ⟨fun e he hbd => ?_, fun d hd => ?_, fun j b hg => ?_⟩
    · rw [List.all_eq_true] at h1
      have := h1 e (Array.mem_toList_iff.2 he)
      simpa [hbd] using this
    · rw [hd] at h2; simpa using h2
    · rw [hg] at h3
      simp only [Bool.and_eq_true, decide_eq_true_eq] at h3
      refine ⟨h3.1, ?_⟩
      obtain ⟨_, h3⟩ := h3
      rw [List.any_eq_true] at h3
      obtain ⟨e, he, h4⟩ := h3
      exact ⟨e, Array.mem_toList_iff.1 he, by simpa using h4⟩
  have hdist : ∀ (i j : Nat) (o p : Oper) (d : Tmp), l[i]? = some o → l[j]? = some p → o.dst = some d → i ≠ j → p.dst ≠ some d := by
    intro i j o p d hi hj hd hne
    have h := hb2 (o, i) (by rw [List.mem_zipIdx_iff_getElem?]; simpa using hi)
    simp only [hd] at h
    rw [List.all_eq_true] at h
    have := h (p, j) (by rw [List.mem_zipIdx_iff_getElem?]; simpa using hj)
    simpa [hne] using this
  have hall : ∀ (listed : Array Bool) (A : Act) (W : World), listed.size = l.length → C W → Same0 (l.map (·.dst)) a0 A → I (fun j => listed.getD j false) (evT A) W → (∀ j, listed.getD j false = true → Fact G A.eval W j) → Region.ready .any l.toArray listed = [] → Q .normal A W := by
    intro listed A W hs hC hS hIA hF hr
    suffices key : ∀ k, k < l.length → listed.getD k false = true by
      refine hQ _ _ (hfin A W hC hS ?_ fun j hj => hF j (key j hj))
      have e : (fun j => listed.getD j false) = fun j => decide (j < l.length) := by
        funext j
        by_cases hj : j < l.length
        · rw [key j hj, decide_eq_true hj]
        · rw [decide_eq_false hj, Array.getD_eq_getD_getElem?, Array.getElem?_eq_none (by omega)]; rfl
      rw [e] at hIA
      exact hIA
    -- the least one that is not listed would be ready
    · intro k
      induction k using Nat.strongRecOn with
      | _ k ih =>
        intro hk
        cases hv : listed.getD k false with
        | true => rfl
        | false =>
          exfalso
          have hmem : k ∈ Region.ready .any l.toArray listed := by
            rw [mem_ready]
            have hkl : k < listed.size := by omega
            refine ⟨by simpa [Array.getD_eq_getD_getElem?, hkl] using hv, l[k], by simp, fun e he hb => ?_⟩
            have := (hback k _ (List.getElem?_eq_getElem hk)).1 e he hb
            exact ih e.on this (by omega)
          rw [hr] at hmem
          cases hmem
  intro fuel
  induction fuel with
  | zero =>
    intro listed A W hs hcount hC hS hIA hF
    have hr : Region.ready .any l.toArray listed = [] := by
      rw [List.eq_nil_iff_forall_not_mem]
      intro k hk
      rw [mem_ready] at hk
      obtain ⟨h0, o, ho, _⟩ := hk
      have hkl : k < l.length := by simpa using (Array.getElem?_eq_some_iff.1 ho).1
      have : k ∈ (List.range l.length).filter fun j => !listed.getD j true := by simp [hkl]; simpa using h0
      have := List.length_pos_of_mem this
      omega
    exact ⟨hr, hall listed A W hs hC hS hIA hF hr⟩
  | succ fuel ih =>
    intro listed A W hs hcount hC hS hIA hF
    refine ⟨hall listed A W hs hC hS hIA hF, fun i hi => ?_⟩
    rw [mem_ready] at hi
    obtain ⟨h0, o, ho, hdeps⟩ := hi
    have hil : i < l.length := by simpa using (Array.getElem?_eq_some_iff.1 ho).1
    have hlo : l[i]? = some o := by simpa using ho
    obtain ⟨U, hU, hst, hstep⟩ := hops i o hlo
    obtain ⟨hb, hdb, hgb⟩ := hback i o hlo
    have htake : ∀ j, j < i → Fact (G.take i) A.eval W j = Fact G A.eval W j := fun j hj => by
      unfold Fact; rw [List.getElem?_take, if_pos hj]
    have h0' : listed.getD i false = false := by
      have : i < listed.size := by omega
      simpa [Array.getD_eq_getD_getElem?, this] using h0
    have hstep' := hstep _ A W hC hS hIA h0' (fun e he hbd => hdeps e he hbd) (fun e he hbd => by rw [htake e.on (hb e he hbd)]; exact hF e.on (hdeps e he hbd))
    have hrun : Region.wanted o (yielded l.toArray A.tmps) = runs (G.take i) A.eval o.guard := by
      unfold Region.wanted runs
      cases hg : o.guard with
      | none => rfl
      | some jb =>
        obtain ⟨j, b⟩ := jb
        obtain ⟨hj, _⟩ := hgb j b hg
        have hjl : j < l.length := by omega
        obtain ⟨Uj, hUj, _⟩ := hops j l[j] (List.getElem?_eq_getElem hjl)
        simp only [List.getElem?_take, if_pos hj, hUj]
        cases hd : (l[j]).dst with
        | none =>
          simp only [yielded]
          simp [List.getElem?_eq_getElem hjl, hd]
        | some d => exact yielded_isB (by simp) hd b
    -- what stands behind the operation
    have hnext : ∀ (v : Value) (W' : World), C W' → I (updD (fun j => listed.getD j false) i true) (updDO (evT A) o.dst v) W' → (∀ j d V, G[j]? = some (d, V) → listed.getD j false = true → ∀ u, V u W → V u W') → U (if o.dst.isSome then v else undef) W' →
        wpAny P .any l.toArray Q fuel (listed.setIfInBounds i true) (A.put o.dst v) W' := by
      intro v W' hC' hI' hkeep hUv
      refine ih _ _ _ (by simpa using hs) ?_ hC' (same0_put hS (by rw [List.mem_map]; exact ⟨o, List.mem_of_getElem? hlo, rfl⟩) v) ?_ ?_
      · have hsub : ((List.range l.length).filter fun j => !(listed.setIfInBounds i true).getD j true).length < ((List.range l.length).filter fun j => !listed.getD j true).length := by
          have h1 : (List.range l.length).filter (fun j => !(listed.setIfInBounds i true).getD j true) = ((List.range l.length).filter fun j => !listed.getD j true).filter (fun j => j != i) := by
            rw [List.filter_filter]
            refine List.filter_congr fun j hj => ?_
            by_cases hji : j = i
            · subst hji
              simp [Array.getD_eq_getD_getElem?, show j < listed.size by omega]
            · rw [getD_set_ne true (Ne.symm hji)]; simp [hji]
          rw [h1]
          have hmem : i ∈ (List.range l.length).filter fun j => !listed.getD j true := by simp [hil]; simpa using h0
          refine Nat.lt_of_le_of_ne (List.length_filter_le _ _) fun he => ?_
          have := (List.length_filter_eq_length_iff.1 he) i hmem
          simp at this
        omega
      · have e1 : (fun j => (listed.setIfInBounds i true).getD j false) = updD (fun j => listed.getD j false) i true := by
          funext j
          unfold updD
          by_cases hji : j = i
          · subst hji; rw [if_pos rfl, Array.getD_eq_getD_getElem?, Array.getElem?_setIfInBounds_self_of_lt (by omega)]; rfl
          · rw [if_neg hji]; exact getD_set_ne false (Ne.symm hji)
        rw [e1, evT_put (fun t ht => by rw [hS.2.1]; exact hdb t ht)]
        exact hI'
      · intro j hj
        by_cases hji : j = i
        · subst hji
          unfold Fact
          rw [hU]
          cases hd : o.dst with
          | none => simpa [hd, atD] using hUv
          | some d =>
            have hsz : d < A.tmps.size := by rw [hS.2.1]; exact hdb d hd
            simp only [atD, eval_put_self hsz]
            simpa [hd] using hUv
        · rw [getD_set_ne false (Ne.symm hji)] at hj
          have hFj := hF j hj
          unfold Fact at hFj ⊢
          cases hGj : G[j]? with
          | none => trivial
          | some dV =>
            obtain ⟨d, V⟩ := dV
            rw [hGj] at hFj
            have hval : atD (A.put o.dst v).eval d = atD A.eval d := by
              cases d with
              | none => rfl
              | some d =>
                cases hdo : o.dst with
                | none => rfl
                | some d' =>
                  simp only [atD]
                  refine eval_put_ne fun he => ?_
                  have hjl : j < l.length := by rw [← hlen]; exact (List.getElem?_eq_some_iff.1 hGj).1
                  obtain ⟨Uj, hUj, _⟩ := hops j l[j] (List.getElem?_eq_getElem hjl)
                  rw [hGj] at hUj
                  injection hUj with hUj
                  have hdj : (l[j]).dst = some d := (Prod.mk.inj hUj).1.symm
                  exact hdist i j o _ d' hlo (List.getElem?_eq_getElem hjl) hdo (Ne.symm hji) (by rw [hdj, he])
            show V (atD (A.put o.dst v).eval d) W'
            rw [hval]
            exact hkeep j d V hGj hj _ hFj
    have hstab : ∀ W', C W' → R W W' → ∀ j d V, G[j]? = some (d, V) → listed.getD j false = true → ∀ u, V u W → V u W' := by
      intro W' hC' hR j d V hGj hj u hu
      have hjl : j < l.length := by rw [← hlen]; exact (List.getElem?_eq_some_iff.1 hGj).1
      obtain ⟨Uj, hUj, hstj, _⟩ := hops j l[j] (List.getElem?_eq_getElem hjl)
      rw [hGj] at hUj
      injection hUj with hUj
      have hV : V = Uj := (Prod.mk.inj hUj).2
      subst hV
      exact hstj u W W' hC' hR hu
    unfold wpOp
    simp only [ho]
    rw [hrun]
    cases hw : runs (G.take i) A.eval o.guard with
    | false =>
      rw [hw] at hstep'
      simp only [Bool.false_eq_true, if_false] at hstep' ⊢
      exact hnext undef W hC hstep'.2 (fun _ _ _ _ _ _ h => h) (by cases hds : o.dst.isSome <;> simpa using hstep'.1)
    | true =>
      rw [hw] at hstep'
      simp only [if_true] at hstep' ⊢
      left
      unfold Oper.wp
      unfold opGives opPost at hstep'
      generalize (execOp A.eval o).run P W = r at hstep'
      cases r with
      | halt x w' => exact hstep'.elim
      | ok nx w' =>
        cases nx with
        | value v => obtain ⟨⟨h1, h2⟩, h3, h4⟩ := hstep'; exact hnext v w' h1 h4 (hstab w' h1 h2) h3
        | skip => obtain ⟨⟨h1, h2⟩, h3, h4⟩ := hstep'; exact hnext undef w' h1 h4 (hstab w' h1 h2) (by cases hds : o.dst.isSome <;> simpa [hds] using h3)
        | enter f args =>
          refine Calls.mono (R' := _) hstep' ?_
          rintro e w'' ⟨v, rfl, ⟨h1, h2⟩, h3, h4⟩
          exact hnext v w'' h1 h4 (hstab w'' h1 h2) h3
        | _ => exact hstep'.elim

theorem wp_region_tame_cutkG {id : Nat} {Q : Exit → Act → World → Prop} {w : World} (C : World → Prop) (R : World → World → Prop) (I : (Nat → Bool) → (Nat → Value) → World → Prop) (hm : P.follows .mixedOrders = true) (n : Nat) (hn : a0.tmps.size = n) (k : Nat)
    (hB' : tameB (l.take k) n = true) (hcut : cutkB n (l.take k) (l.drop k) = true) (hg : (l.drop k).all (fun o => o.guard.isNone) = true) (hC : C w.drew) (hI0 : I (fun _ => false) (evT a0) w.drew)
    (h : wpTameG P C R I ((l.take k).map (·.dst)) a0 (fun A W => wpList P l.toArray Q (l.drop k) A W) (l.take k).length (l.take k) []) : (Code.region id l.toArray true).wp P Q a0 w := by
  subst hn
  obtain ⟨G, hlen, _, hfin, hops⟩ := wpTameG_facts (l.take k) [] h
  have hg' : ∀ o ∈ l.drop k, o.guard = none := fun o ho => by
    have := List.all_eq_true.1 hg o ho
    simpa using this
  have hrep : ∀ (N j : Nat), (Array.replicate N false).getD j false = false := fun N j => by
    rw [Array.getD_eq_getD_getElem?, Array.getElem?_replicate]; split <;> rfl
  have hfin' : ∀ A W, C W → Same0 ((l.take k).map (·.dst)) a0 A → I (fun j => decide (j < (l.take k).length)) (evT A) W → (∀ j, j < (l.take k).length → Fact G A.eval W j) → nestQ P (l.drop k) Q .normal A W := by
    intro A W c s i f
    exact nest_of _ hg' (hfin A W c s i (by simpa using f))
  have h1 := tame_anyG (I := I) (Q := nestQ P (l.drop k) Q) (Qn := fun A W => nestQ P (l.drop k) Q .normal A W) (fun _ _ h => h) hB' G (by simpa using hlen) hfin' (by simpa using hops) (l.take k).length (Array.replicate (l.take k).length false) a0 w.drew (by simp)
    (Nat.le_trans (List.length_filter_le _ _) (by simp)) hC ⟨rfl, rfl, fun _ _ => rfl⟩ (by simpa only [hrep] using hI0) (by
      intro j hj
      rw [hrep] at hj
      cases hj)
  refine wp_region_any hm ?_
  have h2 := any_nest (P := P) (n := a0.tmps.size) (l.drop k) (l.take k) (Q := Q) hcut h1
  rw [List.take_append_drop] at h2
  have e1 : (l.take k).length + (l.drop k).length = l.toArray.size := by rw [← List.length_append, List.take_append_drop]; simp
  rw [e1] at h2
  exact h2
variable {ds : List (Option Tmp)} {Q : Act → World → Prop} {I : (Nat → Bool) → (Nat → Value) → World → Prop} {n : Nat} {o : Oper} {rest : List Oper} {F : Facts}
/-- An operation of which the word does not speak. -/
theorem tameG_q {d : Tmp} (hd : o.dst = some d) (hI : ∀ L e W v, I L e W → I (updD L F.length true) (updD e d v) W) (v0 : Value)
    (hstep : ∀ ρ W, C W → Rd a0 ds ρ → (∀ e ∈ o.after, Region.binds .any e = true → Fact F ρ W e.on) → if runs F ρ o.guard then opGives P C R o ρ W (fun v W' => Is v0 v ∧ W' = W) else Is v0 undef)
    (h : wpTameG P C R I ds a0 Q n rest (F ++ [(some d, fun v _ => v = v0)])) : wpTameG P C R I ds a0 Q n (o :: rest) F := by
  refine ⟨fun v _ => v = v0, fun _ _ _ _ _ h => h, fun L A W hC hS hIA _ _ hD => ?_, by rw [hd]; exact h⟩
  have hs := hstep A.eval W hC (Rd.of hS) hD
  cases hr : runs F A.eval o.guard with
  | true =>
    rw [hr] at hs
    simp only [if_true] at hs ⊢
    refine opGives_monoD hs fun v W' _ hv => ?_
    rw [hd]
    obtain ⟨h1, rfl⟩ := hv
    exact ⟨h1, hI _ _ _ _ hIA⟩
  | false =>
    rw [hr] at hs
    simp only [Bool.false_eq_true, if_false] at hs ⊢
    rw [hd]
    exact ⟨hs, hI _ _ _ _ hIA⟩
/-- An operation of which the word speaks; it has no guard. -/
theorem tameG_m {d : Tmp} (hd : o.dst = some d) (hg : o.guard = none) (v0 : Value)
    (hstep : ∀ ρ L W, C W → Rd a0 ds ρ → I L (fun t => ρ (.tmp t)) W → L F.length = false → (∀ e ∈ o.after, Region.binds .any e = true → L e.on = true) → (∀ e ∈ o.after, Region.binds .any e = true → Fact F ρ W e.on) → opGives P C R o ρ W (fun v W' => Is v0 v ∧ I (updD L F.length true) (updD (fun t => ρ (.tmp t)) d v) W'))
    (h : wpTameG P C R I ds a0 Q n rest (F ++ [(some d, fun v _ => v = v0)])) : wpTameG P C R I ds a0 Q n (o :: rest) F := by
  refine ⟨fun v _ => v = v0, fun _ _ _ _ _ h => h, fun L A W hC hS hIA hL hLs hD => ?_, by rw [hd]; exact h⟩
  have e : runs F A.eval o.guard = true := by rw [hg]; rfl
  rw [e]
  simp only [if_true]
  refine opGives_monoD (hstep A.eval L W hC (Rd.of hS) hIA hL hLs hD) fun v W' _ hv => ?_
  rw [hd]
  exact hv
theorem tameG_end_put (hds : F.map (·.1) = ds) (hn : n = F.length) (h : ∀ ρ W, C W → Rd a0 ds ρ → allF F ρ W → Q { tmps := (putF ρ F a0.tmps.toList).toArray, defers := a0.defers } W) : wpTameG P C R I ds a0 Q n [] F := by
  intro A W hC hS hI hF
  exact (tame_end_put (P := P) (R := R) (C := C) hds hn h) A W hC hS hF

/-! A slot that is read ahead of the operation that writes it: the word. -/
def OldT (i0 i1 : Nat) (t : Tmp) (v : Value) (L : Nat → Bool) (e : Nat → Value) (_ : World) : Prop := (L i1 = false → e t = v) ∧ (L i1 = true → L i0 = true)
theorem OldT.start {i0 i1 : Nat} {t : Tmp} {v : Value} {e : Nat → Value} {W : World} (h : e t = v) : OldT i0 i1 t v (fun _ => false) e W := ⟨fun _ => h, fun h => by cases h⟩
theorem OldT.keep {i0 i1 i : Nat} {t d : Tmp} {v : Value} (h1 : (i == i1) = false) (h2 : (d == t) = false) : ∀ (L : Nat → Bool) (e : Nat → Value) (W : World) (u : Value), OldT i0 i1 t v L e W → OldT i0 i1 t v (updD L i true) (updD e d u) W := by
  intro L e W u h
  have n1 : i1 ≠ i := fun x => by rw [x] at h1; simp at h1
  have n2 : t ≠ d := fun x => by rw [x] at h2; simp at h2
  refine ⟨fun hL => ?_, fun hL => ?_⟩
  · rw [updD_ne n1] at hL
    rw [updD_ne n2]
    exact h.1 hL
  · rw [updD_ne n1] at hL
    by_cases hi : i0 = i
    · rw [hi, updD_self]
    · rw [updD_ne hi]; exact h.2 hL
end
end Go.Proofs.YtafdbgielmlihaaDoor
