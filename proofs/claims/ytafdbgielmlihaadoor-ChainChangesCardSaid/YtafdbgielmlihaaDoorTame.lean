/- A region that draws its order, whatever its operations make: each operation by a predicate on its value; one walk in the order of the text serves every order. -/
import Derived.Test.YtafdbgielmlihaaDoorMem
import Derived.Orders
namespace Go.Proofs.YtafdbgielmlihaaDoor
open Go.RowKit Go.Shelf

abbrev Facts := List (Option Tmp × (Value → World → Prop))
/-- What stands in an operation's temporary. -/
def atD (ρ : Operand → Value) : Option Tmp → Value
  | some d => ρ (.tmp d)
  | none => undef
/-- What is known of operation j. -/
def Fact (F : Facts) (ρ : Operand → Value) (W : World) (j : Nat) : Prop :=
  match F[j]? with
  | some (d, U) => U (atD ρ d) W
  | none => True
def isB (v : Value) (b : Bool) : Bool := match v with | .bool c => c == b | _ => false
/-- Whether a guarded operation runs. -/
def runs (F : Facts) (ρ : Operand → Value) : Option (Nat × Bool) → Bool
  | none => true
  | some (j, b) => match F[j]? with
    | some (some d, _) => isB (ρ (.tmp d)) b
    | _ => false
def notIn (ds : List (Option Tmp)) (t : Tmp) : Bool := ds.all fun d => d != some t
/-- The frame, but for the region's own temporaries. -/
def Same0 (ds : List (Option Tmp)) (a0 A : Act) : Prop := A.defers = a0.defers ∧ A.tmps.size = a0.tmps.size ∧ ∀ t, notIn ds t = true → A.eval (.tmp t) = a0.eval (.tmp t)

/-- o, in the frame A and the world W, gives a value and a world of which U holds. -/
def CR (C : World → Prop) (R : World → World → Prop) (W W' : World) : Prop := C W' ∧ R W W'
def CallPost (C : World → Prop) (R : World → World → Prop) (W : World) (U : Value → World → Prop) (e : Ending) (W' : World) : Prop := ∃ v, e = .returned v ∧ CR C R W W' ∧ U v W'
def IsL (l' l : List Value) : Prop := l = l'
/-- A value that is known. -/
def Is (v0 v : Value) : Prop := v = v0
def opPost (P : Program) (C : World → Prop) (R : World → World → Prop) (W : World) (U : Value → World → Prop) : Result Next → Prop
  | .ok (.value v) W' => CR C R W W' ∧ U v W'
  | .ok .skip W' => CR C R W W' ∧ U undef W'
  | .ok (.enter f args) W' => Calls P f args W' (CallPost C R W U)
  | _ => False
def opGives (P : Program) (C : World → Prop) (R : World → World → Prop) (o : Oper) (ρ : Operand → Value) (W : World) (U : Value → World → Prop) : Prop := opPost P C R W U ((execOp ρ o).run P W)

/-- The walk, in the order of the text. -/
def wpTame (P : Program) (C : World → Prop) (R : World → World → Prop) (ds : List (Option Tmp)) (a0 : Act) (Q : Act → World → Prop) (n : Nat) : List Oper → Facts → Prop
  | [], F => ∀ A W, C W → Same0 ds a0 A → (∀ j, j < n → Fact F A.eval W j) → Q A W
  | o :: rest, F => ∃ U : Value → World → Prop, (∀ v W W', C W' → R W W' → U v W → U v W') ∧
      (∀ A W, C W → Same0 ds a0 A → (∀ e ∈ o.after, Region.binds .any e = true → Fact F A.eval W e.on) → if runs F A.eval o.guard then opGives P C R o A.eval W (fun v => U (if o.dst.isSome then v else undef)) else U undef W) ∧
      wpTame P C R ds a0 Q n rest (F ++ [(o.dst, U)])

/-- The region is of the common form: each operation looks back, no temporary is written twice. -/
def tameB (l : List Oper) (size : Nat) : Bool :=
  l.zipIdx.all (fun (o, i) => o.after.toList.all (fun e => !Region.binds .any e || decide (e.on < i)) && (match o.dst with | some d => decide (d < size) | none => true) && (match o.guard with | some (j, _) => decide (j < i) && o.after.toList.any (fun e => e.on == j && Region.binds .any e) | none => true)) &&
  l.zipIdx.all (fun (o, i) => match o.dst with | none => true | some d => l.zipIdx.all (fun (p, j) => i == j || p.dst != some d))

theorem wpTame_facts {P : Program} {C : World → Prop} {R : World → World → Prop} {ds : List (Option Tmp)} {a0 : Act} {Q : Act → World → Prop} {n : Nat} : ∀ (l : List Oper) (F : Facts), wpTame P C R ds a0 Q n l F →
    ∃ G : Facts, G.length = F.length + l.length ∧ (∀ j, j < F.length → G[j]? = F[j]?) ∧ (∀ A W, C W → Same0 ds a0 A → (∀ j, j < n → Fact G A.eval W j) → Q A W) ∧
      ∀ i o, l[i]? = some o → ∃ U, G[F.length + i]? = some (o.dst, U) ∧ (∀ v W W', C W' → R W W' → U v W → U v W') ∧
        (∀ A W, C W → Same0 ds a0 A → (∀ e ∈ o.after, Region.binds .any e = true → Fact (G.take (F.length + i)) A.eval W e.on) → if runs (G.take (F.length + i)) A.eval o.guard then opGives P C R o A.eval W (fun v => U (if o.dst.isSome then v else undef)) else U undef W)
  | [], F, h => ⟨F, by simp, fun _ _ => rfl, h, fun i o hi => by simp at hi⟩
  | o :: rest, F, h => by
    obtain ⟨U, hst, hstep, hrest⟩ := h
    obtain ⟨G, hlen, hpre, hfin, hops⟩ := wpTame_facts rest (F ++ [(o.dst, U)]) hrest
    have hF : G.take F.length = F := by
      apply List.ext_getElem?
      intro j
      rw [List.getElem?_take]
      by_cases hj : j < F.length
      · rw [if_pos hj, hpre j (by simp; omega), List.getElem?_append_left hj]
      · rw [if_neg hj, List.getElem?_eq_none (by omega)]
    refine ⟨G, by rw [hlen]; simp; omega, fun j hj => by rw [hpre j (by simp; omega), List.getElem?_append_left hj], hfin, fun i o' hi => ?_⟩
    cases i with
    | zero =>
      simp at hi; subst hi
      refine ⟨U, ?_, hst, ?_⟩
      · rw [Nat.add_zero, hpre F.length (by simp)]; simp
      · rw [Nat.add_zero, hF]; exact hstep
    | succ i =>
      obtain ⟨U', h1, h2, h3⟩ := hops i o' (by simpa using hi)
      have e : (F ++ [(o.dst, U)]).length + i = F.length + (i + 1) := by simp; omega
      rw [e] at h1 h3
      exact ⟨U', h1, h2, h3⟩

theorem undef_isB (b : Bool) : isB undef b = false := rfl
theorem yielded_isB {ops : Array Oper} {A : Act} {j : Nat} {o : Oper} {d : Tmp} (ho : ops[j]? = some o) (hd : o.dst = some d) (b : Bool) : (yielded ops A.tmps j == some b) = isB (A.eval (.tmp d)) b := by
  unfold yielded
  simp only [ho, Option.bind_some, hd, Act.eval]
  cases hx : A.tmps[d]? with
  | none => simp [Array.getD_eq_getD_getElem?, hx]; rfl
  | some v => simp only [Array.getD_eq_getD_getElem?, hx, Option.getD_some]; cases v <;> simp [isB]

theorem eval_put_self {A : Act} {d : Tmp} {v : Value} (h : d < A.tmps.size) : (A.put (some d) v).eval (.tmp d) = v := by
  simp [Act.put, Act.eval, h]
theorem eval_put_ne {A : Act} {d t : Tmp} {v : Value} (h : d ≠ t) : (A.put (some d) v).eval (.tmp t) = A.eval (.tmp t) := by
  simp only [Act.put, Act.eval, Array.getD_eq_getD_getElem?]
  rw [Array.getElem?_setIfInBounds_ne h]
theorem same0_put {ds : List (Option Tmp)} {a0 A : Act} {o : Option Tmp} (h : Same0 ds a0 A) (ho : o ∈ ds) (v : Value) : Same0 ds a0 (A.put o v) := by
  obtain ⟨h1, h2, h3⟩ := h
  cases o with
  | none => exact ⟨h1, h2, h3⟩
  | some d =>
    refine ⟨h1, by simpa [Act.put] using h2, fun t ht => ?_⟩
    have hne : d ≠ t := by
      unfold notIn at ht
      rw [List.all_eq_true] at ht
      have := ht _ ho
      simpa using this
    rw [eval_put_ne hne]; exact h3 t ht

section
variable {P : Program} {C : World → Prop} {R : World → World → Prop} {a0 : Act} {l : List Oper}

theorem tame_any {Q : Exit → Act → World → Prop} {Qn : Act → World → Prop} (hQ : ∀ A W, Qn A W → Q .normal A W) (hB : tameB l a0.tmps.size = true) (G : Facts) (hlen : G.length = l.length)
    (hfin : ∀ A W, C W → Same0 (l.map (·.dst)) a0 A → (∀ j, j < l.length → Fact G A.eval W j) → Qn A W)
    (hops : ∀ i o, l[i]? = some o → ∃ U, G[i]? = some (o.dst, U) ∧ (∀ v W W', C W' → R W W' → U v W → U v W') ∧
        (∀ A W, C W → Same0 (l.map (·.dst)) a0 A → (∀ e ∈ o.after, Region.binds .any e = true → Fact (G.take i) A.eval W e.on) → if runs (G.take i) A.eval o.guard then opGives P C R o A.eval W (fun v => U (if o.dst.isSome then v else undef)) else U undef W)) :
    ∀ (fuel : Nat) (listed : Array Bool) (A : Act) (W : World), listed.size = l.length → ((List.range l.length).filter fun j => !listed.getD j true).length ≤ fuel → C W → Same0 (l.map (·.dst)) a0 A →
      (∀ j, listed.getD j false = true → Fact G A.eval W j) → wpAny P .any l.toArray Q fuel listed A W := by
  have hB' := hB
  unfold tameB at hB'
  rw [Bool.and_eq_true, List.all_eq_true, List.all_eq_true] at hB'
  obtain ⟨hb1, hb2⟩ := hB'
  have hback : ∀ (i : Nat) (o : Oper), l[i]? = some o → (∀ e ∈ o.after, Region.binds .any e = true → e.on < i) ∧ (∀ d, o.dst = some d → d < a0.tmps.size) ∧ (∀ (j : Nat) (b : Bool), o.guard = some (j, b) → j < i ∧ ∃ e ∈ o.after, e.on = j ∧ Region.binds .any e = true) := by
    intro i o hi
    have h := hb1 (o, i) (by rw [List.mem_zipIdx_iff_getElem?]; simpa using hi)
    simp only [Bool.and_eq_true] at h
    obtain ⟨⟨h1, h2⟩, h3⟩ := h
    refine ⟨fun e he hbd => ?_, fun d hd => ?_, fun j b hg => ?_⟩
    · rw [List.all_eq_true] at h1
      have := h1 e (Array.mem_toList_iff.2 he)
      simpa [hbd] using this
    · rw [hd] at h2; simpa using h2
    · rw [hg] at h3
      simp only [Bool.and_eq_true, decide_eq_true_eq] at h3
      refine ⟨h3.1, ?_⟩
      obtain ⟨_, h3⟩ := h3
      rw [List.any_eq_true] at h3
      obtain ⟨e, he, h4⟩ := h3
      exact ⟨e, Array.mem_toList_iff.1 he, by simpa using h4⟩
  have hdist : ∀ (i j : Nat) (o p : Oper) (d : Tmp), l[i]? = some o → l[j]? = some p → o.dst = some d → i ≠ j → p.dst ≠ some d := by
    intro i j o p d hi hj hd hne
    have h := hb2 (o, i) (by rw [List.mem_zipIdx_iff_getElem?]; simpa using hi)
    simp only [hd] at h
    rw [List.all_eq_true] at h
    have := h (p, j) (by rw [List.mem_zipIdx_iff_getElem?]; simpa using hj)
    simpa [hne] using this
  have hall : ∀ (listed : Array Bool) (A : Act) (W : World), listed.size = l.length → C W → Same0 (l.map (·.dst)) a0 A → (∀ j, listed.getD j false = true → Fact G A.eval W j) → Region.ready .any l.toArray listed = [] → Q .normal A W := by
    intro listed A W hs hC hS hF hr
    refine hQ _ _ (hfin A W hC hS fun j hj => hF j ?_)
    -- the least one that is not listed would be ready
    have key : ∀ k, k < l.length → listed.getD k false = true := by
      intro k
      induction k using Nat.strongRecOn with
      | _ k ih =>
        intro hk
        cases hv : listed.getD k false with
        | true => rfl
        | false =>
          exfalso
          have hmem : k ∈ Region.ready .any l.toArray listed := by
            rw [mem_ready]
            have hkl : k < listed.size := by omega
            refine ⟨by simpa [Array.getD_eq_getD_getElem?, hkl] using hv, l[k], by simp, fun e he hb => ?_⟩
            have := (hback k _ (List.getElem?_eq_getElem hk)).1 e he hb
            exact ih e.on this (by omega)
          rw [hr] at hmem
          cases hmem
    exact key j hj
  intro fuel
  induction fuel with
  | zero =>
    intro listed A W hs hcount hC hS hF
    have hr : Region.ready .any l.toArray listed = [] := by
      rw [List.eq_nil_iff_forall_not_mem]
      intro k hk
      rw [mem_ready] at hk
      obtain ⟨h0, o, ho, _⟩ := hk
      have hkl : k < l.length := by simpa using (Array.getElem?_eq_some_iff.1 ho).1
      have : k ∈ (List.range l.length).filter fun j => !listed.getD j true := by simp [hkl]; simpa using h0
      have := List.length_pos_of_mem this
      omega
    exact ⟨hr, hall listed A W hs hC hS hF hr⟩
  | succ fuel ih =>
    intro listed A W hs hcount hC hS hF
    refine ⟨hall listed A W hs hC hS hF, fun i hi => ?_⟩
    rw [mem_ready] at hi
    obtain ⟨h0, o, ho, hdeps⟩ := hi
    have hil : i < l.length := by simpa using (Array.getElem?_eq_some_iff.1 ho).1
    have hlo : l[i]? = some o := by simpa using ho
    obtain ⟨U, hU, hst, hstep⟩ := hops i o hlo
    obtain ⟨hb, hdb, hgb⟩ := hback i o hlo
    have htake : ∀ j, j < i → Fact (G.take i) A.eval W j = Fact G A.eval W j := fun j hj => by
      unfold Fact; rw [List.getElem?_take, if_pos hj]
    have hstep' := hstep A W hC hS (fun e he hbd => by rw [htake e.on (hb e he hbd)]; exact hF e.on (hdeps e he hbd))
    have hrun : Region.wanted o (yielded l.toArray A.tmps) = runs (G.take i) A.eval o.guard := by
      unfold Region.wanted runs
      cases hg : o.guard with
      | none => rfl
      | some jb =>
        obtain ⟨j, b⟩ := jb
        obtain ⟨hj, _⟩ := hgb j b hg
        have hjl : j < l.length := by omega
        obtain ⟨Uj, hUj, _⟩ := hops j l[j] (List.getElem?_eq_getElem hjl)
        simp only [List.getElem?_take, if_pos hj, hUj]
        cases hd : (l[j]).dst with
        | none =>
          simp only [yielded]
          simp [List.getElem?_eq_getElem hjl, hd]
        | some d => exact yielded_isB (by simp) hd b
    -- what stands behind the operation
    have hnext : ∀ (v : Value) (W' : World), C W' → (∀ j d V, G[j]? = some (d, V) → listed.getD j false = true → ∀ u, V u W → V u W') → U (if o.dst.isSome then v else undef) W' →
        wpAny P .any l.toArray Q fuel (listed.setIfInBounds i true) (A.put o.dst v) W' := by
      intro v W' hC' hkeep hUv
      refine ih _ _ _ (by simpa using hs) ?_ hC' (same0_put hS (by rw [List.mem_map]; exact ⟨o, List.mem_of_getElem? hlo, rfl⟩) v) ?_
      · have hsub : ((List.range l.length).filter fun j => !(listed.setIfInBounds i true).getD j true).length < ((List.range l.length).filter fun j => !listed.getD j true).length := by
          have h1 : (List.range l.length).filter (fun j => !(listed.setIfInBounds i true).getD j true) = ((List.range l.length).filter fun j => !listed.getD j true).filter (fun j => j != i) := by
            rw [List.filter_filter]
            refine List.filter_congr fun j hj => ?_
            by_cases hji : j = i
            · subst hji
              simp [Array.getD_eq_getD_getElem?, show j < listed.size by omega]
            · rw [getD_set_ne true (Ne.symm hji)]; simp [hji]
          rw [h1]
          have hmem : i ∈ (List.range l.length).filter fun j => !listed.getD j true := by simp [hil]; simpa using h0
          refine Nat.lt_of_le_of_ne (List.length_filter_le _ _) fun he => ?_
          have := (List.length_filter_eq_length_iff.1 he) i hmem
          simp at this
        omega
      · intro j hj
        by_cases hji : j = i
        · subst hji
          unfold Fact
          rw [hU]
          cases hd : o.dst with
          | none => simpa [hd, atD] using hUv
          | some d =>
            have hsz : d < A.tmps.size := by rw [hS.2.1]; exact hdb d hd
            simp only [atD, eval_put_self hsz]
            simpa [hd] using hUv
        · rw [getD_set_ne false (Ne.symm hji)] at hj
          have hFj := hF j hj
          unfold Fact at hFj ⊢
          cases hGj : G[j]? with
          | none => trivial
          | some dV =>
            obtain ⟨d, V⟩ := dV
            rw [hGj] at hFj
            have hval : atD (A.put o.dst v).eval d = atD A.eval d := by
              cases d with
              | none => rfl
              | some d =>
                cases hdo : o.dst with
                | none => rfl
                | some d' =>
                  simp only [atD]
                  refine eval_put_ne fun he => ?_
                  have hjl : j < l.length := by rw [← hlen]; exact (List.getElem?_eq_some_iff.1 hGj).1
                  obtain ⟨Uj, hUj, _⟩ := hops j l[j] (List.getElem?_eq_getElem hjl)
                  rw [hGj] at hUj
                  injection hUj with hUj
                  have hdj : (l[j]).dst = some d := (Prod.mk.inj hUj).1.symm
                  exact hdist i j o _ d' hlo (List.getElem?_eq_getElem hjl) hdo (Ne.symm hji) (by rw [hdj, he])
            show V (atD (A.put o.dst v).eval d) W'
            rw [hval]
            exact hkeep j d V hGj hj _ hFj
    have hstab : ∀ W', C W' → R W W' → ∀ j d V, G[j]? = some (d, V) → listed.getD j false = true → ∀ u, V u W → V u W' := by
      intro W' hC' hR j d V hGj hj u hu
      have hjl : j < l.length := by rw [← hlen]; exact (List.getElem?_eq_some_iff.1 hGj).1
      obtain ⟨Uj, hUj, hstj, _⟩ := hops j l[j] (List.getElem?_eq_getElem hjl)
      rw [hGj] at hUj
      injection hUj with hUj
      have hV : V = Uj := (Prod.mk.inj hUj).2
      subst hV
      exact hstj u W W' hC' hR hu
    unfold wpOp
    simp only [ho]
    rw [hrun]
    cases hw : runs (G.take i) A.eval o.guard with
    | false =>
      rw [hw] at hstep'
      simp only [Bool.false_eq_true, if_false] at hstep' ⊢
      exact hnext undef W hC (fun _ _ _ _ _ _ h => h) (by cases hds : o.dst.isSome <;> simpa using hstep')
    | true =>
      rw [hw] at hstep'
      simp only [if_true] at hstep' ⊢
      left
      unfold Oper.wp
      unfold opGives opPost at hstep'
      generalize (execOp A.eval o).run P W = r at hstep'
      cases r with
      | halt x w' => exact hstep'.elim
      | ok nx w' =>
        cases nx with
        | value v => obtain ⟨⟨h1, h2⟩, h3⟩ := hstep'; exact hnext v w' h1 (hstab w' h1 h2) h3
        | skip => obtain ⟨⟨h1, h2⟩, h3⟩ := hstep'; exact hnext undef w' h1 (hstab w' h1 h2) (by cases hds : o.dst.isSome <;> simpa [hds] using h3)
        | enter f args =>
          refine Calls.mono (R' := _) hstep' ?_
          rintro e w'' ⟨v, rfl, ⟨h1, h2⟩, h3⟩
          exact hnext v w'' h1 (hstab w'' h1 h2) h3
        | _ => exact hstep'.elim

/-- **ONE WALK IN THE ORDER OF THE TEXT SERVES EVERY ORDER.** -/
theorem wp_region_tame {id : Nat} {Q : Exit → Act → World → Prop} {w : World} (C : World → Prop) (R : World → World → Prop) (hm : P.follows .mixedOrders = true) (n : Nat) (hn : a0.tmps.size = n) (hB : tameB l n = true) (hC : C w.drew)
    (h : wpTame P C R (l.map (·.dst)) a0 (fun A W => Q .normal A W) l.length l []) : (Code.region id l.toArray true).wp P Q a0 w := by
  subst hn
  obtain ⟨G, hlen, _, hfin, hops⟩ := wpTame_facts l [] h
  refine wp_region_any hm (tame_any (Q := Q) (Qn := fun A W => Q .normal A W) (fun _ _ h => h) hB G (by simpa using hlen) hfin (by simpa using hops) _ _ _ _ (by simp) ?_ hC ⟨rfl, rfl, fun _ _ => rfl⟩ ?_)
  · refine Nat.le_trans (List.length_filter_le _ _) (by simp)
  · intro j hj
    have : (Array.replicate l.toArray.size false).getD j false = false := by
      rw [Array.getD_eq_getD_getElem?, Array.getElem?_replicate]; split <;> rfl
    rw [this] at hj
    cases hj

/-! What a step is shown in: any reading of the operands that knows what stands outside the region, and what was made ahead. -/
structure Rd (a0 : Act) (ds : List (Option Tmp)) (ρ : Operand → Value) : Prop where
  c : ∀ v, ρ (.const v) = v
  g : ∀ g, ρ (.global g) = .pointer (some ⟨g, 0, none⟩)
  f : ∀ f, ρ (.func f) = .func (.func f) #[] #[]
  s : ∀ t, notIn ds t = true → ρ (.tmp t) = a0.eval (.tmp t)
theorem Rd.of {ds : List (Option Tmp)} {A : Act} (h : Same0 ds a0 A) : Rd a0 ds A.eval := ⟨fun _ => rfl, fun _ => rfl, fun _ => rfl, h.2.2⟩

variable {ds : List (Option Tmp)} {Q : Act → World → Prop} {n : Nat} {o : Oper} {rest : List Oper} {F : Facts}
theorem tame_n (U : Value → World → Prop) (hst : ∀ v W W', C W' → R W W' → U v W → U v W')
    (hstep : ∀ ρ W, C W → Rd a0 ds ρ → (∀ e ∈ o.after, Region.binds .any e = true → Fact F ρ W e.on) → if runs F ρ o.guard then opGives P C R o ρ W (fun v => U (if o.dst.isSome then v else undef)) else U undef W)
    (h : wpTame P C R ds a0 Q n rest (F ++ [(o.dst, U)])) : wpTame P C R ds a0 Q n (o :: rest) F :=
  ⟨U, hst, fun A W hC hS hD => hstep A.eval W hC (Rd.of hS) hD, h⟩
theorem tame_q {d : Tmp} (hd : o.dst = some d) (v0 : Value)
    (hstep : ∀ ρ W, C W → Rd a0 ds ρ → (∀ e ∈ o.after, Region.binds .any e = true → Fact F ρ W e.on) → if runs F ρ o.guard then opGives P C R o ρ W (fun v _ => Is v0 v) else Is v0 undef)
    (h : wpTame P C R ds a0 Q n rest (F ++ [(some d, fun v _ => v = v0)])) : wpTame P C R ds a0 Q n (o :: rest) F := by
  refine tame_n (fun v _ => Is v0 v) (fun _ _ _ _ _ h => h) ?_ (hd ▸ h)
  intro ρ W hC hr hD
  have := hstep ρ W hC hr hD
  rw [hd]
  exact this
theorem tame_v {d : Tmp} (hd : o.dst = some d) (U : Value → World → Prop) (hst : ∀ v W W', C W' → R W W' → U v W → U v W')
    (hstep : ∀ ρ W, C W → Rd a0 ds ρ → (∀ e ∈ o.after, Region.binds .any e = true → Fact F ρ W e.on) → if runs F ρ o.guard then opGives P C R o ρ W U else U undef W)
    (h : wpTame P C R ds a0 Q n rest (F ++ [(some d, U)])) : wpTame P C R ds a0 Q n (o :: rest) F := by
  refine tame_n U hst ?_ (hd ▸ h)
  intro ρ W hC hr hD
  have := hstep ρ W hC hr hD
  rw [hd]
  exact this

/-- The frame, slot by slot. -/
def evs (ρ : Operand → Value) : Nat → Nat → List Value
  | _, 0 => []
  | s, k + 1 => ρ (.tmp s) :: evs ρ (s + 1) k
theorem evs_get (ρ : Operand → Value) : ∀ (k s j : Nat), j < k → (evs ρ s k)[j]? = some (ρ (.tmp (s + j)))
  | k + 1, s, 0, _ => rfl
  | k + 1, s, j + 1, h => by
    rw [evs, List.getElem?_cons_succ, evs_get ρ k (s + 1) j (by omega), show s + 1 + j = s + (j + 1) from by omega]
theorem evs_len (ρ : Operand → Value) : ∀ (k s : Nat), (evs ρ s k).length = k
  | 0, _ => rfl
  | k + 1, s => by rw [evs, List.length_cons, evs_len]
theorem frame_lit {A : Act} {m : Nat} (h : A.tmps.size = m) : A = { tmps := (evs A.eval 0 m).toArray, defers := A.defers } := by
  obtain ⟨tmps, defers⟩ := A
  congr 1
  apply Array.ext_getElem?
  intro j
  by_cases hj : j < m
  · have hj' : j < tmps.size := by simpa using h ▸ hj
    have h2 : (evs (Act.eval { tmps, defers }) 0 m).toArray[j]? = some (Act.eval { tmps, defers } (.tmp (0 + j))) := by rw [List.getElem?_toArray]; exact evs_get _ m 0 j hj
    rw [h2, Nat.zero_add]
    simp [Act.eval, hj']
  · have h1 : tmps.size ≤ j := by have : tmps.size = m := h; omega
    rw [Array.getElem?_eq_none h1, List.getElem?_toArray, List.getElem?_eq_none (by rw [evs_len]; omega)]
def allF : Facts → (Operand → Value) → World → Prop
  | [], _, _ => True
  | (d, U) :: F, ρ, W => U (atD ρ d) W ∧ allF F ρ W
theorem allF_of : ∀ (F : Facts) (ρ : Operand → Value) (W : World), (∀ j, j < F.length → Fact F ρ W j) → allF F ρ W
  | [], _, _, _ => trivial
  | (d, U) :: F, ρ, W, h => ⟨h 0 (by simp), allF_of F ρ W fun j hj => h (j + 1) (by simpa using hj)⟩
theorem tame_end (m : Nat) (hm : a0.tmps.size = m) (hn : n = F.length) (h : ∀ ρ W, C W → Rd a0 ds ρ → allF F ρ W → Q { tmps := (evs ρ 0 m).toArray, defers := a0.defers } W) : wpTame P C R ds a0 Q n [] F := by
  intro A W hC hS hF
  rw [frame_lit (A := A) (m := m) (by rw [hS.2.1, hm]), hS.1]
  exact h A.eval W hC (Rd.of hS) (allF_of _ _ _ (hn ▸ hF))
theorem frame_to {l l' : List Value} {dfs : List Deferred} {W : World} (hl : IsL l' l) (h : Q { tmps := l'.toArray, defers := dfs } W) : Q { tmps := l.toArray, defers := dfs } W := by
  unfold IsL at hl; rw [hl]; exact h
end
attribute [go_sem] evs allF
attribute [go_sem] Fact atD runs isB notIn opGives opPost Region.binds
@[go_sem ↓] theorem execOp_call_fn (ρ : Operand → Value) (h : ∀ f, ρ (.func f) = .func (.func f) #[] #[]) (dst : Option Tmp) (f : FuncId) (xs : Array Operand) (ats : Array TypeId) (ty : TypeId) (pos : String) (after : Array Edge) (guard : Option (Nat × Bool)) :
    execOp ρ { dst, op := .call { callee := .value (.func f), args := xs, argTypes := ats }, type := ty, pos, after, guard } = callFunc f (xs.map ρ) := by
  simp only [execOp, resolve, Deferred.ofValue, h]
  show callFunc f (#[] ++ xs.map ρ ++ #[]) = _
  simp

/-! A region that stores, last, into a block of the call's own. -/
def CS (w : World) (g : Nat) (t : TypeId) (k : Nat) (W : World) : Prop := w.grownBy W (some g) ∧ ∃ cs, Blk W g t cs ∧ cs.size = k
def RS (g : Nat) (t : TypeId) (fin : Array Value) (W W' : World) : Prop := W.grownBy W' (some g) ∧ (Blk W g t fin → Blk W' g t fin)
theorem RS.refl {g : Nat} {t : TypeId} {fin : Array Value} (W : World) : RS g t fin W W := ⟨World.grownBy.refl _ _, fun h => h⟩
theorem RS.ext {g : Nat} {t : TypeId} {fin : Array Value} {W W' : World} (h : Ext W W') : RS g t fin W W' := ⟨⟨h.os, h.tape, h.output, h.size, fun i hi _ => h.block i hi⟩, fun hB => hB.ext h⟩
theorem CS.ext {w : World} {g : Nat} {t : TypeId} {k : Nat} {W W' : World} (hC : CS w g t k W) (h : Ext W W') : CS w g t k W' := by
  obtain ⟨h1, cs, h2, h3⟩ := hC
  exact ⟨grown_ext h1 h, cs, h2.ext h, h3⟩
theorem CS.start {w : World} {g : Nat} {t : TypeId} {cs : Array Value} (h : Blk w g t cs) : CS w g t cs.size w.drew := ⟨⟨rfl, rfl, rfl, Nat.le_refl _, fun _ _ _ => rfl⟩, cs, h, rfl⟩
theorem CS.cell {w : World} {g : Nat} {t : TypeId} {k : Nat} {W : World} (hC : CS w g t k W) {b : Nat} (hb : b < w.heap.size) (hne : b ≠ g) (i : Nat) : W.cell? ⟨b, i, none⟩ = w.cell? ⟨b, i, none⟩ :=
  World.cell?_of_block (a := ⟨b, i, none⟩) (hC.1.block b hb (by intro h; injection h with h; exact hne h))
/-- A row of eight cells is written over, cell by cell. -/
abbrev set8 (W : World) (g : Nat) (y0 y1 y2 y3 y4 y5 y6 y7 : Value) : World :=
  (((((((W.setCell ⟨g, 0, none⟩ y0).setCell ⟨g, 1, none⟩ y1).setCell ⟨g, 2, none⟩ y2).setCell ⟨g, 3, none⟩ y3).setCell ⟨g, 4, none⟩ y4).setCell ⟨g, 5, none⟩ y5).setCell ⟨g, 6, none⟩ y6).setCell ⟨g, 7, none⟩ y7
theorem Blk.set8 {W : World} {g : Nat} {t : TypeId} {x0 x1 x2 x3 x4 x5 x6 x7 : Value} (h : Blk W g t #[x0, x1, x2, x3, x4, x5, x6, x7]) (y0 y1 y2 y3 y4 y5 y6 y7 : Value) :
    Blk (set8 W g y0 y1 y2 y3 y4 y5 y6 y7) g t #[y0, y1, y2, y3, y4, y5, y6, y7] := by
  have := (((((((h.set_ 0 y0).set_ 1 y1).set_ 2 y2).set_ 3 y3).set_ 4 y4).set_ 5 y5).set_ 6 y6).set_ 7 y7
  simpa using this
theorem grown_set8 {a W : World} {g : Nat} (h : a.grownBy W (some g)) (y0 y1 y2 y3 y4 y5 y6 y7 : Value) : a.grownBy (set8 W g y0 y1 y2 y3 y4 y5 y6 y7) (some g) :=
  grown_set (grown_set (grown_set (grown_set (grown_set (grown_set (grown_set (grown_set h (p := ⟨g, 0, none⟩) (.inl rfl) y0) (p := ⟨g, 1, none⟩) (.inl rfl) y1) (p := ⟨g, 2, none⟩) (.inl rfl) y2) (p := ⟨g, 3, none⟩) (.inl rfl) y3) (p := ⟨g, 4, none⟩) (.inl rfl) y4) (p := ⟨g, 5, none⟩) (.inl rfl) y5) (p := ⟨g, 6, none⟩) (.inl rfl) y6) (p := ⟨g, 7, none⟩) (.inl rfl) y7
theorem store8 {wr W : World} {g : Nat} {t : TypeId} {x0 x1 x2 x3 x4 x5 x6 x7 : Value} (hg : wr.grownBy W (some g)) (h : Blk W g t #[x0, x1, x2, x3, x4, x5, x6, x7]) (y0 y1 y2 y3 y4 y5 y6 y7 : Value) :
    CR (fun W => CS wr g t 8 W) (fun W W' => RS g t #[y0, y1, y2, y3, y4, y5, y6, y7] W W') W (set8 W g y0 y1 y2 y3 y4 y5 y6 y7) ∧ Blk (set8 W g y0 y1 y2 y3 y4 y5 y6 y7) g t #[y0, y1, y2, y3, y4, y5, y6, y7] :=
  ⟨⟨⟨grown_set8 hg .., _, h.set8 .., rfl⟩, grown_set8 (World.grownBy.refl _ _) .., fun _ => h.set8 ..⟩, h.set8 ..⟩
/- The run of operations that only reckon or read, in a region that draws its order. -/

end Go.Proofs.YtafdbgielmlihaaDoor
