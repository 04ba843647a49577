/- A region that draws its order and ends in operations that each stand behind all before them: these are walked by themselves, in the order of the text. -/
import Derived.Test.YtafdbgielmlihaaDoorTameM
namespace Go.Proofs.YtafdbgielmlihaaDoor
open Go.RowKit Go.Shelf

def nestQ (P : Program) : List Oper → (Exit → Act → World → Prop) → (Exit → Act → World → Prop)
  | [], Q => Q
  | o :: r, Q => lastQ P o (nestQ P r Q)
theorem wp_nest {P : Program} {o : Oper} {a : Act} {w : World} {K : Act → World → Prop} : ∀ (r : List Oper) {Q : Exit → Act → World → Prop}, o.wp P a w K Q → o.wp P a w K (nestQ P r Q)
  | [], _, h => h
  | _ :: r, _, h => wp_lastQ' (wp_nest r h)
theorem lets_nest {P : Program} : ∀ (r : List Oper) {Q : Exit → Act → World → Prop}, LetsOut Q → LetsOut (nestQ P r Q)
  | [], _, h => h
  | _ :: r, _, h => lets_nest r h
theorem nest_of {P : Program} {ops : Array Oper} : ∀ (r : List Oper) {Q : Exit → Act → World → Prop} {A : Act} {W : World}, (∀ o ∈ r, o.guard = none) → wpList P ops Q r A W → nestQ P r Q .normal A W
  | [], _, _, _, _, h => h
  | o :: r, Q, A, W, hg, h => by
    have hw : Region.wanted o (yielded ops A.tmps) = true := by simp [Region.wanted, hg o (List.mem_cons_self ..)]
    simp only [wpList, hw, if_true] at h
    show lastQ P o (nestQ P r Q) .normal A W
    rcases h with h | ⟨h1, h2⟩
    · exact .inl (wp_nest r (Oper.wp_mono (fun A' W' h'' => nest_of r (fun o' ho' => hg o' (List.mem_cons_of_mem _ ho')) h'') h))
    · exact .inr ⟨h1, lets_nest r h2⟩
def cutkB (n : Nat) : List Oper → List Oper → Bool
  | _, [] => true
  | l, o :: r => (tameB (l ++ [o]) n && lastB (l ++ [o])) && (o.guard.isNone && cutkB n (l ++ [o]) r)
theorem any_nest {P : Program} {n : Nat} : ∀ (r l : List Oper) {Q : Exit → Act → World → Prop} {fuel : Nat} {A : Act} {W : World}, cutkB n l r = true → wpAny P .any l.toArray (nestQ P r Q) fuel (Array.replicate l.length false) A W →
    wpAny P .any (l ++ r).toArray Q (fuel + r.length) (Array.replicate (l.length + r.length) false) A W
  | [], l, Q, fuel, A, W, _, h => by simpa [nestQ] using h
  | o :: r, l, Q, fuel, A, W, hc, h => by
    unfold cutkB at hc
    simp only [Bool.and_eq_true, Option.isNone_iff_eq_none] at hc
    obtain ⟨⟨h1, h2⟩, h3, h4⟩ := hc
    have h5 := tame_lastL (P := P) (Q := nestQ P r Q) (tame_back h1) h2 h3 _ _ _ _ (by simp) (by
      intro j o' ho hj
      have : (Array.replicate l.length false).getD j false = false := by
        rw [Array.getD_eq_getD_getElem?, Array.getElem?_replicate]; split <;> rfl
      rw [this] at hj
      cases hj) h
    rw [← Array.replicate_succ] at h5
    have h6 := any_nest r (l ++ [o]) h4 (by simpa using h5)
    simpa [Nat.add_assoc, Nat.add_comm, Nat.add_left_comm] using h6

theorem wp_region_tame_cutk {P : Program} {id : Nat} {Q : Exit → Act → World → Prop} {w : World} {a0 : Act} {l : List Oper} (C : World → Prop) (R : World → World → Prop) (hm : P.follows .mixedOrders = true) (n : Nat) (hn : a0.tmps.size = n) (k : Nat)
    (hB' : tameB (l.take k) n = true) (hcut : cutkB n (l.take k) (l.drop k) = true) (hg : (l.drop k).all (fun o => o.guard.isNone) = true) (hC : C w.drew)
    (h : wpTame P C R ((l.take k).map (·.dst)) a0 (fun A W => wpList P l.toArray Q (l.drop k) A W) (l.take k).length (l.take k) []) : (Code.region id l.toArray true).wp P Q a0 w := by
  subst hn
  obtain ⟨G, hlen, _, hfin, hops⟩ := wpTame_facts (l.take k) [] h
  have hg' : ∀ o ∈ l.drop k, o.guard = none := fun o ho => by
    have := List.all_eq_true.1 hg o ho
    simpa using this
  have hfin' : ∀ A W, C W → Same0 ((l.take k).map (·.dst)) a0 A → (∀ j, j < (l.take k).length → Fact G A.eval W j) → nestQ P (l.drop k) Q .normal A W := by
    intro A W c s f
    exact nest_of _ hg' (hfin A W c s (by simpa using f))
  have h1 := tame_any (Q := nestQ P (l.drop k) Q) (Qn := fun A W => nestQ P (l.drop k) Q .normal A W) (fun _ _ h => h) hB' G (by simpa using hlen) hfin' (by simpa using hops) (l.take k).length (Array.replicate (l.take k).length false) a0 w.drew (by simp)
    (Nat.le_trans (List.length_filter_le _ _) (by simp)) hC ⟨rfl, rfl, fun _ _ => rfl⟩ (by
      intro j hj
      have : (Array.replicate (l.take k).length false).getD j false = false := by
        rw [Array.getD_eq_getD_getElem?, Array.getElem?_replicate]; split <;> rfl
      rw [this] at hj
      cases hj)
  refine wp_region_any hm ?_
  have h2 := any_nest (P := P) (n := a0.tmps.size) (l.drop k) (l.take k) (Q := Q) hcut h1
  rw [List.take_append_drop] at h2
  have e1 : (l.take k).length + (l.drop k).length = l.toArray.size := by rw [← List.length_append, List.take_append_drop]; simp
  rw [e1] at h2
  exact h2
end Go.Proofs.YtafdbgielmlihaaDoor
