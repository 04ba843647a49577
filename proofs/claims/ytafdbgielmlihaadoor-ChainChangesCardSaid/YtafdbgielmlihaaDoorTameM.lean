/- A region that draws its order and whose last two operations stand behind all others: they are walked by themselves, when the others are done. -/
import Derived.Test.YtafdbgielmlihaaDoorTameL
namespace Go.Proofs.YtafdbgielmlihaaDoor
open Go.RowKit Go.Shelf

theorem wp_lastQ' {P : Program} {oL : Oper} {Q : Exit → Act → World → Prop} {o : Oper} {a : Act} {w : World} {K : Act → World → Prop} (hh : o.wp P a w K Q) : o.wp P a w K (lastQ P oL Q) := by
  unfold Oper.wp at *
  generalize (execOp a.eval o).run P w = r at *
  cases r with
  | ok n w' =>
    cases n <;> simp only [Oper.upon] at hh ⊢ <;>
      first
        | exact hh
        | exact Calls.mono hh (fun e w'' he => by cases e <;> exact he)
  | halt x w' => cases x <;> simp only [Oper.upon] at hh ⊢ <;> exact hh

theorem tame_back {l : List Oper} {n : Nat} (hB : tameB l n = true) : ∀ (i : Nat) (o : Oper), l[i]? = some o → (∀ e ∈ o.after, Region.binds .any e = true → e.on < i) ∧ ∀ (j : Nat) (b : Bool), o.guard = some (j, b) → j < i := by
  intro i o hi
  unfold tameB at hB
  rw [Bool.and_eq_true, List.all_eq_true] at hB
  have h := hB.1 (o, i) (by rw [List.mem_zipIdx_iff_getElem?]; simpa using hi)
  simp only [Bool.and_eq_true] at h
  obtain ⟨⟨h1, h2⟩, h3⟩ := h
  refine ⟨fun e he hbd => ?_, fun j b hg => ?_⟩
  · rw [List.all_eq_true] at h1
    have := h1 e (Array.mem_toList_iff.2 he)
    simpa [hbd] using this
  · rw [hg] at h3
    simp only [Bool.and_eq_true, decide_eq_true_eq] at h3
    exact h3.1

theorem wp_region_tame_last2 {P : Program} {id : Nat} {Q : Exit → Act → World → Prop} {w : World} {a0 : Act} {l : List Oper} {o1 o2 : Oper} (C : World → Prop) (R : World → World → Prop) (hm : P.follows .mixedOrders = true) (n : Nat) (hn : a0.tmps.size = n)
    (hB : tameB ((l ++ [o1]) ++ [o2]) n = true) (hB1 : tameB (l ++ [o1]) n = true) (hB' : tameB l n = true) (hL : lastB ((l ++ [o1]) ++ [o2]) = true) (hL1 : lastB (l ++ [o1]) = true) (hg1 : o1.guard = none) (hg2 : o2.guard = none) (hC : C w.drew)
    (h : wpTame P C R (l.map (·.dst)) a0 (fun A W => wpList P ((l ++ [o1]) ++ [o2]).toArray Q [o1, o2] A W) l.length l []) : (Code.region id ((l ++ [o1]) ++ [o2]).toArray true).wp P Q a0 w := by
  subst hn
  obtain ⟨G, hlen, _, hfin, hops⟩ := wpTame_facts l [] h
  have hw1 : ∀ A : Act, Region.wanted o1 (yielded ((l ++ [o1]) ++ [o2]).toArray A.tmps) = true := fun A => by simp [Region.wanted, hg1]
  have hw2 : ∀ A : Act, Region.wanted o2 (yielded ((l ++ [o1]) ++ [o2]).toArray A.tmps) = true := fun A => by simp [Region.wanted, hg2]
  have hfin' : ∀ A W, C W → Same0 (l.map (·.dst)) a0 A → (∀ j, j < l.length → Fact G A.eval W j) → lastQ P o1 (lastQ P o2 Q) .normal A W := by
    intro A W c s f
    have := hfin A W c s (by simpa using f)
    simp only [wpList, hw1, hw2, if_true] at this
    rcases this with h' | ⟨h1, h2⟩
    · exact .inl (wp_lastQ' (Oper.wp_mono (fun A' W' h'' => h'') h'))
    · exact .inr ⟨h1, h2⟩
  have h1 := tame_any (Q := lastQ P o1 (lastQ P o2 Q)) (Qn := fun A W => lastQ P o1 (lastQ P o2 Q) .normal A W) (fun _ _ h => h) hB' G (by simpa using hlen) hfin' (by simpa using hops) l.length (Array.replicate l.length false) a0 w.drew (by simp)
    (Nat.le_trans (List.length_filter_le _ _) (by simp)) hC ⟨rfl, rfl, fun _ _ => rfl⟩ (by
      intro j hj
      have : (Array.replicate l.length false).getD j false = false := by
        rw [Array.getD_eq_getD_getElem?, Array.getElem?_replicate]; split <;> rfl
      rw [this] at hj
      cases hj)
  have hno : ∀ (m : Nat) (j : Nat) (o : Oper) (L : List Oper), L[j]? = some o → (Array.replicate m false).getD j false = true → ∀ e ∈ o.after, Region.binds .any e = true → (Array.replicate m false).getD e.on false = true := by
    intro m j o L ho hj
    have : (Array.replicate m false).getD j false = false := by
      rw [Array.getD_eq_getD_getElem?, Array.getElem?_replicate]; split <;> rfl
    rw [this] at hj
    cases hj
  refine wp_region_any hm ?_
  have h2 := tame_lastL (P := P) (Q := lastQ P o2 Q) (tame_back hB1) hL1 hg1 _ _ _ _ (by simp) (fun j o ho => hno _ j o l ho) h1
  rw [← Array.replicate_succ] at h2
  have h3 := tame_lastL (P := P) (Q := Q) (tame_back hB) hL hg2 _ _ _ _ (by simp) (fun j o ho => hno _ j o _ ho) h2
  rw [← Array.replicate_succ] at h3
  have e1 : ((l ++ [o1]) ++ [o2]).toArray.size = l.length + 1 + 1 := by simp
  rw [e1]
  exact h3
/-- The same, for the walk. -/
theorem wp_region_tame_cut2 {P : Program} {id : Nat} {Q : Exit → Act → World → Prop} {w : World} {a0 : Act} {l : List Oper} (C : World → Prop) (R : World → World → Prop) (hm : P.follows .mixedOrders = true) (n : Nat) (hn : a0.tmps.size = n) (o1 o2 : Oper) (ho2 : l.getLast? = some o2) (ho1 : l.dropLast.getLast? = some o1)
    (hB : tameB l n = true) (hB1 : tameB l.dropLast n = true) (hB' : tameB l.dropLast.dropLast n = true) (hL : lastB l = true) (hL1 : lastB l.dropLast = true) (hg1 : o1.guard = none) (hg2 : o2.guard = none) (hC : C w.drew)
    (h : wpTame P C R (l.dropLast.dropLast.map (·.dst)) a0 (fun A W => wpList P l.toArray Q [o1, o2] A W) l.dropLast.dropLast.length l.dropLast.dropLast []) : (Code.region id l.toArray true).wp P Q a0 w := by
  have e1 : l.dropLast.dropLast ++ [o1] = l.dropLast := by
    obtain ⟨ys, hy⟩ := List.getLast?_eq_some_iff.1 ho1
    rw [hy, List.dropLast_concat]
  have e2 : (l.dropLast.dropLast ++ [o1]) ++ [o2] = l := by
    rw [e1]
    obtain ⟨ys, hy⟩ := List.getLast?_eq_some_iff.1 ho2
    rw [hy, List.dropLast_concat]
  have := wp_region_tame_last2 (P := P) (id := id) (Q := Q) (w := w) (a0 := a0) (l := l.dropLast.dropLast) (o1 := o1) (o2 := o2) C R hm n hn (by rw [e2]; exact hB) (by rw [e1]; exact hB1) hB' (by rw [e2]; exact hL) (by rw [e1]; exact hL1) hg1 hg2 hC (by rw [e2]; exact h)
  rw [e2] at this
  exact this
end Go.Proofs.YtafdbgielmlihaaDoor
