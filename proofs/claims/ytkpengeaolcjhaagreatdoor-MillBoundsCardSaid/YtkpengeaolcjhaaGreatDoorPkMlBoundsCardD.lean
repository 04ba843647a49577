/- The end of a region that drew its order: the frame that came in, the region's own slots put in. -/
import Derived.Test.YtkpengeaolcjhaaGreatDoorPkMlBoundsCardB
import Derived.Test.YtkpengeaolcjhaaGreatDoorPkMlBoundsCardC
import Derived.WalkMore
import Derived.RegionTactic
namespace Go.Proofs.YtkpengeaolcjhaaGreatDoor
open Go.RowKit Go.Shelf

/-- The frame l with what ρ gives put into the slots of F. -/
def putF (ρ : Operand → Value) : Facts → List Value → List Value
  | [], l => l
  | (some d, _) :: F, l => putF ρ F (l.set d (ρ (.tmp d)))
  | (none, _) :: F, l => putF ρ F l
theorem putF_len (ρ : Operand → Value) : ∀ (F : Facts) (l : List Value), (putF ρ F l).length = l.length
  | [], l => rfl
  | (some d, _) :: F, l => by rw [putF, putF_len ρ F, List.length_set]
  | (none, _) :: F, l => by rw [putF, putF_len ρ F]
theorem putF_in (ρ : Operand → Value) : ∀ (F : Facts) (l : List Value) (j : Nat), j < l.length → (some j ∈ F.map (·.1) ∨ l[j]? = some (ρ (.tmp j))) → (putF ρ F l)[j]? = some (ρ (.tmp j))
  | [], l, j, _, h => by rw [putF]; simpa using h
  | (some d, U) :: F, l, j, hj, h => by
    rw [putF]
    refine putF_in ρ F _ j (by rw [List.length_set]; exact hj) ?_
    by_cases e : d = j
    · subst e
      right
      rw [List.getElem?_set_self hj]
    · rcases h with h | h
      · rw [List.map_cons, List.mem_cons] at h
        rcases h with h | h
        · injection h with h
          exact absurd h.symm e
        · exact .inl h
      · right
        rw [List.getElem?_set_ne e]
        exact h
  | (none, U) :: F, l, j, hj, h => by
    rw [putF]
    refine putF_in ρ F _ j hj ?_
    rcases h with h | h
    · rw [List.map_cons, List.mem_cons] at h
      rcases h with h | h
      · cases h
      · exact .inl h
    · exact .inr h
section
variable {P : Program} {C : World → Prop} {R : World → World → Prop} {a0 : Act} {ds : List (Option Tmp)} {Q : Act → World → Prop} {n : Nat} {F : Facts}
theorem tame_end_put (hds : F.map (·.1) = ds) (hn : n = F.length) (h : ∀ ρ W, C W → Rd a0 ds ρ → allF F ρ W → Q { tmps := (putF ρ F a0.tmps.toList).toArray, defers := a0.defers } W) : wpTame P C R ds a0 Q n [] F := by
  intro A W hC hS hF
  have hA : A = { tmps := (putF A.eval F a0.tmps.toList).toArray, defers := a0.defers } := by
    obtain ⟨h1, h2, h3⟩ := hS
    obtain ⟨tmps, defers⟩ := A
    simp only at h1 h2
    subst h1
    congr 1
    apply Array.ext_getElem?
    intro j
    by_cases hj : j < tmps.size
    · have e : (Act.mk tmps a0.defers).eval (.tmp j) = tmps[j] := by simp [Act.eval, hj]
      have hp : (putF (Act.mk tmps a0.defers).eval F a0.tmps.toList).toArray[j]? = some tmps[j] := by
        rw [List.getElem?_toArray, putF_in _ F _ j (by simpa using h2 ▸ hj), e]
        by_cases hm : some j ∈ F.map (·.1)
        · exact .inl hm
        · right
          have hni : notIn ds j = true := by
            unfold notIn
            rw [List.all_eq_true]
            intro d hd
            rw [← hds] at hd
            simp only [bne_iff_ne, ne_eq]
            intro e2
            exact hm (e2 ▸ hd)
          rw [h3 j hni]
          have hj2 : j < a0.tmps.size := h2 ▸ hj
          simp [Act.eval, hj2]
      rw [hp]; simp [hj]
    · rw [Array.getElem?_eq_none (by omega), List.getElem?_toArray, List.getElem?_eq_none (by rw [putF_len]; simp; omega)]
  rw [hA]
  exact h A.eval W hC (Rd.of hS) (allF_of _ _ _ (hn ▸ hF))
end
end Go.Proofs.YtkpengeaolcjhaaGreatDoor
/- middlingref03.SameInts, Same: of equal lists they are true. -/
namespace Go.Proofs.YtkpengeaolcjhaaGreatDoor
open Go.RowKit Go.Shelf
set_option maxRecDepth 100000

end Go.Proofs.YtkpengeaolcjhaaGreatDoor
/- middlingref03.Same: of bales with the same data it is true. -/
namespace Go.Proofs.YtkpengeaolcjhaaGreatDoor
open Go.RowKit Go.Shelf
set_option maxRecDepth 100000

set_option maxHeartbeats 1000000 in
theorem same_any (b : Bale) (dv wv dv' wv' : Value) (w : World) (hd : SlD w dv b.draws) (hw : SlW w wv b.weighs) (hd' : SlD w dv' b.draws) (hw' : SlW w wv' b.weighs) :
    Calls Tryz.prog 98 #[valB b dv wv, valB b dv' wv'] w fun e w' => e = .returned (.bool true) ∧ Ext w w' := by
  have HD := Lib.hid hd
  have HW := Lib.hid hw
  have HD' := Lib.hid hd'
  have HW' := Lib.hid hw'
  obtain ⟨A, n, cp, rfl, hn, hlc, hcm⟩ := hd.form
  obtain ⟨A2, n2, cp2, rfl, hn2, hlc2, hcm2⟩ := hw.form
  obtain ⟨A3, n3, cp3, rfl, hn3, hlc3, hcm3⟩ := hd'.form
  obtain ⟨A4, n4, cp4, rfl, hn4, hlc4, hcm4⟩ := hw'.form
  have e1 : n3 = n := by have := hn.out; have := hn3.out; omega
  have e2 : n4 = n2 := by have := hn2.out; have := hn4.out; omega
  subst e1 e2
  have nq := neq57
  clear hd hw hd' hw'
  go_enter Tryz.func98, Tryz.ntmps98
  go_wp2
  go_loopg [5] n3 (fun gg s wr => ∃ (k : Nat), k ≤ n3 ∧ n3 - k ≤ gg ∧ s = .int .i64 k ∧ Aside (Blk wr w.heap.size 61 #[.int .i64 b.id, .int .i64 b.layers, .int .i64 b.dry.lo, .int .i64 b.dry.hi, .slice A n3 cp, .slice A2 n4 cp2]) ∧ Aside (Blk wr (w.heap.size + 1) 61 #[.int .i64 b.id, .int .i64 b.layers, .int .i64 b.dry.lo, .int .i64 b.dry.hi, .slice A3 n3 cp3, .slice A4 n4 cp4]) ∧ Aside (Ext w wr))
  case atStart => exact ⟨0, by omega, by omega, rfl, (Blk.at_ rfl).alloc _, Blk.at_ (by simp), (Ext.al _ _).alloc _⟩
  case round =>
    obtain ⟨k, hk, hg, rfl, B1, B2, EW⟩ := hrel
    have q4 : wr.cell? ⟨w.heap.size, 4, none⟩ = some (.slice A n3 cp) := B1.out.cell 4
    have q5 : wr.cell? ⟨w.heap.size, 5, none⟩ = some (.slice A2 n4 cp2) := B1.out.cell 5
    have r4 : wr.cell? ⟨w.heap.size + 1, 4, none⟩ = some (.slice A3 n3 cp3) := B2.out.cell 4
    have r5 : wr.cell? ⟨w.heap.size + 1, 5, none⟩ = some (.slice A4 n4 cp4) := B2.out.cell 5
    by_cases hlt : k < n3
    · have hjz : (k : Int) < (n3 : Int) := by omega
      obtain ⟨bb, off, x, rfl, hx, hb, hcell⟩ := HD.out.at_ hlt
      obtain ⟨bb', off', x', rfl, hx', hb', hcell'⟩ := HD'.out.at_ hlt
      have hxx : x' = x := by rw [hx] at hx'; injection hx' with h; exact h.symm
      subst hxx
      have f4 := fun W (h : Ext wr W) => (show W.cell? ⟨w.heap.size, 4, none⟩ = some (.slice (some ⟨bb, off, none⟩) n3 cp) from (B1.out.ext h).cell 4)
      have g4 := fun W (h : Ext wr W) => (show W.cell? ⟨w.heap.size + 1, 4, none⟩ = some (.slice (some ⟨bb', off', none⟩) n3 cp3) from (B2.out.ext h).cell 4)
      have c0 := fun W (h : Ext wr W) => (SlD.cells hcell (EW.out.trans h)).1
      have c1 := fun W (h : Ext wr W) => (SlD.cells hcell (EW.out.trans h)).2.1
      have c2 := fun W (h : Ext wr W) => (SlD.cells hcell (EW.out.trans h)).2.2.1
      have c3 := fun W (h : Ext wr W) => (SlD.cells hcell (EW.out.trans h)).2.2.2
      have d0 := fun W (h : Ext wr W) => (SlD.cells hcell' (EW.out.trans h)).1
      have d1 := fun W (h : Ext wr W) => (SlD.cells hcell' (EW.out.trans h)).2.1
      have d2 := fun W (h : Ext wr W) => (SlD.cells hcell' (EW.out.trans h)).2.2.1
      have d3 := fun W (h : Ext wr W) => (SlD.cells hcell' (EW.out.trans h)).2.2.2
      have nd := neq134
      clear hx hx' hcell hcell' q5 r5
      go_wp2
      refine wp_region_tame (fun W => Ext wr W) (fun W W' => Ext W W') (by kernel_rfl) 80 rfl (by decide +kernel) (Ext.refl _).drew ?_
      repeat (apply tame_q rfl; (intro ρ W hC hr hD; (obtain ⟨hrc, hrg, hrf, hrs⟩ := hr); (simp [go_sem] at hD); go_simp; first | exact ⟨⟨hC, Ext.refl _⟩, rfl⟩ | exact ⟨⟨hC, RS.refl _⟩, rfl⟩ | exact rfl); simp only [List.nil_append, List.cons_append])
      refine tame_end 80 rfl rfl (fun ρ W hC hr hF => ?_)
      obtain ⟨hrc, hrg, hrf, hrs⟩ := hr
      simp [go_sem] at hF
      apply frame_to
      · go_simp
        exact rfl
      clear hF hrs hrc hrg hrf
      have HC := Lib.hid hC; clear hC f4 g4 c0 c1 c2 c3 d0 d1 d2 d3
      go_wp2
      go_roundg (n3 - (k + 1))
      case measure => omega
      case rel => exact ⟨k + 1, by omega, by omega, rfl, B1.out.ext HC.out, B2.out.ext HC.out, EW.out.trans HC.out⟩
    · clear r4
      have hwr : Ext w wr := EW.out
      have B1o := Lib.hid B1.out
      have B2o := Lib.hid B2.out
      have EWo := Lib.hid EW.out
      clear q5 r5 B1 B2 EW hwr
      go_wp2
      go_loopg [6] n4 (fun gg s wr => ∃ (k : Nat), k ≤ n4 ∧ n4 - k ≤ gg ∧ s = .int .i64 k ∧ Aside (Blk wr w.heap.size 61 #[.int .i64 b.id, .int .i64 b.layers, .int .i64 b.dry.lo, .int .i64 b.dry.hi, .slice A n3 cp, .slice A2 n4 cp2]) ∧ Aside (Blk wr (w.heap.size + 1) 61 #[.int .i64 b.id, .int .i64 b.layers, .int .i64 b.dry.lo, .int .i64 b.dry.hi, .slice A3 n3 cp3, .slice A4 n4 cp4]) ∧ Aside (Ext w wr))
      case atStart => exact ⟨0, by omega, by omega, rfl, B1o.out, B2o.out, EWo.out⟩
      case round =>
        clear B1o B2o EWo
        obtain ⟨k, hk, hg, rfl, B1, B2, EW⟩ := hrel
        have q5 : wr.cell? ⟨w.heap.size, 5, none⟩ = some (.slice A2 n4 cp2) := B1.out.cell 5
        have r5 : wr.cell? ⟨w.heap.size + 1, 5, none⟩ = some (.slice A4 n4 cp4) := B2.out.cell 5
        by_cases hlt : k < n4
        · have hjz : (k : Int) < (n4 : Int) := by omega
          obtain ⟨bb, off, x, rfl, hx, hb, hcell⟩ := HW.out.at_ hlt
          obtain ⟨bb', off', x', rfl, hx', hb', hcell'⟩ := HW'.out.at_ hlt
          have hxx : x' = x := by rw [hx] at hx'; injection hx' with h; exact h.symm
          subst hxx
          have f5 := fun W (h : Ext wr W) => (show W.cell? ⟨w.heap.size, 5, none⟩ = some (.slice (some ⟨bb, off, none⟩) n4 cp2) from (B1.out.ext h).cell 5)
          have g5 := fun W (h : Ext wr W) => (show W.cell? ⟨w.heap.size + 1, 5, none⟩ = some (.slice (some ⟨bb', off', none⟩) n4 cp4) from (B2.out.ext h).cell 5)
          have c0 := fun W (h : Ext wr W) => (SlW.cells hcell (EW.out.trans h)).1
          have c1 := fun W (h : Ext wr W) => (SlW.cells hcell (EW.out.trans h)).2.1
          have c2 := fun W (h : Ext wr W) => (SlW.cells hcell (EW.out.trans h)).2.2.1
          have c3 := fun W (h : Ext wr W) => (SlW.cells hcell (EW.out.trans h)).2.2.2
          have d0 := fun W (h : Ext wr W) => (SlW.cells hcell' (EW.out.trans h)).1
          have d1 := fun W (h : Ext wr W) => (SlW.cells hcell' (EW.out.trans h)).2.1
          have d2 := fun W (h : Ext wr W) => (SlW.cells hcell' (EW.out.trans h)).2.2.1
          have d3 := fun W (h : Ext wr W) => (SlW.cells hcell' (EW.out.trans h)).2.2.2
          have nd := neq186
          clear hx hx' hcell hcell'
          go_wp2
          refine wp_region_tame (fun W => Ext wr W) (fun W W' => Ext W W') (by kernel_rfl) 80 rfl (by decide +kernel) (Ext.refl _).drew ?_
          repeat (apply tame_q rfl; (intro ρ W hC hr hD; (obtain ⟨hrc, hrg, hrf, hrs⟩ := hr); (simp [go_sem] at hD); go_simp; first | exact ⟨⟨hC, Ext.refl _⟩, rfl⟩ | exact ⟨⟨hC, RS.refl _⟩, rfl⟩ | exact rfl); simp only [List.nil_append, List.cons_append])
          refine tame_end 80 rfl rfl (fun ρ W hC hr hF => ?_)
          obtain ⟨hrc, hrg, hrf, hrs⟩ := hr
          simp [go_sem] at hF
          apply frame_to
          · go_simp
            exact rfl
          clear hF hrs hrc hrg hrf
          have HC := Lib.hid hC; clear hC f5 g5 c0 c1 c2 c3 d0 d1 d2 d3
          go_wp2
          go_roundg (n4 - (k + 1))
          case measure => omega
          case rel => exact ⟨k + 1, by omega, by omega, rfl, B1.out.ext HC.out, B2.out.ext HC.out, EW.out.trans HC.out⟩
        · go_wp2
          go_ret
          exact ⟨rfl, EW.out⟩
end Go.Proofs.YtkpengeaolcjhaaGreatDoor
/- A region that draws its order and ends in operations that each stand behind all before them: these are walked by themselves, in the order of the text. -/
namespace Go.Proofs.YtkpengeaolcjhaaGreatDoor
open Go.RowKit Go.Shelf

def nestQ (P : Program) : List Oper → (Exit → Act → World → Prop) → (Exit → Act → World → Prop)
  | [], Q => Q
  | o :: r, Q => lastQ P o (nestQ P r Q)
theorem wp_nest {P : Program} {o : Oper} {a : Act} {w : World} {K : Act → World → Prop} : ∀ (r : List Oper) {Q : Exit → Act → World → Prop}, o.wp P a w K Q → o.wp P a w K (nestQ P r Q)
  | [], _, h => h
  | _ :: r, _, h => wp_lastQ' (wp_nest r h)
theorem lets_nest {P : Program} : ∀ (r : List Oper) {Q : Exit → Act → World → Prop}, LetsOut Q → LetsOut (nestQ P r Q)
  | [], _, h => h
  | _ :: r, _, h => lets_nest r h
theorem nest_of {P : Program} {ops : Array Oper} : ∀ (r : List Oper) {Q : Exit → Act → World → Prop} {A : Act} {W : World}, (∀ o ∈ r, o.guard = none) → wpList P ops Q r A W → nestQ P r Q .normal A W
  | [], _, _, _, _, h => h
  | o :: r, Q, A, W, hg, h => by
    have hw : Region.wanted o (yielded ops A.tmps) = true := by simp [Region.wanted, hg o (List.mem_cons_self ..)]
    simp only [wpList, hw, if_true] at h
    show lastQ P o (nestQ P r Q) .normal A W
    rcases h with h | ⟨h1, h2⟩
    · exact .inl (wp_nest r (Oper.wp_mono (fun A' W' h'' => nest_of r (fun o' ho' => hg o' (List.mem_cons_of_mem _ ho')) h'') h))
    · exact .inr ⟨h1, lets_nest r h2⟩
def cutkB (n : Nat) : List Oper → List Oper → Bool
  | _, [] => true
  | l, o :: r => (tameB (l ++ [o]) n && lastB (l ++ [o])) && (o.guard.isNone && cutkB n (l ++ [o]) r)
theorem any_nest {P : Program} {n : Nat} : ∀ (r l : List Oper) {Q : Exit → Act → World → Prop} {fuel : Nat} {A : Act} {W : World}, cutkB n l r = true → wpAny P .any l.toArray (nestQ P r Q) fuel (Array.replicate l.length false) A W →
    wpAny P .any (l ++ r).toArray Q (fuel + r.length) (Array.replicate (l.length + r.length) false) A W
  | [], l, Q, fuel, A, W, _, h => by simpa [nestQ] using h
  | o :: r, l, Q, fuel, A, W, hc, h => by
    unfold cutkB at hc
    simp only [Bool.and_eq_true, Option.isNone_iff_eq_none] at hc
    obtain ⟨⟨h1, h2⟩, h3, h4⟩ := hc
    have h5 := tame_lastL (P := P) (Q := nestQ P r Q) (tame_back h1) h2 h3 _ _ _ _ (by simp) (by
      intro j o' ho hj
      have : (Array.replicate l.length false).getD j false = false := by
        rw [Array.getD_eq_getD_getElem?, Array.getElem?_replicate]; split <;> rfl
      rw [this] at hj
      cases hj) h
    rw [← Array.replicate_succ] at h5
    have h6 := any_nest r (l ++ [o]) h4 (by simpa using h5)
    simpa [Nat.add_assoc, Nat.add_comm, Nat.add_left_comm] using h6

theorem wp_region_tame_cutk {P : Program} {id : Nat} {Q : Exit → Act → World → Prop} {w : World} {a0 : Act} {l : List Oper} (C : World → Prop) (R : World → World → Prop) (hm : P.follows .mixedOrders = true) (n : Nat) (hn : a0.tmps.size = n) (k : Nat)
    (hB' : tameB (l.take k) n = true) (hcut : cutkB n (l.take k) (l.drop k) = true) (hg : (l.drop k).all (fun o => o.guard.isNone) = true) (hC : C w.drew)
    (h : wpTame P C R ((l.take k).map (·.dst)) a0 (fun A W => wpList P l.toArray Q (l.drop k) A W) (l.take k).length (l.take k) []) : (Code.region id l.toArray true).wp P Q a0 w := by
  subst hn
  obtain ⟨G, hlen, _, hfin, hops⟩ := wpTame_facts (l.take k) [] h
  have hg' : ∀ o ∈ l.drop k, o.guard = none := fun o ho => by
    have := List.all_eq_true.1 hg o ho
    simpa using this
  have hfin' : ∀ A W, C W → Same0 ((l.take k).map (·.dst)) a0 A → (∀ j, j < (l.take k).length → Fact G A.eval W j) → nestQ P (l.drop k) Q .normal A W := by
    intro A W c s f
    exact nest_of _ hg' (hfin A W c s (by simpa using f))
  have h1 := tame_any (Q := nestQ P (l.drop k) Q) (Qn := fun A W => nestQ P (l.drop k) Q .normal A W) (fun _ _ h => h) hB' G (by simpa using hlen) hfin' (by simpa using hops) (l.take k).length (Array.replicate (l.take k).length false) a0 w.drew (by simp)
    (Nat.le_trans (List.length_filter_le _ _) (by simp)) hC ⟨rfl, rfl, fun _ _ => rfl⟩ (by
      intro j hj
      have : (Array.replicate (l.take k).length false).getD j false = false := by
        rw [Array.getD_eq_getD_getElem?, Array.getElem?_replicate]; split <;> rfl
      rw [this] at hj
      cases hj)
  refine wp_region_any hm ?_
  have h2 := any_nest (P := P) (n := a0.tmps.size) (l.drop k) (l.take k) (Q := Q) hcut h1
  rw [List.take_append_drop] at h2
  have e1 : (l.take k).length + (l.drop k).length = l.toArray.size := by rw [← List.length_append, List.take_append_drop]; simp
  rw [e1] at h2
  exact h2
end Go.Proofs.YtkpengeaolcjhaaGreatDoor
/- A region that draws its order, with a word on what is done, on the temporaries and on the world together. -/
namespace Go.Proofs.YtkpengeaolcjhaaGreatDoor
open Go.RowKit Go.Shelf

def updD {α : Type} (f : Nat → α) (i : Nat) (v : α) : Nat → α := fun j => if j = i then v else f j
theorem updD_self {α : Type} (f : Nat → α) (i : Nat) (v : α) : updD f i v i = v := if_pos rfl
theorem updD_ne {α : Type} {f : Nat → α} {i j : Nat} {v : α} (h : j ≠ i) : updD f i v j = f j := if_neg h
def updDO (f : Nat → Value) (d : Option Tmp) (v : Value) : Nat → Value := match d with | some d => updD f d v | none => f
def evT (A : Act) : Nat → Value := fun t => A.eval (.tmp t)
theorem evT_put {A : Act} {d : Option Tmp} (h : ∀ t, d = some t → t < A.tmps.size) (v : Value) : evT (A.put d v) = updDO (evT A) d v := by
  funext t
  cases d with
  | none => rfl
  | some d =>
    show (A.put (some d) v).eval (.tmp t) = if t = d then v else A.eval (.tmp t)
    by_cases e : t = d
    · subst e; rw [if_pos rfl]; exact eval_put_self (h t rfl)
    · rw [if_neg e]; exact eval_put_ne fun e' => e e'.symm
/-- The walk, in the order of the text. -/
def wpTameD (P : Program) (C : World → Prop) (R : World → World → Prop) (I : (Nat → Bool) → (Nat → Value) → World → Prop) (ds : List (Option Tmp)) (a0 : Act) (Q : Act → World → Prop) (n : Nat) : List Oper → Facts → Prop
  | [], F => ∀ A W, C W → Same0 ds a0 A → I (fun j => decide (j < n)) (evT A) W → (∀ j, j < n → Fact F A.eval W j) → Q A W
  | o :: rest, F => ∃ U : Value → World → Prop, (∀ v W W', C W' → R W W' → U v W → U v W') ∧
      (∀ L A W, C W → Same0 ds a0 A → I L (evT A) W → L F.length = false → (∀ e ∈ o.after, Region.binds .any e = true → L e.on = true) → (∀ e ∈ o.after, Region.binds .any e = true → Fact F A.eval W e.on) →
        o.guard = none ∧ opGives P C R o A.eval W (fun v W' => U (if o.dst.isSome then v else undef) W' ∧ I (updD L F.length true) (updDO (evT A) o.dst v) W')) ∧
      wpTameD P C R I ds a0 Q n rest (F ++ [(o.dst, U)])
theorem wpTameD_facts {P : Program} {C : World → Prop} {R : World → World → Prop} {ds : List (Option Tmp)} {a0 : Act} {Q : Act → World → Prop} {n : Nat} {I : (Nat → Bool) → (Nat → Value) → World → Prop} : ∀ (l : List Oper) (F : Facts), wpTameD P C R I ds a0 Q n l F →
    ∃ G : Facts, G.length = F.length + l.length ∧ (∀ j, j < F.length → G[j]? = F[j]?) ∧ (∀ A W, C W → Same0 ds a0 A → I (fun j => decide (j < n)) (evT A) W → (∀ j, j < n → Fact G A.eval W j) → Q A W) ∧
      ∀ i o, l[i]? = some o → ∃ U, G[F.length + i]? = some (o.dst, U) ∧ (∀ v W W', C W' → R W W' → U v W → U v W') ∧
        (∀ L A W, C W → Same0 ds a0 A → I L (evT A) W → L (F.length + i) = false → (∀ e ∈ o.after, Region.binds .any e = true → L e.on = true) → (∀ e ∈ o.after, Region.binds .any e = true → Fact (G.take (F.length + i)) A.eval W e.on) →
          o.guard = none ∧ opGives P C R o A.eval W (fun v W' => U (if o.dst.isSome then v else undef) W' ∧ I (updD L (F.length + i) true) (updDO (evT A) o.dst v) W'))
  | [], F, h => ⟨F, by simp, fun _ _ => rfl, h, fun i o hi => by simp at hi⟩
  | o :: rest, F, h => by
    obtain ⟨U, hst, hstep, hrest⟩ := h
    obtain ⟨G, hlen, hpre, hfin, hops⟩ := wpTameD_facts rest (F ++ [(o.dst, U)]) hrest
    have hF : G.take F.length = F := by
      apply List.ext_getElem?
      intro j
      rw [List.getElem?_take]
      by_cases hj : j < F.length
      · rw [if_pos hj, hpre j (by simp; omega), List.getElem?_append_left hj]
      · rw [if_neg hj, List.getElem?_eq_none (by omega)]
    refine ⟨G, by rw [hlen]; simp; omega, fun j hj => by rw [hpre j (by simp; omega), List.getElem?_append_left hj], hfin, fun i o' hi => ?_⟩
    cases i with
    | zero =>
      simp at hi; subst hi
      refine ⟨U, ?_, hst, ?_⟩
      · rw [Nat.add_zero, hpre F.length (by simp)]; simp
      · rw [Nat.add_zero, hF]; exact hstep
    | succ i =>
      obtain ⟨U', h1, h2, h3⟩ := hops i o' (by simpa using hi)
      have e : (F ++ [(o.dst, U)]).length + i = F.length + (i + 1) := by simp; omega
      rw [e] at h1 h3
      exact ⟨U', h1, h2, h3⟩


section
variable {P : Program} {C : World → Prop} {R : World → World → Prop} {a0 : Act} {l : List Oper}

theorem tame_anyD {I : (Nat → Bool) → (Nat → Value) → World → Prop} {Q : Exit → Act → World → Prop} {Qn : Act → World → Prop} (hQ : ∀ A W, Qn A W → Q .normal A W) (hB : tameB l a0.tmps.size = true) (G : Facts) (hlen : G.length = l.length)
    (hfin : ∀ A W, C W → Same0 (l.map (·.dst)) a0 A → I (fun j => decide (j < l.length)) (evT A) W → (∀ j, j < l.length → Fact G A.eval W j) → Qn A W)
    (hops : ∀ i o, l[i]? = some o → ∃ U, G[i]? = some (o.dst, U) ∧ (∀ v W W', C W' → R W W' → U v W → U v W') ∧
        (∀ L A W, C W → Same0 (l.map (·.dst)) a0 A → I L (evT A) W → L i = false → (∀ e ∈ o.after, Region.binds .any e = true → L e.on = true) → (∀ e ∈ o.after, Region.binds .any e = true → Fact (G.take i) A.eval W e.on) → o.guard = none ∧ opGives P C R o A.eval W (fun v W' => U (if o.dst.isSome then v else undef) W' ∧ I (updD L i true) (updDO (evT A) o.dst v) W'))) :
    ∀ (fuel : Nat) (listed : Array Bool) (A : Act) (W : World), listed.size = l.length → ((List.range l.length).filter fun j => !listed.getD j true).length ≤ fuel → C W → Same0 (l.map (·.dst)) a0 A → I (fun j => listed.getD j false) (evT A) W →
      (∀ j, listed.getD j false = true → Fact G A.eval W j) → wpAny P .any l.toArray Q fuel listed A W := by
  have hB' := hB
  unfold tameB at hB'
  rw [Bool.and_eq_true, List.all_eq_true, List.all_eq_true] at hB'
  obtain ⟨hb1, hb2⟩ := hB'
  have hback : ∀ (i : Nat) (o : Oper), l[i]? = some o → (∀ e ∈ o.after, Region.binds .any e = true → e.on < i) ∧ (∀ d, o.dst = some d → d < a0.tmps.size) ∧ (∀ (j : Nat) (b : Bool), o.guard = some (j, b) → j < i ∧ ∃ e ∈ o.after, e.on = j ∧ Region.binds .any e = true) := by
    intro i o hi
    have h := hb1 (o, i) (by rw [List.mem_zipIdx_iff_getElem?]; simpa using hi)
    simp only [Bool.and_eq_true] at h
    obtain ⟨⟨h1, h2⟩, h3⟩ := h
    refine ⟨fun e he hbd => ?_, fun d hd => ?_, fun j b hg => ?_⟩
    · rw [List.all_eq_true] at h1
      have := h1 e (Array.mem_toList_iff.2 he)
      simpa [hbd] using this
    · rw [hd] at h2; simpa using h2
    · rw [hg] at h3
      simp only [Bool.and_eq_true, decide_eq_true_eq] at h3
      refine ⟨h3.1, ?_⟩
      obtain ⟨_, h3⟩ := h3
      rw [List.any_eq_true] at h3
      obtain ⟨e, he, h4⟩ := h3
      exact ⟨e, Array.mem_toList_iff.1 he, by simpa using h4⟩
  have hdist : ∀ (i j : Nat) (o p : Oper) (d : Tmp), l[i]? = some o → l[j]? = some p → o.dst = some d → i ≠ j → p.dst ≠ some d := by
    intro i j o p d hi hj hd hne
    have h := hb2 (o, i) (by rw [List.mem_zipIdx_iff_getElem?]; simpa using hi)
    simp only [hd] at h
    rw [List.all_eq_true] at h
    have := h (p, j) (by rw [List.mem_zipIdx_iff_getElem?]; simpa using hj)
    simpa [hne] using this
  have hall : ∀ (listed : Array Bool) (A : Act) (W : World), listed.size = l.length → C W → Same0 (l.map (·.dst)) a0 A → I (fun j => listed.getD j false) (evT A) W → (∀ j, listed.getD j false = true → Fact G A.eval W j) → Region.ready .any l.toArray listed = [] → Q .normal A W := by
    intro listed A W hs hC hS hIA hF hr
    suffices key : ∀ k, k < l.length → listed.getD k false = true by
      refine hQ _ _ (hfin A W hC hS ?_ fun j hj => hF j (key j hj))
      have e : (fun j => listed.getD j false) = fun j => decide (j < l.length) := by
        funext j
        by_cases hj : j < l.length
        · rw [key j hj, decide_eq_true hj]
        · rw [decide_eq_false hj, Array.getD_eq_getD_getElem?, Array.getElem?_eq_none (by omega)]; rfl
      rw [e] at hIA
      exact hIA
    -- the least one that is not listed would be ready
    · intro k
      induction k using Nat.strongRecOn with
      | _ k ih =>
        intro hk
        cases hv : listed.getD k false with
        | true => rfl
        | false =>
          exfalso
          have hmem : k ∈ Region.ready .any l.toArray listed := by
            rw [mem_ready]
            have hkl : k < listed.size := by omega
            refine ⟨by simpa [Array.getD_eq_getD_getElem?, hkl] using hv, l[k], by simp, fun e he hb => ?_⟩
            have := (hback k _ (List.getElem?_eq_getElem hk)).1 e he hb
            exact ih e.on this (by omega)
          rw [hr] at hmem
          cases hmem
  intro fuel
  induction fuel with
  | zero =>
    intro listed A W hs hcount hC hS hIA hF
    have hr : Region.ready .any l.toArray listed = [] := by
      rw [List.eq_nil_iff_forall_not_mem]
      intro k hk
      rw [mem_ready] at hk
      obtain ⟨h0, o, ho, _⟩ := hk
      have hkl : k < l.length := by simpa using (Array.getElem?_eq_some_iff.1 ho).1
      have : k ∈ (List.range l.length).filter fun j => !listed.getD j true := by simp [hkl]; simpa using h0
      have := List.length_pos_of_mem this
      omega
    exact ⟨hr, hall listed A W hs hC hS hIA hF hr⟩
  | succ fuel ih =>
    intro listed A W hs hcount hC hS hIA hF
    refine ⟨hall listed A W hs hC hS hIA hF, fun i hi => ?_⟩
    rw [mem_ready] at hi
    obtain ⟨h0, o, ho, hdeps⟩ := hi
    have hil : i < l.length := by simpa using (Array.getElem?_eq_some_iff.1 ho).1
    have hlo : l[i]? = some o := by simpa using ho
    obtain ⟨U, hU, hst, hstep⟩ := hops i o hlo
    obtain ⟨hb, hdb, hgb⟩ := hback i o hlo
    have htake : ∀ j, j < i → Fact (G.take i) A.eval W j = Fact G A.eval W j := fun j hj => by
      unfold Fact; rw [List.getElem?_take, if_pos hj]
    have h0' : listed.getD i false = false := by
      have : i < listed.size := by omega
      simpa [Array.getD_eq_getD_getElem?, this] using h0
    obtain ⟨hgn, hstep'⟩ := hstep _ A W hC hS hIA h0' (fun e he hbd => hdeps e he hbd) (fun e he hbd => by rw [htake e.on (hb e he hbd)]; exact hF e.on (hdeps e he hbd))
    have hrun : Region.wanted o (yielded l.toArray A.tmps) = runs (G.take i) A.eval o.guard := by
      unfold Region.wanted runs
      cases hg : o.guard with
      | none => rfl
      | some jb =>
        obtain ⟨j, b⟩ := jb
        obtain ⟨hj, _⟩ := hgb j b hg
        have hjl : j < l.length := by omega
        obtain ⟨Uj, hUj, _⟩ := hops j l[j] (List.getElem?_eq_getElem hjl)
        simp only [List.getElem?_take, if_pos hj, hUj]
        cases hd : (l[j]).dst with
        | none =>
          simp only [yielded]
          simp [List.getElem?_eq_getElem hjl, hd]
        | some d => exact yielded_isB (by simp) hd b
    -- what stands behind the operation
    have hnext : ∀ (v : Value) (W' : World), C W' → I (updD (fun j => listed.getD j false) i true) (updDO (evT A) o.dst v) W' → (∀ j d V, G[j]? = some (d, V) → listed.getD j false = true → ∀ u, V u W → V u W') → U (if o.dst.isSome then v else undef) W' →
        wpAny P .any l.toArray Q fuel (listed.setIfInBounds i true) (A.put o.dst v) W' := by
      intro v W' hC' hI' hkeep hUv
      refine ih _ _ _ (by simpa using hs) ?_ hC' (same0_put hS (by rw [List.mem_map]; exact ⟨o, List.mem_of_getElem? hlo, rfl⟩) v) ?_ ?_
      · have hsub : ((List.range l.length).filter fun j => !(listed.setIfInBounds i true).getD j true).length < ((List.range l.length).filter fun j => !listed.getD j true).length := by
          have h1 : (List.range l.length).filter (fun j => !(listed.setIfInBounds i true).getD j true) = ((List.range l.length).filter fun j => !listed.getD j true).filter (fun j => j != i) := by
            rw [List.filter_filter]
            refine List.filter_congr fun j hj => ?_
            by_cases hji : j = i
            · subst hji
              simp [Array.getD_eq_getD_getElem?, show j < listed.size by omega]
            · rw [getD_set_ne true (Ne.symm hji)]; simp [hji]
          rw [h1]
          have hmem : i ∈ (List.range l.length).filter fun j => !listed.getD j true := by simp [hil]; simpa using h0
          refine Nat.lt_of_le_of_ne (List.length_filter_le _ _) fun he => ?_
          have := (List.length_filter_eq_length_iff.1 he) i hmem
          simp at this
        omega
      · have e1 : (fun j => (listed.setIfInBounds i true).getD j false) = updD (fun j => listed.getD j false) i true := by
          funext j
          unfold updD
          by_cases hji : j = i
          · subst hji; rw [if_pos rfl, Array.getD_eq_getD_getElem?, Array.getElem?_setIfInBounds_self_of_lt (by omega)]; rfl
          · rw [if_neg hji]; exact getD_set_ne false (Ne.symm hji)
        rw [e1, evT_put (fun t ht => by rw [hS.2.1]; exact hdb t ht)]
        exact hI'
      · intro j hj
        by_cases hji : j = i
        · subst hji
          unfold Fact
          rw [hU]
          cases hd : o.dst with
          | none => simpa [hd, atD] using hUv
          | some d =>
            have hsz : d < A.tmps.size := by rw [hS.2.1]; exact hdb d hd
            simp only [atD, eval_put_self hsz]
            simpa [hd] using hUv
        · rw [getD_set_ne false (Ne.symm hji)] at hj
          have hFj := hF j hj
          unfold Fact at hFj ⊢
          cases hGj : G[j]? with
          | none => trivial
          | some dV =>
            obtain ⟨d, V⟩ := dV
            rw [hGj] at hFj
            have hval : atD (A.put o.dst v).eval d = atD A.eval d := by
              cases d with
              | none => rfl
              | some d =>
                cases hdo : o.dst with
                | none => rfl
                | some d' =>
                  simp only [atD]
                  refine eval_put_ne fun he => ?_
                  have hjl : j < l.length := by rw [← hlen]; exact (List.getElem?_eq_some_iff.1 hGj).1
                  obtain ⟨Uj, hUj, _⟩ := hops j l[j] (List.getElem?_eq_getElem hjl)
                  rw [hGj] at hUj
                  injection hUj with hUj
                  have hdj : (l[j]).dst = some d := (Prod.mk.inj hUj).1.symm
                  exact hdist i j o _ d' hlo (List.getElem?_eq_getElem hjl) hdo (Ne.symm hji) (by rw [hdj, he])
            show V (atD (A.put o.dst v).eval d) W'
            rw [hval]
            exact hkeep j d V hGj hj _ hFj
    have hstab : ∀ W', C W' → R W W' → ∀ j d V, G[j]? = some (d, V) → listed.getD j false = true → ∀ u, V u W → V u W' := by
      intro W' hC' hR j d V hGj hj u hu
      have hjl : j < l.length := by rw [← hlen]; exact (List.getElem?_eq_some_iff.1 hGj).1
      obtain ⟨Uj, hUj, hstj, _⟩ := hops j l[j] (List.getElem?_eq_getElem hjl)
      rw [hGj] at hUj
      injection hUj with hUj
      have hV : V = Uj := (Prod.mk.inj hUj).2
      subst hV
      exact hstj u W W' hC' hR hu
    unfold wpOp
    simp only [ho]
    rw [hrun]
    have hw : runs (G.take i) A.eval o.guard = true := by unfold runs; rw [hgn]
    rw [hw]
    simp only [if_true]
    left
    unfold Oper.wp
    unfold opGives opPost at hstep'
    generalize (execOp A.eval o).run P W = r at hstep'
    cases r with
    | halt x w' => exact hstep'.elim
    | ok nx w' =>
      cases nx with
      | value v => obtain ⟨⟨h1, h2⟩, h3, h4⟩ := hstep'; exact hnext v w' h1 h4 (hstab w' h1 h2) h3
      | skip => obtain ⟨⟨h1, h2⟩, h3, h4⟩ := hstep'; exact hnext undef w' h1 h4 (hstab w' h1 h2) (by cases hds : o.dst.isSome <;> simpa [hds] using h3)
      | enter f args =>
        refine Calls.mono (R' := _) hstep' ?_
        rintro e w'' ⟨v, rfl, ⟨h1, h2⟩, h3, h4⟩
        exact hnext v w'' h1 h4 (hstab w'' h1 h2) h3
      | _ => exact hstep'.elim

theorem wp_region_tame_cutkD {id : Nat} {Q : Exit → Act → World → Prop} {w : World} (C : World → Prop) (R : World → World → Prop) (I : (Nat → Bool) → (Nat → Value) → World → Prop) (hm : P.follows .mixedOrders = true) (n : Nat) (hn : a0.tmps.size = n) (k : Nat)
    (hB' : tameB (l.take k) n = true) (hcut : cutkB n (l.take k) (l.drop k) = true) (hg : (l.drop k).all (fun o => o.guard.isNone) = true) (hC : C w.drew) (hI0 : I (fun _ => false) (evT a0) w.drew)
    (h : wpTameD P C R I ((l.take k).map (·.dst)) a0 (fun A W => wpList P l.toArray Q (l.drop k) A W) (l.take k).length (l.take k) []) : (Code.region id l.toArray true).wp P Q a0 w := by
  subst hn
  obtain ⟨G, hlen, _, hfin, hops⟩ := wpTameD_facts (l.take k) [] h
  have hg' : ∀ o ∈ l.drop k, o.guard = none := fun o ho => by
    have := List.all_eq_true.1 hg o ho
    simpa using this
  have hrep : ∀ (N j : Nat), (Array.replicate N false).getD j false = false := fun N j => by
    rw [Array.getD_eq_getD_getElem?, Array.getElem?_replicate]; split <;> rfl
  have hfin' : ∀ A W, C W → Same0 ((l.take k).map (·.dst)) a0 A → I (fun j => decide (j < (l.take k).length)) (evT A) W → (∀ j, j < (l.take k).length → Fact G A.eval W j) → nestQ P (l.drop k) Q .normal A W := by
    intro A W c s i f
    exact nest_of _ hg' (hfin A W c s i (by simpa using f))
  have h1 := tame_anyD (I := I) (Q := nestQ P (l.drop k) Q) (Qn := fun A W => nestQ P (l.drop k) Q .normal A W) (fun _ _ h => h) hB' G (by simpa using hlen) hfin' (by simpa using hops) (l.take k).length (Array.replicate (l.take k).length false) a0 w.drew (by simp)
    (Nat.le_trans (List.length_filter_le _ _) (by simp)) hC ⟨rfl, rfl, fun _ _ => rfl⟩ (by simpa only [hrep] using hI0) (by
      intro j hj
      rw [hrep] at hj
      cases hj)
  refine wp_region_any hm ?_
  have h2 := any_nest (P := P) (n := a0.tmps.size) (l.drop k) (l.take k) (Q := Q) hcut h1
  rw [List.take_append_drop] at h2
  have e1 : (l.take k).length + (l.drop k).length = l.toArray.size := by rw [← List.length_append, List.take_append_drop]; simp
  rw [e1] at h2
  exact h2
variable {ds : List (Option Tmp)} {Q : Act → World → Prop} {I : (Nat → Bool) → (Nat → Value) → World → Prop} {n : Nat} {o : Oper} {rest : List Oper} {F : Facts}
theorem opGives_monoD {ρ : Operand → Value} {W : World} {U U' : Value → World → Prop} (h : opGives P C R o ρ W U) (k : ∀ v W', CR C R W W' → U v W' → U' v W') : opGives P C R o ρ W U' := by
  unfold opGives opPost at h ⊢
  generalize (execOp ρ o).run P W = r at h ⊢
  cases r with
  | halt x w' => exact h
  | ok nx w' =>
    cases nx with
    | value v => exact ⟨h.1, k v w' h.1 h.2⟩
    | skip => exact ⟨h.1, k undef w' h.1 h.2⟩
    | enter f args =>
      refine Calls.mono (R' := _) h ?_
      rintro e w'' ⟨v, rfl, h1, h2⟩
      exact ⟨v, rfl, h1, k v w'' h1 h2⟩
    | _ => exact h
/-- An operation of which the word does not speak. -/
theorem tameD_q {d : Tmp} (hd : o.dst = some d) (hg : o.guard = none) (hI : ∀ L e W v, I L e W → I (updD L F.length true) (updD e d v) W) (v0 : Value)
    (hstep : ∀ ρ W, C W → Rd a0 ds ρ → (∀ e ∈ o.after, Region.binds .any e = true → Fact F ρ W e.on) → opGives P C R o ρ W (fun v W' => Is v0 v ∧ W' = W))
    (h : wpTameD P C R I ds a0 Q n rest (F ++ [(some d, fun v _ => v = v0)])) : wpTameD P C R I ds a0 Q n (o :: rest) F := by
  refine ⟨fun v _ => v = v0, fun _ _ _ _ _ h => h, fun L A W hC hS hIA _ _ hD => ⟨hg, ?_⟩, by rw [hd]; exact h⟩
  refine opGives_monoD (hstep A.eval W hC (Rd.of hS) hD) fun v W' _ hv => ?_
  rw [hd]
  obtain ⟨h1, rfl⟩ := hv
  exact ⟨h1, hI _ _ _ _ hIA⟩
/-- An operation of which the word speaks. -/
theorem tameD_m {d : Tmp} (hd : o.dst = some d) (hg : o.guard = none) (U : Value → World → Prop) (hst : ∀ v W W', C W' → R W W' → U v W → U v W')
    (hstep : ∀ ρ L W, C W → Rd a0 ds ρ → I L (fun t => ρ (.tmp t)) W → L F.length = false → (∀ e ∈ o.after, Region.binds .any e = true → L e.on = true) → (∀ e ∈ o.after, Region.binds .any e = true → Fact F ρ W e.on) → opGives P C R o ρ W (fun v W' => U v W' ∧ I (updD L F.length true) (updD (fun t => ρ (.tmp t)) d v) W'))
    (h : wpTameD P C R I ds a0 Q n rest (F ++ [(some d, U)])) : wpTameD P C R I ds a0 Q n (o :: rest) F := by
  refine ⟨U, hst, fun L A W hC hS hIA hL hLs hD => ⟨hg, ?_⟩, by rw [hd]; exact h⟩
  refine opGives_monoD (hstep A.eval L W hC (Rd.of hS) hIA hL hLs hD) fun v W' _ hv => ?_
  rw [hd]
  exact hv
theorem tameD_end (m : Nat) (hm : a0.tmps.size = m) (hn : n = F.length) (h : ∀ ρ W, C W → Rd a0 ds ρ → I (fun j => decide (j < n)) (fun t => ρ (.tmp t)) W → allF F ρ W → Q { tmps := (evs ρ 0 m).toArray, defers := a0.defers } W) : wpTameD P C R I ds a0 Q n [] F := by
  intro A W hC hS hI hF
  have e : A = { tmps := (evs A.eval 0 m).toArray, defers := a0.defers } := by
    rw [← hS.1]
    exact frame_lit (A := A) (m := m) (by rw [hS.2.1, hm])
  have h1 := h A.eval W hC (Rd.of hS) hI (allF_of _ _ _ (hn ▸ hF))
  rw [e]
  exact h1
end
end Go.Proofs.YtkpengeaolcjhaaGreatDoor
/- A region that draws its order, with a word on what is done (as TameD), where operations may be guarded: so a slot may be read ahead of the operation that writes it. -/
namespace Go.Proofs.YtkpengeaolcjhaaGreatDoor
open Go.RowKit Go.Shelf

/-- The walk, in the order of the text. -/
def wpTameG (P : Program) (C : World → Prop) (R : World → World → Prop) (I : (Nat → Bool) → (Nat → Value) → World → Prop) (ds : List (Option Tmp)) (a0 : Act) (Q : Act → World → Prop) (n : Nat) : List Oper → Facts → Prop
  | [], F => ∀ A W, C W → Same0 ds a0 A → I (fun j => decide (j < n)) (evT A) W → (∀ j, j < n → Fact F A.eval W j) → Q A W
  | o :: rest, F => ∃ U : Value → World → Prop, (∀ v W W', C W' → R W W' → U v W → U v W') ∧
      (∀ L A W, C W → Same0 ds a0 A → I L (evT A) W → L F.length = false → (∀ e ∈ o.after, Region.binds .any e = true → L e.on = true) → (∀ e ∈ o.after, Region.binds .any e = true → Fact F A.eval W e.on) →
        if runs F A.eval o.guard then opGives P C R o A.eval W (fun v W' => U (if o.dst.isSome then v else undef) W' ∧ I (updD L F.length true) (updDO (evT A) o.dst v) W') else U undef W ∧ I (updD L F.length true) (updDO (evT A) o.dst undef) W) ∧
      wpTameG P C R I ds a0 Q n rest (F ++ [(o.dst, U)])
theorem wpTameG_facts {P : Program} {C : World → Prop} {R : World → World → Prop} {ds : List (Option Tmp)} {a0 : Act} {Q : Act → World → Prop} {n : Nat} {I : (Nat → Bool) → (Nat → Value) → World → Prop} : ∀ (l : List Oper) (F : Facts), wpTameG P C R I ds a0 Q n l F →
    ∃ G : Facts, G.length = F.length + l.length ∧ (∀ j, j < F.length → G[j]? = F[j]?) ∧ (∀ A W, C W → Same0 ds a0 A → I (fun j => decide (j < n)) (evT A) W → (∀ j, j < n → Fact G A.eval W j) → Q A W) ∧
      ∀ i o, l[i]? = some o → ∃ U, G[F.length + i]? = some (o.dst, U) ∧ (∀ v W W', C W' → R W W' → U v W → U v W') ∧
        (∀ L A W, C W → Same0 ds a0 A → I L (evT A) W → L (F.length + i) = false → (∀ e ∈ o.after, Region.binds .any e = true → L e.on = true) → (∀ e ∈ o.after, Region.binds .any e = true → Fact (G.take (F.length + i)) A.eval W e.on) →
          if runs (G.take (F.length + i)) A.eval o.guard then opGives P C R o A.eval W (fun v W' => U (if o.dst.isSome then v else undef) W' ∧ I (updD L (F.length + i) true) (updDO (evT A) o.dst v) W') else U undef W ∧ I (updD L (F.length + i) true) (updDO (evT A) o.dst undef) W)
  | [], F, h => ⟨F, by simp, fun _ _ => rfl, h, fun i o hi => by simp at hi⟩
  | o :: rest, F, h => by
    obtain ⟨U, hst, hstep, hrest⟩ := h
    obtain ⟨G, hlen, hpre, hfin, hops⟩ := wpTameG_facts rest (F ++ [(o.dst, U)]) hrest
    have hF : G.take F.length = F := by
      apply List.ext_getElem?
      intro j
      rw [List.getElem?_take]
      by_cases hj : j < F.length
      · rw [if_pos hj, hpre j (by simp; omega), List.getElem?_append_left hj]
      · rw [if_neg hj, List.getElem?_eq_none (by omega)]
    refine ⟨G, by rw [hlen]; simp; omega, fun j hj => by rw [hpre j (by simp; omega), List.getElem?_append_left hj], hfin, fun i o' hi => ?_⟩
    cases i with
    | zero =>
      simp at hi; subst hi
      refine ⟨U, ?_, hst, ?_⟩
      · rw [Nat.add_zero, hpre F.length (by simp)]; simp
      · rw [Nat.add_zero, hF]; exact hstep
    | succ i =>
      obtain ⟨U', h1, h2, h3⟩ := hops i o' (by simpa using hi)
      have e : (F ++ [(o.dst, U)]).length + i = F.length + (i + 1) := by simp; omega
      rw [e] at h1 h3
      exact ⟨U', h1, h2, h3⟩


section
variable {P : Program} {C : World → Prop} {R : World → World → Prop} {a0 : Act} {l : List Oper}

theorem tame_anyG {I : (Nat → Bool) → (Nat → Value) → World → Prop} {Q : Exit → Act → World → Prop} {Qn : Act → World → Prop} (hQ : ∀ A W, Qn A W → Q .normal A W) (hB : tameB l a0.tmps.size = true) (G : Facts) (hlen : G.length = l.length)
    (hfin : ∀ A W, C W → Same0 (l.map (·.dst)) a0 A → I (fun j => decide (j < l.length)) (evT A) W → (∀ j, j < l.length → Fact G A.eval W j) → Qn A W)
    (hops : ∀ i o, l[i]? = some o → ∃ U, G[i]? = some (o.dst, U) ∧ (∀ v W W', C W' → R W W' → U v W → U v W') ∧
        (∀ L A W, C W → Same0 (l.map (·.dst)) a0 A → I L (evT A) W → L i = false → (∀ e ∈ o.after, Region.binds .any e = true → L e.on = true) → (∀ e ∈ o.after, Region.binds .any e = true → Fact (G.take i) A.eval W e.on) → if runs (G.take i) A.eval o.guard then opGives P C R o A.eval W (fun v W' => U (if o.dst.isSome then v else undef) W' ∧ I (updD L i true) (updDO (evT A) o.dst v) W') else U undef W ∧ I (updD L i true) (updDO (evT A) o.dst undef) W)) :
    ∀ (fuel : Nat) (listed : Array Bool) (A : Act) (W : World), listed.size = l.length → ((List.range l.length).filter fun j => !listed.getD j true).length ≤ fuel → C W → Same0 (l.map (·.dst)) a0 A → I (fun j => listed.getD j false) (evT A) W →
      (∀ j, listed.getD j false = true → Fact G A.eval W j) → wpAny P .any l.toArray Q fuel listed A W := by
  have hB' := hB
  unfold tameB at hB'
  rw [Bool.and_eq_true, List.all_eq_true, List.all_eq_true] at hB'
  obtain ⟨hb1, hb2⟩ := hB'
  have hback : ∀ (i : Nat) (o : Oper), l[i]? = some o → (∀ e ∈ o.after, Region.binds .any e = true → e.on < i) ∧ (∀ d, o.dst = some d → d < a0.tmps.size) ∧ (∀ (j : Nat) (b : Bool), o.guard = some (j, b) → j < i ∧ ∃ e ∈ o.after, e.on = j ∧ Region.binds .any e = true) := by
    intro i o hi
    have h := hb1 (o, i) (by rw [List.mem_zipIdx_iff_getElem?]; simpa using hi)
    simp only [Bool.and_eq_true] at h
    obtain ⟨⟨h1, h2⟩, h3⟩ := h
    refine ⟨fun e he hbd => ?_, fun d hd => ?_, fun j b hg => ?_⟩
    · rw [List.all_eq_true] at h1
      have := h1 e (Array.mem_toList_iff.2 he)
      simpa [hbd] using this
    · rw [hd] at h2; simpa using h2
    · rw [hg] at h3
      simp only [Bool.and_eq_true, decide_eq_true_eq] at h3
      refine ⟨h3.1, ?_⟩
      obtain ⟨_, h3⟩ := h3
      rw [List.any_eq_true] at h3
      obtain ⟨e, he, h4⟩ := h3
      exact ⟨e, Array.mem_toList_iff.1 he, by simpa using h4⟩
  have hdist : ∀ (i j : Nat) (o p : Oper) (d : Tmp), l[i]? = some o → l[j]? = some p → o.dst = some d → i ≠ j → p.dst ≠ some d := by
    intro i j o p d hi hj hd hne
    have h := hb2 (o, i) (by rw [List.mem_zipIdx_iff_getElem?]; simpa using hi)
    simp only [hd] at h
    rw [List.all_eq_true] at h
    have := h (p, j) (by rw [List.mem_zipIdx_iff_getElem?]; simpa using hj)
    simpa [hne] using this
  have hall : ∀ (listed : Array Bool) (A : Act) (W : World), listed.size = l.length → C W → Same0 (l.map (·.dst)) a0 A → I (fun j => listed.getD j false) (evT A) W → (∀ j, listed.getD j false = true → Fact G A.eval W j) → Region.ready .any l.toArray listed = [] → Q .normal A W := by
    intro listed A W hs hC hS hIA hF hr
    suffices key : ∀ k, k < l.length → listed.getD k false = true by
      refine hQ _ _ (hfin A W hC hS ?_ fun j hj => hF j (key j hj))
      have e : (fun j => listed.getD j false) = fun j => decide (j < l.length) := by
        funext j
        by_cases hj : j < l.length
        · rw [key j hj, decide_eq_true hj]
        · rw [decide_eq_false hj, Array.getD_eq_getD_getElem?, Array.getElem?_eq_none (by omega)]; rfl
      rw [e] at hIA
      exact hIA
    -- the least one that is not listed would be ready
    · intro k
      induction k using Nat.strongRecOn with
      | _ k ih =>
        intro hk
        cases hv : listed.getD k false with
        | true => rfl
        | false =>
          exfalso
          have hmem : k ∈ Region.ready .any l.toArray listed := by
            rw [mem_ready]
            have hkl : k < listed.size := by omega
            refine ⟨by simpa [Array.getD_eq_getD_getElem?, hkl] using hv, l[k], by simp, fun e he hb => ?_⟩
            have := (hback k _ (List.getElem?_eq_getElem hk)).1 e he hb
            exact ih e.on this (by omega)
          rw [hr] at hmem
          cases hmem
  intro fuel
  induction fuel with
  | zero =>
    intro listed A W hs hcount hC hS hIA hF
    have hr : Region.ready .any l.toArray listed = [] := by
      rw [List.eq_nil_iff_forall_not_mem]
      intro k hk
      rw [mem_ready] at hk
      obtain ⟨h0, o, ho, _⟩ := hk
      have hkl : k < l.length := by simpa using (Array.getElem?_eq_some_iff.1 ho).1
      have : k ∈ (List.range l.length).filter fun j => !listed.getD j true := by simp [hkl]; simpa using h0
      have := List.length_pos_of_mem this
      omega
    exact ⟨hr, hall listed A W hs hC hS hIA hF hr⟩
  | succ fuel ih =>
    intro listed A W hs hcount hC hS hIA hF
    refine ⟨hall listed A W hs hC hS hIA hF, fun i hi => ?_⟩
    rw [mem_ready] at hi
    obtain ⟨h0, o, ho, hdeps⟩ := hi
    have hil : i < l.length := by simpa using (Array.getElem?_eq_some_iff.1 ho).1
    have hlo : l[i]? = some o := by simpa using ho
    obtain ⟨U, hU, hst, hstep⟩ := hops i o hlo
    obtain ⟨hb, hdb, hgb⟩ := hback i o hlo
    have htake : ∀ j, j < i → Fact (G.take i) A.eval W j = Fact G A.eval W j := fun j hj => by
      unfold Fact; rw [List.getElem?_take, if_pos hj]
    have h0' : listed.getD i false = false := by
      have : i < listed.size := by omega
      simpa [Array.getD_eq_getD_getElem?, this] using h0
    have hstep' := hstep _ A W hC hS hIA h0' (fun e he hbd => hdeps e he hbd) (fun e he hbd => by rw [htake e.on (hb e he hbd)]; exact hF e.on (hdeps e he hbd))
    have hrun : Region.wanted o (yielded l.toArray A.tmps) = runs (G.take i) A.eval o.guard := by
      unfold Region.wanted runs
      cases hg : o.guard with
      | none => rfl
      | some jb =>
        obtain ⟨j, b⟩ := jb
        obtain ⟨hj, _⟩ := hgb j b hg
        have hjl : j < l.length := by omega
        obtain ⟨Uj, hUj, _⟩ := hops j l[j] (List.getElem?_eq_getElem hjl)
        simp only [List.getElem?_take, if_pos hj, hUj]
        cases hd : (l[j]).dst with
        | none =>
          simp only [yielded]
          simp [List.getElem?_eq_getElem hjl, hd]
        | some d => exact yielded_isB (by simp) hd b
    -- what stands behind the operation
    have hnext : ∀ (v : Value) (W' : World), C W' → I (updD (fun j => listed.getD j false) i true) (updDO (evT A) o.dst v) W' → (∀ j d V, G[j]? = some (d, V) → listed.getD j false = true → ∀ u, V u W → V u W') → U (if o.dst.isSome then v else undef) W' →
        wpAny P .any l.toArray Q fuel (listed.setIfInBounds i true) (A.put o.dst v) W' := by
      intro v W' hC' hI' hkeep hUv
      refine ih _ _ _ (by simpa using hs) ?_ hC' (same0_put hS (by rw [List.mem_map]; exact ⟨o, List.mem_of_getElem? hlo, rfl⟩) v) ?_ ?_
      · have hsub : ((List.range l.length).filter fun j => !(listed.setIfInBounds i true).getD j true).length < ((List.range l.length).filter fun j => !listed.getD j true).length := by
          have h1 : (List.range l.length).filter (fun j => !(listed.setIfInBounds i true).getD j true) = ((List.range l.length).filter fun j => !listed.getD j true).filter (fun j => j != i) := by
            rw [List.filter_filter]
            refine List.filter_congr fun j hj => ?_
            by_cases hji : j = i
            · subst hji
              simp [Array.getD_eq_getD_getElem?, show j < listed.size by omega]
            · rw [getD_set_ne true (Ne.symm hji)]; simp [hji]
          rw [h1]
          have hmem : i ∈ (List.range l.length).filter fun j => !listed.getD j true := by simp [hil]; simpa using h0
          refine Nat.lt_of_le_of_ne (List.length_filter_le _ _) fun he => ?_
          have := (List.length_filter_eq_length_iff.1 he) i hmem
          simp at this
        omega
      · have e1 : (fun j => (listed.setIfInBounds i true).getD j false) = updD (fun j => listed.getD j false) i true := by
          funext j
          unfold updD
          by_cases hji : j = i
          · subst hji; rw [if_pos rfl, Array.getD_eq_getD_getElem?, Array.getElem?_setIfInBounds_self_of_lt (by omega)]; rfl
          · rw [if_neg hji]; exact getD_set_ne false (Ne.symm hji)
        rw [e1, evT_put (fun t ht => by rw [hS.2.1]; exact hdb t ht)]
        exact hI'
      · intro j hj
        by_cases hji : j = i
        · subst hji
          unfold Fact
          rw [hU]
          cases hd : o.dst with
          | none => simpa [hd, atD] using hUv
          | some d =>
            have hsz : d < A.tmps.size := by rw [hS.2.1]; exact hdb d hd
            simp only [atD, eval_put_self hsz]
            simpa [hd] using hUv
        · rw [getD_set_ne false (Ne.symm hji)] at hj
          have hFj := hF j hj
          unfold Fact at hFj ⊢
          cases hGj : G[j]? with
          | none => trivial
          | some dV =>
            obtain ⟨d, V⟩ := dV
            rw [hGj] at hFj
            have hval : atD (A.put o.dst v).eval d = atD A.eval d := by
              cases d with
              | none => rfl
              | some d =>
                cases hdo : o.dst with
                | none => rfl
                | some d' =>
                  simp only [atD]
                  refine eval_put_ne fun he => ?_
                  have hjl : j < l.length := by rw [← hlen]; exact (List.getElem?_eq_some_iff.1 hGj).1
                  obtain ⟨Uj, hUj, _⟩ := hops j l[j] (List.getElem?_eq_getElem hjl)
                  rw [hGj] at hUj
                  injection hUj with hUj
                  have hdj : (l[j]).dst = some d := (Prod.mk.inj hUj).1.symm
                  exact hdist i j o _ d' hlo (List.getElem?_eq_getElem hjl) hdo (Ne.symm hji) (by rw [hdj, he])
            show V (atD (A.put o.dst v).eval d) W'
            rw [hval]
            exact hkeep j d V hGj hj _ hFj
    have hstab : ∀ W', C W' → R W W' → ∀ j d V, G[j]? = some (d, V) → listed.getD j false = true → ∀ u, V u W → V u W' := by
      intro W' hC' hR j d V hGj hj u hu
      have hjl : j < l.length := by rw [← hlen]; exact (List.getElem?_eq_some_iff.1 hGj).1
      obtain ⟨Uj, hUj, hstj, _⟩ := hops j l[j] (List.getElem?_eq_getElem hjl)
      rw [hGj] at hUj
      injection hUj with hUj
      have hV : V = Uj := (Prod.mk.inj hUj).2
      subst hV
      exact hstj u W W' hC' hR hu
    unfold wpOp
    simp only [ho]
    rw [hrun]
    cases hw : runs (G.take i) A.eval o.guard with
    | false =>
      rw [hw] at hstep'
      simp only [Bool.false_eq_true, if_false] at hstep' ⊢
      exact hnext undef W hC hstep'.2 (fun _ _ _ _ _ _ h => h) (by cases hds : o.dst.isSome <;> simpa using hstep'.1)
    | true =>
      rw [hw] at hstep'
      simp only [if_true] at hstep' ⊢
      left
      unfold Oper.wp
      unfold opGives opPost at hstep'
      generalize (execOp A.eval o).run P W = r at hstep'
      cases r with
      | halt x w' => exact hstep'.elim
      | ok nx w' =>
        cases nx with
        | value v => obtain ⟨⟨h1, h2⟩, h3, h4⟩ := hstep'; exact hnext v w' h1 h4 (hstab w' h1 h2) h3
        | skip => obtain ⟨⟨h1, h2⟩, h3, h4⟩ := hstep'; exact hnext undef w' h1 h4 (hstab w' h1 h2) (by cases hds : o.dst.isSome <;> simpa [hds] using h3)
        | enter f args =>
          refine Calls.mono (R' := _) hstep' ?_
          rintro e w'' ⟨v, rfl, ⟨h1, h2⟩, h3, h4⟩
          exact hnext v w'' h1 h4 (hstab w'' h1 h2) h3
        | _ => exact hstep'.elim

theorem wp_region_tame_cutkG {id : Nat} {Q : Exit → Act → World → Prop} {w : World} (C : World → Prop) (R : World → World → Prop) (I : (Nat → Bool) → (Nat → Value) → World → Prop) (hm : P.follows .mixedOrders = true) (n : Nat) (hn : a0.tmps.size = n) (k : Nat)
    (hB' : tameB (l.take k) n = true) (hcut : cutkB n (l.take k) (l.drop k) = true) (hg : (l.drop k).all (fun o => o.guard.isNone) = true) (hC : C w.drew) (hI0 : I (fun _ => false) (evT a0) w.drew)
    (h : wpTameG P C R I ((l.take k).map (·.dst)) a0 (fun A W => wpList P l.toArray Q (l.drop k) A W) (l.take k).length (l.take k) []) : (Code.region id l.toArray true).wp P Q a0 w := by
  subst hn
  obtain ⟨G, hlen, _, hfin, hops⟩ := wpTameG_facts (l.take k) [] h
  have hg' : ∀ o ∈ l.drop k, o.guard = none := fun o ho => by
    have := List.all_eq_true.1 hg o ho
    simpa using this
  have hrep : ∀ (N j : Nat), (Array.replicate N false).getD j false = false := fun N j => by
    rw [Array.getD_eq_getD_getElem?, Array.getElem?_replicate]; split <;> rfl
  have hfin' : ∀ A W, C W → Same0 ((l.take k).map (·.dst)) a0 A → I (fun j => decide (j < (l.take k).length)) (evT A) W → (∀ j, j < (l.take k).length → Fact G A.eval W j) → nestQ P (l.drop k) Q .normal A W := by
    intro A W c s i f
    exact nest_of _ hg' (hfin A W c s i (by simpa using f))
  have h1 := tame_anyG (I := I) (Q := nestQ P (l.drop k) Q) (Qn := fun A W => nestQ P (l.drop k) Q .normal A W) (fun _ _ h => h) hB' G (by simpa using hlen) hfin' (by simpa using hops) (l.take k).length (Array.replicate (l.take k).length false) a0 w.drew (by simp)
    (Nat.le_trans (List.length_filter_le _ _) (by simp)) hC ⟨rfl, rfl, fun _ _ => rfl⟩ (by simpa only [hrep] using hI0) (by
      intro j hj
      rw [hrep] at hj
      cases hj)
  refine wp_region_any hm ?_
  have h2 := any_nest (P := P) (n := a0.tmps.size) (l.drop k) (l.take k) (Q := Q) hcut h1
  rw [List.take_append_drop] at h2
  have e1 : (l.take k).length + (l.drop k).length = l.toArray.size := by rw [← List.length_append, List.take_append_drop]; simp
  rw [e1] at h2
  exact h2
variable {ds : List (Option Tmp)} {Q : Act → World → Prop} {I : (Nat → Bool) → (Nat → Value) → World → Prop} {n : Nat} {o : Oper} {rest : List Oper} {F : Facts}
/-- An operation of which the word does not speak. -/
theorem tameG_q {d : Tmp} (hd : o.dst = some d) (hI : ∀ L e W v, I L e W → I (updD L F.length true) (updD e d v) W) (v0 : Value)
    (hstep : ∀ ρ W, C W → Rd a0 ds ρ → (∀ e ∈ o.after, Region.binds .any e = true → Fact F ρ W e.on) → if runs F ρ o.guard then opGives P C R o ρ W (fun v W' => Is v0 v ∧ W' = W) else Is v0 undef)
    (h : wpTameG P C R I ds a0 Q n rest (F ++ [(some d, fun v _ => v = v0)])) : wpTameG P C R I ds a0 Q n (o :: rest) F := by
  refine ⟨fun v _ => v = v0, fun _ _ _ _ _ h => h, fun L A W hC hS hIA _ _ hD => ?_, by rw [hd]; exact h⟩
  have hs := hstep A.eval W hC (Rd.of hS) hD
  cases hr : runs F A.eval o.guard with
  | true =>
    rw [hr] at hs
    simp only [if_true] at hs ⊢
    refine opGives_monoD hs fun v W' _ hv => ?_
    rw [hd]
    obtain ⟨h1, rfl⟩ := hv
    exact ⟨h1, hI _ _ _ _ hIA⟩
  | false =>
    rw [hr] at hs
    simp only [Bool.false_eq_true, if_false] at hs ⊢
    rw [hd]
    exact ⟨hs, hI _ _ _ _ hIA⟩
/-- An operation of which the word speaks; it has no guard. -/
theorem tameG_m {d : Tmp} (hd : o.dst = some d) (hg : o.guard = none) (v0 : Value)
    (hstep : ∀ ρ L W, C W → Rd a0 ds ρ → I L (fun t => ρ (.tmp t)) W → L F.length = false → (∀ e ∈ o.after, Region.binds .any e = true → L e.on = true) → (∀ e ∈ o.after, Region.binds .any e = true → Fact F ρ W e.on) → opGives P C R o ρ W (fun v W' => Is v0 v ∧ I (updD L F.length true) (updD (fun t => ρ (.tmp t)) d v) W'))
    (h : wpTameG P C R I ds a0 Q n rest (F ++ [(some d, fun v _ => v = v0)])) : wpTameG P C R I ds a0 Q n (o :: rest) F := by
  refine ⟨fun v _ => v = v0, fun _ _ _ _ _ h => h, fun L A W hC hS hIA hL hLs hD => ?_, by rw [hd]; exact h⟩
  have e : runs F A.eval o.guard = true := by rw [hg]; rfl
  rw [e]
  simp only [if_true]
  refine opGives_monoD (hstep A.eval L W hC (Rd.of hS) hIA hL hLs hD) fun v W' _ hv => ?_
  rw [hd]
  exact hv
theorem tameG_end_put (hds : F.map (·.1) = ds) (hn : n = F.length) (h : ∀ ρ W, C W → Rd a0 ds ρ → allF F ρ W → Q { tmps := (putF ρ F a0.tmps.toList).toArray, defers := a0.defers } W) : wpTameG P C R I ds a0 Q n [] F := by
  intro A W hC hS hI hF
  exact (tame_end_put (P := P) (R := R) (C := C) hds hn h) A W hC hS hF

/-! A slot that is read ahead of the operation that writes it: the word. -/
def OldT (i0 i1 : Nat) (t : Tmp) (v : Value) (L : Nat → Bool) (e : Nat → Value) (_ : World) : Prop := (L i1 = false → e t = v) ∧ (L i1 = true → L i0 = true)
theorem OldT.start {i0 i1 : Nat} {t : Tmp} {v : Value} {e : Nat → Value} {W : World} (h : e t = v) : OldT i0 i1 t v (fun _ => false) e W := ⟨fun _ => h, fun h => by cases h⟩
theorem OldT.keep {i0 i1 i : Nat} {t d : Tmp} {v : Value} (h1 : (i == i1) = false) (h2 : (d == t) = false) : ∀ (L : Nat → Bool) (e : Nat → Value) (W : World) (u : Value), OldT i0 i1 t v L e W → OldT i0 i1 t v (updD L i true) (updD e d u) W := by
  intro L e W u h
  have n1 : i1 ≠ i := fun x => by rw [x] at h1; simp at h1
  have n2 : t ≠ d := fun x => by rw [x] at h2; simp at h2
  refine ⟨fun hL => ?_, fun hL => ?_⟩
  · rw [updD_ne n1] at hL
    rw [updD_ne n2]
    exact h.1 hL
  · rw [updD_ne n1] at hL
    by_cases hi : i0 = i
    · rw [hi, updD_self]
    · rw [updD_ne hi]; exact h.2 hL
end
end Go.Proofs.YtkpengeaolcjhaaGreatDoor
/- A region that draws its order and holds a store that others must go ahead of: what holds until then is known to them. -/
namespace Go.Proofs.YtkpengeaolcjhaaGreatDoor
open Go.RowKit Go.Shelf

/-- Operation i is the s-th, or the s-th stands behind it. -/
def early (l : List Oper) (s i : Nat) : Bool := i == s || (match l[s]? with | some os => os.after.toList.any (fun e => e.on == i && Region.binds .any e) | none => false)
/-- What a step keeps: N, too, but for the s-th. -/
def RN (R : World → World → Prop) (N : World → Prop) (b : Bool) (W W' : World) : Prop := R W W' ∧ (b = true → N W → N W')

/-- The walk, in the order of the text. -/
def wpTameN (P : Program) (C : World → Prop) (R : World → World → Prop) (N : World → Prop) (l0 : List Oper) (s : Nat) (ds : List (Option Tmp)) (a0 : Act) (Q : Act → World → Prop) (n : Nat) : List Oper → Facts → Prop
  | [], F => ∀ A W, C W → Same0 ds a0 A → (∀ j, j < n → Fact F A.eval W j) → Q A W
  | o :: rest, F => ∃ U : Value → World → Prop, (∀ v W W', C W' → R W W' → U v W → U v W') ∧
      (∀ A W, C W → (early l0 s F.length = true → N W) → Same0 ds a0 A → (∀ e ∈ o.after, Region.binds .any e = true → Fact F A.eval W e.on) → if runs F A.eval o.guard then opGives P C (RN R N (F.length != s)) o A.eval W (fun v => U (if o.dst.isSome then v else undef)) else U undef W) ∧
      wpTameN P C R N l0 s ds a0 Q n rest (F ++ [(o.dst, U)])

theorem wpTameN_facts {P : Program} {N : World → Prop} {l0 : List Oper} {s : Nat} {C : World → Prop} {R : World → World → Prop} {ds : List (Option Tmp)} {a0 : Act} {Q : Act → World → Prop} {n : Nat} : ∀ (l : List Oper) (F : Facts), wpTameN P C R N l0 s ds a0 Q n l F →
    ∃ G : Facts, G.length = F.length + l.length ∧ (∀ j, j < F.length → G[j]? = F[j]?) ∧ (∀ A W, C W → Same0 ds a0 A → (∀ j, j < n → Fact G A.eval W j) → Q A W) ∧
      ∀ i o, l[i]? = some o → ∃ U, G[F.length + i]? = some (o.dst, U) ∧ (∀ v W W', C W' → R W W' → U v W → U v W') ∧
        (∀ A W, C W → (early l0 s (F.length + i) = true → N W) → Same0 ds a0 A → (∀ e ∈ o.after, Region.binds .any e = true → Fact (G.take (F.length + i)) A.eval W e.on) → if runs (G.take (F.length + i)) A.eval o.guard then opGives P C (RN R N (F.length + i != s)) o A.eval W (fun v => U (if o.dst.isSome then v else undef)) else U undef W)
  | [], F, h => ⟨F, by simp, fun _ _ => rfl, h, fun i o hi => by simp at hi⟩
  | o :: rest, F, h => by
    obtain ⟨U, hst, hstep, hrest⟩ := h
    obtain ⟨G, hlen, hpre, hfin, hops⟩ := wpTameN_facts rest (F ++ [(o.dst, U)]) hrest
    have hF : G.take F.length = F := by
      apply List.ext_getElem?
      intro j
      rw [List.getElem?_take]
      by_cases hj : j < F.length
      · rw [if_pos hj, hpre j (by simp; omega), List.getElem?_append_left hj]
      · rw [if_neg hj, List.getElem?_eq_none (by omega)]
    refine ⟨G, by rw [hlen]; simp; omega, fun j hj => by rw [hpre j (by simp; omega), List.getElem?_append_left hj], hfin, fun i o' hi => ?_⟩
    cases i with
    | zero =>
      simp at hi; subst hi
      refine ⟨U, ?_, hst, ?_⟩
      · rw [Nat.add_zero, hpre F.length (by simp)]; simp
      · rw [Nat.add_zero, hF]; exact hstep
    | succ i =>
      obtain ⟨U', h1, h2, h3⟩ := hops i o' (by simpa using hi)
      have e : (F ++ [(o.dst, U)]).length + i = F.length + (i + 1) := by simp; omega
      rw [e] at h1 h3
      exact ⟨U', h1, h2, h3⟩


section
variable {P : Program} {C : World → Prop} {R : World → World → Prop} {a0 : Act} {l : List Oper}

theorem tame_anyN {N : World → Prop} {s : Nat} {Q : Exit → Act → World → Prop} {Qn : Act → World → Prop} (hQ : ∀ A W, Qn A W → Q .normal A W) (hB : tameB l a0.tmps.size = true) (G : Facts) (hlen : G.length = l.length)
    (hfin : ∀ A W, C W → Same0 (l.map (·.dst)) a0 A → (∀ j, j < l.length → Fact G A.eval W j) → Qn A W)
    (hops : ∀ i o, l[i]? = some o → ∃ U, G[i]? = some (o.dst, U) ∧ (∀ v W W', C W' → R W W' → U v W → U v W') ∧
        (∀ A W, C W → (early l s i = true → N W) → Same0 (l.map (·.dst)) a0 A → (∀ e ∈ o.after, Region.binds .any e = true → Fact (G.take i) A.eval W e.on) → if runs (G.take i) A.eval o.guard then opGives P C (RN R N (i != s)) o A.eval W (fun v => U (if o.dst.isSome then v else undef)) else U undef W)) :
    ∀ (fuel : Nat) (listed : Array Bool) (A : Act) (W : World), listed.size = l.length → ((List.range l.length).filter fun j => !listed.getD j true).length ≤ fuel → C W → Same0 (l.map (·.dst)) a0 A →
      (∀ j, listed.getD j false = true → Fact G A.eval W j) → (∀ (j : Nat) (o : Oper), l[j]? = some o → listed.getD j false = true → ∀ e ∈ o.after, Region.binds .any e = true → listed.getD e.on false = true) → (listed.getD s false = false → N W) → wpAny P .any l.toArray Q fuel listed A W := by
  have hB' := hB
  unfold tameB at hB'
  rw [Bool.and_eq_true, List.all_eq_true, List.all_eq_true] at hB'
  obtain ⟨hb1, hb2⟩ := hB'
  have hback : ∀ (i : Nat) (o : Oper), l[i]? = some o → (∀ e ∈ o.after, Region.binds .any e = true → e.on < i) ∧ (∀ d, o.dst = some d → d < a0.tmps.size) ∧ (∀ (j : Nat) (b : Bool), o.guard = some (j, b) → j < i ∧ ∃ e ∈ o.after, e.on = j ∧ Region.binds .any e = true) := by
    intro i o hi
    have h := hb1 (o, i) (by rw [List.mem_zipIdx_iff_getElem?]; simpa using hi)
    simp only [Bool.and_eq_true] at h
    obtain ⟨⟨h1, h2⟩, h3⟩ := h
    refine ⟨fun e he hbd => ?_, fun d hd => ?_, fun j b hg => ?_⟩
    · rw [List.all_eq_true] at h1
      have := h1 e (Array.mem_toList_iff.2 he)
      simpa [hbd] using this
    · rw [hd] at h2; simpa using h2
    · rw [hg] at h3
      simp only [Bool.and_eq_true, decide_eq_true_eq] at h3
      refine ⟨h3.1, ?_⟩
      obtain ⟨_, h3⟩ := h3
      rw [List.any_eq_true] at h3
      obtain ⟨e, he, h4⟩ := h3
      exact ⟨e, Array.mem_toList_iff.1 he, by simpa using h4⟩
  have hdist : ∀ (i j : Nat) (o p : Oper) (d : Tmp), l[i]? = some o → l[j]? = some p → o.dst = some d → i ≠ j → p.dst ≠ some d := by
    intro i j o p d hi hj hd hne
    have h := hb2 (o, i) (by rw [List.mem_zipIdx_iff_getElem?]; simpa using hi)
    simp only [hd] at h
    rw [List.all_eq_true] at h
    have := h (p, j) (by rw [List.mem_zipIdx_iff_getElem?]; simpa using hj)
    simpa [hne] using this
  have hall : ∀ (listed : Array Bool) (A : Act) (W : World), listed.size = l.length → C W → Same0 (l.map (·.dst)) a0 A → (∀ j, listed.getD j false = true → Fact G A.eval W j) → Region.ready .any l.toArray listed = [] → Q .normal A W := by
    intro listed A W hs hC hS hF hr
    refine hQ _ _ (hfin A W hC hS fun j hj => hF j ?_)
    -- the least one that is not listed would be ready
    have key : ∀ k, k < l.length → listed.getD k false = true := by
      intro k
      induction k using Nat.strongRecOn with
      | _ k ih =>
        intro hk
        cases hv : listed.getD k false with
        | true => rfl
        | false =>
          exfalso
          have hmem : k ∈ Region.ready .any l.toArray listed := by
            rw [mem_ready]
            have hkl : k < listed.size := by omega
            refine ⟨by simpa [Array.getD_eq_getD_getElem?, hkl] using hv, l[k], by simp, fun e he hb => ?_⟩
            have := (hback k _ (List.getElem?_eq_getElem hk)).1 e he hb
            exact ih e.on this (by omega)
          rw [hr] at hmem
          cases hmem
    exact key j hj
  intro fuel
  induction fuel with
  | zero =>
    intro listed A W hs hcount hC hS hF hcl hNw
    have hr : Region.ready .any l.toArray listed = [] := by
      rw [List.eq_nil_iff_forall_not_mem]
      intro k hk
      rw [mem_ready] at hk
      obtain ⟨h0, o, ho, _⟩ := hk
      have hkl : k < l.length := by simpa using (Array.getElem?_eq_some_iff.1 ho).1
      have : k ∈ (List.range l.length).filter fun j => !listed.getD j true := by simp [hkl]; simpa using h0
      have := List.length_pos_of_mem this
      omega
    exact ⟨hr, hall listed A W hs hC hS hF hr⟩
  | succ fuel ih =>
    intro listed A W hs hcount hC hS hF hcl hNw
    refine ⟨hall listed A W hs hC hS hF, fun i hi => ?_⟩
    rw [mem_ready] at hi
    obtain ⟨h0, o, ho, hdeps⟩ := hi
    have hil : i < l.length := by simpa using (Array.getElem?_eq_some_iff.1 ho).1
    have hlo : l[i]? = some o := by simpa using ho
    obtain ⟨U, hU, hst, hstep⟩ := hops i o hlo
    obtain ⟨hb, hdb, hgb⟩ := hback i o hlo
    have htake : ∀ j, j < i → Fact (G.take i) A.eval W j = Fact G A.eval W j := fun j hj => by
      unfold Fact; rw [List.getElem?_take, if_pos hj]
    have hearly : early l s i = true → N W := fun he => hNw (by
      cases hv : listed.getD s false with
      | false => rfl
      | true =>
        exfalso
        unfold early at he
        rw [Bool.or_eq_true] at he
        have hif : listed.getD i false = false := by
          have hkl : i < listed.size := by omega
          simpa [Array.getD_eq_getD_getElem?, hkl] using h0
        rcases he with he | he
        · rw [show i = s by simpa using he, hv] at hif
          cases hif
        · cases hos : l[s]? with
          | none => rw [hos] at he; simp at he
          | some os =>
            rw [hos] at he
            simp only [List.any_eq_true, Bool.and_eq_true, beq_iff_eq] at he
            obtain ⟨e, hm, h1, h2⟩ := he
            have := hcl s os hos hv e (Array.mem_toList_iff.1 hm) h2
            rw [h1, hif] at this
            cases this)
    have hstep' := hstep A W hC hearly hS (fun e he hbd => by rw [htake e.on (hb e he hbd)]; exact hF e.on (hdeps e he hbd))
    have hrun : Region.wanted o (yielded l.toArray A.tmps) = runs (G.take i) A.eval o.guard := by
      unfold Region.wanted runs
      cases hg : o.guard with
      | none => rfl
      | some jb =>
        obtain ⟨j, b⟩ := jb
        obtain ⟨hj, _⟩ := hgb j b hg
        have hjl : j < l.length := by omega
        obtain ⟨Uj, hUj, _⟩ := hops j l[j] (List.getElem?_eq_getElem hjl)
        simp only [List.getElem?_take, if_pos hj, hUj]
        cases hd : (l[j]).dst with
        | none =>
          simp only [yielded]
          simp [List.getElem?_eq_getElem hjl, hd]
        | some d => exact yielded_isB (by simp) hd b
    -- what stands behind the operation
    have hnext : ∀ (v : Value) (W' : World), C W' → (∀ j d V, G[j]? = some (d, V) → listed.getD j false = true → ∀ u, V u W → V u W') → (i ≠ s → N W → N W') → U (if o.dst.isSome then v else undef) W' →
        wpAny P .any l.toArray Q fuel (listed.setIfInBounds i true) (A.put o.dst v) W' := by
      intro v W' hC' hkeep hNk hUv
      refine ih _ _ _ (by simpa using hs) ?_ hC' (same0_put hS (by rw [List.mem_map]; exact ⟨o, List.mem_of_getElem? hlo, rfl⟩) v) ?_ ?_ ?_
      · have hsub : ((List.range l.length).filter fun j => !(listed.setIfInBounds i true).getD j true).length < ((List.range l.length).filter fun j => !listed.getD j true).length := by
          have h1 : (List.range l.length).filter (fun j => !(listed.setIfInBounds i true).getD j true) = ((List.range l.length).filter fun j => !listed.getD j true).filter (fun j => j != i) := by
            rw [List.filter_filter]
            refine List.filter_congr fun j hj => ?_
            by_cases hji : j = i
            · subst hji
              simp [Array.getD_eq_getD_getElem?, show j < listed.size by omega]
            · rw [getD_set_ne true (Ne.symm hji)]; simp [hji]
          rw [h1]
          have hmem : i ∈ (List.range l.length).filter fun j => !listed.getD j true := by simp [hil]; simpa using h0
          refine Nat.lt_of_le_of_ne (List.length_filter_le _ _) fun he => ?_
          have := (List.length_filter_eq_length_iff.1 he) i hmem
          simp at this
        omega
      · intro j hj
        by_cases hji : j = i
        · subst hji
          unfold Fact
          rw [hU]
          cases hd : o.dst with
          | none => simpa [hd, atD] using hUv
          | some d =>
            have hsz : d < A.tmps.size := by rw [hS.2.1]; exact hdb d hd
            simp only [atD, eval_put_self hsz]
            simpa [hd] using hUv
        · rw [getD_set_ne false (Ne.symm hji)] at hj
          have hFj := hF j hj
          unfold Fact at hFj ⊢
          cases hGj : G[j]? with
          | none => trivial
          | some dV =>
            obtain ⟨d, V⟩ := dV
            rw [hGj] at hFj
            have hval : atD (A.put o.dst v).eval d = atD A.eval d := by
              cases d with
              | none => rfl
              | some d =>
                cases hdo : o.dst with
                | none => rfl
                | some d' =>
                  simp only [atD]
                  refine eval_put_ne fun he => ?_
                  have hjl : j < l.length := by rw [← hlen]; exact (List.getElem?_eq_some_iff.1 hGj).1
                  obtain ⟨Uj, hUj, _⟩ := hops j l[j] (List.getElem?_eq_getElem hjl)
                  rw [hGj] at hUj
                  injection hUj with hUj
                  have hdj : (l[j]).dst = some d := (Prod.mk.inj hUj).1.symm
                  exact hdist i j o _ d' hlo (List.getElem?_eq_getElem hjl) hdo (Ne.symm hji) (by rw [hdj, he])
            show V (atD (A.put o.dst v).eval d) W'
            rw [hval]
            exact hkeep j d V hGj hj _ hFj
      · intro j oj hoj hj e he hbd
        by_cases hji : j = i
        · subst hji
          rw [hlo] at hoj
          injection hoj with hoj
          subst hoj
          exact getD_set_true (hdeps e he hbd)
        · rw [getD_set_ne false (Ne.symm hji)] at hj
          exact getD_set_true (hcl j oj hoj hj e he hbd)
      · intro hsf
        have hsi : i ≠ s := by
          intro he
          subst he
          have hkl : i < listed.size := by omega
          simp [Array.getD_eq_getD_getElem?, hkl] at hsf
        rw [getD_set_ne false hsi] at hsf
        exact hNk hsi (hNw hsf)
    have hstab : ∀ W', C W' → R W W' → ∀ j d V, G[j]? = some (d, V) → listed.getD j false = true → ∀ u, V u W → V u W' := by
      intro W' hC' hR j d V hGj hj u hu
      have hjl : j < l.length := by rw [← hlen]; exact (List.getElem?_eq_some_iff.1 hGj).1
      obtain ⟨Uj, hUj, hstj, _⟩ := hops j l[j] (List.getElem?_eq_getElem hjl)
      rw [hGj] at hUj
      injection hUj with hUj
      have hV : V = Uj := (Prod.mk.inj hUj).2
      subst hV
      exact hstj u W W' hC' hR hu
    unfold wpOp
    simp only [ho]
    rw [hrun]
    cases hw : runs (G.take i) A.eval o.guard with
    | false =>
      rw [hw] at hstep'
      simp only [Bool.false_eq_true, if_false] at hstep' ⊢
      exact hnext undef W hC (fun _ _ _ _ _ _ h => h) (fun _ h => h) (by cases hds : o.dst.isSome <;> simpa using hstep')
    | true =>
      rw [hw] at hstep'
      simp only [if_true] at hstep' ⊢
      left
      unfold Oper.wp
      unfold opGives opPost at hstep'
      generalize (execOp A.eval o).run P W = r at hstep'
      cases r with
      | halt x w' => exact hstep'.elim
      | ok nx w' =>
        cases nx with
        | value v => obtain ⟨⟨h1, h2, h4⟩, h3⟩ := hstep'; exact hnext v w' h1 (hstab w' h1 h2) (fun hne => h4 (by simpa using hne)) h3
        | skip => obtain ⟨⟨h1, h2, h4⟩, h3⟩ := hstep'; exact hnext undef w' h1 (hstab w' h1 h2) (fun hne => h4 (by simpa using hne)) (by cases hds : o.dst.isSome <;> simpa [hds] using h3)
        | enter f args =>
          refine Calls.mono (R' := _) hstep' ?_
          rintro e w'' ⟨v, rfl, ⟨h1, h2, h4⟩, h3⟩
          exact hnext v w'' h1 (hstab w'' h1 h2) (fun hne => h4 (by simpa using hne)) h3
        | _ => exact hstep'.elim


theorem wp_region_tameN_cut {id : Nat} {Q : Exit → Act → World → Prop} {w : World} (C : World → Prop) (R : World → World → Prop) (N : World → Prop) (s : Nat) (hm : P.follows .mixedOrders = true) (n : Nat) (hn : a0.tmps.size = n) (oL : Oper) (ho : l.getLast? = some oL)
    (hB : tameB l n = true) (hB' : tameB l.dropLast n = true) (hL : lastB l = true) (hgL : oL.guard = none) (hC : C w.drew) (hN : N w.drew)
    (h : wpTameN P C R N l.dropLast s (l.dropLast.map (·.dst)) a0 (fun A W => wpList P l.toArray Q [oL] A W) l.dropLast.length l.dropLast []) : (Code.region id l.toArray true).wp P Q a0 w := by
  subst hn
  have e : l.dropLast ++ [oL] = l := by
    obtain ⟨ys, rfl⟩ := List.getLast?_eq_some_iff.1 ho
    rw [List.dropLast_concat]
  obtain ⟨G, hlen, _, hfin, hops⟩ := wpTameN_facts l.dropLast [] h
  have hw : ∀ A : Act, Region.wanted oL (yielded l.toArray A.tmps) = true := fun A => by simp [Region.wanted, hgL]
  have hno : ∀ (m j : Nat), (Array.replicate m false).getD j false = false := fun m j => by
    rw [Array.getD_eq_getD_getElem?, Array.getElem?_replicate]; split <;> rfl
  have h1 := tame_anyN (N := N) (s := s) (Q := lastQ P oL Q) (Qn := fun A W => lastQ P oL Q .normal A W) (fun _ _ h => h) hB' G (by simpa using hlen) (fun A W c s f => by
      have := hfin A W c s (by simpa using f)
      simp only [wpList, hw, if_true] at this
      exact this) (by simpa using hops) l.dropLast.length (Array.replicate l.dropLast.length false) a0 w.drew (by simp)
    (Nat.le_trans (List.length_filter_le _ _) (by simp)) hC ⟨rfl, rfl, fun _ _ => rfl⟩ (by intro j hj; rw [hno] at hj; cases hj) (by intro j o _ hj; rw [hno] at hj; cases hj) (fun _ => hN)
  refine wp_region_any hm ?_
  have h2 := tame_lastL (P := P) (Q := Q) (l := l.dropLast) (oL := oL) (tame_back (by rw [e]; exact hB)) (by rw [e]; exact hL) hgL _ _ _ _ (by simp) (by intro j o _ hj; rw [hno] at hj; cases hj) h1
  rw [← Array.replicate_succ, e] at h2
  have e1 : l.toArray.size = l.dropLast.length + 1 := by
    have := congrArg List.length e
    simp only [List.length_append, List.length_singleton] at this
    simp only [List.size_toArray]
    omega
  rw [e1]
  exact h2

variable {N : World → Prop} {l0 : List Oper} {s : Nat} {ds : List (Option Tmp)} {Q : Act → World → Prop} {n : Nat} {o : Oper} {rest : List Oper} {F : Facts}
theorem tameN_n (U : Value → World → Prop) (hst : ∀ v W W', C W' → R W W' → U v W → U v W')
    (hstep : ∀ ρ W, C W → (early l0 s F.length = true → N W) → Rd a0 ds ρ → (∀ e ∈ o.after, Region.binds .any e = true → Fact F ρ W e.on) → if runs F ρ o.guard then opGives P C (RN R N (F.length != s)) o ρ W (fun v => U (if o.dst.isSome then v else undef)) else U undef W)
    (h : wpTameN P C R N l0 s ds a0 Q n rest (F ++ [(o.dst, U)])) : wpTameN P C R N l0 s ds a0 Q n (o :: rest) F :=
  ⟨U, hst, fun A W hC hN hS hD => hstep A.eval W hC hN (Rd.of hS) hD, h⟩
theorem tameN_v {d : Tmp} (hd : o.dst = some d) (U : Value → World → Prop) (hst : ∀ v W W', C W' → R W W' → U v W → U v W')
    (hstep : ∀ ρ W, C W → (early l0 s F.length = true → N W) → Rd a0 ds ρ → (∀ e ∈ o.after, Region.binds .any e = true → Fact F ρ W e.on) → if runs F ρ o.guard then opGives P C (RN R N (F.length != s)) o ρ W U else U undef W)
    (h : wpTameN P C R N l0 s ds a0 Q n rest (F ++ [(some d, U)])) : wpTameN P C R N l0 s ds a0 Q n (o :: rest) F := by
  refine tameN_n U hst ?_ (hd ▸ h)
  intro ρ W hC hN hr hD
  have := hstep ρ W hC hN hr hD
  rw [hd]
  exact this
theorem tameN_q {d : Tmp} (hd : o.dst = some d) (v0 : Value)
    (hstep : ∀ ρ W, C W → (early l0 s F.length = true → N W) → Rd a0 ds ρ → (∀ e ∈ o.after, Region.binds .any e = true → Fact F ρ W e.on) → if runs F ρ o.guard then opGives P C (RN R N (F.length != s)) o ρ W (fun v _ => Is v0 v) else Is v0 undef)
    (h : wpTameN P C R N l0 s ds a0 Q n rest (F ++ [(some d, fun v _ => v = v0)])) : wpTameN P C R N l0 s ds a0 Q n (o :: rest) F := by
  refine tameN_v hd (fun v _ => Is v0 v) (fun _ _ _ _ _ h => h) ?_ h
  intro ρ W hC hN hr hD
  exact hstep ρ W hC hN hr hD
theorem tameN_end (m : Nat) (hm : a0.tmps.size = m) (hn : n = F.length) (h : ∀ ρ W, C W → Rd a0 ds ρ → allF F ρ W → Q { tmps := (evs ρ 0 m).toArray, defers := a0.defers } W) : wpTameN P C R N l0 s ds a0 Q n [] F :=
  tame_end (P := P) (R := R) m hm hn h
end
end Go.Proofs.YtkpengeaolcjhaaGreatDoor
