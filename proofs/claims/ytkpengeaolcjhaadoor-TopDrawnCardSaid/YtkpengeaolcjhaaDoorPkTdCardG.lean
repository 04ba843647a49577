/- One draw more never makes lots less even: plain. -/
import Derived.Test.YtkpengeaolcjhaaDoorPkTdCardF
import Derived.Test.YtkpengeaolcjhaaDoorPkTdCardE
import Derived.Test.YtkpengeaolcjhaaDoorPkMlTellsCardT
import Derived.Test.YtkpengeaolcjhaaDoorPkTdCardC
import Derived.Test.YtkpengeaolcjhaaDoorPkMlTellsCardV
namespace Go.Proofs.YtkpengeaolcjhaaDoor
open Go.RowKit Go.Shelf
set_option linter.unusedSimpArgs false

theorem first_least {α : Type} (f : α → Int × Int) : ∀ (L : List α) (o : Option α) (b : α), L.foldl (firstStep fun x y => lessU (f x) (f y)) o = some b → (∀ c, o = some c → lessU (f c) (f b) = false) ∧ ∀ x ∈ L, lessU (f x) (f b) = false
  | [], o, b, h => by
    rw [List.foldl_nil] at h
    refine ⟨fun c hc => ?_, fun x hx => by simp at hx⟩
    rw [h] at hc
    injection hc with hc
    subst hc
    unfold lessU
    simp
  | x :: L, o, b, h => by
    rw [List.foldl_cons] at h
    cases o with
    | none =>
      obtain ⟨h1, h2⟩ := first_least f L _ b h
      refine ⟨fun c hc => (by cases hc), fun y hy => ?_⟩
      rcases List.mem_cons.1 hy with rfl | hy
      · exact h1 y rfl
      · exact h2 y hy
    | some c =>
      simp only [firstStep] at h
      cases hl : lessU (f x) (f c) with
      | true =>
        rw [if_pos hl] at h
        obtain ⟨h1, h2⟩ := first_least f L _ b h
        have h3 := h1 x rfl
        refine ⟨fun d hd => ?_, fun y hy => ?_⟩
        · injection hd with hd
          subst hd
          unfold lessU at *
          simp only [Bool.or_eq_true, Bool.or_eq_false_iff, Bool.and_eq_true, Bool.and_eq_false_iff, decide_eq_true_eq, decide_eq_false_iff_not] at *
          omega
        · rcases List.mem_cons.1 hy with rfl | hy
          · exact h3
          · exact h2 y hy
      | false =>
        rw [if_neg (by simp only [hl]; decide)] at h
        obtain ⟨h1, h2⟩ := first_least f L _ b h
        have h3 := h1 c rfl
        refine ⟨fun d hd => ?_, fun y hy => ?_⟩
        · injection hd with hd
          subst hd
          exact h3
        · rcases List.mem_cons.1 hy with rfl | hy
          · unfold lessU at *
            simp only [Bool.or_eq_false_iff, Bool.and_eq_false_iff, decide_eq_false_iff_not] at *
            omega
          · exact h2 y hy
theorem first_none {α : Type} (g : α → α → Bool) : ∀ (L : List α) (o : Option α), L.foldl (firstStep g) o = none → o = none ∧ L = []
  | [], o, h => ⟨h, rfl⟩
  | x :: L, o, h => by
    rw [List.foldl_cons] at h
    have := (first_none g L _ h).1
    cases o with
    | none => simp [firstStep] at this
    | some c => simp only [firstStep] at this; split at this <;> cases this
theorem plansF_more {lots : Nat} {size : Int} : ∀ {fit fit' : List Bool} {f p : List Int}, fit.length = fit'.length → (∀ i : Nat, fit[i]? = some true → fit'[i]? = some true) → p ∈ plansF lots size fit f → p ∈ plansF lots size fit' f
  | [], [], f, p, _, _, h => h
  | b :: r, b' :: r', f, p, hl, hm, h => by
    unfold plansF at h ⊢
    obtain ⟨lot, hlot, h⟩ := List.mem_flatMap.1 h
    refine List.mem_flatMap.2 ⟨lot, hlot, ?_⟩
    cases ho : okLot size b f lot with
    | false => rw [ho] at h; simp at h
    | true =>
      rw [ho] at h
      have ho' : okLot size b' f lot = true := by
        unfold okLot at ho ⊢
        rw [Bool.or_eq_true] at ho ⊢
        rcases ho with ho | ho
        · exact .inl ho
        · rw [Bool.and_eq_true] at ho ⊢
          have h0 := hm 0 (by rw [ho.1]; rfl)
          have h1 : b' = true := by simpa using h0
          exact .inr ⟨h1, ho.2⟩
      rw [ho']
      simp only [if_true, List.mem_map] at h ⊢
      obtain ⟨q, hq, rfl⟩ := h
      exact ⟨q, plansF_more (by simpa using hl) (fun i hi => by have := hm (i + 1) (by simpa using hi); simpa using this) hq, rfl⟩
theorem up_of : ∀ (l : List Int), notDown l = true → noTwins l = true → l.Pairwise (· < ·)
  | [], _, _ => List.Pairwise.nil
  | [a], _, _ => by simp
  | a :: b :: l, h1, h2 => by
    simp only [notDown, noTwins, Bool.and_eq_true, decide_eq_true_eq, Bool.not_eq_true', decide_eq_false_iff_not] at h1 h2
    have ih := up_of (b :: l) h1.2 h2.2
    rw [List.pairwise_cons]
    refine ⟨fun x hx => ?_, ih⟩
    rcases List.mem_cons.1 hx with rfl | hx
    · omega
    · have := (List.pairwise_cons.1 ih).1 x hx
      omega
/-- A bale is told to be fit just if it is. -/
theorem fit_is : ∀ {l : List Cot}, (l.map (·.b.id)).Pairwise (· < ·) → ∀ {i : Nat} {x : Cot}, l[i]? = some x → ((fitIds l).any fun n => decide (n = x.b.id)) = fitB x
  | [], _, i, x, h => by simp at h
  | y :: l, hp, i, x, h => by
    rw [List.map_cons, List.pairwise_cons] at hp
    have e : fitIds (y :: l) = (if fitB y then [y.b.id] else []) ++ fitIds l := by
      unfold fitIds
      rw [List.filter_cons]
      split <;> rfl
    rw [e, List.any_append]
    have hall : ∀ n ∈ fitIds l, y.b.id < n := fun n hn => by
      unfold fitIds at hn
      obtain ⟨z, hz, rfl⟩ := List.mem_map.1 hn
      exact hp.1 _ (List.mem_map_of_mem (List.mem_filter.1 hz).1)
    cases i with
    | zero =>
      simp at h
      subst h
      have h2 : ((fitIds l).any fun n => decide (n = y.b.id)) = false := by
        rw [List.any_eq_false]
        intro n hn
        have := hall n hn
        simp; omega
      rw [h2]
      cases fitB y <;> simp
    | succ i =>
      have hx : l[i]? = some x := by simpa using h
      have h1 := fit_is hp.2 hx
      have h3 : y.b.id < x.b.id := hp.1 _ (List.mem_map_of_mem (List.mem_of_getElem? hx))
      have h2 : ((if fitB y then [y.b.id] else []).any fun n => decide (n = x.b.id)) = false := by
        rw [List.any_eq_false]
        intro n hn
        split at hn
        · simp at hn; subst hn; simp; omega
        · simp at hn
      rw [h1, h2, Bool.false_or]
/-- A mill, a bale of it with another bale's data. -/
def setB (m : Mll) (i : Nat) (x : Cot) : Mll := ⟨m.lots, m.size, m.cots.set i x⟩
theorem set_map {α β : Type} {l : List α} {i : Nat} {x y : α} (f : α → β) (hx : l[i]? = some x) (h : f y = f x) : (l.set i y).map f = l.map f := by
  rw [List.map_set, h]
  apply List.ext_getElem?
  intro j
  rw [List.getElem?_set]
  by_cases e : i = j
  · subst e
    rw [if_pos rfl, List.getElem?_map, hx]
    split
    · rfl
    · rename_i h1
      rw [List.length_map] at h1
      exact absurd (List.getElem?_eq_some_iff.1 hx).1 h1
  · rw [if_neg e]
theorem setB_check {m : Mll} {i : Nat} {x y : Cot} (hc : checkM m = true) (hx : m.cots[i]? = some x) (hid : y.b.id = x.b.id) (hl : y.len = x.len) (hs : y.str = x.str) (hv : valid y.b = true) : checkM (setB m i y) = true := by
  unfold checkM at hc ⊢
  simp only [Bool.and_eq_true] at hc ⊢
  obtain ⟨⟨⟨h0, h1⟩, h2⟩, h3⟩ := hc
  refine ⟨⟨⟨?_, ?_⟩, ?_⟩, ?_⟩
  · unfold ck0 at h0 ⊢
    simpa [setB] using h0
  · unfold ck1 at h1 ⊢
    simp only [Bool.not_eq_true', List.any_eq_false] at h1 ⊢
    intro z hz
    rcases List.mem_or_eq_of_mem_set hz with hz | rfl
    · exact h1 z hz
    · simp [hv]
  · unfold ck2 at h2 ⊢
    rw [show idsL (setB m i y) = idsL m from set_map (fun c : Cot => c.b.id) hx hid]
    exact h2
  · unfold ck3 at h3 ⊢
    simp only [Bool.not_eq_true', List.any_eq_false] at h3 ⊢
    intro z hz
    rcases List.mem_or_eq_of_mem_set hz with hz | rfl
    · exact h3 z hz
    · have := h3 x (List.mem_of_getElem? hx)
      unfold badC at this ⊢
      rwa [hl, hs]
theorem fitB_more {x y : Cot} (hm : MoreOf x.b y.b) (hv : valid x.b = true) (hv' : valid y.b = true) (ho' : okB y.b = true) (h : fitB x = true) : fitB y = true := by
  unfold fitB at h ⊢
  simp only [Bool.and_eq_true, decide_eq_true_eq] at h ⊢
  have a' : askE y.b (inB 1 4 1) 32 = 0 := by unfold askE; rw [hv', ho']; rfl
  have hk : kindK (kindS x.b) 1 = 2 := by
    have := h.2
    unfold kindB at this
    rwa [if_pos h.1] at this
  refine ⟨a', ?_⟩
  unfold kindB
  rw [if_pos a', more_kind hm hv hv' ho' (by decide) (by decide) (by rw [hk]; decide), hk]
/-- **The law**: with the draw the best plan is no less even. -/
theorem more_even {m : Mll} {i : Nat} {x y : Cot} (hc : checkM m = true) (hx : m.cots[i]? = some x) (hid : y.b.id = x.b.id) (hl : y.len = x.len) (hs : y.str = x.str) (hm : MoreOf x.b y.b) (hv' : valid y.b = true) (ho' : okB y.b = true) :
    (bestE m ≠ 0 → bestE m = 92 ∧ (bestE (setB m i y) = 0 ∨ bestE (setB m i y) = bestE m)) ∧ (bestE m = 0 → bestE (setB m i y) = 0 ∧ lessU (evenU m) (evenU (setB m i y)) = false) := by
  have hc' := setB_check hc hx hid hl hs hv'
  have hv := (mok_of hc).v x (List.mem_of_getElem? hx)
  have hsub : ∀ p ∈ plansL m, p ∈ plansL (setB m i y) := by
    intro p hp
    unfold plansL at hp ⊢
    refine plansF_more (by simp [fitL, setB]) (fun j hj => ?_) hp
    unfold fitL at hj ⊢
    show ((m.cots.set i y).map fitB)[j]? = some true
    rw [List.getElem?_map, List.getElem?_set]
    rw [List.getElem?_map] at hj
    by_cases e : i = j
    · subst e
      rw [if_pos rfl, if_pos (List.getElem?_eq_some_iff.1 hx).1]
      rw [hx] at hj
      have h1 : fitB x = true := by simpa using hj
      show some (fitB y) = some true
      rw [fitB_more hm hv hv' ho' h1]
    · rw [if_neg e]
      exact hj
  have hun : ∀ p, unev (setB m i y) p = unev m p := by
    intro p
    unfold unev
    rw [show lensL (setB m i y) = lensL m from set_map (fun c : Cot => c.len) hx hl, show strsL (setB m i y) = strsL m from set_map (fun c : Cot => c.str) hx hs]
    rfl
  refine ⟨fun h => ?_, fun h => ?_⟩
  · have e : bestP m = none := by
      cases hb : bestP m with
      | none => rfl
      | some p => exact absurd (be_ok hc hb).1 h
    refine ⟨(be_few hc e).1, ?_⟩
    rw [(be_few hc e).1]
    cases hb : bestP (setB m i y) with
    | none => exact .inr (be_few hc' hb).1
    | some p => exact .inl (be_ok hc' hb).1
  · cases hb : bestP m with
    | none => rw [(be_few hc hb).1] at h; cases h
    | some p =>
      have hp := hsub p (bestP_mem hb)
      cases hb' : bestP (setB m i y) with
      | none =>
        have := (first_none _ _ none hb').2
        rw [this] at hp
        cases hp
      | some q =>
        refine ⟨(be_ok hc' hb').1, ?_⟩
        rw [(be_ok hc hb).2.2, (be_ok hc' hb').2.2, ← hun p]
        exact (first_least (unev (setB m i y)) _ none q hb').2 p hp
/-- A draw with a number that none has can be put. -/
theorem put_fresh {b : Bale} (hv : valid b = true) (hd : b.draws.length ≠ 10) {i g h : Int} (hi : 0 ≤ i ∧ i ≤ b.layers - 1) (hg : 1 ≤ g ∧ g ≤ h ∧ h ≤ 9) :
    putE b ⟨freshN (b.draws.map (·.number)) 1, i, ⟨g, h⟩⟩ = 0 ∧ valid (putB b ⟨freshN (b.draws.map (·.number)) 1, i, ⟨g, h⟩⟩) = true ∧ MoreOf b (putB b ⟨freshN (b.draws.map (·.number)) 1, i, ⟨g, h⟩⟩) ∧ (putB b ⟨freshN (b.draws.map (·.number)) 1, i, ⟨g, h⟩⟩).id = b.id := by
  obtain ⟨n1, n2, n3, n4⟩ := number_ltI hv
  have hB := valid_bds hv
  have f1 := fresh_spec (b.draws.map (·.number)) 1 n1 (fun x hx => by have := (rise_lt _ _ n3).2 x hx; omega)
  rw [List.length_map] at f1
  have b1 := hB.nd
  generalize hn : freshN (b.draws.map (·.number)) 1 = n at f1
  have hx : badD b.layers ⟨n, i, ⟨g, h⟩⟩ = false := by unfold badD rightB inB; simp; omega
  obtain ⟨p1, p2, p3, p4⟩ := put_more hv hd (fun y hy e => f1.2.2 (by have h := List.mem_map_of_mem (f := fun z : Draw => z.number) hy; rw [show y.number = n from e] at h; exact h)) (show 1 ≤ n ∧ n ≤ 9999 by omega) hx
  refine ⟨p1, p2, p3, ?_⟩
  unfold putB
  rw [if_pos p1]
  rfl
end Go.Proofs.YtkpengeaolcjhaaDoor
/- The example of TopDrawn, by value. -/
namespace Go.Proofs.YtkpengeaolcjhaaDoor
open Go.RowKit Go.Shelf
set_option maxRecDepth 100000

/-- A bale of two layers, of which the first one shows a grade, and the other one some. -/
def opB (id g lo hi : Int) : Bale := ⟨id, 2, ⟨400, 400⟩, [⟨1, 0, ⟨g, g⟩⟩, ⟨2, 1, ⟨lo, hi⟩⟩], []⟩
def drX : Draw := ⟨3, 1, ⟨2, 4⟩⟩
def c1B : Cot := ⟨opB 1 3 3 3, 30, 80⟩
def c2B : Cot := ⟨opB 2 3 3 5, 31, 80⟩
def c3B : Cot := ⟨opB 3 4 4 4, 35, 80⟩
def c2Y : Cot := ⟨putB (opB 2 3 3 5) drX, 31, 80⟩
theorem drawn_1 : bestE ⟨1, 2, [c1B, c2B, c3B]⟩ = 0 ∧ evenU ⟨1, 2, [c1B, c2B, c3B]⟩ = (5, 0) := by
  constructor <;> kernel_rfl
theorem drawn_put : putE (opB 2 3 3 5) drX = 0 := by kernel_rfl
theorem drawn_kind : kindB (putB (opB 2 3 3 5) drX) 1 = 2 ∧ askE (putB (opB 2 3 3 5) drX) (inB 1 4 1) 32 = 0 := by
  constructor <;> kernel_rfl
theorem drawn_2 : bestE ⟨1, 2, [c1B, c2Y, c3B]⟩ = 0 ∧ evenU ⟨1, 2, [c1B, c2Y, c3B]⟩ = (1, 0) := by
  constructor <;> kernel_rfl
end Go.Proofs.YtkpengeaolcjhaaDoor
/- The example of TopDrawn: the walk. -/
namespace Go.Proofs.YtkpengeaolcjhaaDoor
open Go.RowKit Go.Shelf Go.Lib
set_option maxRecDepth 100000
set_option linter.unusedSimpArgs false

theorem slD_two {W : World} {g : Nat} {x y : Draw} (hB : Blk W g 81 #[.int .i64 x.number, .int .i64 x.layer, .int .i64 x.grade.lo, .int .i64 x.grade.hi, .int .i64 y.number, .int .i64 y.layer, .int .i64 y.grade.lo, .int .i64 y.grade.hi]) : SlD W (.slice (some ⟨g, 0, none⟩) 2 2) [x, y] := by
  refine ⟨_, 2, rfl, Nat.le_refl _, by unfold maxLen; decide, fun _ => ⟨g, 0, rfl, hB.lt, fun k z hk j u hu => ?_⟩⟩
  match k, hk with
  | 0, hk =>
    simp at hk
    subst hk
    match j, hu with
    | 0, hu => simp at hu; subst hu; simpa using hB.cell 0
    | 1, hu => simp at hu; subst hu; simpa using hB.cell 1
    | 2, hu => simp at hu; subst hu; simpa using hB.cell 2
    | 3, hu => simp at hu; subst hu; simpa using hB.cell 3
    | j + 4, hu => simp at hu
  | 1, hk =>
    simp at hk
    subst hk
    match j, hu with
    | 0, hu => simp at hu; subst hu; simpa using hB.cell 4
    | 1, hu => simp at hu; subst hu; simpa using hB.cell 5
    | 2, hu => simp at hu; subst hu; simpa using hB.cell 6
    | 3, hu => simp at hu; subst hu; simpa using hB.cell 7
    | j + 4, hu => simp at hu
  | k + 2, hk => simp at hk
theorem slC_three {W : World} {g : Nat} {x y z : Rc} (hB : Blk W g 61 (encC x ++ encC y ++ encC z).toArray) : SlC W (.slice (some ⟨g, 0, none⟩) 3 3) [x, y, z] := by
  refine ⟨_, 3, rfl, Nat.le_refl _, by unfold maxLen; decide, fun _ => ⟨g, 0, rfl, hB.lt, fun k r hk j u hu => ?_⟩⟩
  have hj : j < 8 := by have := (List.getElem?_eq_some_iff.1 hu).1; simpa using this
  have hc := hB.cell (k * 8 + j)
  rw [show (0 : Nat) + k * 8 + j = k * 8 + j by omega, hc]
  rw [List.getElem?_toArray]
  match k, hk with
  | 0, hk =>
    simp at hk
    subst hk
    rw [List.getElem?_append_left (by simp; omega), List.getElem?_append_left (by simp; omega)]
    simpa using hu
  | 1, hk =>
    simp at hk
    subst hk
    rw [List.getElem?_append_left (by simp; omega), List.getElem?_append_right (by simp)]
    simpa using hu
  | 2, hk =>
    simp at hk
    subst hk
    rw [List.getElem?_append_right (by simp)]
    have e : 2 * 8 + j - (encC x ++ encC y).length = j := by simp
    rw [e]
    exact hu
  | k + 3, hk => simp at hk
set_option maxHeartbeats 2000000 in
theorem opened_anyT (id g lo hi : Int) (w : World) : Calls Tryd.prog 82 #[.int .i64 id, .int .i64 g, .int .i64 lo, .int .i64 hi] w fun e w' => (∃ b, e = .returned (valB (opB id g lo hi) (.slice (some ⟨b, 0, none⟩) 2 2) (.slice none 0 0)) ∧ SlD w' (.slice (some ⟨b, 0, none⟩) 2 2) (opB id g lo hi).draws) ∧ Ext w w' := by
  go_enter Tryd.func82, Tryd.ntmps82
  go_wp2
  obtain ⟨w2, hw2⟩ : ∃ w2, w2 = (w.alloc (.cells #[.int .i64 id, .int .i64 2, .int .i64 400, .int .i64 400, .slice (some ⟨w.heap.size + 1, 0, none⟩) 2 2, .slice none 0 0] 59)).alloc (.cells #[.int .i64 1, .int .i64 0, .int .i64 g, .int .i64 g, .int .i64 2, .int .i64 1, .int .i64 lo, .int .i64 hi] 81) := ⟨_, rfl⟩
  rw [← hw2]
  have B0 : Blk w2 w.heap.size 59 #[.int .i64 id, .int .i64 2, .int .i64 400, .int .i64 400, .slice (some ⟨w.heap.size + 1, 0, none⟩) 2 2, .slice none 0 0] := hw2 ▸ (Blk.new _ _ _).alloc _
  have B1 : Blk w2 (w.heap.size + 1) 81 #[.int .i64 1, .int .i64 0, .int .i64 g, .int .i64 g, .int .i64 2, .int .i64 1, .int .i64 lo, .int .i64 hi] := hw2 ▸ Blk.at_ (by simp)
  have E2 : Ext w w2 := hw2 ▸ (Ext.al _ _).alloc _
  clear hw2
  have b0 := B0.cell 0
  have b1 := B0.cell 1
  have b2 := B0.cell 2
  have b3 := B0.cell 3
  have b4 := B0.cell 4
  have b5 := B0.cell 5
  simp at b0 b1 b2 b3 b4 b5
  refine bodyPost_ret (v := valB (opB id g lo hi) (.slice (some ⟨w.heap.size + 1, 0, none⟩) 2 2) (.slice none 0 0)) (by simp [results, Tryd.results82, go_sem, b0, b1, b2, b3, b4, b5, opB]) rfl ?_
  exact ⟨⟨_, rfl, slD_two B1⟩, E2⟩
set_option maxHeartbeats 4000000 in
theorem drawn_anyT (w : World) (hT : TabM w) : Calls Tryd.prog 40 #[] w fun e w' => e = .returned (.bool true) ∧ Ext w w' := by
  have HT := Lib.hid hT
  clear hT
  go_enter Tryd.func40, Tryd.ntmps40
  go_wp2_with fail
  refine (opened_anyT 1 3 3 3 w).mono ?_
  rintro e w1 ⟨⟨p1, rfl, h1⟩, hE⟩
  have H1 := Lib.hid h1; have E1 := Lib.hid hE
  clear h1 hE
  go_wp2_with fail
  refine (opened_anyT 2 3 3 5 w1).mono ?_
  rintro e w2 ⟨⟨p2, rfl, h2⟩, hE⟩
  have H2 := Lib.hid h2; have E2 := Lib.hid (E1.out.trans hE)
  replace H1 := Lib.hid (H1.out.ext hE)
  clear h2 hE E1
  go_wp2_with fail
  refine (opened_anyT 3 4 4 4 w2).mono ?_
  rintro e w3 ⟨⟨p3, rfl, h3⟩, hE⟩
  have H3 := Lib.hid h3; have E3 := Lib.hid (E2.out.trans hE)
  replace H1 := Lib.hid (H1.out.ext hE); replace H2 := Lib.hid (H2.out.ext hE)
  clear h3 hE E2
  go_wp2_with fail
  obtain ⟨r1, hr1⟩ : ∃ r : Rc, r = ⟨c1B, some ⟨p1, 0, none⟩, 2, 2, none, 0, 0⟩ := ⟨_, rfl⟩
  obtain ⟨r2, hr2⟩ : ∃ r : Rc, r = ⟨c2B, some ⟨p2, 0, none⟩, 2, 2, none, 0, 0⟩ := ⟨_, rfl⟩
  obtain ⟨r3, hr3⟩ : ∃ r : Rc, r = ⟨c3B, some ⟨p3, 0, none⟩, 2, 2, none, 0, 0⟩ := ⟨_, rfl⟩
  obtain ⟨w4, hw4⟩ : ∃ w4, w4 = (w3.alloc (.cells #[.int .i64 (opB 1 3 3 3).id, .int .i64 (opB 1 3 3 3).layers, .int .i64 (opB 1 3 3 3).dry.lo, .int .i64 (opB 1 3 3 3).dry.hi, .slice (some ⟨p1, 0, none⟩) 2 2, .slice none 0 0, .int .i64 30, .int .i64 80,
    .int .i64 (opB 2 3 3 5).id, .int .i64 (opB 2 3 3 5).layers, .int .i64 (opB 2 3 3 5).dry.lo, .int .i64 (opB 2 3 3 5).dry.hi, .slice (some ⟨p2, 0, none⟩) 2 2, .slice none 0 0, .int .i64 31, .int .i64 80,
    .int .i64 (opB 3 4 4 4).id, .int .i64 (opB 3 4 4 4).layers, .int .i64 (opB 3 4 4 4).dry.lo, .int .i64 (opB 3 4 4 4).dry.hi, .slice (some ⟨p3, 0, none⟩) 2 2, .slice none 0 0, .int .i64 35, .int .i64 80] 61)).alloc (.cells #[.int .i64 1, .int .i64 2, .slice (some ⟨w3.heap.size, 0, none⟩) 3 3] 24) := ⟨_, rfl⟩
  rw [← hw4]
  have BR := Lib.hid (show Blk w4 w3.heap.size 61 (encC r1 ++ encC r2 ++ encC r3).toArray by
    rw [hw4, hr1, hr2, hr3]
    exact (Blk.new _ _ _).alloc _)
  have BM := Lib.hid (show Blk w4 (w3.heap.size + 1) 24 #[.int .i64 1, .int .i64 2, .slice (some ⟨w3.heap.size, 0, none⟩) 3 3] from hw4 ▸ Blk.at_ (by simp))
  have E4 := Lib.hid (show Ext w w4 from hw4 ▸ (E3.out.alloc _).alloc _)
  have X4 := Lib.hid (show Ext w3 w4 from hw4 ▸ (Ext.al _ _).alloc _)
  clear hw4
  have ML := Lib.hid (show MlC w4 (.slice (some ⟨w3.heap.size, 0, none⟩) 3 3) [r1, r2, r3] from ⟨slC_three BR.out, fun r hr => by
    simp only [List.mem_cons, List.not_mem_nil, or_false] at hr
    rcases hr with rfl | rfl | rfl
    · rw [hr1]; exact ⟨H1.out.ext X4.out, Sl.nil _⟩
    · rw [hr2]; exact ⟨H2.out.ext X4.out, Sl.nil _⟩
    · rw [hr3]; exact ⟨H3.out.ext X4.out, Sl.nil _⟩⟩)
  have HM1 := Lib.hid (show mOf 1 2 [r1, r2, r3] = ⟨1, 2, [c1B, c2B, c3B]⟩ by rw [hr1, hr2, hr3]; rfl)
  refine (evenM_any 1 2 [r1, r2, r3] _ w4 (HT.out.ext E4.out) ML.out (by simp)).mono ?_
  rintro e w5 ⟨rfl, hE⟩
  rw [HM1.out, drawn_1.1, drawn_1.2]
  replace BR := Lib.hid (BR.out.ext hE); replace BM := Lib.hid (BM.out.ext hE)
  have E5 := Lib.hid (E4.out.trans hE)
  have X5 := Lib.hid (X4.out.trans hE)
  clear hE ML HM1 E4 X4
  obtain ⟨m0, m1, m2, mf, ml⟩ := BM.out.c3
  have z0 : w5.cell? ⟨w3.heap.size, 8, none⟩ = some (.int .i64 (opB 2 3 3 5).id) := by rw [BR.out.cell 8, hr1, hr2, hr3]; rfl
  have z1 : w5.cell? ⟨w3.heap.size, 9, none⟩ = some (.int .i64 (opB 2 3 3 5).layers) := by rw [BR.out.cell 9, hr1, hr2, hr3]; rfl
  have z2 : w5.cell? ⟨w3.heap.size, 10, none⟩ = some (.int .i64 (opB 2 3 3 5).dry.lo) := by rw [BR.out.cell 10, hr1, hr2, hr3]; rfl
  have z3 : w5.cell? ⟨w3.heap.size, 11, none⟩ = some (.int .i64 (opB 2 3 3 5).dry.hi) := by rw [BR.out.cell 11, hr1, hr2, hr3]; rfl
  have z4 : w5.cell? ⟨w3.heap.size, 12, none⟩ = some (.slice (some ⟨p2, 0, none⟩) 2 2) := by rw [BR.out.cell 12, hr1, hr2, hr3]; rfl
  have z5 : w5.cell? ⟨w3.heap.size, 13, none⟩ = some (.slice none 0 0) := by rw [BR.out.cell 13, hr1, hr2, hr3]; rfl
  go_wp2_with fail
  obtain ⟨y, hy⟩ : ∃ y, putB (opB 2 3 3 5) drX = y := ⟨_, rfl⟩
  have HY := Lib.hid hy
  refine (f44_any (opB 2 3 3 5) drX _ _ w5 (HT.out.ext E5.out).1 (H2.out.ext X5.out) (Sl.nil _)).mono ?_
  rintro e w6 ⟨⟨v, rfl, hv⟩, hE⟩
  rw [drawn_put]
  rw [hy] at hv
  obtain ⟨dv, wv, rfl, o1, o2⟩ := hv
  have O1 := Lib.hid o1; have O2 := Lib.hid o2
  have HZ5 := Lib.hid (show w3.heap.size < w5.heap.size from BR.out.lt)
  have D6 := Lib.hid (show SlD w6 dv y.draws from o1.sl (fun _ => rfl)); have W6 := Lib.hid (show SlW w6 wv y.weighs from o2.sl (fun _ => rfl))
  obtain ⟨Ad, nd, cd, rfl, -, -, -⟩ := D6.out.form
  obtain ⟨Aw, nw, cw, rfl, -, -, -⟩ := W6.out.form
  replace BR := Lib.hid (BR.out.ext hE); replace BM := Lib.hid (BM.out.ext hE)
  have E6 := Lib.hid (E5.out.trans hE)
  have X6 := Lib.hid (X5.out.trans hE)
  clear hE hy o1 o2 z0 z1 z2 z3 z4 z5 m0 m1 m2 mf ml E5 X5
  go_wp2_with fail
  obtain ⟨w7, hw7⟩ : ∃ w7, w7 = w6.alloc (.cells #[.int .i64 y.id, .int .i64 y.layers, .int .i64 y.dry.lo, .int .i64 y.dry.hi, .slice Ad nd cd, .slice Aw nw cw] 59) := ⟨_, rfl⟩
  rw [← hw7]
  have E7 := Lib.hid (show Ext w6 w7 from hw7 ▸ Ext.al _ _)
  have BX := Lib.hid (show Blk w7 w6.heap.size 59 #[.int .i64 y.id, .int .i64 y.layers, .int .i64 y.dry.lo, .int .i64 y.dry.hi, .slice Ad nd cd, .slice Aw nw cw] from hw7 ▸ Blk.new _ _ _)
  clear hw7
  refine (kindC_any y 1 _ _ w7 (HT.out.ext (E6.out.trans E7.out)).1 (D6.out.ext E7.out) (W6.out.ext E7.out)).mono ?_
  rintro e w8 ⟨rfl, hE⟩
  rw [show kindB y 1 = 2 by rw [← HY.out]; exact drawn_kind.1, show askE y (inB 1 4 1) 32 = 0 by rw [← HY.out]; exact drawn_kind.2]
  have E8 := Lib.hid (E7.out.trans hE)
  replace BX := Lib.hid (BX.out.ext hE)
  replace BR := Lib.hid (BR.out.ext E8.out); replace BM := Lib.hid (BM.out.ext E8.out)
  have D8 := Lib.hid (D6.out.ext E8.out); have W8 := Lib.hid (W6.out.ext E8.out)
  have X8 := Lib.hid (X6.out.trans E8.out)
  have EE8 := Lib.hid (E6.out.trans E8.out)
  replace O1 := Lib.hid (O1.out.ext E8.out); replace O2 := Lib.hid (O2.out.ext E8.out)
  clear hE E7 D6 W6 E6 X6 E8
  obtain ⟨m0, m1, m2, mf, ml⟩ := BM.out.c3
  have b0 := BX.out.cell 0
  have b1 := BX.out.cell 1
  have b2 := BX.out.cell 2
  have b3 := BX.out.cell 3
  have b4 := BX.out.cell 4
  have b5 := BX.out.cell 5
  simp at b0 b1 b2 b3 b4 b5
  have rf := BR.out.frozen
  have rl := BR.out.lt
  have z0 : w8.cell? ⟨w3.heap.size, 8, none⟩ = some (.int .i64 (opB 2 3 3 5).id) := by rw [BR.out.cell 8, hr1, hr2, hr3]; rfl
  have z1 : w8.cell? ⟨w3.heap.size, 9, none⟩ = some (.int .i64 (opB 2 3 3 5).layers) := by rw [BR.out.cell 9, hr1, hr2, hr3]; rfl
  have z2 : w8.cell? ⟨w3.heap.size, 10, none⟩ = some (.int .i64 (opB 2 3 3 5).dry.lo) := by rw [BR.out.cell 10, hr1, hr2, hr3]; rfl
  have z3 : w8.cell? ⟨w3.heap.size, 11, none⟩ = some (.int .i64 (opB 2 3 3 5).dry.hi) := by rw [BR.out.cell 11, hr1, hr2, hr3]; rfl
  have z4 : w8.cell? ⟨w3.heap.size, 12, none⟩ = some (.slice (some ⟨p2, 0, none⟩) 2 2) := by rw [BR.out.cell 12, hr1, hr2, hr3]; rfl
  have z5 : w8.cell? ⟨w3.heap.size, 13, none⟩ = some (.slice none 0 0) := by rw [BR.out.cell 13, hr1, hr2, hr3]; rfl
  go_upto_region 6 with (fail)
  obtain ⟨r4, hr4⟩ : ∃ r : Rc, r = ⟨⟨y, 31, 80⟩, Ad, nd, cd, Aw, nw, cw⟩ := ⟨_, rfl⟩
  obtain ⟨w9, hw9⟩ : ∃ w9, w9 = ((((((w8.setCell ⟨w3.heap.size, 8, none⟩ (.int .i64 y.id)).setCell ⟨w3.heap.size, 9, none⟩ (.int .i64 y.layers)).setCell ⟨w3.heap.size, 10, none⟩ (.int .i64 y.dry.lo)).setCell ⟨w3.heap.size, 11, none⟩ (.int .i64 y.dry.hi)).setCell ⟨w3.heap.size, 12, none⟩ (.slice Ad nd cd)).setCell ⟨w3.heap.size, 13, none⟩ (.slice Aw nw cw)) := ⟨_, rfl⟩
  rw [← hw9]
  have hg := HZ5.out
  have BR9 := Lib.hid (show Blk w9 w3.heap.size 61 (encC r1 ++ encC r4 ++ encC r3).toArray by
    have h := (((((BR.out.set_ 8 (.int .i64 y.id)).set_ 9 (.int .i64 y.layers)).set_ 10 (.int .i64 y.dry.lo)).set_ 11 (.int .i64 y.dry.hi)).set_ 12 (.slice Ad nd cd)).set_ 13 (.slice Aw nw cw)
    rw [← hw9] at h
    rw [hr1, hr2, hr3] at h
    rw [hr1, hr4, hr3]
    exact h)
  have P1 := Lib.hid (show Own encD 81 4 w9 w5.heap.size (.slice Ad nd cd) y.draws from hw9 ▸ (((((O1.out.far hg _).far hg _).far hg _).far hg _).far hg _).far hg _)
  have P2 := Lib.hid (show Own encW 141 4 w9 w5.heap.size (.slice Aw nw cw) y.weighs from hw9 ▸ (((((O2.out.far hg _).far hg _).far hg _).far hg _).far hg _).far hg _)
  have BM9 := Lib.hid (show Blk w9 (w3.heap.size + 1) 24 #[.int .i64 1, .int .i64 2, .slice (some ⟨w3.heap.size, 0, none⟩) 3 3] from hw9 ▸ (((((BM.out.far (by dsimp only; omega) _).far (by dsimp only; omega) _).far (by dsimp only; omega) _).far (by dsimp only; omega) _).far (by dsimp only; omega) _).far (by dsimp only; omega) _)
  have X9 := Lib.hid (show Ext w3 w9 from hw9 ▸ (((((X8.out.setCell (Nat.le_refl _) _).setCell (Nat.le_refl _) _).setCell (Nat.le_refl _) _).setCell (Nat.le_refl _) _).setCell (Nat.le_refl _) _).setCell (Nat.le_refl _) _)
  have E9 := Lib.hid (E3.out.trans X9.out)
  clear hw9 z0 z1 z2 z3 z4 z5 b0 b1 b2 b3 b4 b5 m0 m1 m2 mf ml rf rl hg X8 EE8
  have ML := Lib.hid (show MlC w9 (.slice (some ⟨w3.heap.size, 0, none⟩) 3 3) [r1, r4, r3] from ⟨slC_three BR9.out, fun r hr => by
    simp only [List.mem_cons, List.not_mem_nil, or_false] at hr
    rcases hr with rfl | rfl | rfl
    · rw [hr1]; exact ⟨H1.out.ext X9.out, Sl.nil _⟩
    · rw [hr4]; exact ⟨P1.out.sl (fun _ => rfl), P2.out.sl (fun _ => rfl)⟩
    · rw [hr3]; exact ⟨H3.out.ext X9.out, Sl.nil _⟩⟩)
  have HM2 := Lib.hid (show mOf 1 2 [r1, r4, r3] = ⟨1, 2, [c1B, c2Y, c3B]⟩ by rw [hr1, hr4, hr3, ← HY.out]; rfl)
  obtain ⟨m0, m1, m2, mf, ml⟩ := BM9.out.c3
  go_wp2_with fail
  refine (evenM_any 1 2 [r1, r4, r3] _ w9 (HT.out.ext E9.out) ML.out (by simp)).mono ?_
  rintro e w10 ⟨rfl, hE⟩
  rw [HM2.out, drawn_2.1, drawn_2.2]
  have E10 := Lib.hid (E9.out.trans hE)
  clear hE m0 m1 m2 mf ml
  go_wp2
  go_ret
  exact ⟨rfl, E10.out⟩
end Go.Proofs.YtkpengeaolcjhaaDoor
/- A bale is laid into a row of cottons. -/
namespace Go.Proofs.YtkpengeaolcjhaaDoor
open Go.RowKit Go.Shelf
set_option maxRecDepth 100000
set_option linter.unusedSimpArgs false

abbrev setB6 (W : World) (g o : Nat) (y0 y1 y2 y3 y4 y5 : Value) : World := (((((W.setCell ⟨g, o, none⟩ y0).setCell ⟨g, o + 1, none⟩ y1).setCell ⟨g, o + 2, none⟩ y2).setCell ⟨g, o + 3, none⟩ y3).setCell ⟨g, o + 4, none⟩ y4).setCell ⟨g, o + 5, none⟩ y5
theorem cellB6 {W : World} {g o : Nat} {t : TypeId} {cur : Array Value} (hB : Blk W g t cur) (ho : o + 5 < cur.size) (y0 y1 y2 y3 y4 y5 : Value) (q : Nat) :
    (setB6 W g o y0 y1 y2 y3 y4 y5).cell? ⟨g, q, none⟩ = if q = o + 5 then some y5 else if q = o + 4 then some y4 else if q = o + 3 then some y3 else if q = o + 2 then some y2 else if q = o + 1 then some y1 else if q = o then some y0 else W.cell? ⟨g, q, none⟩ := by
  have h := (((((hB.set_ o y0).set_ (o + 1) y1).set_ (o + 2) y2).set_ (o + 3) y3).set_ (o + 4) y4).set_ (o + 5) y5
  rw [h.cell q, hB.cell q]
  simp only [Array.getElem?_setIfInBounds, Array.size_setIfInBounds]
  by_cases h5 : q = o + 5
  · subst h5; rw [if_pos rfl, if_pos rfl, if_pos ho]
  rw [if_neg (Ne.symm h5), if_neg h5]
  by_cases h4 : q = o + 4
  · subst h4; rw [if_pos rfl, if_pos rfl, if_pos (by omega)]
  rw [if_neg (Ne.symm h4), if_neg h4]
  by_cases h3 : q = o + 3
  · subst h3; rw [if_pos rfl, if_pos rfl, if_pos (by omega)]
  rw [if_neg (Ne.symm h3), if_neg h3]
  by_cases h2 : q = o + 2
  · subst h2; rw [if_pos rfl, if_pos rfl, if_pos (by omega)]
  rw [if_neg (Ne.symm h2), if_neg h2]
  by_cases h1 : q = o + 1
  · subst h1; rw [if_pos rfl, if_pos rfl, if_pos (by omega)]
  rw [if_neg (Ne.symm h1), if_neg h1]
  by_cases h0 : q = o
  · subst h0; rw [if_pos rfl, if_pos rfl, if_pos (by omega)]
  rw [if_neg (Ne.symm h0), if_neg h0]
/-- The row with another bale's data at a place. -/
theorem slC_putB {W : World} {base g n c i : Nat} {L : List Rc} {x : Rc} {y : Bale} {da wa : Option Addr} {dn dc wn wc : Nat} (ho : Own encC 61 8 W base (.slice (some ⟨g, 0, none⟩) n c) L) (hx : L[i]? = some x) :
    SlC (setB6 W g (i * 8) (.int .i64 y.id) (.int .i64 y.layers) (.int .i64 y.dry.lo) (.int .i64 y.dry.hi) (.slice da dn dc) (.slice wa wn wc)) (.slice (some ⟨g, 0, none⟩) n c) (L.set i ⟨⟨y, x.c.len, x.c.str⟩, da, dn, dc, wa, wn, wc⟩) := by
  have hsl : SlC W (.slice (some ⟨g, 0, none⟩) n c) L := Own.sl encC_len ho
  rcases own_formG ho with ⟨h1, -⟩ | ⟨g', cap, cur, h1, hbg, hh, hlc, hmx, hcs, -⟩
  · simp at h1
  obtain ⟨h1, h2, h3⟩ : (some (⟨g, 0, none⟩ : Addr) = some ⟨g', 0, none⟩) ∧ n = L.length ∧ c = cap := by simpa using h1
  obtain rfl : g = g' := by simpa using h1
  clear h1
  subst h2 h3
  have hil := (List.getElem?_eq_some_iff.1 hx).1
  have hB : Blk W g 61 cur := hh
  have hsz : i * 8 + 5 < cur.size := by rw [hcs]; omega
  have hlt : g < (setB6 W g (i * 8) (.int .i64 y.id) (.int .i64 y.layers) (.int .i64 y.dry.lo) (.int .i64 y.dry.hi) (.slice da dn dc) (.slice wa wn wc)).heap.size := by simpa using hB.lt
  refine ⟨_, c, by rw [List.length_set], by rw [List.length_set]; exact hlc, hmx, fun _ => ⟨g, 0, rfl, hlt, fun k z hk j u hu => ?_⟩⟩
  have hj : j < 8 := by have := (List.getElem?_eq_some_iff.1 hu).1; simpa using this
  rw [show (0 : Nat) + k * 8 + j = k * 8 + j by omega, cellB6 hB hsz]
  obtain ⟨A', c', hv, -, -, hcell⟩ := hsl
  obtain ⟨b', off', hA, -, hcell⟩ := hcell (by omega)
  rw [hA] at hv
  obtain ⟨⟨rfl, rfl⟩, -⟩ : (g = b' ∧ 0 = off') ∧ c = c' := by simpa using hv
  by_cases hki : k = i
  · subst hki
    rw [List.getElem?_set_self hil] at hk
    injection hk with hk
    subst hk
    match j, hj, hu with
    | 0, _, hu => simp at hu; subst hu; rw [if_neg (by omega), if_neg (by omega), if_neg (by omega), if_neg (by omega), if_neg (by omega), if_pos (by omega)]
    | 1, _, hu => simp at hu; subst hu; rw [if_neg (by omega), if_neg (by omega), if_neg (by omega), if_neg (by omega), if_pos (by omega)]
    | 2, _, hu => simp at hu; subst hu; rw [if_neg (by omega), if_neg (by omega), if_neg (by omega), if_pos (by omega)]
    | 3, _, hu => simp at hu; subst hu; rw [if_neg (by omega), if_neg (by omega), if_pos (by omega)]
    | 4, _, hu => simp at hu; subst hu; rw [if_neg (by omega), if_pos (by omega)]
    | 5, _, hu => simp at hu; subst hu; rw [if_pos (by omega)]
    | 6, _, hu =>
      rw [if_neg (by omega), if_neg (by omega), if_neg (by omega), if_neg (by omega), if_neg (by omega), if_neg (by omega)]
      have h6 := hcell k x hx 6 u (by simpa using hu)
      simpa using h6
    | 7, _, hu =>
      rw [if_neg (by omega), if_neg (by omega), if_neg (by omega), if_neg (by omega), if_neg (by omega), if_neg (by omega)]
      have h7 := hcell k x hx 7 u (by simpa using hu)
      simpa using h7
  · rw [List.getElem?_set_ne (Ne.symm hki)] at hk
    rw [if_neg (by omega), if_neg (by omega), if_neg (by omega), if_neg (by omega), if_neg (by omega), if_neg (by omega)]
    have h6 := hcell k z hk j u hu
    simpa using h6
theorem extB6 {a W : World} (h : Ext a W) {g : Nat} (hg : a.heap.size ≤ g) (o : Nat) (y0 y1 y2 y3 y4 y5 : Value) : Ext a (setB6 W g o y0 y1 y2 y3 y4 y5) :=
  (((((h.setCell hg _).setCell hg _).setCell hg _).setCell hg _).setCell hg _).setCell hg _
theorem offB6 {W : World} {g : Nat} {t : TypeId} {cs : Array Value} (h : Blk W g t cs) (o : Nat) (y0 y1 y2 y3 y4 y5 : Value) : OffX t W (setB6 W g o y0 y1 y2 y3 y4 y5) := by
  intro b e' cs' hne hB
  have hb : b ≠ g := by
    rintro rfl
    have h1 : W.heap[b]? = some (.cells cs t (0, 0)) := h
    have h2 : W.heap[b]? = some (.cells cs' e' (0, 0)) := hB
    rw [h1] at h2
    injection h2 with h2
    injection h2 with _ h2 _
    exact hne h2.symm
  exact (((((hB.far hb _).far hb _).far hb _).far hb _).far hb _).far hb _
end Go.Proofs.YtkpengeaolcjhaaDoor
