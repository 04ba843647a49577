/- What the calls of ChainExamples give. -/
import Derived.Test.YtafdbgielmlihaaDoorPkChExamplesCardB
import Derived.Test.YtafdbgielmlihaaDoorPkChLeastCardW
import Derived.Test.YtafdbgielmlihaaDoorPkChLeastCardL
import Derived.Test.YtafdbgielmlihaaDoorPkChExamplesCardA
import Derived.Test.YtafdbgielmlihaaDoorPkChLeastCardH
import Derived.Test.YtafdbgielmlihaaDoorPkChLeastCardE
import Derived.Test.YtafdbgielmlihaaDoorPkChLeastCardP
import Derived.Test.YtafdbgielmlihaaDoorPkChLeastCardU
namespace Go.Proofs.YtafdbgielmlihaaDoor
open Go.RowKit Go.Shelf Go.Lib
set_option maxRecDepth 100000
set_option linter.unusedSimpArgs false

/-- A value and an error. -/
def ErrQ (E : Int) (w : World) (e : Ending) (w' : World) : Prop := (∃ v, e = .returned (.tuple #[v, .int .i64 E])) ∧ Ext w w'
/-- Two numbers and an error. -/
def ErrQ3 (E : Int) (w : World) (e : Ending) (w' : World) : Prop := (∃ v u, e = .returned (.tuple #[v, u, .int .i64 E])) ∧ Ext w w'
/-- A chain and an error. -/
def ErrQC (E : Int) (w : World) (e : Ending) (w' : World) : Prop := (∃ A n c A' n' c', e = .returned (.tuple #[.agg #[.slice A n c, .slice A' n' c'], .int .i64 E])) ∧ Ext w w'
theorem errC {E E' : Int} {C : Chn} {w : World} {e : Ending} {w' : World} (h : PutP E' C w e w') (hE : E' = E) : ErrQC E w e w' := by
  subst hE
  obtain ⟨⟨v, h1, h2⟩, h3⟩ := h
  obtain ⟨hv, sv, rfl, o1, o2⟩ := h2
  obtain ⟨A, n, c, rfl, -, -, -⟩ := (show SlI w' hv C.houses from o1.sl fun _ => rfl).form
  obtain ⟨A', n', c', rfl, -, -, -⟩ := (show SlL w' sv C.sales from o2.sl fun _ => rfl).form
  exact ⟨⟨_, _, _, _, _, _, h1⟩, h3⟩
/-- The chain lies there. -/
structure InC (c : Chn) (hv sv : Value) (w : World) : Prop where
  h : SlI w hv c.houses
  s : SlL w sv c.sales
theorem InC.ext {c : Chn} {hv sv : Value} {w w' : World} (h : InC c hv sv w) (e : Ext w w') : InC c hv sv w' := ⟨h.h.ext e, h.s.ext e⟩
theorem ring_in {v : Value} {w : World} (h : ringR v w) : ∃ hv sv, v = valC hv sv ∧ InC ringC hv sv w := by
  obtain ⟨b, hv, sv, h1, h2, h3⟩ := h
  exact ⟨hv, sv, h1, h2.sl fun _ => rfl, h3.sl fun _ => rfl⟩
theorem addsE_zeroX {c : Chn} {x : Sale} (h : addsE c x = 0) : checkP c = true ∧ rightP (withC c x) = true := by
  unfold addsE at h
  cases hc : checkP c with
  | false => rw [hc] at h; simp at h
  | true =>
    rw [hc] at h
    cases hr : rightP (withC c x) with
    | false => rw [hr] at h; simp at h
    | true => exact ⟨rfl, rfl⟩
theorem addsOf_existsX (c : Chn) (x : Sale) : ∃ v, AddsOf c x v := by
  by_cases h : addsE c x = 0
  · obtain ⟨h1, h2⟩ := addsE_zeroX h
    obtain ⟨l, hl⟩ := close_exists (check_right h1).1
    obtain ⟨m, hm⟩ := close_exists (right_of h2)
    exact ⟨_, fun _ => ⟨l, m, hl, hm, rfl⟩, fun h' => absurd h h'⟩
  · exact ⟨0, fun h' => absurd h' h, fun _ => rfl⟩
theorem nil_in (w : World) : InC ⟨[], []⟩ (.slice none 0 0) (.slice none 0 0) w := ⟨Sl.nil _, Sl.nil _⟩

theorem xRange6 (w : World) (v : Value) (hT : Tab w) (tv : ringR v w) : Calls Tryd.prog 35 #[v, .int .i64 6] w (ErrQ 61 w) := by
  obtain ⟨hv, sv, rfl, hc⟩ := ring_in tv
  have h := range_any ringC 6 0 0 hv sv w ring_range6 hT hc.h hc.s (by decide)
  rw [ring_rangeE6] at h
  exact h.mono fun e w' ⟨h1, h2⟩ => ⟨⟨_, h1⟩, h2⟩

theorem xRange3 (w : World) (v : Value) (hT : Tab w) (tv : ringR v w) : Calls Tryd.prog 35 #[v, .int .i64 3] w (SpanE 0 0 0 w) := by
  obtain ⟨hv, sv, rfl, hc⟩ := ring_in tv
  have h := range_any ringC 3 0 0 hv sv w ring_range3 hT hc.h hc.s (by decide)
  rw [show rangeE ringC 3 = 0 by kernel_rfl] at h
  exact h

theorem xWay33 (w : World) (v : Value) (hT : Tab w) (tv : ringR v w) : Calls Tryd.prog 53 #[v, .int .i64 3, .int .i64 3] w (ListQ [] 0 w) := by
  obtain ⟨hv, sv, rfl, hc⟩ := ring_in tv
  exact way_any ringC 3 3 [] 0 hv sv w ring_way33 hT hc.h hc.s (by decide)

theorem xPays (w : World) (v : Value) (hT : Tab w) (tv : ringR v w) : Calls Tryd.prog 37 #[v, .int .i64 (-1)] w (ErrQ 62 w) := by
  obtain ⟨hv, sv, rfl, hc⟩ := ring_in tv
  have h := pays_any ringC _ (-1) hv sv w ring_closeOf hT hc.h hc.s (by decide)
  rw [ring_pays_no.1] at h
  exact h.mono fun e w' ⟨⟨u, h1, _⟩, h2⟩ => ⟨⟨u, h1⟩, h2⟩

theorem xLoses5 (w : World) (v : Value) (hT : Tab w) (tv : ringR v w) : Calls Tryd.prog 39 #[v, .int .i64 5, valSp ⟨2, 1⟩] w (ErrQ 6 w) := by
  obtain ⟨hv, sv, rfl, hc⟩ := ring_in tv
  have h := loses_any ringC 5 ⟨2, 1⟩ hv sv w hT hc.h hc.s (by decide)
  rw [ring_loses5] at h
  exact h.mono fun e w' ⟨⟨u, h1, _⟩, h2⟩ => ⟨⟨u, h1⟩, h2⟩

theorem xLoses1 (w : World) (v : Value) (hT : Tab w) (tv : ringR v w) : Calls Tryd.prog 39 #[v, .int .i64 1, valSp ⟨2, 1⟩] w (ErrQ 62 w) := by
  obtain ⟨hv, sv, rfl, hc⟩ := ring_in tv
  have h := loses_any ringC 1 ⟨2, 1⟩ hv sv w hT hc.h hc.s (by decide)
  rw [ring_loses1] at h
  exact h.mono fun e w' ⟨⟨u, h1, _⟩, h2⟩ => ⟨⟨u, h1⟩, h2⟩

theorem xAdds1 (w : World) (v : Value) (hT : Tab w) (tv : ringR v w) : Calls Tryd.prog 51 #[v, valL ⟨1, 1, 2, 1, 0⟩] w (ErrQ 61 w) := by
  obtain ⟨hv, sv, rfl, hc⟩ := ring_in tv
  obtain ⟨n, hn⟩ := addsOf_existsX ringC ⟨1, 1, 2, 1, 0⟩
  have h := adds_any ringC ⟨1, 1, 2, 1, 0⟩ n hv sv w hn hT hc.h hc.s (by decide) (by decide)
  rw [ring_adds1] at h
  exact h.mono fun e w' ⟨h1, h2⟩ => ⟨⟨_, h1⟩, h2⟩

theorem xWay41 (w : World) (v : Value) (hT : Tab w) (tv : ringR v w) : Calls Tryd.prog 53 #[v, .int .i64 4, .int .i64 1] w (ErrQ 6 w) := by
  obtain ⟨hv, sv, rfl, hc⟩ := ring_in tv
  exact (way_any ringC 4 1 [] 6 hv sv w ring_way41 hT hc.h hc.s (by decide)).mono fun e w' ⟨⟨u, h1, _⟩, h2⟩ => ⟨⟨u, h1⟩, h2⟩

theorem xWay45 (w : World) (v : Value) (hT : Tab w) (tv : ringR v w) : Calls Tryd.prog 53 #[v, .int .i64 4, .int .i64 5] w (ErrQ 6 w) := by
  obtain ⟨hv, sv, rfl, hc⟩ := ring_in tv
  exact (way_any ringC 4 5 [] 6 hv sv w ring_way45 hT hc.h hc.s (by decide)).mono fun e w' ⟨⟨u, h1, _⟩, h2⟩ => ⟨⟨u, h1⟩, h2⟩

theorem xPut6 (w : World) (v : Value) (hT : Tab w) (tv : ringR v w) : Calls Tryd.prog 44 #[v, valL ⟨6, 1, 1, 1, 0⟩] w (ErrQC 61 w) := by
  obtain ⟨hv, sv, rfl, hc⟩ := ring_in tv
  exact (put_any ringC ⟨6, 1, 1, 1, 0⟩ hv sv w hT hc.h hc.s (by decide) (by decide)).mono fun e w' h => errC h ring_put6

theorem xStop5 (w : World) (v : Value) (hT : Tab w) (tv : ringR v w) : Calls Tryd.prog 48 #[v, .int .i64 5] w (ErrQC 6 w) := by
  obtain ⟨hv, sv, rfl, hc⟩ := ring_in tv
  exact (stop_any ringC 5 hv sv w hT hc.h hc.s (by decide) (by decide)).mono fun e w' h => errC h ring_stop5

theorem xCheck (w : World) (v : Value) (hT : Tab w) (tv : ringR v w) : Calls Tryd.prog 24 #[v] w (fun e w' => e = .returned (.int .i64 0) ∧ Ext w w') := by
  obtain ⟨hv, sv, rfl, hc⟩ := ring_in tv
  have h := check_any ringC hv sv w hT hc.h hc.s (by decide)
  rw [ring_check] at h
  exact h

theorem xStrike6 (w : World) (v lv : Value) (hT : Tab w) (tv : ringR v w) (hl : SlI w lv [6]) : Calls Tryd.prog 46 #[v, lv] w (ErrQC 61 w) := by
  obtain ⟨hv, sv, rfl, hc⟩ := ring_in tv
  exact (strike_any ringC [6] hv sv lv w hT hc.h hc.s hl (by decide) (by decide)).mono fun e w' h => errC h ring_strike6
theorem xWorst1 (w : World) (hT : Tab w) : Calls Tryd.prog 41 #[valC (.slice none 0 0) (.slice none 0 0), valSp ⟨0, 1000001⟩] w (ErrQ3 62 w) := by
  have h := worst_any ⟨[], []⟩ ⟨0, 1000001⟩ _ _ w hT (nil_in w).h (nil_in w).s (by decide)
  rw [no_worst] at h
  exact h.mono fun e w' ⟨h1, h2⟩ => ⟨⟨_, _, h1⟩, h2⟩
theorem xWorst2 (w : World) (hT : Tab w) : Calls Tryd.prog 41 #[valC (.slice none 0 0) (.slice none 0 0), valSp ⟨0, 1000000⟩] w (ErrQ3 6 w) := by
  have h := worst_any ⟨[], []⟩ ⟨0, 1000000⟩ _ _ w hT (nil_in w).h (nil_in w).s (by decide)
  rw [no_worst2] at h
  exact h.mono fun e w' ⟨h1, h2⟩ => ⟨⟨_, _, h1⟩, h2⟩
theorem xOwed (w : World) (hv sv : Value) (hT : Tab w) (hc : InC oddC hv sv w) : Calls Tryd.prog 20 #[valC hv sv] w (ErrQ 60 w) := by
  have h := owed_any oddC hv sv w hT hc.h hc.s (by decide)
  rw [odd_check] at h
  exact h.mono fun e w' ⟨⟨u, h1, _⟩, h2⟩ => ⟨⟨u, h1⟩, h2⟩
theorem xCheckO (w : World) (hv sv : Value) (hT : Tab w) (hc : InC oddC hv sv w) : Calls Tryd.prog 24 #[valC hv sv] w fun e w' => e = .returned (.int .i64 60) ∧ Ext w w' := by
  have h := check_any oddC hv sv w hT hc.h hc.s (by decide)
  rw [odd_check] at h
  exact h
theorem xAddsF (n : Int) (hn : AddsOf (fullC 5) ⟨11, 1, 2, 1, 0⟩ n) (w : World) (hv sv : Value) (hT : Tab w) (hc : InC (fullC 5) hv sv w) : Calls Tryd.prog 51 #[valC hv sv, valL ⟨11, 1, 2, 1, 0⟩] w fun e w' => e = .returned (.tuple #[.int .i64 n, .int .i64 0]) ∧ Ext w w' := by
  have h := adds_any (fullC 5) ⟨11, 1, 2, 1, 0⟩ n hv sv w hn hT hc.h hc.s (by decide) (by decide)
  rw [full_adds] at h
  exact h
theorem xPutF (w : World) (hv sv : Value) (hT : Tab w) (hc : InC (fullC 5) hv sv w) : Calls Tryd.prog 44 #[valC hv sv, valL ⟨0, 0, 0, 0, 0⟩] w (ErrQC 9 w) :=
  (put_any (fullC 5) ⟨0, 0, 0, 0, 0⟩ hv sv w hT hc.h hc.s (by decide) (by decide)).mono fun e w' h => errC h full_put
end Go.Proofs.YtafdbgielmlihaaDoor
/- ChainExamples: the last part of the walk. -/
namespace Go.Proofs.YtafdbgielmlihaaDoor
open Go.RowKit Go.Shelf Go.Lib
set_option maxRecDepth 100000
set_option linter.unusedSimpArgs false

set_option maxHeartbeats 8000000 in
theorem exa3_wp {w w0 : World} {a0 : Act} {g5 g6 : Nat} {A5 A5' A6 A6' : Option Addr} {n5 c5 n5' c5' n6 c6 n6' c6' : Nat} (hT : Tab w0) (hE : Ext w w0) (hB5 : Blk w0 g5 25 #[.slice A5 n5 c5, .slice A5' n5' c5']) (hO : InC oddC (.slice A5 n5 c5) (.slice A5' n5' c5') w0)
    (hB6 : Blk w0 g6 25 #[.slice A6 n6 c6, .slice A6' n6' c6']) (hU : InC (fullC 5) (.slice A6 n6 c6) (.slice A6' n6' c6') w0)
    (hF : Fr 234 [(5, .pointer (some ⟨g5, 0, none⟩)), (6, .pointer (some ⟨g6, 0, none⟩))] [] a0) :
    (subC [1, 1, 1, 1, 1, 1, 1, 1] (Tryd.f9.body.getD .skip)).wp Tryd.prog (bodyPost Tryd.prog Tryd.f9 fun e w' => e = .returned (.bool true) ∧ Ext w w') a0 w0 := by
  have HT := Lib.hid hT; have HE := Lib.hid hE; have B5 := Lib.hid hB5; have O5 := Lib.hid hO; have B6 := Lib.hid hB6; have O6 := Lib.hid hU
  have X := Lib.hid (Ext.refl w0)
  clear hT hE hB5 hO hB6 hU
  delta Tryd.f9
  simp only [subC, Option.getD_some]
  obtain ⟨ρ0, rfl, hρ⟩ := hF.open_
  simp only [List.forall_mem_cons] at hρ
  obtain ⟨r5, r6, -⟩ := hρ
  simp only [lst, Nat.reduceAdd, r5, r6]
  clear r5 r6 hF
  have t0 := B5.out.c2
  go_wp2_with fail
  clear t0
  refine (xOwed _ _ _ HT.out O5.out).mono ?_
  rintro e w1 ⟨⟨u1, rfl⟩, hE⟩
  replace X := Lib.hid (X.out.trans hE); clear hE
  go_wp2_with fail
  refine (ring_any _).mono ?_
  rintro e w2 ⟨⟨v, rfl, tv⟩, hE⟩
  replace X := Lib.hid (X.out.trans hE); clear hE
  have TV := Lib.hid (show ringR v w2 from ⟨_, tv⟩); clear tv
  go_wp2_with fail
  refine (xRange6 _ _ (HT.out.ext X.out) TV.out).mono ?_
  rintro e w3 ⟨⟨u2, rfl⟩, hE⟩
  replace X := Lib.hid (X.out.trans hE); clear hE
  clear TV
  go_wp2_with fail
  refine (ring_any _).mono ?_
  rintro e w4 ⟨⟨v, rfl, tv⟩, hE⟩
  replace X := Lib.hid (X.out.trans hE); clear hE
  have TV := Lib.hid (show ringR v w4 from ⟨_, tv⟩); clear tv
  go_wp2_with fail
  refine (xPays _ _ (HT.out.ext X.out) TV.out).mono ?_
  rintro e w5 ⟨⟨u3, rfl⟩, hE⟩
  replace X := Lib.hid (X.out.trans hE); clear hE
  clear TV
  go_wp2_with fail
  refine (ring_any _).mono ?_
  rintro e w6 ⟨⟨v, rfl, tv⟩, hE⟩
  replace X := Lib.hid (X.out.trans hE); clear hE
  have TV := Lib.hid (show ringR v w6 from ⟨_, tv⟩); clear tv
  go_wp2_with fail
  refine (span_any 2 1 _).mono ?_
  rintro e w7 ⟨rfl, hE⟩
  replace TV := Lib.hid (TV.out.ext hE)
  replace X := Lib.hid (X.out.trans hE); clear hE
  go_wp2_with fail
  refine (xLoses5 _ _ (HT.out.ext X.out) TV.out).mono ?_
  rintro e w8 ⟨⟨u4, rfl⟩, hE⟩
  replace X := Lib.hid (X.out.trans hE); clear hE
  clear TV
  go_wp2_with fail
  refine (ring_any _).mono ?_
  rintro e w9 ⟨⟨v, rfl, tv⟩, hE⟩
  replace X := Lib.hid (X.out.trans hE); clear hE
  have TV := Lib.hid (show ringR v w9 from ⟨_, tv⟩); clear tv
  go_wp2_with fail
  refine (span_any 2 1 _).mono ?_
  rintro e w10 ⟨rfl, hE⟩
  replace TV := Lib.hid (TV.out.ext hE)
  replace X := Lib.hid (X.out.trans hE); clear hE
  go_wp2_with fail
  refine (xLoses1 _ _ (HT.out.ext X.out) TV.out).mono ?_
  rintro e w11 ⟨⟨u5, rfl⟩, hE⟩
  replace X := Lib.hid (X.out.trans hE); clear hE
  clear TV
  go_wp2_with fail
  refine (span_any 0 1000001 _).mono ?_
  rintro e w12 ⟨rfl, hE⟩
  replace X := Lib.hid (X.out.trans hE); clear hE
  go_wp2_with fail
  refine (xWorst1 _ (HT.out.ext X.out)).mono ?_
  rintro e w13 ⟨⟨u6, v6, rfl⟩, hE⟩
  replace X := Lib.hid (X.out.trans hE); clear hE
  go_wp2_with fail
  refine (span_any 0 1000000 _).mono ?_
  rintro e w14 ⟨rfl, hE⟩
  replace X := Lib.hid (X.out.trans hE); clear hE
  go_wp2_with fail
  refine (xWorst2 _ (HT.out.ext X.out)).mono ?_
  rintro e w15 ⟨⟨u7, v7, rfl⟩, hE⟩
  replace X := Lib.hid (X.out.trans hE); clear hE
  go_wp2_with fail
  refine (ring_any _).mono ?_
  rintro e w16 ⟨⟨v, rfl, tv⟩, hE⟩
  replace X := Lib.hid (X.out.trans hE); clear hE
  have TV := Lib.hid (show ringR v w16 from ⟨_, tv⟩); clear tv
  go_wp2_with fail
  refine (sale_any 1 1 2 1 0 _).mono ?_
  rintro e w17 ⟨rfl, hE⟩
  replace TV := Lib.hid (TV.out.ext hE)
  replace X := Lib.hid (X.out.trans hE); clear hE
  go_wp2_with fail
  refine (xAdds1 _ _ (HT.out.ext X.out) TV.out).mono ?_
  rintro e w18 ⟨⟨u8, rfl⟩, hE⟩
  replace X := Lib.hid (X.out.trans hE); clear hE
  clear TV
  go_wp2
  obtain ⟨wa, hwa⟩ : ∃ wa, wa = w18 := ⟨_, rfl⟩
  subst hwa
  have B6a := Lib.hid (B6.out.ext X.out); have O6a := Lib.hid (O6.out.ext X.out); have HTa := Lib.hid (HT.out.ext X.out)
  have m0 := fun V (h : Ext wa V) => (B6a.out.ext h).c2
  obtain ⟨nf, hnf⟩ := addsOf_existsX (fullC 5) ⟨11, 1, 2, 1, 0⟩
  have HNF := Lib.hid hnf; clear hnf
  refine wp_region_tame (fun W => Ext wa W) (fun W W' => Ext W W') (by kernel_rfl) 234 rfl (by decide +kernel) (Ext.refl _).drew ?_
  repeat (apply tame_q rfl; (intro ρ W hC hr hD; (obtain ⟨hrc, hrg, hrf, hrs⟩ := hr); (simp [go_sem] at hD); go_simp; first | exact ⟨⟨hC, Ext.refl _⟩, rfl⟩ | exact ⟨⟨hC, RS.refl _⟩, rfl⟩ | exact rfl); simp only [List.nil_append, List.cons_append])
  apply tame_q rfl
  · intro ρ W hC hr hD
    obtain ⟨hrc, hrg, hrf, hrs⟩ := hr
    simp [go_sem] at hD
    go_simp
    refine (sale_any 11 1 2 1 0 W).mono ?_
    rintro e w' ⟨rfl, hE⟩
    exact ⟨_, rfl, ⟨hC.trans hE, hE⟩, rfl⟩
  simp only [List.nil_append, List.cons_append]
  apply tame_q rfl
  · intro ρ W hC hr hD
    obtain ⟨hrc, hrg, hrf, hrs⟩ := hr
    simp [go_sem] at hD
    go_simp
    refine (xAddsF nf HNF.out W _ _ (HTa.out.ext hC) (O6a.out.ext hC)).mono ?_
    rintro e w' ⟨rfl, hE⟩
    exact ⟨_, rfl, ⟨hC.trans hE, hE⟩, rfl⟩
  simp only [List.nil_append, List.cons_append]
  repeat (apply tame_q rfl; (intro ρ W hC hr hD; (obtain ⟨hrc, hrg, hrf, hrs⟩ := hr); (simp [go_sem] at hD); go_simp; first | exact ⟨⟨hC, Ext.refl _⟩, rfl⟩ | exact ⟨⟨hC, RS.refl _⟩, rfl⟩ | exact rfl); simp only [List.nil_append, List.cons_append])
  refine tame_end_put rfl rfl (fun ρ W hC hr hF => ?_)
  simp [go_sem] at hF
  simp only [putF, hF, List.set_cons_succ, List.set_cons_zero]
  clear hF hr
  replace X := Lib.hid (X.out.trans hC)
  clear hC m0 B6a O6a HTa
  obtain ⟨wb, hwb⟩ : ∃ wb, wb = W := ⟨_, rfl⟩
  subst hwb
  go_wp2_with fail
  refine (ring_any _).mono ?_
  rintro e w19 ⟨⟨v, rfl, tv⟩, hE⟩
  replace X := Lib.hid (X.out.trans hE); clear hE
  have TV := Lib.hid (show ringR v w19 from ⟨_, tv⟩); clear tv
  go_wp2_with fail
  refine (xWay41 _ _ (HT.out.ext X.out) TV.out).mono ?_
  rintro e w20 ⟨⟨u9, rfl⟩, hE⟩
  replace X := Lib.hid (X.out.trans hE); clear hE
  clear TV
  go_wp2_with fail
  refine (ring_any _).mono ?_
  rintro e w21 ⟨⟨v, rfl, tv⟩, hE⟩
  replace X := Lib.hid (X.out.trans hE); clear hE
  have TV := Lib.hid (show ringR v w21 from ⟨_, tv⟩); clear tv
  go_wp2_with fail
  refine (xWay45 _ _ (HT.out.ext X.out) TV.out).mono ?_
  rintro e w22 ⟨⟨u10, rfl⟩, hE⟩
  replace X := Lib.hid (X.out.trans hE); clear hE
  clear TV
  have t0 := (B6.out.ext X.out).c2
  go_wp2_with fail
  clear t0
  refine (xPutF _ _ _ (HT.out.ext X.out) (O6.out.ext X.out)).mono ?_
  rintro e w23 ⟨⟨Ax, nx, cx, Bx, mx, dx, rfl⟩, hE⟩
  replace X := Lib.hid (X.out.trans hE); clear hE
  go_wp2_with fail
  replace X := Lib.hid (X.out.alloc (.cells #[.slice Ax nx cx, .slice Bx mx dx] 25))
  refine (ring_any _).mono ?_
  rintro e w24 ⟨⟨v, rfl, tv⟩, hE⟩
  replace X := Lib.hid (X.out.trans hE); clear hE
  have TV := Lib.hid (show ringR v w24 from ⟨_, tv⟩); clear tv
  go_wp2_with fail
  refine (sale_any 6 1 1 1 0 _).mono ?_
  rintro e w25 ⟨rfl, hE⟩
  replace TV := Lib.hid (TV.out.ext hE)
  replace X := Lib.hid (X.out.trans hE); clear hE
  go_wp2_with fail
  refine (xPut6 _ _ (HT.out.ext X.out) TV.out).mono ?_
  rintro e w26 ⟨⟨Ax, nx, cx, Bx, mx, dx, rfl⟩, hE⟩
  replace X := Lib.hid (X.out.trans hE); clear hE
  clear TV
  go_wp2_with fail
  replace X := Lib.hid (X.out.alloc (.cells #[.slice Ax nx cx, .slice Bx mx dx] 25))
  refine (ring_any _).mono ?_
  rintro e w27 ⟨⟨v, rfl, tv⟩, hE⟩
  replace X := Lib.hid (X.out.trans hE); clear hE
  have TV := Lib.hid (show ringR v w27 from ⟨_, tv⟩); clear tv
  have S3 := Lib.hid (show SlI (w27.alloc (.cells #[.int .i64 6] 3)) (.slice (some ⟨w27.heap.size, 0, none⟩) 1 1) [6] from Own.sl (enc := encI) (sz := 1) (fun _ => rfl) (Own.lit (enc := encI) (sz := 1) (e := 3) (base := w27.heap.size) (l := ([6] : List Int)) (fun _ => rfl) (Blk.new w27 3 #[.int .i64 6]) (by simp) (Nat.le_refl _) (by decide)))
  replace X := Lib.hid (X.out.alloc (.cells #[.int .i64 6] 3)); replace TV := Lib.hid (TV.out.ext (Ext.al _ (.cells #[.int .i64 6] 3)))
  go_wp2_with fail
  refine (xStrike6 _ _ _ (HT.out.ext X.out) TV.out S3.out).mono ?_
  rintro e w28 ⟨⟨Ax, nx, cx, Bx, mx, dx, rfl⟩, hE⟩
  replace X := Lib.hid (X.out.trans hE); clear hE
  clear TV S3
  go_wp2_with fail
  replace X := Lib.hid (X.out.alloc (.cells #[.slice Ax nx cx, .slice Bx mx dx] 25))
  refine (ring_any _).mono ?_
  rintro e w29 ⟨⟨v, rfl, tv⟩, hE⟩
  replace X := Lib.hid (X.out.trans hE); clear hE
  have TV := Lib.hid (show ringR v w29 from ⟨_, tv⟩); clear tv
  go_wp2_with fail
  refine (xStop5 _ _ (HT.out.ext X.out) TV.out).mono ?_
  rintro e w30 ⟨⟨Ax, nx, cx, Bx, mx, dx, rfl⟩, hE⟩
  replace X := Lib.hid (X.out.trans hE); clear hE
  clear TV
  have t0 := ((B5.out.ext X.out).alloc (.cells #[.slice Ax nx cx, .slice Bx mx dx] 25)).c2
  go_wp2_with fail
  replace X := Lib.hid (X.out.alloc (.cells #[.slice Ax nx cx, .slice Bx mx dx] 25))
  clear t0
  refine (xCheckO _ _ _ (HT.out.ext X.out) (O5.out.ext X.out)).mono ?_
  rintro e w31 ⟨rfl, hE⟩
  replace X := Lib.hid (X.out.trans hE); clear hE
  go_wp2_with fail
  refine (ring_any _).mono ?_
  rintro e w32 ⟨⟨v, rfl, tv⟩, hE⟩
  replace X := Lib.hid (X.out.trans hE); clear hE
  have TV := Lib.hid (show ringR v w32 from ⟨_, tv⟩); clear tv
  go_wp2_with fail
  refine (xCheck _ _ (HT.out.ext X.out) TV.out).mono ?_
  rintro e w33 ⟨rfl, hE⟩
  replace X := Lib.hid (X.out.trans hE); clear hE
  go_wp2
  go_ret
  exact ⟨rfl, HE.out.trans X.out⟩
end Go.Proofs.YtafdbgielmlihaaDoor
/- ChainExamples: two rings in boxes, one with a sale of too many bales, one with five sales more. -/
namespace Go.Proofs.YtafdbgielmlihaaDoor
open Go.RowKit Go.Shelf Go.Lib
set_option maxRecDepth 100000
set_option linter.unusedSimpArgs false

theorem own_topX {α : Type} {enc : α → List Value} {sz base : Nat} {e : TypeId} {w : World} {v : Value} {l : List α} (h : Own enc e sz w base v l) : ∀ g, v.ownBlock = some g → g < w.heap.size := fun g hg => by
  obtain ⟨cur, hh⟩ := own_heap h g hg
  exact (Array.getElem?_eq_some_iff.1 hh).1
/-- The two boxes, while sales are put into the second. -/
structure XU (w0 : World) (base g5 g6 gs : Nat) (cur : Array Value) (hv5 sv5 hv6 : Value) (k : Nat) (cv : Value) (V : World) : Prop where
  ex : Ext w0 V
  hz : w0.heap.size ≤ base
  big : base ≤ V.heap.size
  b5 : Blk V g5 25 #[hv5, sv5]
  b6 : Blk V g6 25 #[hv6, cv]
  hg : base ≤ g5 ∧ base ≤ g6 ∧ g5 ≠ g6 ∧ gs < base
  c5 : Blk V gs 68 cur
  h5 : Own encI 3 1 V w0.heap.size hv5 [1, 2, 3, 4]
  h6 : Own encI 3 1 V base hv6 [1, 2, 3, 4]
  d : NewF encL 5 68 base (fullC k).sales cv V
section
variable {w0 : World} {base g5 g6 gs : Nat} {cur : Array Value} {hv5 sv5 hv6 : Value} {k : Nat} {cv : Value} {V V' : World}
theorem XU.ext (h : XU w0 base g5 g6 gs cur hv5 sv5 hv6 k cv V) (e : Ext V V') : XU w0 base g5 g6 gs cur hv5 sv5 hv6 k cv V' :=
  ⟨h.ex.trans e, h.hz, Nat.le_trans h.big e.size, h.b5.ext e, h.b6.ext e, h.hg, h.c5.ext e, h.h5.ext e, h.h6.ext e, ⟨h.d.1.ext e, h.d.2⟩⟩
theorem XU.old {y : Sale} (h : XU w0 base g5 g6 gs cur hv5 sv5 hv6 k cv V) (hR : RF encL 5 68 base ((fullC k).sales ++ [y]) y V V') (hB : Below base V V') (hO : OffX 68 V V') : XU w0 base g5 g6 gs cur hv5 sv5 hv6 k cv V' :=
  ⟨ext_belowX h.ex hB h.hz hR.1, h.hz, Nat.le_trans h.big hR.1, hO _ _ _ (by decide) h.b5, hO _ _ _ (by decide) h.b6, h.hg, (hB.block gs h.hg.2.2.2).trans h.c5, h.h5.offX hO (by decide), h.h6.offX hO (by decide), ⟨hR.2.1 _ (List.prefix_append _ _) cv h.d.1, h.d.2⟩⟩
theorem XU.put {cv' : Value} (h : XU w0 base g5 g6 gs cur hv5 sv5 hv6 k cv V) (hN : NewF encL 5 68 base (fullC (k + 1)).sales cv' V) : XU w0 base g5 g6 gs cur hv5 sv5 hv6 (k + 1) cv' (V.setCell ⟨g6, 1, none⟩ cv') :=
  ⟨h.ex.setCell (by have := h.hz; have := h.hg; show w0.heap.size ≤ g6; omega) _, h.hz, by simpa [World.setCell] using h.big, h.b5.far (fun e => h.hg.2.2.1 e) _, by have := h.b6.set_ 1 cv'; simpa using this, h.hg, h.c5.far (fun e => by have e : gs = g6 := e; have := h.hg; omega) _,
    own_RX h.h5 (by decide) (RX.set h.b6), own_RX h.h6 (by decide) (RX.set h.b6), ⟨own_RX hN.1 (by decide) (RX.set h.b6), hN.2⟩⟩
end

set_option maxHeartbeats 8000000 in
theorem exa2_wp {w w0 : World} {a0 : Act} (hT : Tab w0) (hE : Ext w w0) (hF : Fr 234 [] [] a0) :
    (subC [1, 1, 1, 1, 1] (Tryd.f9.body.getD .skip)).wp Tryd.prog (bodyPost Tryd.prog Tryd.f9 fun e w' => e = .returned (.bool true) ∧ Ext w w') a0 w0 := by
  have HT := Lib.hid hT; have HE := Lib.hid hE
  clear hT hE
  delta Tryd.f9
  simp only [subC, Option.getD_some]
  obtain ⟨ρ0, rfl, hρ⟩ := hF.open_
  simp only [lst, Nat.reduceAdd]
  clear hρ hF
  go_wp2_with fail
  refine (ring_any _).mono ?_
  rintro e w1 ⟨⟨v1, rfl, tv⟩, hE1⟩
  obtain ⟨hv5, sv5, rfl, oh5, os5⟩ := tv
  have EX1 := Lib.hid hE1; clear hE1
  have H5 := Lib.hid oh5; have S5 := Lib.hid os5; clear oh5 os5
  go_wp2_with fail
  refine (ring_any _).mono ?_
  rintro e w2 ⟨⟨v2, rfl, tv⟩, hE2⟩
  obtain ⟨hv6, sv6, rfl, oh6, os6⟩ := tv
  have EX2 := Lib.hid hE2; clear hE2
  have H6 := Lib.hid oh6; have S6 := Lib.hid os6; clear oh6 os6
  obtain ⟨A5, n5, c5, e5, -, -, -⟩ := (show SlI w1 hv5 _ from H5.out.sl fun _ => rfl).form
  obtain ⟨A6, n6, c6, e6, -, -, -⟩ := (show SlI w2 hv6 _ from H6.out.sl fun _ => rfl).form
  obtain ⟨gs, c5', e5', hgs⟩ := own_succ S5.out
  obtain ⟨gt, c6', e6', hgt⟩ := own_succ S6.out
  subst e5 e6 e5' e6'
  obtain ⟨w3, hw3⟩ : ∃ w3, w3 = (w2.alloc (.cells #[.slice A5 n5 c5, .slice (some ⟨gs, 0, none⟩) 5 c5'] 25)).alloc (.cells #[.slice A6 n6 c6, .slice (some ⟨gt, 0, none⟩) 5 c6'] 25) := ⟨_, rfl⟩
  have EX3 := Lib.hid (show Ext w2 w3 from hw3 ▸ (Ext.al _ _).alloc _)
  have B5 := Lib.hid (show Blk w3 w2.heap.size 25 #[.slice A5 n5 c5, .slice (some ⟨gs, 0, none⟩) 5 c5'] from hw3 ▸ (Blk.new _ _ _).alloc _)
  have B6 := Lib.hid (show Blk w3 (w2.heap.size + 1) 25 #[.slice A6 n6 c6, .slice (some ⟨gt, 0, none⟩) 5 c6'] from hw3 ▸ Blk.at_ (by simp))
  have T5 := Lib.hid (show Own encL 68 5 w3 w0.heap.size (.slice (some ⟨gs, 0, none⟩) 5 c5') ringC.sales from S5.out.ext (EX2.out.trans EX3.out))
  have T6 := Lib.hid (show Own encL 68 5 w3 w1.heap.size (.slice (some ⟨gt, 0, none⟩) 5 c6') ringC.sales from S6.out.ext EX3.out)
  have hgs1 : gs < w1.heap.size := own_topX S5.out gs (by simp [Value.ownBlock])
  have hz1 := EX1.out.size
  have hz2 := EX2.out.size
  obtain ⟨uo, huo⟩ : ∃ u, w3.cell? ⟨gs, 3, none⟩ = some u := by
    rcases own_form T5.out with ⟨h1, _⟩ | ⟨g, cap, cur, e1, hb, hB, hlc, hcm, hcs, htk⟩
    · cases h1
    · injection e1 with e1 _ e3
      injection e1 with e1
      injection e1 with e1
      subst e1
      have hl : ringC.sales.length = 5 := rfl
      have h3 : 3 < cur.size := by omega
      exact ⟨cur[3], ((show Blk w3 gs 68 cur from hB).cell 3).trans (by simp [h3])⟩
  have hfz := own_frozen T5.out 3
  have x5 := B5.out.c2
  have HW3 := Lib.hid hw3
  rw [hw3] at huo hfz x5
  clear hw3
  go_wp2_with fail
  clear x5
  obtain ⟨w4, hw4⟩ : ∃ w4, w4 = w3.setCell ⟨gs, 3, none⟩ (.int .i64 10) := ⟨_, rfl⟩
  have X5 := Lib.hid (show Own encL 68 5 w4 w0.heap.size (.slice (some ⟨gs, 0, none⟩) 5 c5') oddC.sales from hw4 ▸ own_cellset (k := 3) (u := .int .i64 10) T5.out)
  have X0 := Lib.hid (show ∃ cur, Blk w4 gs 68 cur ∧ ∀ V, Blk V gs 68 cur → SlL V (.slice (some ⟨gs, 0, none⟩) 5 c5') oddC.sales from by
    obtain ⟨p1, p2⟩ := X5.out
    rcases p2 with ⟨h, _⟩ | ⟨g2, cap, cur, e1, hb, hg, h5⟩
    · cases h
    · injection e1 with e1 _ e3
      injection e1 with e1
      injection e1 with e1
      subst e1
      exact ⟨cur, hg, fun V h => Own.sl (e := 68) (base := w0.heap.size) (fun _ => rfl) ⟨p1, .inr ⟨gs, cap, cur, by rw [e3]; rfl, hb, h, h5⟩⟩⟩)
  obtain ⟨cur, hC4, hS⟩ := X0.out
  have HS := Lib.hid hS
  have I0 := Lib.hid (show XU w0 w1.heap.size w2.heap.size (w2.heap.size + 1) gs cur (.slice A5 n5 c5) (.slice (some ⟨gs, 0, none⟩) 5 c5') (.slice A6 n6 c6) 0 (.slice (some ⟨gt, 0, none⟩) 5 c6') w4 from by
    have hz3 := EX3.out.size
    refine ⟨hw4 ▸ ((EX1.out.trans EX2.out).trans EX3.out).setCell (by exact hgs) _, hz1, by rw [hw4]; simp [World.setCell]; omega, hw4 ▸ B5.out.far (fun e => by have e : w2.heap.size = gs := e; omega) _, hw4 ▸ B6.out.far (fun e => by have e : w2.heap.size + 1 = gs := e; omega) _, ⟨hz2, by omega, by omega, hgs1⟩, hC4, ?_, ?_, ?_⟩
    · have hB : ∃ c, Blk w3 gs 68 c := by
        obtain ⟨g, cap, cur, e1, hb, hg, h5⟩ := (own_form T5.out).resolve_left (fun h => by cases h.1)
        injection e1 with e1 _ e3
        injection e1 with e1
        injection e1 with e1
        subst e1
        exact ⟨_, hg⟩
      obtain ⟨c, hB⟩ := hB
      exact hw4 ▸ own_RX (H5.out.ext (EX2.out.trans EX3.out)) (by decide) (RX.set hB)
    · exact hw4 ▸ own_set (H6.out.ext EX3.out) hgs1
    · refine ⟨hw4 ▸ own_set (show Own encL 68 5 w3 w1.heap.size _ (fullC 0).sales from T6.out) hgs1, some ⟨gt, 0, none⟩, c6', rfl, fun h => by cases h⟩)
  rw [← HW3.out, ← hw4]
  clear X0 hS hC4 hw4 huo hfz HW3 T5 T6 B5 B6 X5 H5 H6 S5 S6 EX1 EX2 EX3 hz1 hz2 hgs hgt hgs1
  generalize w2.heap.size = g5 at *
  generalize w1.heap.size = bs at *
  have HI := Lib.hid I0.out
  clear I0
  go_wp2_with fail
  refine wp_loop_ghost_k (fun g A' V => ∃ (k : Nat) (cv : Value), k ≤ 5 ∧ 5 - k ≤ g ∧ Fr 234 [(5, .pointer (some ⟨g5, 0, none⟩)), (6, .pointer (some ⟨g5 + 1, 0, none⟩)), (7, .int .i64 (6 + (k : Int)))] [] A' ∧
    XU w0 bs g5 (g5 + 1) gs cur (.slice A5 n5 c5) (.slice (some ⟨gs, 0, none⟩) 5 c5') (.slice A6 n6 c6) k cv V) 5 ?_ ?_
  · exact ⟨0, _, by omega, by omega, ⟨rfl, rfl, by simp [Act.eval]⟩, HI.out⟩
  · rintro g A' V ⟨k, cv, hk, hg, hF, hU⟩ J K' hJ hK
    have HJ := Lib.hid hJ; have HU := Lib.hid hU
    obtain ⟨ρ, rfl, hρ⟩ := hF.open_
    simp only [List.forall_mem_cons] at hρ
    obtain ⟨r5, r6, r7, -⟩ := hρ
    simp only [lst, Nat.reduceAdd, r5, r6, r7]
    clear r5 r6 r7 hF hU hJ
    by_cases hlt : k < 5
    · have hltz : 6 + (k : Int) ≤ 10 := by omega
      have hwk : IntKind.i64.wrap (6 + (k : Int) + 1) = 6 + (k : Int) + 1 := wrap_small _ (by omega) (by omega)
      have HK := Lib.hid hlt
      have HFL := Lib.hid (show (fullC k).sales.length < 1000 by have h : (fullC k).sales.length = 5 + k := by simp [fullC, ringC]; omega
                                                                 omega)
      clear hlt
      obtain ⟨A, c, hcv, -⟩ := id HU.out.d.2
      subst hcv
      have m1 := fun W (h : XU w0 bs g5 (g5 + 1) gs cur (.slice A5 n5 c5) (.slice (some ⟨gs, 0, none⟩) 5 c5') (.slice A6 n6 c6) k (.slice A (fullC k).sales.length c) W) => h.b6.c2
      go_wp2_with fail
      refine wp_region_tame_cut (fun W => XU w0 bs g5 (g5 + 1) gs cur (.slice A5 n5 c5) (.slice (some ⟨gs, 0, none⟩) 5 c5') (.slice A6 n6 c6) k (.slice A (fullC k).sales.length c) W) (RF encL 5 68 bs ((fullC k).sales ++ [⟨6 + (k : Int), 1, 2, 1, 0⟩]) ⟨6 + (k : Int), 1, 2, 1, 0⟩) (by kernel_rfl) 234 rfl _ rfl (by decide +kernel) (by decide +kernel) (by decide +kernel) rfl (HU.out.ext (Ext.refl _).drew) ?_
      simp only [List.dropLast]
      repeat (apply tame_q rfl; (intro ρ W hC hr hD; (obtain ⟨hrc, hrg, hrf, hrs⟩ := hr); (simp [go_sem] at hD); go_simp; first | exact ⟨⟨hC, RF.refl _⟩, rfl⟩ | exact rfl); simp only [List.nil_append, List.cons_append])
      apply tame_q rfl
      · intro ρ W hC hr hD
        obtain ⟨hrc, hrg, hrf, hrs⟩ := hr
        simp [go_sem] at hD
        go_simp
        refine (sale_any (6 + (k : Int)) 1 2 1 0 _).mono ?_
        rintro e w' ⟨rfl, hE⟩
        exact ⟨_, rfl, ⟨hC.ext hE, RF.ext hE⟩, rfl⟩
      simp only [List.nil_append, List.cons_append]
      apply tame_v rfl (OneF encL 68 ⟨6 + (k : Int), 1, 2, 1, 0⟩) (fun v W W' _ hR h => by obtain ⟨g, h1, h2⟩ := h; exact ⟨g, h1, hR.2.2.1 g h2⟩)
      · intro ρ W hC hr hD
        obtain ⟨hrc, hrg, hrf, hrs⟩ := hr
        simp [go_sem] at hD
        go_simp
        exact ⟨⟨hC.ext (Ext.al _ _), RF.ext (Ext.al _ _)⟩, ⟨_, rfl, Blk.new _ _ _⟩⟩
      simp only [List.nil_append, List.cons_append]
      apply tame_v rfl (NewF encL 5 68 bs ((fullC k).sales ++ [⟨6 + (k : Int), 1, 2, 1, 0⟩])) (fun v W W' _ hR h => ⟨hR.2.1 _ (List.prefix_refl _) v h.1, h.2⟩)
      · intro ρ W hC hr hD
        obtain ⟨hrc, hrg, hrf, hrs⟩ := hr
        simp [go_sem] at hD
        obtain ⟨d1, d2, -⟩ := hD
        obtain ⟨v', V', hrun, hnew, hR, hB, hO⟩ := run_appO (t := 23) (ty := 23) (enc := encL) (sz := 5) (y := ⟨6 + (k : Int), 1, 2, 1, 0⟩) Tryd.underlying23 info68x rfl (by decide) (by decide) (fun _ => rfl) encL_1 hC.d HFL.out hC.big d2
        rw [← d1] at hrun
        show opGives _ _ _ _ _ _ _
        unfold opGives execOp
        simp only [resolve, invoke, builtin, Sem.run_bind, Sem.run_pure, Result.andThen_ok, List.map_toArray, List.map_cons, List.map_nil, hrun]
        exact ⟨⟨hC.old hR hB hO, hR⟩, hnew⟩
      simp only [List.nil_append, List.cons_append]
      repeat (apply tame_q rfl; (intro ρ W hC hr hD; (obtain ⟨hrc, hrg, hrf, hrs⟩ := hr); (simp [go_sem] at hD); go_simp; first | exact ⟨⟨hC, RF.refl _⟩, rfl⟩ | exact rfl); simp only [List.nil_append, List.cons_append])
      refine tame_end_put rfl rfl (fun ρ W hC hr hF => ?_)
      simp [go_sem] at hF
      obtain ⟨f1, f2, f3, f4, ⟨g8, f5, -⟩, hN, f7⟩ := hF
      simp only [putF, f1, f2, f3, f4, f5, f7, List.set_cons_succ, List.set_cons_zero]
      generalize ρ (Operand.tmp 78) = cv2 at *
      rw [← full_snoc] at hN
      obtain ⟨A9, c9, e9, -⟩ := id hN.2
      subst e9
      have HN := Lib.hid hN
      have HC := Lib.hid hC
      clear f1 f2 f3 f4 f5 f7 hN hr hC m1
      have x1 := HC.out.b6.c2
      go_wp2
      exact Handed.intro (5 - (k + 1)) (by omega) (HJ.out _ _ _ ⟨k + 1, _, by have := HK.out; omega, Nat.le_refl _, ⟨rfl, rfl, by simp [Act.eval]; omega⟩, HC.out.put HN.out⟩)
    · have hltz : ¬ 6 + (k : Int) ≤ 10 := by omega
      have hlt2 : 10 < 6 + (k : Int) := by omega
      have HE5 := Lib.hid (show k = 5 by omega)
      clear hlt
      obtain ⟨A, n, c, hcv, -⟩ := (show SlL V cv _ from HU.out.d.1.sl fun _ => rfl).form
      subst hcv
      have HX : ∀ a0 : Act, Fr 234 [(5, .pointer (some ⟨g5, 0, none⟩)), (6, .pointer (some ⟨g5 + 1, 0, none⟩))] [] a0 → (subC [1, 1, 1, 1, 1, 1, 1, 1] (Tryd.f9.body.getD .skip)).wp Tryd.prog (bodyPost Tryd.prog Tryd.f9 fun e w' => e = .returned (.bool true) ∧ Ext w w') a0 V := fun a0 hF => exa3_wp (HT.out.ext HU.out.ex) (HE.out.trans HU.out.ex) HU.out.b5 ⟨HU.out.h5.sl fun _ => rfl, HS.out _ HU.out.c5⟩ HU.out.b6 ⟨HU.out.h6.sl fun _ => rfl, HE5.out ▸ (HU.out.d.1.sl fun _ => rfl)⟩ hF
      delta Tryd.f9 at HX
      simp only [subC, Option.getD_some] at HX
      replace HX := Lib.hid HX
      repeat (first | exact HX.out _ ⟨rfl, rfl, by simp [Act.eval]⟩ | go_values | go_skip | go_guarded | go_step | go_upon | go_back | (simp only [Int.not_lt, Int.not_le] at *; go_simp))
end Go.Proofs.YtafdbgielmlihaaDoor
/- The law ChainExamples: the walk, but for alive. -/
namespace Go.Proofs.YtafdbgielmlihaaDoor
open Go.RowKit Go.Shelf Go.Lib
set_option maxRecDepth 100000
set_option linter.unusedSimpArgs false

set_option maxHeartbeats 8000000 in
theorem examplesLaw_of (hA : AliveT) (w : World) (hT : Tab w) : Calls Tryd.prog 9 #[] w fun e w' => e = .returned (.bool true) ∧ Ext w w' := by
  have HT := Lib.hid hT
  have E := Lib.hid (Ext.refl w)
  have HEX : ∀ w0, Ext w w0 → ∀ a0, Fr 234 [] [] a0 → (subC [1, 1, 1, 1, 1] (Tryd.f9.body.getD .skip)).wp Tryd.prog (bodyPost Tryd.prog Tryd.f9 fun e w' => e = .returned (.bool true) ∧ Ext w w') a0 w0 := fun w0 hE a0 hF => exa2_wp (HT.out.ext hE) hE hF
  clear hT
  delta Tryd.f9 at HEX
  simp only [subC, Option.getD_some] at HEX
  replace HEX := Lib.hid HEX
  go_enter Tryd.func9, Tryd.ntmps9
  go_wp2_with fail
  refine (hA _ (HT.out.ext E.out)).mono ?_
  rintro e w1 ⟨rfl, hE⟩
  replace E := Lib.hid (E.out.trans hE); clear hE
  go_wp2_with fail
  refine (ring_any _).mono ?_
  rintro e w2 ⟨⟨v, rfl, tv⟩, hE⟩
  replace E := Lib.hid (E.out.trans hE); clear hE
  have TV := Lib.hid (show ringR v w2 from ⟨_, tv⟩); clear tv
  go_wp2_with fail
  refine (xRange3 _ _ (HT.out.ext E.out) TV.out).mono ?_
  rintro e w3 ⟨rfl, hE⟩
  replace E := Lib.hid (E.out.trans hE); clear hE TV
  go_wp2_with fail
  have BD := Lib.hid (Blk.new w3 48 #[.int .i64 0, .int .i64 0])
  replace E := Lib.hid (E.out.alloc (.cells #[.int .i64 0, .int .i64 0] 48))
  refine (ring_any _).mono ?_
  rintro e w4 ⟨⟨v, rfl, tv⟩, hE⟩
  replace E := Lib.hid (E.out.trans hE); replace BD := Lib.hid (BD.out.ext hE); clear hE
  have TV := Lib.hid (show ringR v w4 from ⟨_, tv⟩); clear tv
  go_wp2_with fail
  refine (xWay33 _ _ (HT.out.ext E.out) TV.out).mono ?_
  rintro e w5 ⟨⟨u5, rfl, hu⟩, hE⟩
  replace E := Lib.hid (E.out.trans hE); replace BD := Lib.hid (BD.out.ext hE); clear hE TV
  have LW := Lib.hid hu; clear hu
  go_wp2
  have nq := fun a b w => neq48s a b w
  have Da := fun W (h : Ext w5 W) => (show W.cell? ⟨w3.heap.size, 0, none⟩ = some (.int .i64 0) from (BD.out.ext h).cell 0)
  have Db := fun W (h : Ext w5 W) => (show W.cell? ⟨w3.heap.size, 1, none⟩ = some (.int .i64 0) from (BD.out.ext h).cell 1)
  refine wp_region_tame (fun W => Ext w5 W) (fun W W' => Ext W W') (by kernel_rfl) 234 rfl (by decide +kernel) (Ext.refl _).drew ?_
  repeat (apply tame_q rfl; (intro ρ W hC hr hD; (obtain ⟨hrc, hrg, hrf, hrs⟩ := hr); (simp [go_sem] at hD); go_simp; first | exact ⟨⟨hC, Ext.refl _⟩, rfl⟩ | exact ⟨⟨hC, RS.refl _⟩, rfl⟩ | exact rfl); simp only [List.nil_append, List.cons_append])
  apply tame_q rfl
  · intro ρ W hC hr hD
    obtain ⟨hrc, hrg, hrf, hrs⟩ := hr
    simp [go_sem] at hD
    go_simp
    refine (span_any 0 0 _).mono ?_
    rintro e w' ⟨rfl, hE⟩
    exact ⟨_, rfl, ⟨hC.trans hE, hE⟩, rfl⟩
  simp only [List.nil_append, List.cons_append]
  repeat (apply tame_q rfl; (intro ρ W hC hr hD; (obtain ⟨hrc, hrg, hrf, hrs⟩ := hr); (simp [go_sem] at hD); go_simp; first | exact ⟨⟨hC, Ext.refl _⟩, rfl⟩ | exact ⟨⟨hC, RS.refl _⟩, rfl⟩ | exact rfl); simp only [List.nil_append, List.cons_append])
  apply tame_q rfl
  · intro ρ W hC hr hD
    obtain ⟨hrc, hrg, hrf, hrs⟩ := hr
    simp [go_sem] at hD
    go_simp
    refine (is_any [] _ _ _ (LW.out.ext hC) (Sl.nil _)).mono ?_
    rintro e w' ⟨rfl, hE⟩
    exact ⟨_, rfl, ⟨hC.trans hE, hE⟩, rfl⟩
  simp only [List.nil_append, List.cons_append]
  repeat (apply tame_q rfl; (intro ρ W hC hr hD; (obtain ⟨hrc, hrg, hrf, hrs⟩ := hr); (simp [go_sem] at hD); go_simp; first | exact ⟨⟨hC, Ext.refl _⟩, rfl⟩ | exact ⟨⟨hC, RS.refl _⟩, rfl⟩ | exact rfl); simp only [List.nil_append, List.cons_append])
  refine tame_end 234 rfl rfl (fun ρ W hC hr hF => ?_)
  obtain ⟨hrc, hrg, hrf, hrs⟩ := hr
  simp [go_sem] at hF
  apply frame_to
  · simp (maxSteps := 4000000) [go_sem, hF, hrs]
    exact rfl
  replace E := Lib.hid (E.out.trans hC)
  clear hC hrc hrg hrf hrs hF nq Da Db BD LW
  repeat (first | exact HEX.out _ E.out _ ⟨rfl, rfl, by simp⟩ | go_values | go_skip | go_guarded | go_step | go_upon | go_back | (simp only [Int.not_lt, Int.not_le] at *; go_simp))
end Go.Proofs.YtafdbgielmlihaaDoor
