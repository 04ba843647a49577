/- The values of MillExamples: plain. -/
import Derived.Test.YtkpengeaolcjhaaGreatDoorPkMlBestCardX
import Derived.Test.YtkpengeaolcjhaaGreatDoorPkMlBestCardT
import Derived.Test.YtkpengeaolcjhaaGreatDoorPkMlBestCardU
import Derived.Test.YtkpengeaolcjhaaGreatDoorPkMlBestCardI
import Derived.MapKept
import Derived.Maps.RangeRun
import Derived.Laws.IdiomRangeMap
namespace Go.Proofs.YtkpengeaolcjhaaGreatDoor
open Go.RowKit Go.Shelf Go.Lib
set_option maxRecDepth 100000
set_option linter.unusedSimpArgs false

abbrev bestX : List Int := [0, 1, 1, 2, 2, 0]
theorem ey_ok : okPlan worksM bestX = true := by unfold okPlan; rw [wk_fitL]; kernel_rfl
theorem ey_judgeE : judgeE worksM bestX = 0 := judgeE_ok wk_check ey_ok
theorem ey_lots : lotsP worksM bestX = [[2, 3], [4, 5]] := (lotsP_ok ey_judgeE).trans (by kernel_rfl)
theorem ey_exR : (exR worksM bestX).1 = none := best_swap (mok_of wk_check) wk_best
theorem ey_swap : swapE worksM bestX = 6 ∧ swapO worksM bestX = (0, 0) := swap_none ey_judgeE ey_exR
theorem ey_run : runL worksM bestX = [1, 2] ∧ runT worksM bestX = 10 := by
  have h : runL worksM bestX = [1, 2] := by unfold runL; rw [if_pos ey_judgeE]; kernel_rfl
  exact ⟨h, by unfold runT; rw [if_pos ey_judgeE, h]; kernel_rfl⟩
theorem ey_most (L : Int) (h0 : ¬ L < 0) (n : Nat) (h : gr L 2 [28, 30, 31, 35, 36] = n) : mostV worksM L = n ∧ mostE worksM L = 0 := by
  obtain ⟨h1, h2⟩ := most_ok (L := L) wk_check h0
  refine ⟨h2.trans ?_, h1⟩
  unfold mostN
  rw [wk_sorted]
  exact congrArg Nat.cast h
theorem ey_gr (L : Int) (n : Nat) (h : (gr L 2 [28, 30, 31, 35, 36] : Nat) = n) : gr L 2 [28, 30, 31, 35, 36] = n := h
theorem ey_most0 : mostV worksM 0 = 0 ∧ mostE worksM 0 = 0 := ey_most 0 (by decide) 0 (by simp [gr_cons, gr_nil, win])
theorem ey_most1 : mostV worksM 1 = 2 ∧ mostE worksM 1 = 0 := ey_most 1 (by decide) 2 (by simp [gr_cons, gr_nil, win])
theorem ey_most60 : mostV worksM 60 = 2 ∧ mostE worksM 60 = 0 := ey_most 60 (by decide) 2 (by simp [gr_cons, gr_nil, win])
theorem ey_mostn : mostE worksM (-1) = 2 ∧ mostV worksM (-1) = 0 := most_arg wk_check (by decide)
/-- Three lots of two are too many. -/
def moreX : Mll := ⟨3, 2, worksX⟩
theorem ey_wantM : wantM worksM 3 2 = moreX := rfl
theorem mr_check : checkM moreX = true := by kernel_rfl
theorem ey_want : wantME worksM 3 2 = 0 := by unfold wantME; rw [wk_check, if_pos rfl, ey_wantM, mr_check, if_pos rfl]
theorem ey_want4 : wantME worksM 4 2 = 94 := by
  have h : checkM (wantM worksM 4 2) = false := by kernel_rfl
  unfold wantME
  rw [wk_check, if_pos rfl, h]
  rfl
theorem mr_fitL : fitL moreX = [true, true, true, true, true, false] := by kernel_rfl
theorem mr_plans : plansL moreX = [] := by unfold plansL; rw [mr_fitL]; kernel_rfl
theorem mr_best : bestP moreX = none := best_none.2 mr_plans
theorem mr_few : bestE moreX = 92 ∧ bestL moreX = [] ∧ evenU moreX = (0, 0) := be_few mr_check mr_best
theorem mr_need : needL moreX = [] := by unfold needL; rw [if_neg (by rw [mr_few.1]; decide)]
def tornX : Mll := ⟨2, 1, worksX⟩
theorem to_check : checkM tornX = false := by kernel_rfl
def fullX : Mll := ⟨2, 2, worksX ++ [cotX 9 1 1]⟩
theorem fu_check : checkM fullX = true := by kernel_rfl
theorem fu_put (x : Cot) : putME fullX x = 9 := by unfold putME; rw [fu_check, if_pos rfl, if_pos (by kernel_rfl)]
theorem fu_helps (x : Cot) : helpsM fullX x = (0, 0, 9) := by unfold helpsM; rw [if_neg (by rw [fu_put]; decide), fu_put]
theorem ey_helps6 : helpsM worksM (cotX 6 30 80) = (0, 0, 93) := by
  have h : putME worksM (cotX 6 30 80) = 93 := by
    have e : checkM (putM worksM (cotX 6 30 80)) = false := by kernel_rfl
    unfold putME
    rw [wk_check, if_pos rfl, if_neg (by decide), e]
    rfl
  unfold helpsM
  rw [if_neg (by rw [h]; decide), h]
theorem ey_helps7 : helpsM moreX (cotX 7 0 80) = (0, 0, 93) := by
  have h : putME moreX (cotX 7 0 80) = 93 := by
    have e : checkM (putM moreX (cotX 7 0 80)) = false := by kernel_rfl
    unfold putME
    rw [mr_check, if_pos rfl, if_neg (by decide), e]
    rfl
  unfold helpsM
  rw [if_neg (by rw [h]; decide), h]
theorem ey_take7 : takeME worksM 7 = 6 := by
  unfold takeME
  rw [wk_check, if_pos rfl]
  kernel_rfl
theorem ey_lost7 : lostM worksM 7 = (0, 0, 6) := by unfold lostM; rw [if_neg (by rw [ey_take7]; decide), ey_take7]
theorem ey_bad {p : List Int} (h : okPlan worksM p = false) : judgeE worksM p = 91 := judgeE_bad wk_check h
theorem ey_bad1 : judgeE worksM [1, 1, 2, 2, 0] = 91 := ey_bad (by unfold okPlan; rw [wk_fitL]; kernel_rfl)
theorem ey_bad2 : judgeE worksM [1, 1, 2, 0, 0, 2] = 91 := ey_bad (by unfold okPlan; rw [wk_fitL]; kernel_rfl)
theorem ey_bad3 : judgeE worksM [1, 1, 1, 2, 2, 0] = 91 := ey_bad (by unfold okPlan; rw [wk_fitL]; kernel_rfl)
theorem ey_bad4 : judgeE worksM [1, 1, 3, 3, 0, 0] = 91 := ey_bad (by unfold okPlan; rw [wk_fitL]; kernel_rfl)
end Go.Proofs.YtkpengeaolcjhaaGreatDoor
/- A map of ints that a function lays by itself: its entries, and the steps of a range over it. -/
namespace Go.Proofs.YtkpengeaolcjhaaGreatDoor
open Go.RowKit Go.Shelf Go.Lib Go.MapKept
open Go.ChangeMaps (setBlock)
set_option maxRecDepth 100000
set_option linter.unusedSimpArgs false

/-- Block m is a map of these entries. -/
def MapE (W : World) (m : Nat) (es : Array MapEntry) (clock : Nat) : Prop := W.heap[m]? = some (.map es clock)
theorem MapE.lt {W : World} {m : Nat} {es : Array MapEntry} {clock : Nat} (h : MapE W m es clock) : m < W.heap.size := (Array.getElem?_eq_some_iff.1 h).1
theorem MapE.ext {W W' : World} {m : Nat} {es : Array MapEntry} {clock : Nat} (h : MapE W m es clock) (e : Ext W W') : MapE W' m es clock := (e.block m h.lt).trans h
theorem MapE.new (W : World) : MapE (W.alloc (.map #[] 0)) W.heap.size #[] 0 := by
  show (W.heap.push _)[W.heap.size]? = _
  simp
theorem MapE.put {W : World} {m : Nat} {es : Array MapEntry} {clock : Nat} (h : MapE W m es clock) (k v : Int) (hf : Instr.findNow (.int .i64) (.int .i64 k) es.toList 0 = some none) :
    (Instr.mapUpdate 84 (.map (some m)) (.int .i64 k) (.int .i64 v)).run Tryz.prog W = .ok () (setBlock W m (.map (es.push ⟨.int .i64 k, .int .i64 v, clock⟩) (clock + 1))) ∧ MapE (setBlock W m (.map (es.push ⟨.int .i64 k, .int .i64 v, clock⟩) (clock + 1))) m (es.push ⟨.int .i64 k, .int .i64 v, clock⟩) (clock + 1) := by
  have hd : Tryz.prog.underlying 3 = some (.int .i64) := Tryz.underlying3
  refine ⟨?_, (heap_set (show W.heap[m]? = some (.map es clock) from h)).1⟩
  simp [Instr.mapUpdate, run_underlying Tryz.underlying84, Go.MapKept.run_getObj_map (show W.heap[m]? = some (.map es clock) from h), Go.MapKept.run_checkKey hd (show IsKey (.int .i64) (.int .i64 k) from by simp [IsKey]), Go.MapKept.run_findKey hd hf, Go.MapKept.run_setObj_map _ (show W.heap[m]? = some (.map es clock) from h), Result.andThen]
  rfl
theorem ext_setBlock {w W : World} {m : Nat} (h : Ext w W) (hm : w.heap.size ≤ m) (o : Obj) : Ext w (setBlock W m o) := by
  exact Below.trans h ⟨rfl, rfl, rfl, by simp [setBlock], fun k hk => by
    show (W.heap.setIfInBounds m o)[k]? = _
    rw [Array.getElem?_setIfInBounds, if_neg (by omega)]⟩
/-- The steps of a range. -/
def ItE (W : World) (r m since : Nat) (seen : Array Nat) (c0 : Nat) : Prop := W.heap[r]? = some (.mapIter (some m) since seen c0)
theorem ItE.lt {W : World} {r m since c0 : Nat} {seen : Array Nat} (h : ItE W r m since seen c0) : r < W.heap.size := (Array.getElem?_eq_some_iff.1 h).1
theorem ItE.ext {W W' : World} {r m since c0 : Nat} {seen : Array Nat} (h : ItE W r m since seen c0) (e : Ext W W') : ItE W' r m since seen c0 := (e.block r h.lt).trans h
theorem MapE.setBlock {W : World} {m r : Nat} {es : Array MapEntry} {clock : Nat} (h : MapE W m es clock) (ne : r ≠ m) (o : Obj) : MapE (Go.ChangeMaps.setBlock W r o) m es clock := by
  show (W.heap.setIfInBounds r o)[m]? = _
  rw [Array.getElem?_setIfInBounds, if_neg ne]
  exact h
theorem ItE.set {W : World} {r m since c0 : Nat} {seen : Array Nat} (h : ItE W r m since seen c0) (s2 : Array Nat) (c1 : Nat) : ItE (Go.ChangeMaps.setBlock W r (.mapIter (some m) since s2 c1)) r m since s2 c1 := (heap_set (show W.heap[r]? = _ from h)).1
end Go.Proofs.YtkpengeaolcjhaaGreatDoor
/- The law MillExamples: the walk. -/
namespace Go.Proofs.YtkpengeaolcjhaaGreatDoor
open Go.RowKit Go.Shelf Go.Lib
set_option maxRecDepth 100000
set_option linter.unusedSimpArgs false

theorem yLots (sv : Value) (pv : Value) (w : World) (hT : TabM w) (hw : WkM sv w) (hp : SlI w pv bestX) : Calls Tryz.prog 37 #[valM 2 2 sv, pv] w fun e w' => (∃ v, e = .returned (.tuple #[v, .int .i64 0]) ∧ RdLL w' v [[2, 3], [4, 5]]) ∧ Ext w w' := by
  obtain ⟨L, h1, h2, h3⟩ := hw.of
  have h := lotsM_any 2 2 L bestX sv pv w hT h1 hp (by omega)
  rw [h2, ey_judgeE, ey_lots] at h
  exact h

theorem ySwap (sv : Value) (pv : Value) (w : World) (hT : TabM w) (hw : WkM sv w) (hp : SlI w pv bestX) : Calls Tryz.prog 31 #[valM 2 2 sv, pv] w fun e w' => e = .returned (.tuple #[.int .i64 0, .int .i64 0, .int .i64 6]) ∧ Ext w w' := by
  obtain ⟨L, h1, h2, h3⟩ := hw.of
  have h := swapM_any 2 2 L bestX sv pv w hT h1 hp (by omega)
  rw [h2, ey_swap.1, ey_swap.2] at h
  exact h

theorem yRun (sv : Value) (pv : Value) (w : World) (hT : TabM w) (hw : WkM sv w) (hp : SlI w pv bestX) : Calls Tryz.prog 38 #[valM 2 2 sv, pv] w fun e w' => (∃ v, e = .returned (.tuple #[v, .int .i64 10, .int .i64 0]) ∧ SlI w' v [1, 2]) ∧ Ext w w' := by
  obtain ⟨L, h1, h2, h3⟩ := hw.of
  have h := runM_any 2 2 L bestX sv pv w hT h1 hp (by omega)
  rw [h2, ey_judgeE, ey_run.1, ey_run.2] at h
  exact h

theorem yMost (sv : Value) (w : World) (L N : Int) (hh : mostV worksM L = N ∧ mostE worksM L = 0) (hT : TabM w) (hw : WkM sv w) : Calls Tryz.prog 14 #[valM 2 2 sv, .int .i64 L] w fun e w' => e = .returned (.tuple #[.int .i64 N, .int .i64 0]) ∧ Ext w w' := by
  obtain ⟨l, h1, h2, h3⟩ := hw.of
  have h := mostM_any 2 2 L l sv w hT h1 (by omega)
  rw [h2, hh.1, hh.2] at h
  exact h
theorem WkM.more {sv : Value} {W : World} (h : WkM sv W) : ∃ L, MlC W sv L ∧ mOf 3 2 L = moreX ∧ L.length ≤ 900 := by
  obtain ⟨L, h1, h2⟩ := h
  refine ⟨L, h1, by show (⟨3, 2, L.map (·.c)⟩ : Mll) = _; rw [h2]; rfl, ?_⟩
  have := congrArg List.length h2
  simp [worksX] at this
  omega
theorem WkM.torn {sv : Value} {W : World} (h : WkM sv W) : ∃ L, MlC W sv L ∧ mOf 2 1 L = tornX ∧ L.length ≤ 900 := by
  obtain ⟨L, h1, h2⟩ := h
  refine ⟨L, h1, by show (⟨2, 1, L.map (·.c)⟩ : Mll) = _; rw [h2]; rfl, ?_⟩
  have := congrArg List.length h2
  simp [worksX] at this
  omega
theorem yWant (sv : Value) (w : World) (hT : TabM w) (hw : WkM sv w) : Calls Tryz.prog 44 #[valM 2 2 sv, .int .i64 3, .int .i64 2] w fun e w' => (∃ v0, e = .returned (.tuple #[valM 3 2 v0, .int .i64 0]) ∧ WkM v0 w') ∧ Ext w w' := by
  obtain ⟨l, h1, h2, h3⟩ := hw.of
  have h := wantM_any 2 2 3 2 l sv w hT h1 (by omega)
  rw [h2, ey_want, ey_wantM] at h
  refine h.mono ?_
  rintro e w' ⟨⟨v, rfl, hr⟩, hE⟩
  refine ⟨?_, hE⟩
  rcases hr with ⟨-, v0, L, rfl, tl⟩ | ⟨h0, -⟩
  · exact ⟨v0, rfl, L, tl.mlc, tl.map⟩
  · exact absurd rfl h0
theorem zBest (sv : Value) (w : World) (hT : TabM w) (hw : WkM sv w) : Calls Tryz.prog 25 #[valM 3 2 sv] w fun e w' => (∃ v, e = .returned (.tuple #[v, .int .i64 92])) ∧ Ext w w' := by
  obtain ⟨L, h1, h2, h3⟩ := hw.more
  have h := bestM_any 3 2 L sv w hT h1 (by omega)
  rw [h2, mr_few.1] at h
  exact h.mono fun e w' ⟨⟨v, h, _⟩, hE⟩ => ⟨⟨v, h⟩, hE⟩
theorem zEven (sv : Value) (w : World) (hT : TabM w) (hw : WkM sv w) : Calls Tryz.prog 26 #[valM 3 2 sv] w fun e w' => e = .returned (.tuple #[.int .i64 0, .int .i64 0, .int .i64 92]) ∧ Ext w w' := by
  obtain ⟨L, h1, h2, h3⟩ := hw.more
  have h := evenM_any 3 2 L sv w hT h1 (by omega)
  rw [h2, mr_few.1, mr_few.2.2] at h
  exact h
theorem zNeeds (sv : Value) (w : World) (hT : TabM w) (hw : WkM sv w) : Calls Tryz.prog 18 #[valM 3 2 sv] w fun e w' => (∃ v, e = .returned (.tuple #[v, .int .i64 92])) ∧ Ext w w' := by
  obtain ⟨L, h1, h2, h3⟩ := hw.more
  have h := needsM_any 3 2 L sv w hT h1 h3
  rw [h2, mr_few.1] at h
  exact h.mono fun e w' ⟨⟨v, h, _⟩, hE⟩ => ⟨⟨v, h⟩, hE⟩
theorem xFit (sv : Value) (w : World) (hT : TabM w) (hw : WkM sv w) : Calls Tryz.prog 35 #[valM 2 1 sv] w fun e w' => (∃ v, e = .returned (.tuple #[v, .int .i64 90])) ∧ Ext w w' := by
  obtain ⟨L, h1, h2, h3⟩ := hw.torn
  have h := fitM_any 2 1 L sv w hT h1 (by omega)
  rw [h2, to_check] at h
  exact h.mono fun e w' ⟨⟨v, h, _⟩, hE⟩ => ⟨⟨v, h⟩, hE⟩
theorem xJudge (p : List Int) (hb : judgeE worksM p = 91) (sv pv : Value) (w : World) (hT : TabM w) (hw : WkM sv w) (hp : SlI w pv p) : Calls Tryz.prog 28 #[valM 2 2 sv, pv] w fun e w' => (∃ a b, e = .returned (.tuple #[.int .i64 a, .int .i64 b, .int .i64 91])) ∧ Ext w w' := by
  obtain ⟨L, h1, h2, h3⟩ := hw.of
  have h := judgeM_any 2 2 L p sv pv w hT h1 hp (by omega)
  rw [h2, hb] at h
  exact h.mono fun e w' ⟨h, hE⟩ => ⟨⟨_, _, h⟩, hE⟩
theorem xLots (p : List Int) (hb : judgeE worksM p = 91) (sv pv : Value) (w : World) (hT : TabM w) (hw : WkM sv w) (hp : SlI w pv p) : Calls Tryz.prog 37 #[valM 2 2 sv, pv] w fun e w' => (∃ v, e = .returned (.tuple #[v, .int .i64 91])) ∧ Ext w w' := by
  obtain ⟨L, h1, h2, h3⟩ := hw.of
  have h := lotsM_any 2 2 L p sv pv w hT h1 hp (by omega)
  rw [h2, hb] at h
  exact h.mono fun e w' ⟨⟨v, h, _⟩, hE⟩ => ⟨⟨v, h⟩, hE⟩
theorem xSwap (p : List Int) (hb : judgeE worksM p = 91) (sv pv : Value) (w : World) (hT : TabM w) (hw : WkM sv w) (hp : SlI w pv p) : Calls Tryz.prog 31 #[valM 2 2 sv, pv] w fun e w' => (∃ a b, e = .returned (.tuple #[.int .i64 a, .int .i64 b, .int .i64 91])) ∧ Ext w w' := by
  obtain ⟨L, h1, h2, h3⟩ := hw.of
  have h := swapM_any 2 2 L p sv pv w hT h1 hp (by omega)
  rw [h2, show swapE worksM p = 91 by unfold swapE; rw [if_neg (by rw [hb]; decide)]; exact hb] at h
  exact h.mono fun e w' ⟨h, hE⟩ => ⟨⟨_, _, h⟩, hE⟩
theorem xRun (p : List Int) (hb : judgeE worksM p = 91) (sv pv : Value) (w : World) (hT : TabM w) (hw : WkM sv w) (hp : SlI w pv p) : Calls Tryz.prog 38 #[valM 2 2 sv, pv] w fun e w' => (∃ v a, e = .returned (.tuple #[v, .int .i64 a, .int .i64 91])) ∧ Ext w w' := by
  obtain ⟨L, h1, h2, h3⟩ := hw.of
  have h := runM_any 2 2 L p sv pv w hT h1 hp (by omega)
  rw [h2, hb] at h
  exact h.mono fun e w' ⟨⟨v, h, _⟩, hE⟩ => ⟨⟨v, _, h⟩, hE⟩
/-- The slice reads as the cottons of the full mill. -/
def FuM (sv : Value) (W : World) : Prop := ∃ L, MlC W sv L ∧ L.map (·.c) = worksX ++ [cotX 9 1 1]
theorem FuM.ext {sv : Value} {W W' : World} (h : FuM sv W) (e : Ext W W') : FuM sv W' := by
  obtain ⟨L, h1, h2⟩ := h
  exact ⟨L, h1.ext e, h2⟩
theorem FuM.of {sv : Value} {W : World} (h : FuM sv W) : ∃ L, MlC W sv L ∧ mOf 2 2 L = fullX ∧ L.length ≤ 900 := by
  obtain ⟨L, h1, h2⟩ := h
  refine ⟨L, h1, by show (⟨2, 2, L.map (·.c)⟩ : Mll) = _; rw [h2]; rfl, ?_⟩
  have := congrArg List.length h2
  simp [worksX] at this
  omega
/-- The zero cotton. -/
abbrev zeroR : Rc := ⟨⟨⟨0, 0, ⟨0, 0⟩, [], []⟩, 0, 0⟩, none, 0, 0, none, 0, 0⟩
theorem xHelps0 (sv : Value) (w : World) (hT : TabM w) (hw : FuM sv w) : Calls Tryz.prog 34 #[valM 2 2 sv, valC zeroR] w fun e w' => e = .returned (.tuple #[.int .i64 0, .int .i64 0, .int .i64 9]) ∧ Ext w w' := by
  obtain ⟨L, h1, h2, h3⟩ := hw.of
  have h := helpsM_any 2 2 L zeroR sv w hT h1 (Sl.nil w) (Sl.nil w) h3 ⟨by simp, by simp⟩
  rw [h2, fu_helps] at h
  exact h
theorem xPut0 (sv : Value) (w : World) (hT : TabM w) (hw : FuM sv w) : Calls Tryz.prog 47 #[valM 2 2 sv, valC zeroR] w fun e w' => e = .returned (.tuple #[valM 0 0 (.slice none 0 0), .int .i64 9]) ∧ Ext w w' := by
  obtain ⟨L, h1, h2, h3⟩ := hw.of
  have h := putM_any 2 2 L zeroR sv w hT h1 (Sl.nil w) (Sl.nil w) (by omega) ⟨by simp, by simp⟩
  rw [h2, fu_put] at h
  refine h.mono ?_
  rintro e w' ⟨⟨v, rfl, hr⟩, hE⟩
  rcases hr with ⟨h0, -⟩ | ⟨-, rfl⟩
  · cases h0
  · exact ⟨rfl, hE⟩
theorem xHelps6 (sv xv : Value) (b : Nat) (w : World) (hT : TabM w) (hw : WkM sv w) (hx : TwinR (cotX 6 30 80) b xv w) : Calls Tryz.prog 34 #[valM 2 2 sv, xv] w fun e w' => e = .returned (.tuple #[.int .i64 0, .int .i64 0, .int .i64 93]) ∧ Ext w w' := by
  obtain ⟨L, h1, h2, h3⟩ := hw.of
  obtain ⟨r, rfl, hr, ho⟩ := hx
  have h := helpsM_any 2 2 L r sv w hT h1 (ho.1.sl (fun _ => rfl)) (ho.2.sl (fun _ => rfl)) h3 (by rw [hr]; simp [cotX, baleX])
  rw [h2, hr, ey_helps6] at h
  exact h
theorem xHelps7 (sv xv : Value) (b : Nat) (w : World) (hT : TabM w) (hw : WkM sv w) (hx : TwinR (cotX 7 0 80) b xv w) : Calls Tryz.prog 34 #[valM 3 2 sv, xv] w fun e w' => e = .returned (.tuple #[.int .i64 0, .int .i64 0, .int .i64 93]) ∧ Ext w w' := by
  obtain ⟨L, h1, h2, h3⟩ := hw.more
  obtain ⟨r, rfl, hr, ho⟩ := hx
  have h := helpsM_any 3 2 L r sv w hT h1 (ho.1.sl (fun _ => rfl)) (ho.2.sl (fun _ => rfl)) h3 (by rw [hr]; simp [cotX, baleX])
  rw [h2, hr, ey_helps7] at h
  exact h
theorem yMostN (sv : Value) (w : World) (hT : TabM w) (hw : WkM sv w) : Calls Tryz.prog 14 #[valM 2 2 sv, .int .i64 (-1)] w fun e w' => e = .returned (.tuple #[.int .i64 0, .int .i64 2]) ∧ Ext w w' := by
  obtain ⟨l, h1, h2, h3⟩ := hw.of
  have h := mostM_any 2 2 (-1) l sv w hT h1 (by omega)
  rw [h2, ey_mostn.1, ey_mostn.2] at h
  exact h
theorem xLost7 (sv : Value) (w : World) (hT : TabM w) (hw : WkM sv w) : Calls Tryz.prog 16 #[valM 2 2 sv, .int .i64 7] w fun e w' => e = .returned (.tuple #[.int .i64 0, .int .i64 0, .int .i64 6]) ∧ Ext w w' := by
  obtain ⟨L, h1, h2, h3⟩ := hw.of
  have h := withoutM_any 2 2 7 L sv w hT h1 h3
  rw [h2, ey_lost7] at h
  exact h
theorem xTake7 (sv : Value) (w : World) (hT : TabM w) (hw : WkM sv w) : Calls Tryz.prog 46 #[valM 2 2 sv, .int .i64 7] w fun e w' => e = .returned (.tuple #[valM 0 0 (.slice none 0 0), .int .i64 6]) ∧ Ext w w' := by
  obtain ⟨L, h1, h2, h3⟩ := hw.of
  have h := takeM_any 2 2 7 L sv w hT h1 (by omega)
  rw [h2, ey_take7] at h
  refine h.mono ?_
  rintro e w' ⟨⟨v, rfl, hr⟩, hE⟩
  rcases hr with ⟨h0, -⟩ | ⟨-, rfl⟩
  · cases h0
  · exact ⟨rfl, hE⟩
theorem xWant4 (sv : Value) (w : World) (hT : TabM w) (hw : WkM sv w) : Calls Tryz.prog 44 #[valM 2 2 sv, .int .i64 4, .int .i64 2] w fun e w' => e = .returned (.tuple #[valM 0 0 (.slice none 0 0), .int .i64 94]) ∧ Ext w w' := by
  obtain ⟨L, h1, h2, h3⟩ := hw.of
  have h := wantM_any 2 2 4 2 L sv w hT h1 (by omega)
  rw [h2, ey_want4] at h
  refine h.mono ?_
  rintro e w' ⟨⟨v, rfl, hr⟩, hE⟩
  rcases hr with ⟨h0, -⟩ | ⟨-, rfl⟩
  · cases h0
  · exact ⟨rfl, hE⟩
theorem xCheckT (sv : Value) (w : World) (hT : TabM w) (hw : WkM sv w) : Calls Tryz.prog 48 #[valM 2 1 sv] w fun e w' => e = .returned (.int .i64 90) ∧ Ext w w' := by
  obtain ⟨L, h1, h2, h3⟩ := hw.torn
  have h := checkM_any 2 1 L sv w hT h1 (by omega)
  rw [h2, to_check] at h
  exact h
theorem xCheckF (sv : Value) (w : World) (hT : TabM w) (hw : FuM sv w) : Calls Tryz.prog 48 #[valM 2 2 sv] w fun e w' => e = .returned (.int .i64 0) ∧ Ext w w' := by
  obtain ⟨L, h1, h2, h3⟩ := hw.of
  have h := checkM_any 2 2 L sv w hT h1 (by omega)
  rw [h2, fu_check] at h
  exact h
/-- The map that is ranged over. -/
abbrev mapX : Array MapEntry := #[⟨.int .i64 0, .int .i64 0, 0⟩, ⟨.int .i64 1, .int .i64 2, 1⟩, ⟨.int .i64 60, .int .i64 2, 2⟩]
theorem mapX_old : ∀ x ∈ mapX.toList, x.born < 3 := by
  intro x hx
  simp at hx
  rcases hx with rfl | rfl | rfl <;> simp
theorem mapX_nodup : (mapX.toList.map (·.born)).Nodup := by simp
set_option maxHeartbeats 16000000 in
theorem millExamples_of (hA : AliveM) (w : World) (hT : TabM w) : Calls Tryz.prog 11 #[] w fun e w' => e = .returned (.bool true) ∧ Ext w w' := by
  have HT := Lib.hid hT
  have E := Lib.hid (Ext.refl w)
  clear hT
  go_enter Tryz.func11, Tryz.ntmps11

  go_wp2_with fail

  refine (hA _ (HT.out.ext E.out)).mono ?_
  rintro e w1 ⟨rfl, hE⟩

  replace E := Lib.hid (E.out.trans hE)

  clear hE hA

  have OT := Lib.hid (lit_ints (W := w1) [0, 1, 1, 2, 2, 0] #[.int .i64 0, .int .i64 1, .int .i64 1, .int .i64 2, .int .i64 2, .int .i64 0] rfl (by decide))

  replace E := Lib.hid (E.out.trans (Ext.al w1 (.cells #[.int .i64 0, .int .i64 1, .int .i64 1, .int .i64 2, .int .i64 2, .int .i64 0] 3)))

  go_wp2_with fail

  refine (works_any _).mono ?_
  rintro e w2 ⟨⟨sv, L, rfl, tl⟩, hE⟩

  replace E := Lib.hid (E.out.trans hE)

  replace OT := Lib.hid (OT.out.ext hE)

  have TV := Lib.hid (show WkM sv w2 from ⟨L, tl.mlc, tl.map⟩); clear tl hE

  go_wp2_with fail

  refine (yLots _ _ _ (HT.out.ext E.out) TV.out OT.out).mono ?_
  rintro e w3 ⟨⟨u1, rfl, hu⟩, hE⟩

  replace E := Lib.hid (E.out.trans hE)

  replace OT := Lib.hid (OT.out.ext hE)

  clear TV hE

  have LL := Lib.hid hu; clear hu

  go_wp2_with fail

  refine (works_any _).mono ?_
  rintro e w4 ⟨⟨sv, L, rfl, tl⟩, hE⟩

  replace E := Lib.hid (E.out.trans hE)

  replace OT := Lib.hid (OT.out.ext hE)

  replace LL := Lib.hid (LL.out.ext hE)

  have TV := Lib.hid (show WkM sv w4 from ⟨L, tl.mlc, tl.map⟩); clear tl hE

  go_wp2_with fail

  refine (ySwap _ _ _ (HT.out.ext E.out) TV.out OT.out).mono ?_
  rintro e w5 ⟨rfl, hE⟩

  replace E := Lib.hid (E.out.trans hE)

  replace OT := Lib.hid (OT.out.ext hE)

  replace LL := Lib.hid (LL.out.ext hE)

  clear TV hE

  go_wp2_with fail

  refine (works_any _).mono ?_
  rintro e w6 ⟨⟨sv, L, rfl, tl⟩, hE⟩

  replace E := Lib.hid (E.out.trans hE)

  replace OT := Lib.hid (OT.out.ext hE)

  replace LL := Lib.hid (LL.out.ext hE)

  have TV := Lib.hid (show WkM sv w6 from ⟨L, tl.mlc, tl.map⟩); clear tl hE

  go_wp2_with fail

  refine (yRun _ _ _ (HT.out.ext E.out) TV.out OT.out).mono ?_
  rintro e w7 ⟨⟨u2, rfl, hu⟩, hE⟩

  replace E := Lib.hid (E.out.trans hE)

  replace OT := Lib.hid (OT.out.ext hE)

  replace LL := Lib.hid (LL.out.ext hE)

  clear TV hE

  have LR := Lib.hid hu; clear hu

  clear OT

  have S3 := Lib.hid (lit_ints (W := w7) [2, 3] #[.int .i64 2, .int .i64 3] rfl (by decide))

  replace LL := Lib.hid (LL.out.ext (Ext.al w7 (.cells #[.int .i64 2, .int .i64 3] 3)))

  replace LR := Lib.hid (LR.out.ext (Ext.al w7 (.cells #[.int .i64 2, .int .i64 3] 3)))

  replace E := Lib.hid (E.out.trans (Ext.al w7 (.cells #[.int .i64 2, .int .i64 3] 3)))

  have S4 := Lib.hid (lit_ints (W := (w7.alloc (.cells #[.int .i64 2, .int .i64 3] 3))) [4, 5] #[.int .i64 4, .int .i64 5] rfl (by decide))

  replace LL := Lib.hid (LL.out.ext (Ext.al (w7.alloc (.cells #[.int .i64 2, .int .i64 3] 3)) (.cells #[.int .i64 4, .int .i64 5] 3)))

  replace LR := Lib.hid (LR.out.ext (Ext.al (w7.alloc (.cells #[.int .i64 2, .int .i64 3] 3)) (.cells #[.int .i64 4, .int .i64 5] 3)))

  replace S3 := Lib.hid (S3.out.ext (Ext.al (w7.alloc (.cells #[.int .i64 2, .int .i64 3] 3)) (.cells #[.int .i64 4, .int .i64 5] 3)))

  replace E := Lib.hid (E.out.trans (Ext.al (w7.alloc (.cells #[.int .i64 2, .int .i64 3] 3)) (.cells #[.int .i64 4, .int .i64 5] 3)))

  obtain ⟨wl, hwl⟩ : ∃ wl, wl = ((w7.alloc (.cells #[.int .i64 2, .int .i64 3] 3)).alloc (.cells #[.int .i64 4, .int .i64 5] 3)).alloc (.cells #[.slice (some ⟨w7.heap.size, 0, none⟩) 2 2, .slice (some ⟨w7.heap.size + 1, 0, none⟩) 2 2] 36) := ⟨_, rfl⟩
  have RL := Lib.hid (show RdLL wl (.slice (some ⟨w7.heap.size + 1 + 1, 0, none⟩) 2 2) [[2, 3], [4, 5]] by
    have h3 := S3.out; have h4 := S4.out
    rw [hwl]
    refine ⟨[(some ⟨w7.heap.size, 0, none⟩, 2, 2), (some ⟨w7.heap.size + 1, 0, none⟩, 2, 2)], ?_, rfl, fun i t l ht hl => ?_⟩
    · have := Own.sl (enc := encT) (sz := 1) (fun _ => rfl) (Own.litM (enc := encT) (sz := 1) (e := 36) (base := 0) (l := ([(some ⟨w7.heap.size, 0, none⟩, 2, 2), (some ⟨w7.heap.size + 1, 0, none⟩, 2, 2)] : List Tri)) (fun _ => rfl) (Blk.new ((w7.alloc (.cells #[.int .i64 2, .int .i64 3] 3)).alloc (.cells #[.int .i64 4, .int .i64 5] 3)) 36 _) rfl (Nat.zero_le _) (by simp))
      simpa using this
    · match i, ht, hl with
      | 0, ht, hl =>
        simp at ht hl
        subst ht hl
        exact h3.ext (Ext.al _ _)
      | 1, ht, hl =>
        simp at ht hl
        subst ht hl
        have h5 := h4.ext (Ext.al ((w7.alloc (.cells #[.int .i64 2, .int .i64 3] 3)).alloc (.cells #[.int .i64 4, .int .i64 5] 3)) (.cells #[.slice (some ⟨w7.heap.size, 0, none⟩) 2 2, .slice (some ⟨w7.heap.size + 1, 0, none⟩) 2 2] 36))
        simpa using h5
      | i + 2, ht, hl => simp at ht)

  replace E := Lib.hid (E.out.trans (show Ext ((w7.alloc (.cells #[.int .i64 2, .int .i64 3] 3)).alloc (.cells #[.int .i64 4, .int .i64 5] 3)) wl from hwl ▸ Ext.al _ _))

  replace LL := Lib.hid (LL.out.ext (show Ext ((w7.alloc (.cells #[.int .i64 2, .int .i64 3] 3)).alloc (.cells #[.int .i64 4, .int .i64 5] 3)) wl from hwl ▸ Ext.al _ _))

  replace LR := Lib.hid (LR.out.ext (show Ext ((w7.alloc (.cells #[.int .i64 2, .int .i64 3] 3)).alloc (.cells #[.int .i64 4, .int .i64 5] 3)) wl from hwl ▸ Ext.al _ _))

  replace S3 := Lib.hid (S3.out.ext (show Ext ((w7.alloc (.cells #[.int .i64 2, .int .i64 3] 3)).alloc (.cells #[.int .i64 4, .int .i64 5] 3)) wl from hwl ▸ Ext.al _ _))

  replace S4 := Lib.hid (S4.out.ext (show Ext ((w7.alloc (.cells #[.int .i64 2, .int .i64 3] 3)).alloc (.cells #[.int .i64 4, .int .i64 5] 3)) wl from hwl ▸ Ext.al _ _))

  clear S3 S4

  go_wp2_with fail

  rw [← hwl]

  refine (sameLists_any [[2, 3], [4, 5]] _ _ _ LL.out RL.out).mono ?_
  rintro e w8 ⟨rfl, hE⟩

  replace E := Lib.hid (E.out.trans hE)

  replace LL := Lib.hid (LL.out.ext hE)

  replace LR := Lib.hid (LR.out.ext hE)

  clear hE hwl RL LL

  have S6 := Lib.hid (lit_ints (W := w8) [1, 2] #[.int .i64 1, .int .i64 2] rfl (by decide))

  replace LR := Lib.hid (LR.out.ext (Ext.al w8 (.cells #[.int .i64 1, .int .i64 2] 3)))

  replace E := Lib.hid (E.out.trans (Ext.al w8 (.cells #[.int .i64 1, .int .i64 2] 3)))

  go_wp2_with fail

  refine (intsM_any [1, 2] _ _ _ LR.out S6.out).mono ?_
  rintro e w9 ⟨rfl, hE⟩

  replace E := Lib.hid (E.out.trans hE)

  replace LR := Lib.hid (LR.out.ext hE)

  replace S6 := Lib.hid (S6.out.ext hE)

  clear hE S6 LR

  have rm := run_makeMap (P := Tryz.prog) 84 w9
  have M0 := MapE.new w9
  obtain ⟨p1, M1⟩ := M0.put 0 0 rfl
  obtain ⟨V1, hV1⟩ : ∃ V1, V1 = Go.ChangeMaps.setBlock (w9.alloc (.map #[] 0)) w9.heap.size (.map (#[].push ⟨.int .i64 0, .int .i64 0, 0⟩) (0 + 1)) := ⟨_, rfl⟩
  rw [← hV1] at p1 M1
  have EV1 := Lib.hid (show Ext w9 V1 from hV1 ▸ ext_setBlock (Ext.al _ _) (Nat.le_refl _) _)
  obtain ⟨p2, M2⟩ := M1.put 1 2 rfl
  obtain ⟨V2, hV2⟩ : ∃ V2, V2 = Go.ChangeMaps.setBlock V1 w9.heap.size (.map ((#[].push ⟨.int .i64 0, .int .i64 0, 0⟩).push ⟨.int .i64 1, .int .i64 2, 0 + 1⟩) (0 + 1 + 1)) := ⟨_, rfl⟩
  rw [← hV2] at p2 M2
  have EV2 := Lib.hid (show Ext w9 V2 from hV2 ▸ ext_setBlock EV1.out (Nat.le_refl _) _)
  obtain ⟨p3, M3⟩ := M2.put 60 2 rfl
  obtain ⟨V3, hV3⟩ : ∃ V3, V3 = Go.ChangeMaps.setBlock V2 w9.heap.size (.map (((#[].push ⟨.int .i64 0, .int .i64 0, 0⟩).push ⟨.int .i64 1, .int .i64 2, 0 + 1⟩).push ⟨.int .i64 60, .int .i64 2, 0 + 1 + 1⟩) (0 + 1 + 1 + 1)) := ⟨_, rfl⟩
  rw [← hV3] at p3 M3
  have EV3 := Lib.hid (show Ext w9 V3 from hV3 ▸ ext_setBlock EV2.out (Nat.le_refl _) _)
  have M4 := Lib.hid (show MapE V3 w9.heap.size #[⟨.int .i64 0, .int .i64 0, 0⟩, ⟨.int .i64 1, .int .i64 2, 1⟩, ⟨.int .i64 60, .int .i64 2, 2⟩] 3 from M3)
  clear hV1 hV2 hV3 M0 M1 M2 M3
  have hrg := run_range_map (P := Tryz.prog) V3 84 3 3 w9.heap.size _ 3 Tryz.underlying84 M4.out
  go_wp2
  clear rm p1 p2 p3 hrg
  obtain ⟨V4, hV4⟩ : ∃ V4, V4 = V3.alloc (.mapIter (some w9.heap.size) 3 #[] 3) := ⟨_, rfl⟩
  rw [← hV4]
  have I5 := Lib.hid (show ItE V4 V3.heap.size w9.heap.size 3 #[] 3 from hV4 ▸ heap_alloc_new V3 _)
  have M5 := Lib.hid (show MapE V4 w9.heap.size mapX 3 from hV4 ▸ M4.out.ext (Ext.al _ _))
  have E5 := Lib.hid (show Ext w V4 from hV4 ▸ (E.out.trans EV3.out).alloc _)
  have hrm : V3.heap.size ≠ w9.heap.size := by have := M4.out.lt; omega
  have hwr : w.heap.size ≤ V3.heap.size := (E.out.trans EV3.out).size
  clear hV4 M4 EV1 EV2 EV3 E
  generalize V3.heap.size = r at *
  generalize w9.heap.size = bm at *
  go_loopg [13] 3 (fun gg s13 wr => ∃ seen : Array Nat, (leftOf mapX seen).size ≤ gg ∧ Aside (ItE wr r bm 3 seen 3) ∧ Aside (MapE wr bm mapX 3) ∧ Aside (Ext w wr))
  case atStart => exact ⟨#[], Nat.le_trans (Array.size_filter_le ..) (by simp), I5.out, M5.out, E5.out⟩
  case round =>
    obtain ⟨seen, hgg, IT, MP, EW⟩ := hrel
    rcases (run_next_at (P := Tryz.prog) wr 0 r bm 3 3 seen mapX 3 IT.out MP.out mapX_old (Nat.le_refl _)).symm with ⟨en, he, w1', hw1, hrun⟩ | ⟨h0, hrun⟩
    · have HSH := Lib.hid (show (leftOf mapX (seen.push en.born)).size < (leftOf mapX seen).size from left_shrinks mapX seen en he)
      obtain ⟨V, hV⟩ : ∃ V, V = Go.ChangeMaps.setBlock w1' r (.mapIter (some bm) 3 (seen.push en.born) 3) := ⟨_, rfl⟩
      rw [← hV] at hrun
      have IV := Lib.hid (show ItE V r bm 3 (seen.push en.born) 3 from by
        rw [hV]
        rcases hw1 with rfl | rfl
        · exact IT.out.set _ _
        · exact ItE.set (W := wr.drew) IT.out _ _)
      have MV := Lib.hid (show MapE V bm mapX 3 from by
        rw [hV]
        rcases hw1 with rfl | rfl
        · exact MP.out.setBlock hrm _
        · exact MapE.setBlock (W := wr.drew) MP.out hrm _)
      have EV := Lib.hid (show Ext w V from by
        rw [hV]
        rcases hw1 with rfl | rfl
        · exact ext_setBlock EW.out hwr _
        · exact ext_setBlock (Below.drew EW.out) hwr _)
      have hnx : ∀ ty, (Instr.next (.pointer (some ⟨r, 0, none⟩)) false ty).run Tryz.prog wr = _ := fun _ => hrun
      have hen := run_entry_at (P := Tryz.prog) V r bm 3 seen mapX 3 en IV.out MV.out (mem_left he).1 mapX_nodup
      have he3 : en = ⟨.int .i64 0, .int .i64 0, 0⟩ ∨ en = ⟨.int .i64 1, .int .i64 2, 1⟩ ∨ en = ⟨.int .i64 60, .int .i64 2, 2⟩ := by simpa using (mem_left he).1
      clear hw1 hV he hrun
      rcases he3 with rfl | rfl | rfl
      · skip
        have hen2 := hen
        simp only at hen2
        clear hen
        go_wp2_with fail
        refine (works_any _).mono ?_
        rintro e wk ⟨⟨sv, L, rfl, tl⟩, hE⟩
        have EK := Lib.hid (EV.out.trans hE)
        have IK := Lib.hid (IV.out.ext hE)
        have MK := Lib.hid (MV.out.ext hE)
        have TV := Lib.hid (show WkM sv wk from ⟨L, tl.mlc, tl.map⟩)
        clear tl hE EV IV MV
        go_wp2_with fail
        refine (yMost _ _ 0 0 ey_most0 (HT.out.ext EK.out) TV.out).mono ?_
        rintro e wm ⟨rfl, hE⟩
        have EM := Lib.hid (EK.out.trans hE)
        have IM := Lib.hid (IK.out.ext hE)
        have MM := Lib.hid (MK.out.ext hE)
        clear hE EK IK MK TV
        go_wp2
        go_roundg (leftOf mapX (seen.push 0)).size
        case measure => have := HSH.out; omega
        case rel => exact ⟨seen.push 0, Nat.le_refl _, IM.out, MM.out, EM.out⟩
      · skip
        have hen2 := hen
        simp only at hen2
        clear hen
        go_wp2_with fail
        refine (works_any _).mono ?_
        rintro e wk ⟨⟨sv, L, rfl, tl⟩, hE⟩
        have EK := Lib.hid (EV.out.trans hE)
        have IK := Lib.hid (IV.out.ext hE)
        have MK := Lib.hid (MV.out.ext hE)
        have TV := Lib.hid (show WkM sv wk from ⟨L, tl.mlc, tl.map⟩)
        clear tl hE EV IV MV
        go_wp2_with fail
        refine (yMost _ _ 1 2 ey_most1 (HT.out.ext EK.out) TV.out).mono ?_
        rintro e wm ⟨rfl, hE⟩
        have EM := Lib.hid (EK.out.trans hE)
        have IM := Lib.hid (IK.out.ext hE)
        have MM := Lib.hid (MK.out.ext hE)
        clear hE EK IK MK TV
        go_wp2
        go_roundg (leftOf mapX (seen.push 1)).size
        case measure => have := HSH.out; omega
        case rel => exact ⟨seen.push 1, Nat.le_refl _, IM.out, MM.out, EM.out⟩
      · skip
        have hen2 := hen
        simp only at hen2
        clear hen
        go_wp2_with fail
        refine (works_any _).mono ?_
        rintro e wk ⟨⟨sv, L, rfl, tl⟩, hE⟩
        have EK := Lib.hid (EV.out.trans hE)
        have IK := Lib.hid (IV.out.ext hE)
        have MK := Lib.hid (MV.out.ext hE)
        have TV := Lib.hid (show WkM sv wk from ⟨L, tl.mlc, tl.map⟩)
        clear tl hE EV IV MV
        go_wp2_with fail
        refine (yMost _ _ 60 2 ey_most60 (HT.out.ext EK.out) TV.out).mono ?_
        rintro e wm ⟨rfl, hE⟩
        have EM := Lib.hid (EK.out.trans hE)
        have IM := Lib.hid (IK.out.ext hE)
        have MM := Lib.hid (MK.out.ext hE)
        clear hE EK IK MK TV
        go_wp2
        go_roundg (leftOf mapX (seen.push 2)).size
        case measure => have := HSH.out; omega
        case rel => exact ⟨seen.push 2, Nat.le_refl _, IM.out, MM.out, EM.out⟩

    · have hnx : ∀ ty, (Instr.next (.pointer (some ⟨r, 0, none⟩)) false ty).run Tryz.prog wr = _ := fun _ => hrun
      have E := Lib.hid EW.out
      clear IT MP EW h0

      go_wp2_with fail

      refine (works_any _).mono ?_
      rintro e w10 ⟨⟨sv, L, rfl, tl⟩, hE⟩

      replace E := Lib.hid (E.out.trans hE)

      have TV := Lib.hid (show WkM sv w10 from ⟨L, tl.mlc, tl.map⟩); clear tl hE

      go_wp2_with fail

      refine (yWant _ _ (HT.out.ext E.out) TV.out).mono ?_
      rintro e w11 ⟨⟨v0, rfl, tm⟩, hE⟩

      replace E := Lib.hid (E.out.trans hE)

      obtain ⟨L0, hml, hmm⟩ := tm
      obtain ⟨A0, n0, c0, rfl, -, -, -⟩ := hml.1.form
      have TM := Lib.hid (show WkM (.slice A0 n0 c0) w11 from ⟨L0, hml, hmm⟩)
      clear TV hE hml hmm hnx hrun

      replace E := Lib.hid (E.out.alloc (.cells #[.int .i64 3, .int .i64 2, .slice A0 n0 c0] 24))
      replace TM := Lib.hid (TM.out.ext (Ext.al _ (.cells #[.int .i64 3, .int .i64 2, .slice A0 n0 c0] 24)))
      have BM := Lib.hid (Blk.new w11 24 #[.int .i64 3, .int .i64 2, .slice A0 n0 c0])

      obtain ⟨b0, b1, b2, bf, bl⟩ := BM.out.c3

      go_wp2_with fail

      refine (zBest _ _ (HT.out.ext E.out) TM.out).mono ?_
      rintro e w12 ⟨⟨q1, rfl⟩, hE⟩

      replace E := Lib.hid (E.out.trans hE)

      replace TM := Lib.hid (TM.out.ext hE)

      replace BM := Lib.hid (BM.out.ext hE)

      clear hE b0 b1 b2 bf bl

      obtain ⟨b0, b1, b2, bf, bl⟩ := BM.out.c3

      go_wp2_with fail

      refine (zEven _ _ (HT.out.ext E.out) TM.out).mono ?_
      rintro e w13 ⟨rfl, hE⟩

      replace E := Lib.hid (E.out.trans hE)

      replace TM := Lib.hid (TM.out.ext hE)

      replace BM := Lib.hid (BM.out.ext hE)

      clear hE b0 b1 b2 bf bl

      obtain ⟨b0, b1, b2, bf, bl⟩ := BM.out.c3

      go_wp2_with fail

      refine (zNeeds _ _ (HT.out.ext E.out) TM.out).mono ?_
      rintro e w14 ⟨⟨q2, rfl⟩, hE⟩

      replace E := Lib.hid (E.out.trans hE)

      replace TM := Lib.hid (TM.out.ext hE)

      replace BM := Lib.hid (BM.out.ext hE)

      clear hE b0 b1 b2 bf bl

      go_wp2_with fail

      refine (works_any _).mono ?_
      rintro e w15 ⟨⟨sv, L, rfl, tl⟩, hE⟩

      replace E := Lib.hid (E.out.trans hE)

      replace TM := Lib.hid (TM.out.ext hE)

      replace BM := Lib.hid (BM.out.ext hE)

      have TV := Lib.hid (show WkM sv w15 from ⟨L, tl.mlc, tl.map⟩); clear tl hE

      obtain ⟨L1, hml, hmm⟩ := TV.out
      obtain ⟨A1, n1, c1, rfl, -, -, -⟩ := hml.1.form
      have T1 := Lib.hid (show WkM (.slice A1 n1 c1) w15 from ⟨L1, hml, hmm⟩)
      clear TV hml hmm

      have TMb := Lib.hid TM.out; have T1b := Lib.hid T1.out; have BMb := Lib.hid BM.out; have Eb := Lib.hid E.out

      go_wp2_with fail

      refine (works_any _).mono ?_
      rintro e w16 ⟨⟨sv, L, rfl, tl⟩, hE⟩

      replace E := Lib.hid (E.out.trans hE)

      replace TM := Lib.hid (TM.out.ext hE)

      replace BM := Lib.hid (BM.out.ext hE)

      replace T1 := Lib.hid (T1.out.ext hE)

      obtain ⟨A2, n2, c2, rfl, -, -, -⟩ := tl.mlc.1.form
      have T2 := Lib.hid tl
      have Xb := Lib.hid hE; have XK := Lib.hid hE
      clear hE tl

      go_upto_region 21 with (fail)

      obtain ⟨wb, hwb⟩ : ∃ wb, wb = (w16.alloc (.cells #[.int .i64 2, .int .i64 1, .slice A1 n1 c1] 24)).alloc (.cells #[.int .i64 2, .int .i64 2, .slice A2 n2 c2] 24) := ⟨_, rfl⟩
      rw [← hwb]
      have EB := Lib.hid (show Ext w16 wb from hwb ▸ (Ext.al w16 (.cells #[.int .i64 2, .int .i64 1, .slice A1 n1 c1] 24)).alloc (.cells #[.int .i64 2, .int .i64 2, .slice A2 n2 c2] 24))
      have BX := Lib.hid (show Blk wb w16.heap.size 24 #[.int .i64 2, .int .i64 1, .slice A1 n1 c1] from hwb ▸ (Blk.new _ _ _).alloc _)
      have BY := Lib.hid (show Blk wb (w16.heap.size + 1) 24 #[.int .i64 2, .int .i64 2, .slice A2 n2 c2] from by
        rw [hwb]
        exact Blk.at_ (by simp))

      replace E := Lib.hid (E.out.trans EB.out)

      replace TM := Lib.hid (TM.out.ext EB.out)

      replace BM := Lib.hid (BM.out.ext EB.out)

      replace T1 := Lib.hid (T1.out.ext EB.out)

      replace T2 := Lib.hid (T2.out.ext EB.out)

      replace Xb := Lib.hid (Xb.out.trans EB.out)

      clear hwb EB

      have m0 := fun V (h : Ext wb V) => (BY.out.ext h).c3.2.2.1
      refine wp_region_tame_cutk (fun V => Ext wb V) (fun V V' => Ext V V') (by kernel_rfl) 312 rfl 4 (by decide +kernel) (by decide +kernel) (by decide +kernel) (Ext.refl _).drew ?_
      simp only [List.take, List.drop]
      repeat (apply tame_q rfl; (intro ρ W hC hr hD; (obtain ⟨hrc, hrg, hrf, hrs⟩ := hr); (simp [go_sem] at hD); go_simp; first | exact ⟨⟨hC, Ext.refl _⟩, rfl⟩ | exact ⟨⟨hC, RS.refl _⟩, rfl⟩ | exact rfl); simp only [List.nil_append, List.cons_append])
      apply tame_v rfl (TwinR (cotX 9 1 1) wb.heap.size) (fun v V V' _ hE h => by obtain ⟨r', h1, h2, h3⟩ := h; exact ⟨r', h1, h2, h3.ext hE⟩)
      · intro ρ V hC hr hD
        obtain ⟨hrc, hrg, hrf, hrs⟩ := hr
        simp [go_sem] at hD
        have HC := Lib.hid hC
        go_simp
        refine (cotX_any 9 1 1 V).mono ?_
        rintro e w' ⟨⟨v, rfl, r', h1, h2, h3⟩, hE⟩
        exact ⟨_, rfl, ⟨HC.out.trans hE, hE⟩, ⟨r', h1, h2, h3.mono HC.out.size⟩⟩
      simp only [List.nil_append, List.cons_append]
      apply tame_v rfl (OneT (cotX 9 1 1) wb.heap.size) (fun v V V' _ hE h => by obtain ⟨b', r', h1, h2, h3, h4⟩ := h; exact ⟨b', r', h1, h2.ext hE, h3, h4.ext hE⟩)
      · intro ρ V hC hr hD
        obtain ⟨hrc, hrg, hrf, hrs⟩ := hr
        simp [go_sem] at hD
        have hD' : TwinR (cotX 9 1 1) wb.heap.size (ρ (.tmp 152)) V := by first | exact hD | exact hD.1
        obtain ⟨r', d1, d2, d3⟩ := hD'
        have H3 := Lib.hid d3; have HC := Lib.hid hC; have HR := Lib.hid d2
        clear d2 d3 hD
        go_simp
        exact ⟨⟨HC.out.alloc _, Ext.al _ _⟩, ⟨V.heap.size, r', rfl, Blk.new _ _ _, HR.out, H3.out.ext (Ext.al _ _)⟩⟩
      simp only [List.nil_append, List.cons_append]
      refine tame_end_put rfl rfl (fun ρ V hC hr hF => ?_)
      simp [go_sem] at hF
      obtain ⟨f18, f19, f20, ⟨b', r', f22, hB', hr', ho'⟩⟩ := hF
      obtain ⟨rr, e152, -, -⟩ := f20
      simp only [putF, f18, f19, e152, f22, List.set_cons_succ, List.set_cons_zero]
      have HBB := Lib.hid hB'; have HRC := Lib.hid hr'
      have TV := Lib.hid (T2.out.ext hC); have BXV := Lib.hid (BX.out.ext hC); have BYV := Lib.hid (BY.out.ext hC); have XV := Lib.hid (Xb.out.trans hC)
      have HZB := Lib.hid (show w15.heap.size ≤ wb.heap.size from Xb.out.size)
      have HOR := Lib.hid (ho'.mono HZB.out)
      have hzv : w15.heap.size ≤ V.heap.size := XV.out.size
      have HLL := Lib.hid (show L.length = 6 by have h := congrArg List.length T2.out.map; simpa [worksX] using h)
      have hll : L.length < 100000000000 := by have := HLL.out; omega
      clear f18 f19 e152 f22 hB' hr' ho' hr m0 hC T2 BX BY Xb E TM T1 BM
      go_wp2_with (at_builtin; refine wpList_app encC 22 63 8 _ 96 Tryz.underlying22 info63x rfl (by decide) (by decide) encC_len encC_one rfl (.tmp 151) (.tmp 153) rfl w15.heap.size _ L rfl TV.out.own b' 1 r' rfl (fun j u hu => by rw [HBB.out.cell j]; simpa using hu) hll hzv ?_)
      intro g cap w' hown hg2 hbel hgr
      have HOF := Lib.hid (OffX.grown (enc := encC) (sz := 8) TV.out.own hgr)
      have HBE := Lib.hid hbel
      have TF := Lib.hid (show TwinL w15.heap.size (worksX ++ [cotX 9 1 1]) (.slice (some ⟨g, 0, none⟩) (L.length + 1) cap) (L ++ [r']) w' from ⟨hown, fun r hr => by
        rcases List.mem_append.1 hr with hr | hr
        · exact (TV.out.lists r hr).off HOF.out
        · simp at hr
          subst hr
          exact HOR.out.off HOF.out, by rw [List.map_append, TV.out.map]; simp [HRC.out]⟩)
      have BX := Lib.hid (HOF.out _ _ _ (by decide) BXV.out)
      have BY := Lib.hid (HOF.out _ _ _ (by decide) BYV.out)
      have XW := Lib.hid (show Ext w15 w' from Below.trans XV.out HBE.out)
      clear hown hg2 hbel hgr HBB HRC TV BXV BYV XV HOR HOF HBE hzv hll
      obtain ⟨z0, z1, z2, zf, zl⟩ := BY.out.c3
      have HZY := Lib.hid (show w15.heap.size ≤ w16.heap.size by have := XK.out.size; omega)
      go_upto_region 22 with (fail)
      clear z0 z1 z2 zf zl
      obtain ⟨wf, hwf⟩ : ∃ wf, wf = w'.setCell ⟨w16.heap.size + 1, 2, none⟩ (.slice (some ⟨g, 0, none⟩) (L.length + 1) cap) := ⟨_, rfl⟩
      rw [← hwf]
      have hG : w'.grownBy wf (some (w16.heap.size + 1)) := hwf ▸ grown_set (World.grownBy.refl _ _) (p := ⟨w16.heap.size + 1, 2, none⟩) (.inl rfl) _
      have XF := Lib.hid (show Ext w15 wf from ext_grown XW.out hG (by have := HZY.out; omega))
      have TU := Lib.hid (TF.out.offX (offX_grown BY.out hG))
      have FU := Lib.hid (show FuM (.slice (some ⟨g, 0, none⟩) (L.length + 1) cap) wf from ⟨_, TU.out.mlc, TU.out.map⟩)
      replace BX := Lib.hid (BX.out.grown hG (by intro e; injection e with e; omega))
      replace BY := Lib.hid (show Blk wf (w16.heap.size + 1) 24 #[.int .i64 2, .int .i64 2, .slice (some ⟨g, 0, none⟩) (L.length + 1) cap] by
        rw [hwf]
        have h := BY.out.set_ 2 (.slice (some ⟨g, 0, none⟩) (L.length + 1) cap)
        simpa using h)
      have E := Lib.hid (Eb.out.trans XF.out); have TM := Lib.hid (TMb.out.ext XF.out); have T1 := Lib.hid (T1b.out.ext XF.out); have BM := Lib.hid (BMb.out.ext XF.out)
      clear hwf hG XF TU Eb TMb T1b BMb XW TF HZY HZB XK HLL

      obtain ⟨b0, b1, b2, bf, bl⟩ := BX.out.c3

      go_wp2_with fail

      refine (xFit _ _ (HT.out.ext E.out) T1.out).mono ?_
      rintro e w17 ⟨⟨q3, rfl⟩, hE⟩

      replace E := Lib.hid (E.out.trans hE)

      replace TM := Lib.hid (TM.out.ext hE)

      replace T1 := Lib.hid (T1.out.ext hE)

      replace BM := Lib.hid (BM.out.ext hE)

      replace BX := Lib.hid (BX.out.ext hE)

      replace BY := Lib.hid (BY.out.ext hE)

      replace FU := Lib.hid (FU.out.ext hE)

      clear hE b0 b1 b2 bf bl

      go_wp2_with fail

      refine (works_any _).mono ?_
      rintro e w18 ⟨⟨sv, L, rfl, tl⟩, hE⟩

      replace E := Lib.hid (E.out.trans hE)

      replace TM := Lib.hid (TM.out.ext hE)

      replace T1 := Lib.hid (T1.out.ext hE)

      replace BM := Lib.hid (BM.out.ext hE)

      replace BX := Lib.hid (BX.out.ext hE)

      replace BY := Lib.hid (BY.out.ext hE)

      replace FU := Lib.hid (FU.out.ext hE)

      have TV := Lib.hid (show WkM sv w18 from ⟨L, tl.mlc, tl.map⟩); clear tl hE

      have PL := Lib.hid (lit_ints (W := w18) [1, 1, 2, 2, 0] #[.int .i64 1, .int .i64 1, .int .i64 2, .int .i64 2, .int .i64 0] rfl (by decide))

      replace TM := Lib.hid (TM.out.ext (Ext.al w18 (.cells #[.int .i64 1, .int .i64 1, .int .i64 2, .int .i64 2, .int .i64 0] 3)))

      replace T1 := Lib.hid (T1.out.ext (Ext.al w18 (.cells #[.int .i64 1, .int .i64 1, .int .i64 2, .int .i64 2, .int .i64 0] 3)))

      replace BM := Lib.hid (BM.out.ext (Ext.al w18 (.cells #[.int .i64 1, .int .i64 1, .int .i64 2, .int .i64 2, .int .i64 0] 3)))

      replace BX := Lib.hid (BX.out.ext (Ext.al w18 (.cells #[.int .i64 1, .int .i64 1, .int .i64 2, .int .i64 2, .int .i64 0] 3)))

      replace BY := Lib.hid (BY.out.ext (Ext.al w18 (.cells #[.int .i64 1, .int .i64 1, .int .i64 2, .int .i64 2, .int .i64 0] 3)))

      replace FU := Lib.hid (FU.out.ext (Ext.al w18 (.cells #[.int .i64 1, .int .i64 1, .int .i64 2, .int .i64 2, .int .i64 0] 3)))

      replace TV := Lib.hid (TV.out.ext (Ext.al w18 (.cells #[.int .i64 1, .int .i64 1, .int .i64 2, .int .i64 2, .int .i64 0] 3)))

      replace E := Lib.hid (E.out.trans (Ext.al w18 (.cells #[.int .i64 1, .int .i64 1, .int .i64 2, .int .i64 2, .int .i64 0] 3)))

      go_wp2_with fail

      refine (xJudge [1, 1, 2, 2, 0] ey_bad1 _ _ _ (HT.out.ext E.out) TV.out PL.out).mono ?_
      rintro e w19 ⟨⟨q4, q5, rfl⟩, hE⟩

      replace E := Lib.hid (E.out.trans hE)

      replace TM := Lib.hid (TM.out.ext hE)

      replace T1 := Lib.hid (T1.out.ext hE)

      replace BM := Lib.hid (BM.out.ext hE)

      replace BX := Lib.hid (BX.out.ext hE)

      replace BY := Lib.hid (BY.out.ext hE)

      replace FU := Lib.hid (FU.out.ext hE)

      clear TV PL hE

      go_wp2_with fail

      refine (works_any _).mono ?_
      rintro e w20 ⟨⟨sv, L, rfl, tl⟩, hE⟩

      replace E := Lib.hid (E.out.trans hE)

      replace TM := Lib.hid (TM.out.ext hE)

      replace T1 := Lib.hid (T1.out.ext hE)

      replace BM := Lib.hid (BM.out.ext hE)

      replace BX := Lib.hid (BX.out.ext hE)

      replace BY := Lib.hid (BY.out.ext hE)

      replace FU := Lib.hid (FU.out.ext hE)

      have TV := Lib.hid (show WkM sv w20 from ⟨L, tl.mlc, tl.map⟩); clear tl hE

      have PL := Lib.hid (lit_ints (W := w20) [1, 1, 2, 0, 0, 2] #[.int .i64 1, .int .i64 1, .int .i64 2, .int .i64 0, .int .i64 0, .int .i64 2] rfl (by decide))

      replace TM := Lib.hid (TM.out.ext (Ext.al w20 (.cells #[.int .i64 1, .int .i64 1, .int .i64 2, .int .i64 0, .int .i64 0, .int .i64 2] 3)))

      replace T1 := Lib.hid (T1.out.ext (Ext.al w20 (.cells #[.int .i64 1, .int .i64 1, .int .i64 2, .int .i64 0, .int .i64 0, .int .i64 2] 3)))

      replace BM := Lib.hid (BM.out.ext (Ext.al w20 (.cells #[.int .i64 1, .int .i64 1, .int .i64 2, .int .i64 0, .int .i64 0, .int .i64 2] 3)))

      replace BX := Lib.hid (BX.out.ext (Ext.al w20 (.cells #[.int .i64 1, .int .i64 1, .int .i64 2, .int .i64 0, .int .i64 0, .int .i64 2] 3)))

      replace BY := Lib.hid (BY.out.ext (Ext.al w20 (.cells #[.int .i64 1, .int .i64 1, .int .i64 2, .int .i64 0, .int .i64 0, .int .i64 2] 3)))

      replace FU := Lib.hid (FU.out.ext (Ext.al w20 (.cells #[.int .i64 1, .int .i64 1, .int .i64 2, .int .i64 0, .int .i64 0, .int .i64 2] 3)))

      replace TV := Lib.hid (TV.out.ext (Ext.al w20 (.cells #[.int .i64 1, .int .i64 1, .int .i64 2, .int .i64 0, .int .i64 0, .int .i64 2] 3)))

      replace E := Lib.hid (E.out.trans (Ext.al w20 (.cells #[.int .i64 1, .int .i64 1, .int .i64 2, .int .i64 0, .int .i64 0, .int .i64 2] 3)))

      go_wp2_with fail

      refine (xLots [1, 1, 2, 0, 0, 2] ey_bad2 _ _ _ (HT.out.ext E.out) TV.out PL.out).mono ?_
      rintro e w21 ⟨⟨q6, rfl⟩, hE⟩

      replace E := Lib.hid (E.out.trans hE)

      replace TM := Lib.hid (TM.out.ext hE)

      replace T1 := Lib.hid (T1.out.ext hE)

      replace BM := Lib.hid (BM.out.ext hE)

      replace BX := Lib.hid (BX.out.ext hE)

      replace BY := Lib.hid (BY.out.ext hE)

      replace FU := Lib.hid (FU.out.ext hE)

      clear TV PL hE

      go_wp2_with fail

      refine (works_any _).mono ?_
      rintro e w22 ⟨⟨sv, L, rfl, tl⟩, hE⟩

      replace E := Lib.hid (E.out.trans hE)

      replace TM := Lib.hid (TM.out.ext hE)

      replace T1 := Lib.hid (T1.out.ext hE)

      replace BM := Lib.hid (BM.out.ext hE)

      replace BX := Lib.hid (BX.out.ext hE)

      replace BY := Lib.hid (BY.out.ext hE)

      replace FU := Lib.hid (FU.out.ext hE)

      have TV := Lib.hid (show WkM sv w22 from ⟨L, tl.mlc, tl.map⟩); clear tl hE

      have PL := Lib.hid (lit_ints (W := w22) [1, 1, 1, 2, 2, 0] #[.int .i64 1, .int .i64 1, .int .i64 1, .int .i64 2, .int .i64 2, .int .i64 0] rfl (by decide))

      replace TM := Lib.hid (TM.out.ext (Ext.al w22 (.cells #[.int .i64 1, .int .i64 1, .int .i64 1, .int .i64 2, .int .i64 2, .int .i64 0] 3)))

      replace T1 := Lib.hid (T1.out.ext (Ext.al w22 (.cells #[.int .i64 1, .int .i64 1, .int .i64 1, .int .i64 2, .int .i64 2, .int .i64 0] 3)))

      replace BM := Lib.hid (BM.out.ext (Ext.al w22 (.cells #[.int .i64 1, .int .i64 1, .int .i64 1, .int .i64 2, .int .i64 2, .int .i64 0] 3)))

      replace BX := Lib.hid (BX.out.ext (Ext.al w22 (.cells #[.int .i64 1, .int .i64 1, .int .i64 1, .int .i64 2, .int .i64 2, .int .i64 0] 3)))

      replace BY := Lib.hid (BY.out.ext (Ext.al w22 (.cells #[.int .i64 1, .int .i64 1, .int .i64 1, .int .i64 2, .int .i64 2, .int .i64 0] 3)))

      replace FU := Lib.hid (FU.out.ext (Ext.al w22 (.cells #[.int .i64 1, .int .i64 1, .int .i64 1, .int .i64 2, .int .i64 2, .int .i64 0] 3)))

      replace TV := Lib.hid (TV.out.ext (Ext.al w22 (.cells #[.int .i64 1, .int .i64 1, .int .i64 1, .int .i64 2, .int .i64 2, .int .i64 0] 3)))

      replace E := Lib.hid (E.out.trans (Ext.al w22 (.cells #[.int .i64 1, .int .i64 1, .int .i64 1, .int .i64 2, .int .i64 2, .int .i64 0] 3)))

      go_wp2_with fail

      refine (xSwap [1, 1, 1, 2, 2, 0] ey_bad3 _ _ _ (HT.out.ext E.out) TV.out PL.out).mono ?_
      rintro e w23 ⟨⟨q7, q8, rfl⟩, hE⟩

      replace E := Lib.hid (E.out.trans hE)

      replace TM := Lib.hid (TM.out.ext hE)

      replace T1 := Lib.hid (T1.out.ext hE)

      replace BM := Lib.hid (BM.out.ext hE)

      replace BX := Lib.hid (BX.out.ext hE)

      replace BY := Lib.hid (BY.out.ext hE)

      replace FU := Lib.hid (FU.out.ext hE)

      clear TV PL hE

      go_wp2_with fail

      refine (works_any _).mono ?_
      rintro e w24 ⟨⟨sv, L, rfl, tl⟩, hE⟩

      replace E := Lib.hid (E.out.trans hE)

      replace TM := Lib.hid (TM.out.ext hE)

      replace T1 := Lib.hid (T1.out.ext hE)

      replace BM := Lib.hid (BM.out.ext hE)

      replace BX := Lib.hid (BX.out.ext hE)

      replace BY := Lib.hid (BY.out.ext hE)

      replace FU := Lib.hid (FU.out.ext hE)

      have TV := Lib.hid (show WkM sv w24 from ⟨L, tl.mlc, tl.map⟩); clear tl hE

      have PL := Lib.hid (lit_ints (W := w24) [1, 1, 3, 3, 0, 0] #[.int .i64 1, .int .i64 1, .int .i64 3, .int .i64 3, .int .i64 0, .int .i64 0] rfl (by decide))

      replace TM := Lib.hid (TM.out.ext (Ext.al w24 (.cells #[.int .i64 1, .int .i64 1, .int .i64 3, .int .i64 3, .int .i64 0, .int .i64 0] 3)))

      replace T1 := Lib.hid (T1.out.ext (Ext.al w24 (.cells #[.int .i64 1, .int .i64 1, .int .i64 3, .int .i64 3, .int .i64 0, .int .i64 0] 3)))

      replace BM := Lib.hid (BM.out.ext (Ext.al w24 (.cells #[.int .i64 1, .int .i64 1, .int .i64 3, .int .i64 3, .int .i64 0, .int .i64 0] 3)))

      replace BX := Lib.hid (BX.out.ext (Ext.al w24 (.cells #[.int .i64 1, .int .i64 1, .int .i64 3, .int .i64 3, .int .i64 0, .int .i64 0] 3)))

      replace BY := Lib.hid (BY.out.ext (Ext.al w24 (.cells #[.int .i64 1, .int .i64 1, .int .i64 3, .int .i64 3, .int .i64 0, .int .i64 0] 3)))

      replace FU := Lib.hid (FU.out.ext (Ext.al w24 (.cells #[.int .i64 1, .int .i64 1, .int .i64 3, .int .i64 3, .int .i64 0, .int .i64 0] 3)))

      replace TV := Lib.hid (TV.out.ext (Ext.al w24 (.cells #[.int .i64 1, .int .i64 1, .int .i64 3, .int .i64 3, .int .i64 0, .int .i64 0] 3)))

      replace E := Lib.hid (E.out.trans (Ext.al w24 (.cells #[.int .i64 1, .int .i64 1, .int .i64 3, .int .i64 3, .int .i64 0, .int .i64 0] 3)))

      go_wp2_with fail

      refine (xRun [1, 1, 3, 3, 0, 0] ey_bad4 _ _ _ (HT.out.ext E.out) TV.out PL.out).mono ?_
      rintro e w25 ⟨⟨q9, q10, rfl⟩, hE⟩

      replace E := Lib.hid (E.out.trans hE)

      replace TM := Lib.hid (TM.out.ext hE)

      replace T1 := Lib.hid (T1.out.ext hE)

      replace BM := Lib.hid (BM.out.ext hE)

      replace BX := Lib.hid (BX.out.ext hE)

      replace BY := Lib.hid (BY.out.ext hE)

      replace FU := Lib.hid (FU.out.ext hE)

      clear TV PL hE

      go_wp2_with fail

      refine (works_any _).mono ?_
      rintro e w26 ⟨⟨sv, L, rfl, tl⟩, hE⟩

      replace E := Lib.hid (E.out.trans hE)

      replace TM := Lib.hid (TM.out.ext hE)

      replace T1 := Lib.hid (T1.out.ext hE)

      replace BM := Lib.hid (BM.out.ext hE)

      replace BX := Lib.hid (BX.out.ext hE)

      replace BY := Lib.hid (BY.out.ext hE)

      replace FU := Lib.hid (FU.out.ext hE)

      have TV := Lib.hid (show WkM sv w26 from ⟨L, tl.mlc, tl.map⟩); clear tl hE

      go_wp2_with fail

      refine (yMostN _ _ (HT.out.ext E.out) TV.out).mono ?_
      rintro e w27 ⟨rfl, hE⟩

      replace E := Lib.hid (E.out.trans hE)

      replace TM := Lib.hid (TM.out.ext hE)

      replace T1 := Lib.hid (T1.out.ext hE)

      replace BM := Lib.hid (BM.out.ext hE)

      replace BX := Lib.hid (BX.out.ext hE)

      replace BY := Lib.hid (BY.out.ext hE)

      replace FU := Lib.hid (FU.out.ext hE)

      clear TV hE

      obtain ⟨b0, b1, b2, bf, bl⟩ := BY.out.c3

      go_wp2_with fail

      refine (xHelps0 _ _ (HT.out.ext E.out) FU.out).mono ?_
      rintro e w28 ⟨rfl, hE⟩

      replace E := Lib.hid (E.out.trans hE)

      replace TM := Lib.hid (TM.out.ext hE)

      replace T1 := Lib.hid (T1.out.ext hE)

      replace BM := Lib.hid (BM.out.ext hE)

      replace BX := Lib.hid (BX.out.ext hE)

      replace BY := Lib.hid (BY.out.ext hE)

      replace FU := Lib.hid (FU.out.ext hE)

      clear hE b0 b1 b2 bf bl

      go_wp2_with fail

      refine (works_any _).mono ?_
      rintro e w29 ⟨⟨sv, L, rfl, tl⟩, hE⟩

      replace E := Lib.hid (E.out.trans hE)

      replace TM := Lib.hid (TM.out.ext hE)

      replace T1 := Lib.hid (T1.out.ext hE)

      replace BM := Lib.hid (BM.out.ext hE)

      replace BX := Lib.hid (BX.out.ext hE)

      replace BY := Lib.hid (BY.out.ext hE)

      replace FU := Lib.hid (FU.out.ext hE)

      have TV := Lib.hid (show WkM sv w29 from ⟨L, tl.mlc, tl.map⟩); clear tl hE

      go_wp2_with fail

      refine (cotX_any 6 30 80 _).mono ?_
      rintro e w30 ⟨⟨xv, rfl, hx⟩, hE⟩

      replace E := Lib.hid (E.out.trans hE)

      replace TM := Lib.hid (TM.out.ext hE)

      replace T1 := Lib.hid (T1.out.ext hE)

      replace BM := Lib.hid (BM.out.ext hE)

      replace BX := Lib.hid (BX.out.ext hE)

      replace BY := Lib.hid (BY.out.ext hE)

      replace FU := Lib.hid (FU.out.ext hE)

      replace TV := Lib.hid (TV.out.ext hE); have HX := Lib.hid hx; clear hE hx

      go_wp2_with fail

      refine (xHelps6 _ _ _ _ (HT.out.ext E.out) TV.out HX.out).mono ?_
      rintro e w31 ⟨rfl, hE⟩

      replace E := Lib.hid (E.out.trans hE)

      replace TM := Lib.hid (TM.out.ext hE)

      replace T1 := Lib.hid (T1.out.ext hE)

      replace BM := Lib.hid (BM.out.ext hE)

      replace BX := Lib.hid (BX.out.ext hE)

      replace BY := Lib.hid (BY.out.ext hE)

      replace FU := Lib.hid (FU.out.ext hE)

      clear hE TV HX

      go_upto_region 30 with (fail)
      have m0 := fun V (h : Ext w31 V) => (BM.out.ext h).c3
      refine wp_region_tame (fun V => Ext w31 V) (fun V V' => Ext V V') (by kernel_rfl) 312 rfl (by decide +kernel) (Ext.refl _).drew ?_
      repeat (apply tame_q rfl; (intro ρ W hC hr hD; (obtain ⟨hrc, hrg, hrf, hrs⟩ := hr); (simp [go_sem] at hD); go_simp; first | exact ⟨⟨hC, Ext.refl _⟩, rfl⟩ | exact ⟨⟨hC, RS.refl _⟩, rfl⟩ | exact rfl); simp only [List.nil_append, List.cons_append])
      apply tame_v rfl (TwinR (cotX 7 0 80) w31.heap.size) (fun v V V' _ hE h => by obtain ⟨r', h1, h2, h3⟩ := h; exact ⟨r', h1, h2, h3.ext hE⟩)
      · intro ρ V hC hr hD
        obtain ⟨hrc, hrg, hrf, hrs⟩ := hr
        simp [go_sem] at hD
        have HC := Lib.hid hC
        go_simp
        refine (cotX_any 7 0 80 V).mono ?_
        rintro e w' ⟨⟨v, rfl, r', h1, h2, h3⟩, hE⟩
        exact ⟨_, rfl, ⟨HC.out.trans hE, hE⟩, ⟨r', h1, h2, h3.mono HC.out.size⟩⟩
      simp only [List.nil_append, List.cons_append]
      apply tame_q rfl
      · intro ρ V hC hr hD
        obtain ⟨hrc, hrg, hrf, hrs⟩ := hr
        simp [go_sem] at hD
        obtain ⟨d1, d2⟩ := hD
        have H2 := Lib.hid d2
        have HC := Lib.hid hC
        clear d2
        go_simp
        refine (xHelps7 _ _ _ V (HT.out.ext (E.out.trans HC.out)) (TM.out.ext HC.out) H2.out).mono ?_
        rintro e w' ⟨rfl, hE⟩
        exact ⟨_, rfl, ⟨HC.out.trans hE, hE⟩, rfl⟩
      simp only [List.nil_append, List.cons_append]
      repeat (apply tame_q rfl; (intro ρ W hC hr hD; (obtain ⟨hrc, hrg, hrf, hrs⟩ := hr); (simp [go_sem] at hD); go_simp; first | exact ⟨⟨hC, Ext.refl _⟩, rfl⟩ | exact ⟨⟨hC, RS.refl _⟩, rfl⟩ | exact rfl); simp only [List.nil_append, List.cons_append])
      refine tame_end_put rfl rfl (fun ρ wg hC hr hF => ?_)
      simp [go_sem] at hF
      obtain ⟨f0, ⟨rr, e209, -, -⟩, f2, f3, f4, f5, f6, f7, f8, f9⟩ := hF
      simp only [putF, f0, e209, f2, f3, f4, f5, f6, f7, f8, f9, List.set_cons_succ, List.set_cons_zero]
      clear f0 e209 f2 f3 f4 f5 f6 f7 f8 f9 hr m0

      replace E := Lib.hid (E.out.trans hC)

      replace TM := Lib.hid (TM.out.ext hC)

      replace T1 := Lib.hid (T1.out.ext hC)

      replace BM := Lib.hid (BM.out.ext hC)

      replace BX := Lib.hid (BX.out.ext hC)

      replace BY := Lib.hid (BY.out.ext hC)

      replace FU := Lib.hid (FU.out.ext hC)

      clear hC TM BM

      go_wp2_with fail

      refine (works_any _).mono ?_
      rintro e w32 ⟨⟨sv, L, rfl, tl⟩, hE⟩

      replace E := Lib.hid (E.out.trans hE)

      replace T1 := Lib.hid (T1.out.ext hE)

      replace BX := Lib.hid (BX.out.ext hE)

      replace BY := Lib.hid (BY.out.ext hE)

      replace FU := Lib.hid (FU.out.ext hE)

      have TV := Lib.hid (show WkM sv w32 from ⟨L, tl.mlc, tl.map⟩); clear tl hE

      go_wp2_with fail

      refine (xLost7 _ _ (HT.out.ext E.out) TV.out).mono ?_
      rintro e w33 ⟨rfl, hE⟩

      replace E := Lib.hid (E.out.trans hE)

      replace T1 := Lib.hid (T1.out.ext hE)

      replace BX := Lib.hid (BX.out.ext hE)

      replace BY := Lib.hid (BY.out.ext hE)

      replace FU := Lib.hid (FU.out.ext hE)

      clear TV hE

      go_wp2_with fail

      refine (works_any _).mono ?_
      rintro e w34 ⟨⟨sv, L, rfl, tl⟩, hE⟩

      replace E := Lib.hid (E.out.trans hE)

      replace T1 := Lib.hid (T1.out.ext hE)

      replace BX := Lib.hid (BX.out.ext hE)

      replace BY := Lib.hid (BY.out.ext hE)

      replace FU := Lib.hid (FU.out.ext hE)

      have TV := Lib.hid (show WkM sv w34 from ⟨L, tl.mlc, tl.map⟩); clear tl hE

      go_wp2_with fail

      refine (xTake7 _ _ (HT.out.ext E.out) TV.out).mono ?_
      rintro e w35 ⟨rfl, hE⟩

      replace E := Lib.hid (E.out.trans hE)

      replace T1 := Lib.hid (T1.out.ext hE)

      replace BX := Lib.hid (BX.out.ext hE)

      replace BY := Lib.hid (BY.out.ext hE)

      replace FU := Lib.hid (FU.out.ext hE)

      clear TV hE

      replace T1 := Lib.hid (T1.out.ext (Ext.al w35 (.cells #[.int .i64 0, .int .i64 0, .slice none 0 0] 24)))

      replace BX := Lib.hid (BX.out.ext (Ext.al w35 (.cells #[.int .i64 0, .int .i64 0, .slice none 0 0] 24)))

      replace BY := Lib.hid (BY.out.ext (Ext.al w35 (.cells #[.int .i64 0, .int .i64 0, .slice none 0 0] 24)))

      replace FU := Lib.hid (FU.out.ext (Ext.al w35 (.cells #[.int .i64 0, .int .i64 0, .slice none 0 0] 24)))

      replace E := Lib.hid (E.out.trans (Ext.al w35 (.cells #[.int .i64 0, .int .i64 0, .slice none 0 0] 24)))

      obtain ⟨b0, b1, b2, bf, bl⟩ := BY.out.c3

      go_wp2_with fail

      refine (xPut0 _ _ (HT.out.ext E.out) FU.out).mono ?_
      rintro e w36 ⟨rfl, hE⟩

      replace E := Lib.hid (E.out.trans hE)

      replace T1 := Lib.hid (T1.out.ext hE)

      replace BX := Lib.hid (BX.out.ext hE)

      replace BY := Lib.hid (BY.out.ext hE)

      replace FU := Lib.hid (FU.out.ext hE)

      clear hE b0 b1 b2 bf bl

      replace T1 := Lib.hid (T1.out.ext (Ext.al w36 (.cells #[.int .i64 0, .int .i64 0, .slice none 0 0] 24)))

      replace BX := Lib.hid (BX.out.ext (Ext.al w36 (.cells #[.int .i64 0, .int .i64 0, .slice none 0 0] 24)))

      replace BY := Lib.hid (BY.out.ext (Ext.al w36 (.cells #[.int .i64 0, .int .i64 0, .slice none 0 0] 24)))

      replace FU := Lib.hid (FU.out.ext (Ext.al w36 (.cells #[.int .i64 0, .int .i64 0, .slice none 0 0] 24)))

      replace E := Lib.hid (E.out.trans (Ext.al w36 (.cells #[.int .i64 0, .int .i64 0, .slice none 0 0] 24)))

      go_wp2_with fail

      refine (works_any _).mono ?_
      rintro e w37 ⟨⟨sv, L, rfl, tl⟩, hE⟩

      replace E := Lib.hid (E.out.trans hE)

      replace T1 := Lib.hid (T1.out.ext hE)

      replace BX := Lib.hid (BX.out.ext hE)

      replace BY := Lib.hid (BY.out.ext hE)

      replace FU := Lib.hid (FU.out.ext hE)

      have TV := Lib.hid (show WkM sv w37 from ⟨L, tl.mlc, tl.map⟩); clear tl hE

      go_wp2_with fail

      refine (xWant4 _ _ (HT.out.ext E.out) TV.out).mono ?_
      rintro e w38 ⟨rfl, hE⟩

      replace E := Lib.hid (E.out.trans hE)

      replace T1 := Lib.hid (T1.out.ext hE)

      replace BX := Lib.hid (BX.out.ext hE)

      replace BY := Lib.hid (BY.out.ext hE)

      replace FU := Lib.hid (FU.out.ext hE)

      clear TV hE

      replace T1 := Lib.hid (T1.out.ext (Ext.al w38 (.cells #[.int .i64 0, .int .i64 0, .slice none 0 0] 24)))

      replace BX := Lib.hid (BX.out.ext (Ext.al w38 (.cells #[.int .i64 0, .int .i64 0, .slice none 0 0] 24)))

      replace BY := Lib.hid (BY.out.ext (Ext.al w38 (.cells #[.int .i64 0, .int .i64 0, .slice none 0 0] 24)))

      replace FU := Lib.hid (FU.out.ext (Ext.al w38 (.cells #[.int .i64 0, .int .i64 0, .slice none 0 0] 24)))

      replace E := Lib.hid (E.out.trans (Ext.al w38 (.cells #[.int .i64 0, .int .i64 0, .slice none 0 0] 24)))

      obtain ⟨b0, b1, b2, bf, bl⟩ := BX.out.c3

      go_wp2_with fail

      refine (xCheckT _ _ (HT.out.ext E.out) T1.out).mono ?_
      rintro e w39 ⟨rfl, hE⟩

      replace E := Lib.hid (E.out.trans hE)

      replace T1 := Lib.hid (T1.out.ext hE)

      replace BX := Lib.hid (BX.out.ext hE)

      replace BY := Lib.hid (BY.out.ext hE)

      replace FU := Lib.hid (FU.out.ext hE)

      clear hE b0 b1 b2 bf bl

      obtain ⟨b0, b1, b2, bf, bl⟩ := BY.out.c3

      go_wp2_with fail

      refine (xCheckF _ _ (HT.out.ext E.out) FU.out).mono ?_
      rintro e w40 ⟨rfl, hE⟩

      replace E := Lib.hid (E.out.trans hE)

      replace T1 := Lib.hid (T1.out.ext hE)

      replace BX := Lib.hid (BX.out.ext hE)

      replace BY := Lib.hid (BY.out.ext hE)

      replace FU := Lib.hid (FU.out.ext hE)

      clear hE b0 b1 b2 bf bl

      go_wp2
      go_ret
      exact ⟨rfl, E.out⟩

end Go.Proofs.YtkpengeaolcjhaaGreatDoor
