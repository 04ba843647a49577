/- What a round of a range over a function keeps: cells, slices, whole blocks; the call of yield. -/
import Derived.Test.YtafdbgielmlihaaDoorPkChLeastCardK
import Derived.Test.YtafdbgielmlihaaDoorPkChLeastCardC
import Derived.Test.YtafdbgielmlihaaDoorPkChLeastCardG
import Derived.RangeFuncBound
import Derived.OwnWalkIn
import Derived.TacticsInMore
import Derived.Test.YtafdbgielmlihaaDoorPkChLeastCardE
import Derived.Test.YtafdbgielmlihaaDoorPkChLeastCardD
namespace Go.Proofs.YtafdbgielmlihaaDoor
open Go.RowKit Go.Shelf Go.Lib

theorem Keep.cell {n₀ : Nat} {X : Nat → Prop} {A B : World} (h : Keep n₀ X A B) {b i : Nat} {v : Value} (hx : ¬ X b) (hc : A.cell? ⟨b, i, none⟩ = some v) : B.cell? ⟨b, i, none⟩ = some v :=
  (World.cell?_of_block (a := ⟨b, i, none⟩) (h.c b (is_cells hc).1 hx (is_cells hc).2)).trans hc
theorem Sl.keep {α : Type} {enc : α → List Value} {sz n₀ : Nat} {X : Nat → Prop} {A B : World} {a : Option Addr} {n c : Nat} {l : List α} (h : Sl enc sz A (.slice a n c) l) (k : Keep n₀ X A B) (hx : 0 < l.length → ∀ b o, a = some ⟨b, o, none⟩ → ¬ X b) : Sl enc sz B (.slice a n c) l := by
  obtain ⟨a', c', hv, hl, hc, hcell⟩ := h
  injection hv with e1 e2 e3
  subst e1 e2 e3
  refine ⟨_, _, rfl, hl, hc, fun h0 => ?_⟩
  obtain ⟨b, off, hA, hb, hcell⟩ := hcell h0
  exact ⟨b, off, hA, Nat.lt_of_lt_of_le hb k.b.size, fun i x hi j u hu => k.cell (hx h0 _ _ hA) (hcell i x hi j u hu)⟩
theorem Blk.keep {n₀ : Nat} {X : Nat → Prop} {A B : World} {g : Nat} {t : TypeId} {cs : Array Value} (h : Blk A g t cs) (k : Keep n₀ X A B) (hx : ¬ X g) : Blk B g t cs := (k.c g h.lt hx ⟨_, _, _, h⟩).trans h
theorem Keep.setCell {n₀ : Nat} {X : Nat → Prop} {A B : World} (h : Keep n₀ X A B) {p : Addr} (h1 : n₀ ≤ p.block) (h2 : X p.block) (u : Value) : Keep n₀ X A (B.setCell p u) :=
  ⟨h.b.setCell h1 u, fun k hk hx hc => (Below.heap_setCell B p u k (by rintro rfl; exact hx h2)).trans (h.c k hk hx hc)⟩
@[go_sem] theorem callVal_yield (l : Nat) (vs : Array Value) : callVal (.func (.yield l) #[] #[]) vs = Instr.yield l vs := by
  simp only [callVal, Deferred.ofValue, Array.empty_append]
  rfl
end Go.Proofs.YtafdbgielmlihaaDoor
/- A range over a function, in a loop, its variable in a box: the law; the marks that such loops leave; how a function with marks is left. -/
namespace Go.Proofs.YtafdbgielmlihaaDoor
open Go.RowKit Go.Shelf Go.Lib
set_option maxRecDepth 100000
set_option linter.unusedSimpArgs false
attribute [local go_sem] Oper.semAt_some

theorem Blk.turn {s : Nat} {A B : World} {g : Nat} {t : TypeId} {cs : Array Value} (h : Blk A g t cs) (k : Turn s A B) (h1 : g ≠ s) (h2 : g ≠ s + 1) : Blk B g t cs := (k.block g h.lt h1 h2).trans h
/-- **THE STATEMENT**, where the loop's variable may be laid in a box, and marks may lie ahead. -/
theorem wp_rangeFuncB {α : Type} {P : Program} {g : Operand} {p : Tmp} {assign body : Code} {Q : Exit → Act → World → Prop} {a : Act} {w : World} {gf : FuncId} {lb : Array Value} (hg : a.eval g = .func (.func gf) #[] lb)
    (eg : ∀ args w, (callFunc gf args).run P w = .ok (.enter gf args) w) {n₀ : Nat} {X : Nat → Prop} {H : α → Value → World → Prop} {xs : List α} {w0 : World} (hseq : Seqs P gf lb n₀ X H xs w0) (hE : Ext w0 w) (hn : n₀ ≤ w.heap.size)
    (I : List α → World → Prop) (Ix : Code → List α → World → Prop) (hI : ∀ pre A B, I pre A → w.heap.size + 1 < A.heap.size → Turn w.heap.size A B → I pre B) (hIx : ∀ c pre A B, Ix c pre A → w.heap.size + 1 < A.heap.size → Turn w.heap.size A B → Ix c pre B)
    (h0 : ∀ W, Ext w W → I [] W) (Ax : α → Value → Act → World → Prop) (hAx : ∀ x v A W W', Ax x v A W → w.heap.size + 1 < W.heap.size → Turn w.heap.size W W' → Ax x v A W')
    (hassign : ∀ (m l : Nat) (pre : List α) (x : α) (v : Value) (W : World) (K : Act → World → Prop), I pre W → H x v W → pre ++ [x] <+: xs → w.heap.size + 1 < W.heap.size → (∀ A W', Ext W W' → Ax x v A W' → K A W') → assign.wpIn (Fence.wide.inRound l) m P (Exit.then K (fun _ _ _ => False)) { tmps := a.tmps.setIfInBounds p v, defers := [] } W)
    (hbody : ∀ (m l : Nat) (pre : List α) (x : α) (v : Value) (A : Act) (W : World), I pre W → Ax x v A W → pre ++ [x] <+: xs → w.heap.size + 1 < W.heap.size → (∃ d, W.heap[w.heap.size]? = some (.deferred d)) → (∃ r, W.heap[w.heap.size + 1]? = some (.loop r)) → body.wpIn (Fence.wide.inRound l) m P (rPost n₀ X w.heap.size I Ix (pre ++ [x]) W) A W)
    (hdone : ∀ W, I xs W → w.heap.size + 1 < W.heap.size → W.heap[w.heap.size]? = some (.deferred (some [])) → Q .normal { a with defers := { target := .collected w.heap.size, args := #[] } :: a.defers } W)
    (hstop : ∀ c pre W, pre <+: xs → Ix c pre W → w.heap.size + 1 < W.heap.size → W.heap[w.heap.size]? = some (.deferred (some [])) → c.wp P Q { a with defers := { target := .collected w.heap.size, args := #[] } :: a.defers } W) :
    (Code.rangeFunc g #[p] assign body).wp P Q a w := by
  refine (wpIn_wide (n := 0)).1 (wpIn_rangeFunc ?_)
  intro fn _
  obtain ⟨rec, hrec⟩ : ∃ rec : LoopState → Option Code → Loop, rec = fun st pe => { state := st, pending := pe, fn, tmps := a.tmps, params := #[p], assign, body, defers := w.heap.size } := ⟨_, rfl⟩
  generalize hW1 : (w.alloc (.deferred (some []))).alloc (.loop (rec .ready none)) = W1
  have hE1 : Ext w W1 := by rw [← hW1]; exact (Ext.al _ _).alloc _
  have hL1 : W1.heap[w.heap.size + 1]? = some (.loop (rec .ready none)) := by
    rw [← hW1]; have := World.alloc_heap_new (w.alloc (.deferred (some []))) (.loop (rec .ready none)); rwa [World.size_alloc] at this
  have hK1 : W1.heap[w.heap.size]? = some (.deferred (some [])) := by
    rw [← hW1]; exact (Below.heap_alloc _ _ _ (by simp)).trans (World.alloc_heap_new w _)
  have lt_of : ∀ {W : World} {o : Obj}, W.heap[w.heap.size + 1]? = some o → w.heap.size + 1 < W.heap.size := fun h => (Array.getElem?_eq_some_iff.1 h).1
  refine ⟨w.heap.size + 1, [{ target := .collected w.heap.size, args := #[] }], W1, { target := .fn (.func gf) lb, args := #[.func (.yield (w.heap.size + 1)) #[] #[]] }, W1, gf, #[.func (.yield (w.heap.size + 1)) #[] #[]] ++ lb, W1, ?_, ?_, fun _ _ => trivial, ?_, wide_depth _, ?_⟩
  · rw [wide_none, ← hW1, hrec]; exact run_enterLoop_outer _ _ _ _ _
  · simp only [resolve, hg]
    simp [go_sem]
  · simp [invoke, go_sem, eg]
  refine callsIn_wide.2 ((hseq (w.heap.size + 1)
    (fun pre W => I pre W ∧ W.heap[w.heap.size + 1]? = some (.loop (rec .ready none)) ∧ W.heap[w.heap.size]? = some (.deferred (some [])))
    (fun pre W => ∃ c, Ix c pre W ∧ W.heap[w.heap.size + 1]? = some (.loop (rec .done (some c))) ∧ W.heap[w.heap.size]? = some (.deferred (some [])))
    W1 (hE.trans hE1) ?_ ?_ ?_ ⟨h0 _ hE1, hL1, hK1⟩).mono ?_)
  · rintro pre A B ⟨h1, h2, h3⟩ hAB
    have hl := lt_of h2
    exact ⟨hI _ _ _ h1 hl (Turn.ext hAB), (hAB.block _ hl).trans h2, (hAB.block _ (by omega)).trans h3⟩
  · rintro pre A B ⟨c, h1, h2, h3⟩ hAB
    have hl := lt_of h2
    exact ⟨c, hIx _ _ _ _ h1 hl (Turn.ext hAB), (hAB.block _ hl).trans h2, (hAB.block _ (by omega)).trans h3⟩
  · rintro m pre x v W ⟨hi, hl, hk⟩ hx hpre
    have hlt := lt_of hl
    have hy := run_yield (P := P) (args := #[v]) hl (by rw [hrec]; rfl)
    refine ⟨fn, a.tmps.setIfInBounds p v, assign, body, by rw [hy, hrec]; simp, roundIn_of_wpIn trivial ?_⟩
    have fin : ∀ (jump : Option Code) (W3 : World), W3.heap[w.heap.size + 1]? = some (.loop { rec .ready none with state := .busy }) → W3.heap[w.heap.size]? = some (.deferred (some [])) →
        (Instr.endRound (w.heap.size + 1) jump).run P W3 = .ok (.bool jump.isNone) (W3.putObj (w.heap.size + 1) (.loop (rec (if jump.isNone then .ready else .done) jump))) ∧
        (W3.putObj (w.heap.size + 1) (.loop (rec (if jump.isNone then .ready else .done) jump))).heap[w.heap.size + 1]? = some (.loop (rec (if jump.isNone then .ready else .done) jump)) ∧
        (W3.putObj (w.heap.size + 1) (.loop (rec (if jump.isNone then .ready else .done) jump))).heap[w.heap.size]? = some (.deferred (some [])) := fun jump W3 h1 h2 => by
      have := run_endRound (P := P) jump h1
      rw [hrec] at this ⊢
      exact ⟨this, World.putObj_heap_same (lt_of h1), (World.putObj_heap_other (by omega)).trans h2⟩
    refine hassign m (w.heap.size + 1) pre x v W _ hi hx hpre hlt fun A V hEV hAV => ?_
    have hlV := (hEV.block _ hlt).trans hl
    have hkV := (hEV.block _ (by omega)).trans hk
    have hltV := lt_of hlV
    have hb2 : (V.putObj (w.heap.size + 1) (.loop { rec .ready none with state := .busy })).heap[w.heap.size + 1]? = some (.loop { rec .ready none with state := .busy }) := World.putObj_heap_same hltV
    have hd2 : (V.putObj (w.heap.size + 1) (.loop { rec .ready none with state := .busy })).heap[w.heap.size]? = some (.deferred (some [])) := (World.putObj_heap_other (by omega)).trans hkV
    refine ⟨_, run_beginRound hlV (by rw [hrec]), wpIn_mono (hbody m _ pre x v A _ (hI _ _ _ (hI _ _ _ hi hlt (Turn.ext hEV)) hltV (Turn.put _ _)) (hAx _ _ _ _ _ hAV hltV (Turn.put _ _)) hpre (by rw [World.putObj_size]; exact hltV) ⟨_, hd2⟩ ⟨_, hb2⟩) ?_⟩
    rintro e a3 W3 hp
    cases e with
    | normal =>
      obtain ⟨hk3, hd3, hl3, hi3⟩ := hp
      rw [hb2] at hl3; rw [hd2] at hd3
      obtain ⟨hr, hl4, hd4⟩ := fin none W3 hl3 hd3
      exact ⟨_, _, hr, .inl ⟨rfl, ⟨hI _ _ _ hi3 (lt_of hl3) (Turn.put _ _), hl4, hd4⟩, (((Keep.ext hEV (by omega)).trans (keep_put hlV hn)).trans hk3).trans (keep_put hl3 hn)⟩⟩
    | ret =>
      obtain ⟨hd3, hl3, hi3⟩ := hp
      rw [hb2] at hl3; rw [hd2] at hd3
      obtain ⟨hr, hl4, hd4⟩ := fin (some .ret) W3 hl3 hd3
      exact ⟨_, _, hr, .inr ⟨rfl, .ret, hIx _ _ _ _ hi3 (lt_of hl3) (Turn.put _ _), hl4, hd4⟩⟩
    | exit id =>
      obtain ⟨hd3, hl3, hi3⟩ := hp
      rw [hb2] at hl3; rw [hd2] at hd3
      obtain ⟨hr, hl4, hd4⟩ := fin (some (.exit id)) W3 hl3 hd3
      exact ⟨_, _, hr, .inr ⟨rfl, .exit id, hIx _ _ _ _ hi3 (lt_of hl3) (Turn.put _ _), hl4, hd4⟩⟩
    | goto t =>
      obtain ⟨hd3, hl3, hi3⟩ := hp
      rw [hb2] at hl3; rw [hd2] at hd3
      obtain ⟨hr, hl4, hd4⟩ := fin (some (.goto t)) W3 hl3 hd3
      exact ⟨_, _, hr, .inr ⟨rfl, .goto t, hIx _ _ _ _ hi3 (lt_of hl3) (Turn.put _ _), hl4, hd4⟩⟩
    | panic ch => exact hp.elim
    | outgrown => exact hp.elim
  · rintro e W2 ⟨⟨v, rfl⟩, (⟨hi, hl, hk⟩ | ⟨pre, hpre, c, hi, hl, hk⟩)⟩
    · refine ⟨none, _, by have := run_endLoop (P := P) hl (by rw [hrec]; simp); rw [hrec] at this; exact this, ?_⟩
      exact hdone _ (hI _ _ _ hi (lt_of hl) (Turn.put _ _)) (by rw [World.putObj_size]; exact lt_of hl) ((World.putObj_heap_other (by omega)).trans hk)
    · refine ⟨some c, _, by have := run_endLoop (P := P) hl (by rw [hrec]; simp); rw [hrec] at this; exact this, ?_⟩
      exact wpIn_wide.2 (hstop c pre _ hpre (hIx _ _ _ _ hi (lt_of hl) (Turn.put _ _)) (by rw [World.putObj_size]; exact lt_of hl) ((World.putObj_heap_other (by omega)).trans hk))

/-- Marks: blocks from B on that hold no deferred calls, each once. -/
def Marks (B : Nat) (W : World) : List Deferred → Prop
  | [] => True
  | d :: ds => (∃ r, d = { target := .collected r, args := #[] } ∧ B ≤ r ∧ W.heap[r]? = some (.deferred (some []))) ∧ (∀ e ∈ ds, e ≠ d) ∧ Marks B W ds
theorem Marks.same {B : Nat} {W W' : World} (h : ∀ (r : Nat) (l : Option (List Deferred)), W.heap[r]? = some (Obj.deferred l) → W'.heap[r]? = some (Obj.deferred l)) : ∀ {ds : List Deferred}, Marks B W ds → Marks B W' ds
  | [], _ => trivial
  | _ :: _, ⟨⟨r, h1, hB, h2⟩, h3, h4⟩ => ⟨⟨r, h1, hB, h _ _ h2⟩, h3, Marks.same h h4⟩
theorem Marks.ext {B : Nat} {W W' : World} {ds : List Deferred} (h : Marks B W ds) (e : Ext W W') : Marks B W' ds := Marks.same (fun r _ hr => (e.block r (Array.getElem?_eq_some_iff.1 hr).1).trans hr) h
theorem Marks.setCell {B : Nat} {W : World} {ds : List Deferred} (h : Marks B W ds) {p : Addr} (hp : ∃ c t f, W.heap[p.block]? = some (.cells c t f)) (u : Value) : Marks B (W.setCell p u) ds :=
  Marks.same (fun r _ hr => (Below.heap_setCell W p u r (by rintro rfl; obtain ⟨c, t, f, hc⟩ := hp; rw [hc] at hr; cases hr)).trans hr) h
theorem Marks.turn {B s : Nat} {W W' : World} : ∀ {ds : List Deferred}, Marks B W ds → Turn s W W' → W.heap.size ≤ s → Marks B W' ds
  | [], _, _, _ => trivial
  | _ :: _, ⟨⟨r, h1, hB, h2⟩, h3, h4⟩, hT, hs => ⟨⟨r, h1, hB, by have := (Array.getElem?_eq_some_iff.1 h2).1; exact (hT.block r this (by omega) (by omega)).trans h2⟩, h3, Marks.turn h4 hT hs⟩
theorem Marks.lt {B : Nat} {W : World} : ∀ {ds : List Deferred}, Marks B W ds → ∀ d ∈ ds, ∃ r, d = { target := .collected r, args := #[] } ∧ r < W.heap.size
  | _ :: _, ⟨⟨r, h1, _, h2⟩, _, h4⟩, d, hd => by
    rcases List.mem_cons.1 hd with rfl | hd
    · exact ⟨r, h1, (Array.getElem?_eq_some_iff.1 h2).1⟩
    · exact Marks.lt h4 d hd
/-- One mark more, of a block that was not there. -/
theorem Marks.more {B : Nat} {W W' : World} {ds : List Deferred} (h : Marks B W ds) {s : Nat} (hB : B ≤ s) (hs : W.heap.size ≤ s) (h' : Marks B W' ds) (hd : W'.heap[s]? = some (.deferred (some []))) : Marks B W' ({ target := .collected s, args := #[] } :: ds) :=
  ⟨⟨s, rfl, hB, hd⟩, fun e he => by
    obtain ⟨r, h1, h2⟩ := h.lt e he
    rw [h1]
    intro e2
    injection e2 with e2 _
    injection e2 with e2
    omega, h'⟩
/-- What the marks' taking turns. -/
structure Taken (B : Nat) (W W' : World) : Prop where
  os : W'.os = W.os
  tape : W'.tape = W.tape
  output : W'.output = W.output
  size : W'.heap.size = W.heap.size
  block : ∀ (k : Nat), (k < B ∨ ∀ l : Option (List Deferred), W.heap[k]? ≠ some (Obj.deferred l)) → W'.heap[k]? = W.heap[k]?
theorem Taken.blk {B : Nat} {W W' : World} (h : Taken B W W') {g : Nat} {t : TypeId} {cs : Array Value} (hB : Blk W g t cs) : Blk W' g t cs :=
  (h.block g (.inr fun l e => by unfold Blk at hB; rw [hB] at e; cases e)).trans hB
theorem Taken.below {B : Nat} {w W W' : World} (h : Taken B W W') (hb : Below B w W) : Below B w W' :=
  ⟨h.os.trans hb.os, h.tape.trans hb.tape, h.output.trans hb.output, by rw [h.size]; exact hb.size, fun i hi => (h.block i (.inl hi)).trans (hb.block i hi)⟩
theorem leave_marks {B : Nat} {P : Program} {fn : Func} {tmps : Array Value} {R : Ending → World → Prop} {u : FrameMode} (hu : u ≠ .run) : ∀ (ds : List Deferred) (W : World), Marks B W ds →
    (∀ W', Taken B W W' → LeavesIn Fence.wide 0 P fn tmps R [] u W') → LeavesInM Fence.wide 0 P fn tmps R ds u W
  | [], W, _, h => h W ⟨rfl, rfl, rfl, rfl, fun _ _ => rfl⟩
  | d :: ds, W, ⟨⟨r, h1, hB, h2⟩, h3, h4⟩, h => by
    subst h1
    refine ⟨hu, .inl ⟨r, _, rfl, run_takeDeferred h2, ?_⟩⟩
    refine leave_marks (B := B) hu ds _ ?_ fun W' hT => h W' ⟨hT.os, hT.tape, hT.output, hT.size.trans World.putObj_size, fun k hk => ?_⟩
    · have key : ∀ {es : List Deferred}, Marks B W es → (∀ e ∈ es, e ≠ { target := .collected r, args := #[] }) → Marks B (W.putObj r (.deferred none)) es := by
        intro es
        induction es with
        | nil => intro _ _; trivial
        | cons e es ih =>
          rintro ⟨⟨q, g1, gB, g2⟩, g3, g4⟩ g5
          have hq : q ≠ r := fun e2 => g5 e (by simp) (by rw [g1, e2])
          exact ⟨⟨q, g1, gB, (World.putObj_heap_other (fun e2 => hq e2)).trans g2⟩, g3, ih g4 fun e' he' => g5 e' (by simp [he'])⟩
      exact key h4 h3
    · have hkr : k ≠ r := by
        rintro rfl
        rcases hk with hk | hk
        · omega
        · exact hk _ h2
      have h5 : (W.putObj r (.deferred none)).heap[k]? = W.heap[k]? := World.putObj_heap_other hkr
      rw [← h5]
      exact hT.block k (hk.imp_right fun hk l => by rw [h5]; exact hk l)
end Go.Proofs.YtafdbgielmlihaaDoor
/- market.steps: the function that yields all steps by which what moves can be changed. -/
namespace Go.Proofs.YtafdbgielmlihaaDoor
open Go.RowKit Go.Shelf Go.Lib
set_option maxRecDepth 100000
set_option linter.unusedSimpArgs false
attribute [local go_sem] Oper.semAt_some

abbrev valT (s : Stp) : Value := .agg #[.int .i64 s.src, .int .i64 s.dst, .int .i64 s.sale, .int .i64 s.more]
theorem steps_any (mb : Nat) (w : World) : Calls Tryd.prog 106 #[.pointer (some ⟨mb, 0, none⟩)] w fun e w' =>
    e = .returned (.func (.func 122) #[] #[.pointer (some ⟨w.heap.size, 0, none⟩)]) ∧ w' = w.alloc (.cells #[.pointer (some ⟨mb, 0, none⟩)] 109) := by
  go_enter Tryd.func106, Tryd.ntmps106
  go_wp2
  go_ret
  exact ⟨rfl, rfl⟩

/-- The steps of the first k sales. -/
def stepsTo (c : Chn) (m : List Int) (k : Nat) : List Stp := stepsGo c 0 (c.sales.take k) (m.take k)
theorem stepsGo_snoc (c : Chn) : ∀ (S : List Sale) (m : List Int) (i : Nat) (x : Sale) (y : Int), S.length = m.length →
    stepsGo c i (S ++ [x]) (m ++ [y]) = stepsGo c i S m ++ stepsGo c (i + S.length) [x] [y]
  | [], [], i, x, y, _ => by simp [stepsGo]
  | z :: S, a :: m, i, x, y, h => by
    have ih := stepsGo_snoc c S m (i + 1) x y (by simpa using h)
    simp only [List.cons_append, stepsGo] at ih ⊢
    rw [ih, show i + 1 + S.length = i + (z :: S).length by simp; omega]
    simp only [List.append_assoc]
  | [], _ :: _, _, _, _, h => by simp at h
  | _ :: _, [], _, _, _, h => by simp at h
theorem stepsGo_pre (c : Chn) : ∀ (S T : List Sale) (m l : List Int) (i : Nat), S.length = m.length → stepsGo c i S m <+: stepsGo c i (S ++ T) (m ++ l)
  | [], T, [], l, i, _ => by simp [stepsGo]
  | z :: S, T, a :: m, l, i, h => by
    have ih := stepsGo_pre c S T m l (i + 1) (by simpa using h)
    simp only [List.cons_append, stepsGo]
    exact (List.prefix_append_right_inj _).2 ((List.prefix_append_right_inj _).2 ih)
  | [], _, _ :: _, _, _, h => by simp at h
  | _ :: _, _, [], _, _, h => by simp at h
theorem stepsTo_succ {c : Chn} {m : List Int} {k : Nat} {x : Sale} {y : Int} (hx : c.sales[k]? = some x) (hy : m[k]? = some y) :
    stepsTo c m (k + 1) = stepsTo c m k ++ ((if y < x.bales then [⟨houseI c x.seller, houseI c x.buyer, k, 1⟩] else []) ++ (if 0 < y then [⟨houseI c x.buyer, houseI c x.seller, k, -1⟩] else [])) := by
  have h1 : k < c.sales.length := (List.getElem?_eq_some_iff.1 hx).1
  have h2 : k < m.length := (List.getElem?_eq_some_iff.1 hy).1
  have h3 : (c.sales.take k).length = k := by rw [List.length_take]; omega
  have h4 : (m.take k).length = k := by rw [List.length_take]; omega
  unfold stepsTo
  rw [take_snoc hx, take_snoc hy, stepsGo_snoc c _ _ _ _ _ (by rw [h3, h4]), h3, Nat.zero_add]
  simp [stepsGo]
theorem stepsTo_pre (c : Chn) (m : List Int) (k : Nat) (hm : m.length = c.sales.length) : stepsTo c m k <+: stepsL c m := by
  have := stepsGo_pre c (c.sales.take k) (c.sales.drop k) (m.take k) (m.drop k) 0 (by rw [List.length_take, List.length_take]; omega)
  rw [List.take_append_drop, List.take_append_drop] at this
  exact this
theorem stepsTo_all (c : Chn) (m : List Int) (k : Nat) (h1 : c.sales.length ≤ k) (h2 : m.length ≤ k) : stepsTo c m k = stepsL c m := by
  unfold stepsTo stepsL
  rw [List.take_of_length_le h1, List.take_of_length_le h2]

/-- A market at work, as it lies in memory. -/
structure Mkt (c : Chn) (M : List Int) (mb : Nat) (A : Option Addr) (n cp : Nat) (A2 : Option Addr) (n2 cp2 : Nat) (A3 : Option Addr) (n3 cp3 : Nat) (cv : Value) (W : World) : Prop where
  b : Blk W mb 112 #[.slice A n cp, .slice A2 n2 cp2, .slice A3 n3 cp3, cv]
  h : SlI W (.slice A n cp) c.houses
  s : SlL W (.slice A2 n2 cp2) c.sales
  m : SlI W (.slice A3 n3 cp3) M
/-- None of its blocks is among X. -/
structure MktX (X : Nat → Prop) (c : Chn) (M : List Int) (mb : Nat) (A A2 A3 : Option Addr) : Prop where
  b : ¬ X mb
  h : 0 < c.houses.length → ∀ b o, A = some ⟨b, o, none⟩ → ¬ X b
  s : 0 < c.sales.length → ∀ b o, A2 = some ⟨b, o, none⟩ → ¬ X b
  m : 0 < M.length → ∀ b o, A3 = some ⟨b, o, none⟩ → ¬ X b
section
variable {c : Chn} {M : List Int} {mb : Nat} {A : Option Addr} {n cp : Nat} {A2 : Option Addr} {n2 cp2 : Nat} {A3 : Option Addr} {n3 cp3 : Nat} {cv : Value} {W W' : World} {X : Nat → Prop} {n₀ : Nat}
theorem Mkt.ext (h : Mkt c M mb A n cp A2 n2 cp2 A3 n3 cp3 cv W) (e : Ext W W') : Mkt c M mb A n cp A2 n2 cp2 A3 n3 cp3 cv W' := ⟨h.b.ext e, h.h.ext e, h.s.ext e, h.m.ext e⟩
theorem Mkt.keep (h : Mkt c M mb A n cp A2 n2 cp2 A3 n3 cp3 cv W) (k : Keep n₀ X W W') (x : MktX X c M mb A A2 A3) : Mkt c M mb A n cp A2 n2 cp2 A3 n3 cp3 cv W' := ⟨h.b.keep k x.b, h.h.keep k x.h, h.s.keep k x.s, h.m.keep k x.m⟩
end
set_option maxHeartbeats 4000000 in
theorem steps_seqs {c : Chn} {M : List Int} {mb bx : Nat} {A : Option Addr} {n cp : Nat} {A2 : Option Addr} {n2 cp2 : Nat} {A3 : Option Addr} {n3 cp3 : Nat} {cv : Value} {n₀ : Nat} {X : Nat → Prop} {w : World} (hR : Right c) (hl : c.sales.length ≤ 1000) (hml : M.length = c.sales.length)
    (hX : ∀ b, X b → b < w.heap.size) (x1 : ¬ X bx) (x2 : MktX X c M mb A A2 A3) (hn : n₀ ≤ w.heap.size) (hb : w.cell? ⟨bx, 0, none⟩ = some (.pointer (some ⟨mb, 0, none⟩))) (hM : Mkt c M mb A n cp A2 n2 cp2 A3 n3 cp3 cv w) :
    Seqs Tryd.prog 122 #[.pointer (some ⟨bx, 0, none⟩)] n₀ X (fun x v _ => v = valT x) (stepsL c M) w := by
  intro l J Jx W0 hE hJ hJx hY h0
  obtain ⟨A2', n2', cp2', e2, hn2, hlc2, hcm2⟩ := hM.s.form
  injection e2 with e2 e3 e4
  subst e2 e3 e4
  obtain ⟨A3', n3', cp3', e2, hn3, hlc3, hcm3⟩ := hM.m.form
  injection e2 with e2 e3 e4
  subst e2 e3 e4
  have hn3e : n3 = n2 := by have := hn2.out; have := hn3.out; omega
  subst hn3e
  have hn30 : n3 ≤ 1000 := by have := hn2.out; omega
  have HR := Lib.hid hR; have HML := Lib.hid hml; have HB := Lib.hid (hE.cell1 hb); have HM := Lib.hid (hM.ext hE); have HX := Lib.hid hX; have HY := Lib.hid hY; have HJ := Lib.hid hJ; have HJX := Lib.hid hJx; have H0 := Lib.hid h0; have HN := Lib.hid (show n₀ ≤ W0.heap.size from Nat.le_trans hn hE.size); have HXS := Lib.hid (show ∀ b, X b → b < W0.heap.size from fun b hb => Nat.lt_of_lt_of_le (hX b hb) hE.size)
  clear hR hml hb hM hX hY hJ hJx h0 hE hl hn
  have b0 := HB.out
  obtain ⟨q0, q1, q2, q3, qf, ql⟩ := HM.out.b.c4
  go_enter Tryd.func122, Tryd.ntmps122
  go_wp2
  clear b0 q0 q1 q2 q3 qf ql
  go_loopg [13] n3 (fun gg s wr => ∃ kk : Nat, kk ≤ n3 ∧ n3 - kk ≤ gg ∧ s = .int .i64 kk ∧ Aside (J (stepsTo c M kk) wr) ∧ Aside (Keep n₀ X W0 wr))
  case atStart => exact ⟨0, Nat.zero_le _, by omega, rfl, by show J _ _; simpa [stepsTo, stepsGo] using H0.out, Keep.refl _⟩
  case round =>
    obtain ⟨kk, hkk, hg, rfl, HJK, HK⟩ := hrel
    have MK := Lib.hid (HM.out.keep HK.out x2)
    have b0 := HK.out.cell x1 HB.out
    obtain ⟨q0, q1, q2, q3, qf, ql⟩ := MK.out.b.c4
    by_cases hlt : kk < n3
    · have hltz : (kk : Int) < (n3 : Int) := by omega
      obtain ⟨b, off, x, rfl, hx, -, hcell⟩ := MK.out.s.at_ hlt
      obtain ⟨c0, c1, c2, c3, c4⟩ := SlL.cells hcell (Ext.refl wr)
      obtain ⟨b9, off9, y, rfl, hy, -, hycell⟩ := MK.out.m.at_ hlt
      obtain ⟨s, bb, hsi, hbi, hsl, hbl, hne⟩ := sale_at HR.out hx
      have HSU := Lib.hid (stepsTo_succ hx hy)
      have HPR := Lib.hid (stepsTo_pre c M (kk + 1) HML.out)
      have HSI := Lib.hid hsi; have HBI := Lib.hid hbi
      obtain ⟨wx, hwx⟩ : ∃ wx, wx = wr.alloc (.cells #[.int .i64 x.number, .int .i64 x.seller, .int .i64 x.buyer, .int .i64 x.bales, .int .i64 x.price] 68) := ⟨_, rfl⟩
      have BX := Lib.hid (show Blk wx wr.heap.size 68 #[.int .i64 x.number, .int .i64 x.seller, .int .i64 x.buyer, .int .i64 x.bales, .int .i64 x.price] from hwx ▸ Blk.new _ _ _)
      have EW := Lib.hid (show Ext wr wx from hwx ▸ Ext.al _ _)
      have YC := Lib.hid (fun (W : World) (h : Ext wr W) => SlI.cell hycell h)
      clear hx hy hsi hbi hne hcell hycell hsl hbl
      go_wp2
      simp only [← hwx]
      clear hwx c0 c1 c2 c3 c4 b0 q0 q1 q2 q3 qf ql
      have B0 := Lib.hid (fun W (h : Ext wx W) => ((EW.out.trans h).cell1 (HK.out.cell x1 HB.out)))
      have m0 := B0.out
      have MX := Lib.hid (MK.out.ext EW.out)
      have mm := fun W (h : Ext wx W) => (MX.out.b.ext h).c4
      have mx := fun W (h : Ext wx W) => (BX.out.ext h).c5
      refine wp_region_tame (fun W => Ext wx W) (fun W W' => Ext W W') (by kernel_rfl) 63 rfl (by decide +kernel) (Ext.refl _).drew ?_
      repeat (apply tame_q rfl; (intro ρ W hC hr hD; (obtain ⟨hrc, hrg, hrf, hrs⟩ := hr); (simp [go_sem] at hD); go_simp; first | exact ⟨⟨hC, Ext.refl _⟩, rfl⟩ | exact ⟨⟨hC, RS.refl _⟩, rfl⟩ | exact rfl); simp only [List.nil_append, List.cons_append])
      apply tame_q rfl
      · intro ρ W hC hr hD
        obtain ⟨hrc, hrg, hrf, hrs⟩ := hr
        simp [go_sem] at hD
        go_simp
        refine (mhouse_any c x.seller s mb _ _ _ _ W (MX.out.b.ext hC) (MX.out.h.ext hC) HSI.out).mono ?_
        rintro e w' ⟨rfl, hE⟩
        exact ⟨_, rfl, ⟨hC.trans hE, hE⟩, rfl⟩
      simp only [List.nil_append, List.cons_append]
      repeat (apply tame_q rfl; (intro ρ W hC hr hD; (obtain ⟨hrc, hrg, hrf, hrs⟩ := hr); (simp [go_sem] at hD); go_simp; first | exact ⟨⟨hC, Ext.refl _⟩, rfl⟩ | exact ⟨⟨hC, RS.refl _⟩, rfl⟩ | exact rfl); simp only [List.nil_append, List.cons_append])
      apply tame_q rfl
      · intro ρ W hC hr hD
        obtain ⟨hrc, hrg, hrf, hrs⟩ := hr
        simp [go_sem] at hD
        go_simp
        refine (mhouse_any c x.buyer bb mb _ _ _ _ W (MX.out.b.ext hC) (MX.out.h.ext hC) HBI.out).mono ?_
        rintro e w' ⟨rfl, hE⟩
        exact ⟨_, rfl, ⟨hC.trans hE, hE⟩, rfl⟩
      simp only [List.nil_append, List.cons_append]
      repeat (apply tame_q rfl; (intro ρ W hC hr hD; (obtain ⟨hrc, hrg, hrf, hrs⟩ := hr); (simp [go_sem] at hD); go_simp; first | exact ⟨⟨hC, Ext.refl _⟩, rfl⟩ | exact ⟨⟨hC, RS.refl _⟩, rfl⟩ | exact rfl); simp only [List.nil_append, List.cons_append])
      refine tame_end 63 rfl rfl (fun ρ W hC hr hF => ?_)
      obtain ⟨hrc, hrg, hrf, hrs⟩ := hr
      simp [go_sem] at hF
      apply frame_to
      · go_simp
        exact rfl
      clear hF hrs hrc hrg hrf
      have E1 := Lib.hid (EW.out.trans hC)
      have EVX := Lib.hid hC
      clear hC m0 mm mx
      obtain ⟨V, hV⟩ : ∃ V, V = W := ⟨_, rfl⟩
      subst hV
      have BV := Lib.hid (BX.out.ext EVX.out)
      have MV := Lib.hid (MX.out.ext EVX.out)
      have KV := Lib.hid (HK.out.trans (Keep.ext (X := X) E1.out (by have := HN.out; have := HK.out.b.size; omega)))
      have JV := Lib.hid (HJ.out _ _ _ HJK.out E1.out)
      have BXV := Lib.hid (E1.out.cell1 (HK.out.cell x1 HB.out))
      have m0 := fun W (h : Ext V W) => h.cell1 BXV.out
      have mm := fun W (h : Ext V W) => (MV.out.b.ext h).c4
      have mx := fun W (h : Ext V W) => (BV.out.ext h).c5
      have my := fun W (h : Ext V W) => YC.out W (E1.out.trans h)
      by_cases h1 : y < x.bales
      · go_wp2
        refine (wpIn_wide (n := 1)).1 ?_
        refine wpIn_region_tame (Open.wide 1) (fun W => Ext V W) (fun W W' => Ext W W') (by kernel_rfl) 63 rfl 16 (by decide +kernel) (by decide +kernel) (by decide +kernel) (Ext.refl _).drew ?_
        simp only [List.take, List.map]
        repeat (apply tame_q rfl; (intro ρ W hC hr hD; (obtain ⟨hrc, hrg, hrf, hrs⟩ := hr); (simp [go_sem] at hD); go_simp; first | exact ⟨⟨hC, Ext.refl _⟩, rfl⟩ | exact ⟨⟨hC, RS.refl _⟩, rfl⟩ | exact rfl); simp only [List.nil_append, List.cons_append])
        refine tame_end 63 rfl rfl (fun ρ W hC hr hF => ?_)
        obtain ⟨hrc, hrg, hrf, hrs⟩ := hr
        simp [go_sem] at hF
        apply frame_to
        · go_simp
          exact rfl
        clear hF hrs hrc hrg hrf
        simp only [List.drop]
        have JW := Lib.hid (HJ.out _ _ _ JV.out hC)
        have EWW := Lib.hid (E1.out.trans hC)
        have KW := Lib.hid (KV.out.trans (Keep.ext (X := X) hC (by have := HN.out; have := KV.out.b.size; omega)))
        have HS1 := Lib.hid (show stepsTo c M kk ++ [⟨(s : Int), (bb : Int), (kk : Int), 1⟩] <+: stepsL c M by
          refine List.IsPrefix.trans ?_ HPR.out
          rw [HSU.out, if_pos h1, HSI.out, HBI.out, ← List.append_assoc]
          exact List.prefix_append _ _)
        obtain ⟨fn, tmps, assign, body, hy, hR⟩ := HY.out 0 (stepsTo c M kk) ⟨(s : Int), (bb : Int), (kk : Int), 1⟩ _ W JW.out rfl HS1.out
        clear hC m0 mm mx my
        gi_wp2_with ((try refine ⟨wide_depth _, ?_⟩); refine hR.mono ?_; clear hR; rintro e W2 (⟨rfl, hJ2, hk⟩ | ⟨rfl, hx⟩))
        · have KW2 := Lib.hid (KW.out.trans hk); have JW2 := Lib.hid hJ2
          have PL := Lib.hid (show stepsTo c M (kk + 1) = (stepsTo c M kk ++ [⟨(s : Int), (bb : Int), (kk : Int), 1⟩]) ++ (if 0 < y then [⟨(bb : Int), (s : Int), (kk : Int), -1⟩] else []) by rw [HSU.out, if_pos h1, HSI.out, HBI.out, List.append_assoc])
          have MW := Lib.hid (HM.out.keep KW2.out x2)
          have mm := MW.out.b.c4
          have my : W2.cell? ⟨b9, off9 + kk, none⟩ = some (.int .i64 y) := hk.cell (x2.m (by have := hn3.out; omega) _ _ rfl) (YC.out W EWW.out)
          have m0 := KW2.out.cell x1 HB.out
          clear hJ2 hk
          by_cases h2 : 0 < y
          · have PL2 := Lib.hid (PL.out.trans (by rw [if_pos h2]))
            have HS2 := Lib.hid (PL2.out ▸ HPR.out)
            obtain ⟨fn, tmps, assign, body, hy, hR⟩ := HY.out 0 _ ⟨(bb : Int), (s : Int), (kk : Int), -1⟩ _ _ JW2.out rfl HS2.out
            go_upto_region 5 with (fail)
            refine (wpIn_wide (n := 1)).1 ?_
            gi_wp2_with ((try refine ⟨wide_depth _, ?_⟩); refine hR.mono ?_; clear hR; rintro e W3 (⟨rfl, hJ3, hk3⟩ | ⟨rfl, hx⟩))
            · have KW3 := Lib.hid (KW2.out.trans hk3); have JW3 := Lib.hid hJ3
              clear hJ3 hk3 mm my m0
              go_wp2
              go_roundg (n3 - (kk + 1))
              case measure => omega
              case rel => exact ⟨kk + 1, by omega, by omega, by simp, by show J _ _; rw [PL2.out]; exact JW3.out, KW3.out⟩
            · go_wp2
              refine bodyPost_ret (results_none rfl _ _ _) rfl ?_
              exact ⟨⟨_, rfl⟩, .inr ⟨_, HS2.out, hx⟩⟩
          · have PL2 := Lib.hid (PL.out.trans (by rw [if_neg h2, List.append_nil]))
            go_wp2
            go_roundg (n3 - (kk + 1))
            case measure => omega
            case rel => exact ⟨kk + 1, by omega, by omega, by simp, by show J _ _; rw [PL2.out]; exact JW2.out, KW2.out⟩
        · go_wp2
          refine bodyPost_ret (results_none rfl _ _ _) rfl ?_
          exact ⟨⟨_, rfl⟩, .inr ⟨_, HS1.out, hx⟩⟩
      · have h1d : decide (y < x.bales) = false := by simpa using h1
        have H1 := Lib.hid h1
        go_wp2
        refine (wpIn_wide (n := 1)).1 ?_
        refine wpIn_region_tame (Open.wide 1) (fun W => Ext V W) (fun W W' => Ext W W') (by kernel_rfl) 63 rfl 16 (by decide +kernel) (by decide +kernel) (by decide +kernel) (Ext.refl _).drew ?_
        simp only [List.take, List.map]
        repeat (apply tame_q rfl; (intro ρ W hC hr hD; (obtain ⟨hrc, hrg, hrf, hrs⟩ := hr); (simp [go_sem] at hD); go_simp; first | exact ⟨⟨hC, Ext.refl _⟩, rfl⟩ | exact ⟨⟨hC, RS.refl _⟩, rfl⟩ | exact rfl); simp only [List.nil_append, List.cons_append])
        refine tame_end 63 rfl rfl (fun ρ W hC hr hF => ?_)
        obtain ⟨hrc, hrg, hrf, hrs⟩ := hr
        simp [go_sem] at hF
        apply frame_to
        · go_simp
          exact rfl
        clear hF hrs hrc hrg hrf
        simp only [List.drop]
        have JW2 := Lib.hid (HJ.out _ _ _ JV.out hC)
        have EWW := Lib.hid (E1.out.trans hC)
        have KW2 := Lib.hid (KV.out.trans (Keep.ext (X := X) hC (by have := HN.out; have := KV.out.b.size; omega)))
        have PL := Lib.hid (show stepsTo c M (kk + 1) = stepsTo c M kk ++ (if 0 < y then [⟨(bb : Int), (s : Int), (kk : Int), -1⟩] else []) by rw [HSU.out, if_neg (by have := H1.out; omega), HSI.out, HBI.out]; rfl)
        have MW := Lib.hid (HM.out.keep KW2.out x2)
        clear mm my m0
        have mm := MW.out.b.c4
        have my := YC.out W EWW.out
        have m0 := KW2.out.cell x1 HB.out
        clear hC mx
        gi_wp2
        refine ⟨fun _ h => (by cases h), ?_⟩
        gi_wp2
        by_cases h2 : 0 < y
        · have PL2 := Lib.hid (PL.out.trans (by rw [if_pos h2]))
          have HS2 := Lib.hid (PL2.out ▸ HPR.out)
          obtain ⟨fn, tmps, assign, body, hy, hR⟩ := HY.out 0 _ ⟨(bb : Int), (s : Int), (kk : Int), -1⟩ _ _ JW2.out rfl HS2.out
          go_upto_region 5 with (fail)
          refine (wpIn_wide (n := 1)).1 ?_
          gi_wp2_with ((try refine ⟨wide_depth _, ?_⟩); refine hR.mono ?_; clear hR; rintro e W3 (⟨rfl, hJ3, hk3⟩ | ⟨rfl, hx⟩))
          · have KW3 := Lib.hid (KW2.out.trans hk3); have JW3 := Lib.hid hJ3
            clear hJ3 hk3 mm my m0
            go_wp2
            go_roundg (n3 - (kk + 1))
            case measure => omega
            case rel => exact ⟨kk + 1, by omega, by omega, by simp, by show J _ _; rw [PL2.out]; exact JW3.out, KW3.out⟩
          · go_wp2
            refine bodyPost_ret (results_none rfl _ _ _) rfl ?_
            exact ⟨⟨_, rfl⟩, .inr ⟨_, HS2.out, hx⟩⟩
        · have PL2 := Lib.hid (PL.out.trans (by rw [if_neg h2, List.append_nil]))
          go_wp2
          go_roundg (n3 - (kk + 1))
          case measure => omega
          case rel => exact ⟨kk + 1, by omega, by omega, by simp, by show J _ _; rw [PL2.out]; exact JW2.out, KW2.out⟩
    · have HE := Lib.hid (show kk = n3 by omega)
      go_wp2
      go_end0
      exact ⟨⟨_, rfl⟩, .inl (by have := HJK.out; rwa [stepsTo_all c M kk (by have := HE.out; have := hn2.out; omega) (by have := HE.out; have := hn3.out; omega)] at this)⟩
end Go.Proofs.YtafdbgielmlihaaDoor
/- Frames of which only some slots are known; pieces of a function's code. -/
namespace Go.Proofs.YtafdbgielmlihaaDoor
open Go.RowKit Go.Shelf Go.Lib

/-- A frame of m slots; what some of them hold. -/
structure Fr (m : Nat) (L : List (Nat × Value)) (ds : List Deferred) (A : Act) : Prop where
  size : A.tmps.size = m
  ds : A.defers = ds
  at_ : ∀ p ∈ L, A.eval (.tmp p.1) = p.2
def lst (ρ : Nat → Value) : Nat → Nat → List Value
  | _, 0 => []
  | s, k + 1 => ρ s :: lst ρ (s + 1) k
theorem lst_evs (A : Act) : ∀ (k s : Nat), lst (fun i => A.eval (.tmp i)) s k = evs A.eval s k
  | 0, _ => rfl
  | k + 1, s => by rw [lst, evs, lst_evs A k]
theorem Fr.open_ {m : Nat} {L : List (Nat × Value)} {ds : List Deferred} {A : Act} (h : Fr m L ds A) : ∃ ρ : Nat → Value, A = { tmps := (lst ρ 0 m).toArray, defers := ds } ∧ ∀ p ∈ L, ρ p.1 = p.2 :=
  ⟨fun i => A.eval (.tmp i), by rw [lst_evs, ← h.ds]; exact frame_lit h.size, h.at_⟩
/-- A piece of the code: 0, 1 the parts of a sequence, 2 a block's, 3 a loop's, 4 a range's body. -/
def subC : List Nat → Code → Code
  | 0 :: p, .seq x _ => subC p x
  | 1 :: p, .seq _ y => subC p y
  | 2 :: p, .block _ c => subC p c
  | 3 :: p, .loop c => subC p c
  | 4 :: p, .rangeFunc _ _ _ c => subC p c
  | _, c => c
theorem Sl.grown {α : Type} {enc : α → List Value} {sz g : Nat} {A B : World} {a : Option Addr} {n c : Nat} {l : List α} (h : Sl enc sz A (.slice a n c) l) (k : A.grownBy B (some g)) (hx : 0 < l.length → ∀ b o, a = some ⟨b, o, none⟩ → b ≠ g) : Sl enc sz B (.slice a n c) l := by
  obtain ⟨a', c', hv, hl, hc, hcell⟩ := h
  injection hv with e1 e2 e3
  subst e1 e2 e3
  refine ⟨_, _, rfl, hl, hc, fun h0 => ?_⟩
  obtain ⟨b, off, hA, hb, hcell⟩ := hcell h0
  refine ⟨b, off, hA, Nat.lt_of_lt_of_le hb k.size, fun i x hi j u hu => ?_⟩
  exact (World.cell?_of_block (a := ⟨b, _, none⟩) (k.block b hb (by intro e; injection e with e; exact hx h0 b off hA e))).trans (hcell i x hi j u hu)
theorem grown_turn {g s : Nat} {w A B : World} (h : w.grownBy A (some g)) (k : Turn s A B) (hs : w.heap.size ≤ s) : w.grownBy B (some g) :=
  ⟨k.os.trans h.os, k.tape.trans h.tape, k.output.trans h.output, Nat.le_trans h.size k.size, fun i hi hne => (k.block i (Nat.lt_of_lt_of_le hi h.size) (by omega) (by omega)).trans (h.block i hi hne)⟩
theorem Marks.grown {B g : Nat} {W W' : World} {ds : List Deferred} (h : Marks B W ds) (k : W.grownBy W' (some g)) (hg : ∀ l, W.heap[g]? ≠ some (Obj.deferred l)) : Marks B W' ds :=
  Marks.same (fun r l hr => (k.block r (Array.getElem?_eq_some_iff.1 hr).1 (by intro e; injection e with e; subst e; exact hg l hr)).trans hr) h
/-- A cell of an element is written. -/
theorem flat_set_at {α : Type} {enc : α → List Value} {sz : Nat} (henc : ∀ x, (enc x).length = sz) {x x' : α} {j : Nat} {v : Value} (hj : j < sz) (hx : (enc x).set j v = enc x') : ∀ (m : List α) (k : Nat), m[k]? = some x → (m.flatMap enc).set (k * sz + j) v = (m.set k x').flatMap enc
  | y :: m, 0, h => by
    simp at h; subst h
    rw [Nat.zero_mul, Nat.zero_add, List.flatMap_cons, List.set_append_left _ _ (by rw [henc]; exact hj), hx, List.set_cons_zero, List.flatMap_cons]
  | y :: m, k + 1, h => by
    have ih := flat_set_at henc hj hx m k (by simpa using h)
    rw [List.flatMap_cons, List.set_append_right _ _ (by rw [henc, Nat.succ_mul]; omega), henc, Nat.succ_mul, show k * sz + sz + j - sz = k * sz + j by omega, ih, List.set_cons_succ, List.flatMap_cons]
end Go.Proofs.YtafdbgielmlihaaDoor
