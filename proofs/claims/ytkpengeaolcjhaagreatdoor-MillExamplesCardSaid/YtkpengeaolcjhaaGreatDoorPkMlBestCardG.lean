/- A range over a function whose values lie in memory: the contract of such a function, the law of the statement, how its function is opened and left. All at the widest fence. -/
import Derived.Test.YtkpengeaolcjhaaGreatDoorPkMlBestCardA
import Derived.RangeFuncIn
import Derived.RangeFuncRecord
import Derived.RangeFuncSeq
import Derived.RangeFuncLeaves
import Derived.RangeFuncKeeps
namespace Go.Proofs.YtkpengeaolcjhaaGreatDoor
open Go.RowKit Go.Shelf

/-- What a round keeps: all below n₀, and all cells but those of the blocks X. -/
structure Keep (n₀ : Nat) (X : Nat → Prop) (A B : World) : Prop where
  b : Below n₀ A B
  c : ∀ k, k < A.heap.size → ¬ X k → (∃ c t f, A.heap[k]? = some (.cells c t f)) → B.heap[k]? = A.heap[k]?
theorem Keep.trans {n₀ : Nat} {X : Nat → Prop} {A B C : World} (h : Keep n₀ X A B) (k : Keep n₀ X B C) : Keep n₀ X A C :=
  ⟨h.b.trans k.b, fun i hi hx hc => by
    have e := h.c i hi hx hc
    obtain ⟨c, t, f, hc⟩ := hc
    exact (k.c i (Nat.lt_of_lt_of_le hi h.b.size) hx ⟨c, t, f, e.trans hc⟩).trans e⟩
theorem Keep.ext {n₀ : Nat} {X : Nat → Prop} {A B : World} (h : Ext A B) (hn : n₀ ≤ A.heap.size) : Keep n₀ X A B := ⟨h.mono hn, fun i hi _ _ => h.block i hi⟩
theorem Keep.refl {n₀ : Nat} {X : Nat → Prop} (A : World) : Keep n₀ X A A := ⟨Below.refl _ _, fun _ _ _ _ => rfl⟩
/-- But for the loop's two records nothing has turned. -/
structure Turn (s : Nat) (A B : World) : Prop where
  os : B.os = A.os
  tape : B.tape = A.tape
  output : B.output = A.output
  size : A.heap.size ≤ B.heap.size
  block : ∀ k, k < A.heap.size → k ≠ s → k ≠ s + 1 → B.heap[k]? = A.heap[k]?
theorem Turn.ext {s : Nat} {A B : World} (h : Ext A B) : Turn s A B := ⟨h.os, h.tape, h.output, h.size, fun k hk _ _ => h.block k hk⟩
theorem Turn.put {s : Nat} (A : World) (o : Obj) : Turn s A (A.putObj (s + 1) o) := ⟨rfl, rfl, rfl, by simp, fun k _ _ h2 => World.putObj_heap_other h2⟩
theorem Turn.put0 {s : Nat} (A : World) (o : Obj) : Turn s A (A.putObj s o) := ⟨rfl, rfl, rfl, by simp, fun k _ h1 _ => World.putObj_heap_other h1⟩
theorem Turn.below {n₀ s : Nat} {w A B : World} (h : Below n₀ w A) (k : Turn s A B) (hn : n₀ ≤ s) (hA : n₀ ≤ A.heap.size) : Below n₀ w B :=
  ⟨k.os.trans h.os, k.tape.trans h.tape, k.output.trans h.output, Nat.le_trans h.size k.size, fun i hi => (k.block i (by omega) (by omega) (by omega)).trans (h.block i hi)⟩
theorem Turn.cell {s : Nat} {A B : World} (k : Turn s A B) {b : Nat} (hb : b < s) {i : Nat} (hA : b < A.heap.size) : B.cell? ⟨b, i, none⟩ = A.cell? ⟨b, i, none⟩ :=
  World.cell?_of_block (a := ⟨b, i, none⟩) (k.block b hA (by omega) (by omega))

/-- A function that yields the values xs, each as it lies in memory. -/
def Seqs {α : Type} (P : Program) (g : FuncId) (lb : Array Value) (n₀ : Nat) (X : Nat → Prop) (H : α → Value → World → Prop) (xs : List α) (w : World) : Prop :=
  ∀ (l : Nat) (J Jx : List α → World → Prop) (W : World), Ext w W → (∀ pre A B, J pre A → Ext A B → J pre B) → (∀ pre A B, Jx pre A → Ext A B → Jx pre B) →
    (∀ m pre x v W1, J pre W1 → H x v W1 → pre ++ [x] <+: xs → YieldAt Fence.wide m P l #[v] W1 fun e W' =>
      (e = .returned (.bool true) ∧ J (pre ++ [x]) W' ∧ Keep n₀ X W1 W') ∨ (e = .returned (.bool false) ∧ Jx (pre ++ [x]) W')) →
    J [] W → Calls P g (#[.func (.yield l) #[] #[]] ++ lb) W fun e W' => (∃ v, e = .returned v) ∧ (J xs W' ∨ ∃ pre, pre <+: xs ∧ Jx pre W')

/-- How a round's body may be left. -/
def rPost {α : Type} (n₀ : Nat) (X : Nat → Prop) (s : Nat) (I : List α → World → Prop) (Ix : Code → List α → World → Prop) (ys : List α) (W : World) : Exit → Act → World → Prop
  | .normal, _, W' => Keep n₀ X W W' ∧ W'.heap[s]? = W.heap[s]? ∧ W'.heap[s + 1]? = W.heap[s + 1]? ∧ I ys W'
  | .ret, _, W' => W'.heap[s]? = W.heap[s]? ∧ W'.heap[s + 1]? = W.heap[s + 1]? ∧ Ix .ret ys W'
  | .exit id, _, W' => W'.heap[s]? = W.heap[s]? ∧ W'.heap[s + 1]? = W.heap[s + 1]? ∧ Ix (.exit id) ys W'
  | .goto t, _, W' => W'.heap[s]? = W.heap[s]? ∧ W'.heap[s + 1]? = W.heap[s + 1]? ∧ Ix (.goto t) ys W'
  | .panic _, _, _ => False
  | .outgrown, _, _ => False

theorem wide_none : Fence.wide.round = none := rfl
theorem wide_depth (n : Nat) : Fence.wide.depth.isSome = true → 1 ≤ n := fun h => by cases h
theorem keep_put {n₀ s : Nat} {X : Nat → Prop} {A : World} {r : Loop} {o : Obj} (h : A.heap[s + 1]? = some (.loop r)) (hn : n₀ ≤ s) : Keep n₀ X A (A.putObj (s + 1) o) :=
  ⟨⟨rfl, rfl, rfl, by simp, fun i hi => World.putObj_heap_other (by omega)⟩, fun i _ _ ⟨c, t, f, hc⟩ => World.putObj_heap_other (fun e => by rw [e, h] at hc; cases hc)⟩

/-- **THE STATEMENT.** -/
theorem wp_rangeFunc {α : Type} {P : Program} {g : Operand} {p : Tmp} {assign body : Code} {Q : Exit → Act → World → Prop} {a : Act} {w : World} {gf : FuncId} {lb : Array Value} (hg : a.eval g = .func (.func gf) #[] lb)
    (eg : ∀ args w, (callFunc gf args).run P w = .ok (.enter gf args) w) {n₀ : Nat} {X : Nat → Prop} {H : α → Value → World → Prop} {xs : List α} {w0 : World} (hseq : Seqs P gf lb n₀ X H xs w0) (hE : Ext w0 w) (hn : n₀ ≤ w.heap.size)
    (hH : ∀ x v W r o, H x v W → W.heap[w.heap.size + 1]? = some (.loop r) → H x v (W.putObj (w.heap.size + 1) o))
    (I : List α → World → Prop) (Ix : Code → List α → World → Prop) (hI : ∀ pre A B, I pre A → w.heap.size + 1 < A.heap.size → Turn w.heap.size A B → I pre B) (hIx : ∀ c pre A B, Ix c pre A → w.heap.size + 1 < A.heap.size → Turn w.heap.size A B → Ix c pre B)
    (h0 : ∀ W, Ext w W → I [] W) (a₁ : Value → Act)
    (hassign : ∀ (m l : Nat) (v : Value) (W : World) (K : Act → World → Prop), K (a₁ v) W → assign.wpIn (Fence.wide.inRound l) m P (Exit.then K (fun _ _ _ => False)) { tmps := a.tmps.setIfInBounds p v, defers := [] } W)
    (hbody : ∀ (m l : Nat) (pre : List α) (x : α) (v : Value) (W : World), I pre W → H x v W → pre ++ [x] <+: xs → w.heap.size + 1 < W.heap.size → body.wpIn (Fence.wide.inRound l) m P (rPost n₀ X w.heap.size I Ix (pre ++ [x]) W) (a₁ v) W)
    (hdone : ∀ W, I xs W → w.heap.size + 1 < W.heap.size → W.heap[w.heap.size]? = some (.deferred (some [])) → Q .normal { a with defers := { target := .collected w.heap.size, args := #[] } :: a.defers } W)
    (hstop : ∀ c pre W, pre <+: xs → Ix c pre W → w.heap.size + 1 < W.heap.size → W.heap[w.heap.size]? = some (.deferred (some [])) → c.wp P Q { a with defers := { target := .collected w.heap.size, args := #[] } :: a.defers } W) :
    (Code.rangeFunc g #[p] assign body).wp P Q a w := by
  refine (wpIn_wide (n := 0)).1 (wpIn_rangeFunc ?_)
  intro fn _
  obtain ⟨rec, hrec⟩ : ∃ rec : LoopState → Option Code → Loop, rec = fun st pe => { state := st, pending := pe, fn, tmps := a.tmps, params := #[p], assign, body, defers := w.heap.size } := ⟨_, rfl⟩
  generalize hW1 : (w.alloc (.deferred (some []))).alloc (.loop (rec .ready none)) = W1
  have hE1 : Ext w W1 := by rw [← hW1]; exact (Ext.al _ _).alloc _
  have hL1 : W1.heap[w.heap.size + 1]? = some (.loop (rec .ready none)) := by
    rw [← hW1]; have := World.alloc_heap_new (w.alloc (.deferred (some []))) (.loop (rec .ready none)); rwa [World.size_alloc] at this
  have hK1 : W1.heap[w.heap.size]? = some (.deferred (some [])) := by
    rw [← hW1]; exact (Below.heap_alloc _ _ _ (by simp)).trans (World.alloc_heap_new w _)
  have lt_of : ∀ {W : World} {o : Obj}, W.heap[w.heap.size + 1]? = some o → w.heap.size + 1 < W.heap.size := fun h => (Array.getElem?_eq_some_iff.1 h).1
  refine ⟨w.heap.size + 1, [{ target := .collected w.heap.size, args := #[] }], W1, { target := .fn (.func gf) lb, args := #[.func (.yield (w.heap.size + 1)) #[] #[]] }, W1, gf, #[.func (.yield (w.heap.size + 1)) #[] #[]] ++ lb, W1, ?_, ?_, fun _ _ => trivial, ?_, wide_depth _, ?_⟩
  · rw [wide_none, ← hW1, hrec]; exact run_enterLoop_outer _ _ _ _ _
  · simp only [resolve, hg]
    simp [go_sem]
  · simp [invoke, go_sem, eg]
  refine callsIn_wide.2 ((hseq (w.heap.size + 1)
    (fun pre W => I pre W ∧ W.heap[w.heap.size + 1]? = some (.loop (rec .ready none)) ∧ W.heap[w.heap.size]? = some (.deferred (some [])))
    (fun pre W => ∃ c, Ix c pre W ∧ W.heap[w.heap.size + 1]? = some (.loop (rec .done (some c))) ∧ W.heap[w.heap.size]? = some (.deferred (some [])))
    W1 (hE.trans hE1) ?_ ?_ ?_ ⟨h0 _ hE1, hL1, hK1⟩).mono ?_)
  · rintro pre A B ⟨h1, h2, h3⟩ hAB
    have hl := lt_of h2
    exact ⟨hI _ _ _ h1 hl (Turn.ext hAB), (hAB.block _ hl).trans h2, (hAB.block _ (by omega)).trans h3⟩
  · rintro pre A B ⟨c, h1, h2, h3⟩ hAB
    have hl := lt_of h2
    exact ⟨c, hIx _ _ _ _ h1 hl (Turn.ext hAB), (hAB.block _ hl).trans h2, (hAB.block _ (by omega)).trans h3⟩
  · rintro m pre x v W ⟨hi, hl, hk⟩ hx hpre
    have hlt := lt_of hl
    have hy := run_yield (P := P) (args := #[v]) hl (by rw [hrec]; rfl)
    refine ⟨fn, a.tmps.setIfInBounds p v, assign, body, by rw [hy, hrec]; simp, roundIn_of_wpIn trivial ?_⟩
    have hsz : ∀ (W : World) o, (W.putObj (w.heap.size + 1) o).heap.size = W.heap.size := fun _ _ => World.putObj_size
    have hb2 : (W.putObj (w.heap.size + 1) (.loop { rec .ready none with state := .busy })).heap[w.heap.size + 1]? = some (.loop { rec .ready none with state := .busy }) := World.putObj_heap_same hlt
    have hd2 : (W.putObj (w.heap.size + 1) (.loop { rec .ready none with state := .busy })).heap[w.heap.size]? = some (.deferred (some [])) := (World.putObj_heap_other (by omega)).trans hk
    have fin : ∀ (jump : Option Code) (W3 : World), W3.heap[w.heap.size + 1]? = some (.loop { rec .ready none with state := .busy }) → W3.heap[w.heap.size]? = some (.deferred (some [])) →
        (Instr.endRound (w.heap.size + 1) jump).run P W3 = .ok (.bool jump.isNone) (W3.putObj (w.heap.size + 1) (.loop (rec (if jump.isNone then .ready else .done) jump))) ∧
        (W3.putObj (w.heap.size + 1) (.loop (rec (if jump.isNone then .ready else .done) jump))).heap[w.heap.size + 1]? = some (.loop (rec (if jump.isNone then .ready else .done) jump)) ∧
        (W3.putObj (w.heap.size + 1) (.loop (rec (if jump.isNone then .ready else .done) jump))).heap[w.heap.size]? = some (.deferred (some [])) := fun jump W3 h1 h2 => by
      have := run_endRound (P := P) jump h1
      rw [hrec] at this ⊢
      exact ⟨this, World.putObj_heap_same (lt_of h1), (World.putObj_heap_other (by omega)).trans h2⟩
    have hstart : ∀ {A : Act}, A = a₁ v → ∃ w₂, (Instr.beginRound (w.heap.size + 1)).run P W = .ok () w₂ ∧ body.wpIn (Fence.wide.inRound (w.heap.size + 1)) m P (roundPost P (w.heap.size + 1) fun e W' =>
        (e = .returned (.bool true) ∧ (I (pre ++ [x]) W' ∧ W'.heap[w.heap.size + 1]? = some (.loop (rec .ready none)) ∧ W'.heap[w.heap.size]? = some (.deferred (some []))) ∧ Keep n₀ X W W') ∨
        (e = .returned (.bool false) ∧ ∃ c, Ix c (pre ++ [x]) W' ∧ W'.heap[w.heap.size + 1]? = some (.loop (rec .done (some c))) ∧ W'.heap[w.heap.size]? = some (.deferred (some [])))) A w₂ := by
      rintro A rfl
      refine ⟨_, run_beginRound hl (by rw [hrec]), wpIn_mono (hbody m _ pre x v _ (hI _ _ _ hi hlt (Turn.put _ _)) (hH _ _ _ _ _ hx hl) hpre (by rw [hsz]; exact hlt)) ?_⟩
      rintro e a3 W3 hp
      cases e with
      | normal =>
        obtain ⟨hk3, hd3, hl3, hi3⟩ := hp
        rw [hb2] at hl3; rw [hd2] at hd3
        obtain ⟨hr, hl4, hd4⟩ := fin none W3 hl3 hd3
        exact ⟨_, _, hr, .inl ⟨rfl, ⟨hI _ _ _ hi3 (lt_of hl3) (Turn.put _ _), hl4, hd4⟩, ((keep_put hl hn).trans hk3).trans (keep_put hl3 hn)⟩⟩
      | ret =>
        obtain ⟨hd3, hl3, hi3⟩ := hp
        rw [hb2] at hl3; rw [hd2] at hd3
        obtain ⟨hr, hl4, hd4⟩ := fin (some .ret) W3 hl3 hd3
        exact ⟨_, _, hr, .inr ⟨rfl, .ret, hIx _ _ _ _ hi3 (lt_of hl3) (Turn.put _ _), hl4, hd4⟩⟩
      | exit id =>
        obtain ⟨hd3, hl3, hi3⟩ := hp
        rw [hb2] at hl3; rw [hd2] at hd3
        obtain ⟨hr, hl4, hd4⟩ := fin (some (.exit id)) W3 hl3 hd3
        exact ⟨_, _, hr, .inr ⟨rfl, .exit id, hIx _ _ _ _ hi3 (lt_of hl3) (Turn.put _ _), hl4, hd4⟩⟩
      | goto t =>
        obtain ⟨hd3, hl3, hi3⟩ := hp
        rw [hb2] at hl3; rw [hd2] at hd3
        obtain ⟨hr, hl4, hd4⟩ := fin (some (.goto t)) W3 hl3 hd3
        exact ⟨_, _, hr, .inr ⟨rfl, .goto t, hIx _ _ _ _ hi3 (lt_of hl3) (Turn.put _ _), hl4, hd4⟩⟩
      | panic ch => exact hp.elim
      | outgrown => exact hp.elim
    refine hassign m (w.heap.size + 1) v W _ ?_
    exact hstart rfl
  · rintro e W2 ⟨⟨v, rfl⟩, (⟨hi, hl, hk⟩ | ⟨pre, hpre, c, hi, hl, hk⟩)⟩
    · refine ⟨none, _, by have := run_endLoop (P := P) hl (by rw [hrec]; simp); rw [hrec] at this; exact this, ?_⟩
      exact hdone _ (hI _ _ _ hi (lt_of hl) (Turn.put _ _)) (by rw [World.putObj_size]; exact lt_of hl) ((World.putObj_heap_other (by omega)).trans hk)
    · refine ⟨some c, _, by have := run_endLoop (P := P) hl (by rw [hrec]; simp); rw [hrec] at this; exact this, ?_⟩
      exact wpIn_wide.2 (hstop c pre _ hpre (hIx _ _ _ _ hi (lt_of hl) (Turn.put _ _)) (by rw [World.putObj_size]; exact lt_of hl) ((World.putObj_heap_other (by omega)).trans hk))
/-- How a function that ranges over a function is opened. -/
theorem calls_of_wp_marks {P : Program} {f : FuncId} {fn : Func} {c : Code} {args : Array Value} {w : World} {R : Ending → World → Prop} (hf : P.funcs[f]? = some fn) (hb : fn.body = some c)
    (h : c.wp P (bodyPostM Fence.wide 0 P fn R) { tmps := args ++ Array.replicate (fn.ntmps - args.size) undef, defers := [] } w) : Calls P f args w R :=
  (callsIn_wide (n := 0)).1 (callsIn_of_wp_marks hf hb trivial (wpIn_wide.2 h))
end Go.Proofs.YtkpengeaolcjhaaGreatDoor
