/- A range over a function whose values lie in memory: the contract of such a function, the law of the statement, how its function is opened and left. All at the widest fence. -/
import Derived.Test.YtafdbgielmlihaaDoorPkChLeastCardA
import Derived.RangeFuncIn
import Derived.RangeFuncRecord
import Derived.RangeFuncSeq
import Derived.RangeFuncLeaves
import Derived.RangeFuncKeeps
namespace Go.Proofs.YtafdbgielmlihaaDoor
open Go.RowKit Go.Shelf

/-- What a round keeps: all below n₀, and all cells but those of the blocks X. -/
structure Keep (n₀ : Nat) (X : Nat → Prop) (A B : World) : Prop where
  b : Below n₀ A B
  c : ∀ k, k < A.heap.size → ¬ X k → (∃ c t f, A.heap[k]? = some (.cells c t f)) → B.heap[k]? = A.heap[k]?
theorem Keep.trans {n₀ : Nat} {X : Nat → Prop} {A B C : World} (h : Keep n₀ X A B) (k : Keep n₀ X B C) : Keep n₀ X A C :=
  ⟨h.b.trans k.b, fun i hi hx hc => by
    have e := h.c i hi hx hc
    obtain ⟨c, t, f, hc⟩ := hc
    exact (k.c i (Nat.lt_of_lt_of_le hi h.b.size) hx ⟨c, t, f, e.trans hc⟩).trans e⟩
theorem Keep.ext {n₀ : Nat} {X : Nat → Prop} {A B : World} (h : Ext A B) (hn : n₀ ≤ A.heap.size) : Keep n₀ X A B := ⟨h.mono hn, fun i hi _ _ => h.block i hi⟩
theorem Keep.refl {n₀ : Nat} {X : Nat → Prop} (A : World) : Keep n₀ X A A := ⟨Below.refl _ _, fun _ _ _ _ => rfl⟩
/-- But for the loop's two records nothing has turned. -/
structure Turn (s : Nat) (A B : World) : Prop where
  os : B.os = A.os
  tape : B.tape = A.tape
  output : B.output = A.output
  size : A.heap.size ≤ B.heap.size
  block : ∀ k, k < A.heap.size → k ≠ s → k ≠ s + 1 → B.heap[k]? = A.heap[k]?
theorem Turn.ext {s : Nat} {A B : World} (h : Ext A B) : Turn s A B := ⟨h.os, h.tape, h.output, h.size, fun k hk _ _ => h.block k hk⟩
theorem Turn.put {s : Nat} (A : World) (o : Obj) : Turn s A (A.putObj (s + 1) o) := ⟨rfl, rfl, rfl, by simp, fun k _ _ h2 => World.putObj_heap_other h2⟩
theorem Turn.put0 {s : Nat} (A : World) (o : Obj) : Turn s A (A.putObj s o) := ⟨rfl, rfl, rfl, by simp, fun k _ h1 _ => World.putObj_heap_other h1⟩
theorem Turn.below {n₀ s : Nat} {w A B : World} (h : Below n₀ w A) (k : Turn s A B) (hn : n₀ ≤ s) (hA : n₀ ≤ A.heap.size) : Below n₀ w B :=
  ⟨k.os.trans h.os, k.tape.trans h.tape, k.output.trans h.output, Nat.le_trans h.size k.size, fun i hi => (k.block i (by omega) (by omega) (by omega)).trans (h.block i hi)⟩
theorem Turn.cell {s : Nat} {A B : World} (k : Turn s A B) {b : Nat} (hb : b < s) {i : Nat} (hA : b < A.heap.size) : B.cell? ⟨b, i, none⟩ = A.cell? ⟨b, i, none⟩ :=
  World.cell?_of_block (a := ⟨b, i, none⟩) (k.block b hA (by omega) (by omega))

/-- A function that yields the values xs, each as it lies in memory. -/
def Seqs {α : Type} (P : Program) (g : FuncId) (lb : Array Value) (n₀ : Nat) (X : Nat → Prop) (H : α → Value → World → Prop) (xs : List α) (w : World) : Prop :=
  ∀ (l : Nat) (J Jx : List α → World → Prop) (W : World), Ext w W → (∀ pre A B, J pre A → Ext A B → J pre B) → (∀ pre A B, Jx pre A → Ext A B → Jx pre B) →
    (∀ m pre x v W1, J pre W1 → H x v W1 → pre ++ [x] <+: xs → YieldAt Fence.wide m P l #[v] W1 fun e W' =>
      (e = .returned (.bool true) ∧ J (pre ++ [x]) W' ∧ Keep n₀ X W1 W') ∨ (e = .returned (.bool false) ∧ Jx (pre ++ [x]) W')) →
    J [] W → Calls P g (#[.func (.yield l) #[] #[]] ++ lb) W fun e W' => (∃ v, e = .returned v) ∧ (J xs W' ∨ ∃ pre, pre <+: xs ∧ Jx pre W')

/-- How a round's body may be left. -/
def rPost {α : Type} (n₀ : Nat) (X : Nat → Prop) (s : Nat) (I : List α → World → Prop) (Ix : Code → List α → World → Prop) (ys : List α) (W : World) : Exit → Act → World → Prop
  | .normal, _, W' => Keep n₀ X W W' ∧ W'.heap[s]? = W.heap[s]? ∧ W'.heap[s + 1]? = W.heap[s + 1]? ∧ I ys W'
  | .ret, _, W' => W'.heap[s]? = W.heap[s]? ∧ W'.heap[s + 1]? = W.heap[s + 1]? ∧ Ix .ret ys W'
  | .exit id, _, W' => W'.heap[s]? = W.heap[s]? ∧ W'.heap[s + 1]? = W.heap[s + 1]? ∧ Ix (.exit id) ys W'
  | .goto t, _, W' => W'.heap[s]? = W.heap[s]? ∧ W'.heap[s + 1]? = W.heap[s + 1]? ∧ Ix (.goto t) ys W'
  | .panic _, _, _ => False
  | .outgrown, _, _ => False

theorem wide_none : Fence.wide.round = none := rfl
theorem wide_depth (n : Nat) : Fence.wide.depth.isSome = true → 1 ≤ n := fun h => by cases h
theorem keep_put {n₀ s : Nat} {X : Nat → Prop} {A : World} {r : Loop} {o : Obj} (h : A.heap[s + 1]? = some (.loop r)) (hn : n₀ ≤ s) : Keep n₀ X A (A.putObj (s + 1) o) :=
  ⟨⟨rfl, rfl, rfl, by simp, fun i hi => World.putObj_heap_other (by omega)⟩, fun i _ _ ⟨c, t, f, hc⟩ => World.putObj_heap_other (fun e => by rw [e, h] at hc; cases hc)⟩

/-- How a function that ranges over a function is opened. -/
theorem calls_of_wp_marks {P : Program} {f : FuncId} {fn : Func} {c : Code} {args : Array Value} {w : World} {R : Ending → World → Prop} (hf : P.funcs[f]? = some fn) (hb : fn.body = some c)
    (h : c.wp P (bodyPostM Fence.wide 0 P fn R) { tmps := args ++ Array.replicate (fn.ntmps - args.size) undef, defers := [] } w) : Calls P f args w R :=
  (callsIn_wide (n := 0)).1 (callsIn_of_wp_marks hf hb trivial (wpIn_wide.2 h))
end Go.Proofs.YtafdbgielmlihaaDoor
