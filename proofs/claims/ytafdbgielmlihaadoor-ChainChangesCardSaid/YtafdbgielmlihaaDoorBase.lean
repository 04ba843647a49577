/- The words in which this proof speaks of memory: a slice that reads as a list, a predicate handed over as a function value. -/
import Derived.Test.YtafdbgielmlihaaDoorProg
import Derived.WalkKit
import Derived.Deep.LoopGhost
import Derived.Deep.QuietTactic
import Derived.BigQuiet
import Derived.Deep.RegionWith
import Derived.Deep.RegionHeld3
import Derived.Deep.DeepCutAuto
import Derived.Shelf.Abstract
import Derived.Laws.EntriesVeiled
import Derived.Lib.Hide
import Derived.Shelf.SlicesQ.Load
namespace Go.Proofs.YtafdbgielmlihaaDoor
open Go.RowKit Go.Shelf

/-- Of what was there nothing has turned. -/
abbrev Ext (w w' : World) : Prop := Below w.heap.size w w'
theorem Ext.refl (w : World) : Ext w w := Below.refl _ _
theorem Ext.trans {a b c : World} (h : Ext a b) (k : Ext b c) : Ext a c := Below.trans h (k.mono h.size)
theorem Ext.alloc {a w : World} (h : Ext a w) (o : Obj) : Ext a (w.alloc o) := Below.alloc h h.size o
theorem Ext.drew {a w : World} (h : Ext a w) : Ext a w.drew := Below.drew h
theorem Ext.drewN {a w : World} (h : Ext a w) (n : Nat) : Ext a (w.drewN n) := ⟨h.os, h.tape, h.output, h.size, h.block⟩
theorem Ext.setCell {a w : World} (h : Ext a w) {p : Addr} (hp : a.heap.size ≤ p.block) (u : Value) : Ext a (w.setCell p u) := Below.setCell h hp u
theorem Ext.al (w : World) (o : Obj) : Ext w (w.alloc o) := (Ext.refl w).alloc o
theorem Ext.cells {w w' : World} (h : Ext w w') : (∀ b o, b < w.heap.size → w'.cell? ⟨b, o, none⟩ = w.cell? ⟨b, o, none⟩) ∧ (∀ b o, b < w.heap.size → w'.frozen? ⟨b, o, none⟩ = w.frozen? ⟨b, o, none⟩) :=
  ⟨fun b o hb => h.cell (p := ⟨b, o, none⟩) hb, fun b o hb => h.frozen (p := ⟨b, o, none⟩) hb⟩

theorem Ext.use {w w' : World} (h : Ext w w') : (∀ b o, b < w.heap.size → w'.cell? ⟨b, o, none⟩ = w.cell? ⟨b, o, none⟩) ∧ (∀ b o, b < w.heap.size → w'.frozen? ⟨b, o, none⟩ = w.frozen? ⟨b, o, none⟩) ∧ w.heap.size ≤ w'.heap.size ∧ Hid (Ext w w') :=
  ⟨h.cells.1, h.cells.2, h.size, h⟩
theorem hmf (P : Program) : ∀ (fn : Fn) (first cap : Array Value) (w : World), (Instr.makeFunc fn first cap).run P w = .ok (.func fn first cap) w := fun _ _ _ _ => rfl

/-- The slice value v reads as the list l; an element takes sz cells. -/
def Sl {α : Type} (enc : α → List Value) (sz : Nat) (w : World) (v : Value) (l : List α) : Prop :=
  ∃ A c, v = .slice A l.length c ∧ l.length ≤ c ∧ c ≤ maxLen ∧
    (0 < l.length → ∃ b off, A = some ⟨b, off, none⟩ ∧ b < w.heap.size ∧ ∀ k x, l[k]? = some x → ∀ j u, (enc x)[j]? = some u → w.cell? ⟨b, off + k * sz + j, none⟩ = some u)
section
variable {α : Type} {enc : α → List Value} {sz : Nat} {w w' : World} {v : Value} {l : List α}
theorem Sl.ext (h : Sl enc sz w v l) (e : Ext w w') : Sl enc sz w' v l := by
  obtain ⟨A, c, hv, hl, hc, hx⟩ := h
  refine ⟨A, c, hv, hl, hc, fun h0 => ?_⟩
  obtain ⟨b, off, hA, hb, hcell⟩ := hx h0
  exact ⟨b, off, hA, Nat.lt_of_lt_of_le hb e.size, fun k x hk j u hu => (e.cell (p := ⟨b, off + k * sz + j, none⟩) hb).trans (hcell k x hk j u hu)⟩
theorem Sl.at_ {A : Option Addr} {n c : Nat} (h : Sl enc sz w (.slice A n c) l) {k : Nat} (hk : k < n) :
    ∃ b off x, A = some ⟨b, off, none⟩ ∧ l[k]? = some x ∧ b < w.heap.size ∧ ∀ W, Ext w W → ∀ j u, (enc x)[j]? = some u → W.cell? ⟨b, off + k * sz + j, none⟩ = some u := by
  obtain ⟨A', c', hv, hl, hc, hx⟩ := h
  injection hv with h1 h2 h3
  subst h1 h2 h3
  obtain ⟨b, off, hA, hb, hcell⟩ := hx (by omega)
  exact ⟨b, off, l[k], hA, List.getElem?_eq_getElem hk, hb, fun W hW j u hu => (hW.cell (p := ⟨b, off + k * sz + j, none⟩) hb).trans (hcell k _ (List.getElem?_eq_getElem hk) j u hu)⟩
theorem Sl.form (h : Sl enc sz w v l) : ∃ A n c, v = .slice A n c ∧ Hid (n = l.length) ∧ n ≤ c ∧ c ≤ 9223372036854775807 := by
  obtain ⟨A, c, hv, hl, hc, _⟩ := h
  exact ⟨A, _, c, hv, rfl, hl, hc⟩
/-- An element of several cells is read at once. -/
theorem Sl.row {P : Program} {b off k : Nat} {x : α} (h : ∀ j u, (enc x)[j]? = some u → w.cell? ⟨b, off + k * sz + j, none⟩ = some u) (hk : (enc x).length = sz) :
    Sem.run P (loadCellsFrom ⟨b, off + k * sz, none⟩ 0 sz #[]) w = .ok (enc x).toArray w :=
  run_loadCellsFrom_list P _ _ (enc x) sz hk (fun i u hi => by rw [Addr.add_lit]; exact h i u hi)
theorem Sl.nil (w : World) : Sl enc sz w (.slice none 0 0) ([] : List α) := ⟨none, 0, rfl, Nat.zero_le _, by decide, fun h => absurd h (by simp)⟩
theorem flatMap_at (henc : ∀ x, (enc x).length = sz) : ∀ (l : List α) (k : Nat) (x : α), l[k]? = some x → ∀ j u, (enc x)[j]? = some u → (l.flatMap enc)[k * sz + j]? = some u
  | [], k, x, h, _, _, _ => by simp at h
  | y :: l, 0, x, h, j, u, hu => by
    simp at h; subst h
    have hj : j < (enc y).length := (List.getElem?_eq_some_iff.1 hu).1
    simpa [List.getElem?_append_left hj] using hu
  | y :: l, k + 1, x, h, j, u, hu => by
    have h' : l[k]? = some x := by simpa using h
    have := flatMap_at henc l k x h' j u hu
    rw [List.flatMap_cons, List.getElem?_append_right (by rw [henc]; rw [Nat.succ_mul]; omega), henc]
    rw [← this]; congr 1; rw [Nat.succ_mul]; omega
theorem Sl.of_own {base : Nat} {e : TypeId} (henc : ∀ x, (enc x).length = sz) (h : w.ownsRow base e sz v l.length (l.flatMap enc)) : Sl enc sz w v l := by
  obtain ⟨hlen, h⟩ := h
  rcases h with ⟨rfl, h0⟩ | ⟨g, cap, cur, rfl, hg, hh, hcap, hmax, hsz, hx⟩
  · have : l = [] := List.eq_nil_of_length_eq_zero h0
    subst this
    exact Sl.nil w
  · refine ⟨_, cap, rfl, hcap, hmax, fun _ => ⟨g, 0, rfl, (Array.getElem?_eq_some_iff.1 hh).1, fun k x hk j u hu => ?_⟩⟩
    have hi := flatMap_at henc l k x hk j u hu
    rw [← hx] at hi
    have hi2 : cur.toList[k * sz + j]? = some u := by
      rw [List.getElem?_take] at hi
      split at hi
      · exact hi
      · cases hi
    rw [cell_of_row w g _ cur e (0, 0) hh]
    simpa using hi2
end

abbrev encI (n : Int) : List Value := [.int .i64 n]
abbrev SlI (w : World) (v : Value) (l : List Int) : Prop := Sl encI 1 w v l
theorem SlI.cell {w W : World} {b off k : Nat} {x : Int} (h : ∀ W, Ext w W → ∀ j u, (encI x)[j]? = some u → W.cell? ⟨b, off + k * 1 + j, none⟩ = some u) (hW : Ext w W) : W.cell? ⟨b, off + k, none⟩ = some (.int .i64 x) := by
  simpa using h W hW 0 _ rfl
/-- A slice literal of one number. -/
theorem SlI.one {w : World} {b : Nat} {t : TypeId} {x : Int} (h : w.heap[b]? = some (.cells #[.int .i64 x] t (0, 0))) : SlI w (.slice (some ⟨b, 0, none⟩) 1 1) [x] := by
  refine ⟨_, 1, rfl, by simp, by decide, fun _ => ⟨b, 0, rfl, (Array.getElem?_eq_some_iff.1 h).1, fun k y hk j u hu => ?_⟩⟩
  match k, hk with
  | 0, hk =>
    simp at hk; subst hk
    match j, hu with
    | 0, hu => simp at hu; subst hu; simp [World.cell?, h]

theorem quiet_left {P : Program} {f : FuncId} {args : Array Value} {w : World} {n : Nat} {v : Value}
    (h : Calls P f args (w.drewN n) fun e w' => e = .returned v ∧ w.drewN n = w') : Calls P f args (w.drewN n) fun e w'' => e = .returned v ∧ ∃ m, w'' = w.drewN m :=
  h.mono fun _ _ ⟨he, hm⟩ => ⟨he, n, hm.symm⟩
/-- A predicate on x, handed over as a function value. -/
def Pred {α : Type} (val : α → Value) (g : FuncId) (cap : Array Value) (p : α → Bool) (l : List α) (w : World) : Prop :=
  ∀ W x, x ∈ l → Ext w W → Calls Tryd.prog g (#[val x] ++ cap) W fun e W' => e = .returned (.bool (p x)) ∧ Ext W W'

/-! A call through a function value. -/
def callVal (v : Value) (vs : Array Value) : Sem Next := do
  let d ← Deferred.ofValue v vs
  invoke d.target d.args
@[go_sem ↓] theorem execOp_call_tmp (ρ : Operand → Value) (dst : Option Tmp) (t : Tmp) (xs : Array Operand) (ats : Array TypeId) (ty : TypeId) (pos : String) (after : Array Edge) (guard : Option (Nat × Bool)) :
    execOp ρ { dst, op := .call { callee := .value (.tmp t), args := xs, argTypes := ats }, type := ty, pos, after, guard } = callVal (ρ (.tmp t)) (xs.map ρ) := by
  simp only [execOp, resolve, callVal]
@[go_sem] theorem callVal_func (g : FuncId) (lb vs : Array Value) : callVal (.func (.func g) #[] lb) vs = callFunc g (vs ++ lb) := by
  simp only [callVal, Deferred.ofValue, Array.empty_append]
  rfl

/-- The first place at which p holds; -1. -/
def idxF {α : Type} (p : α → Bool) (l : List α) : Int := match l.findIdx? p with | some i => (i : Int) | none => -1
theorem idxF_none {α : Type} (p : α → Bool) (l : List α) (h : ∀ x ∈ l, p x = false) : idxF p l = -1 := by
  unfold idxF
  rw [List.findIdx?_eq_none_iff.2 (by simpa using h)]
theorem idxF_some {α : Type} (p : α → Bool) (l : List α) (k : Nat) (x : α) (hx : l[k]? = some x) (hp : p x = true) (h : ∀ j y, j < k → l[j]? = some y → p y = false) : idxF p l = k := by
  unfold idxF
  have hk : k < l.length := (List.getElem?_eq_some_iff.1 hx).1
  have : l.findIdx? p = some k := by
    rw [List.findIdx?_eq_some_iff_getElem]
    refine ⟨hk, ?_, ?_⟩
    · have := (List.getElem?_eq_some_iff.1 hx).2; rw [this]; exact hp
    · intro j hj; have := h j _ hj (List.getElem?_eq_getElem (by omega)); simp [this]
  rw [this]
theorem idxF_any {α : Type} (p : α → Bool) (l : List α) : decide (0 ≤ idxF p l) = l.any p := by
  unfold idxF
  cases h : l.findIdx? p with
  | none =>
    rw [List.findIdx?_eq_none_iff] at h
    have : l.any p = false := by rw [List.any_eq_false]; intro x hx; simpa using h x hx
    rw [this]; decide
  | some i =>
    have : l.any p = true := by
      rw [List.findIdx?_eq_some_iff_getElem] at h
      obtain ⟨hi, hp, _⟩ := h
      rw [List.any_eq_true]; exact ⟨_, List.getElem_mem hi, hp⟩
    rw [this]; simp
theorem idxF_le {α : Type} (p : α → Bool) (l : List α) : -1 ≤ idxF p l ∧ idxF p l ≤ l.length := by
  unfold idxF
  cases h : l.findIdx? p with
  | none => simp
  | some i =>
    rw [List.findIdx?_eq_some_iff_getElem] at h
    obtain ⟨hi, _⟩ := h
    simp; omega
theorem drop_at {α : Type} {l : List α} {k : Nat} {x : α} (h : l[k]? = some x) : l.drop k = x :: l.drop (k + 1) := by
  obtain ⟨hk, rfl⟩ := List.getElem?_eq_some_iff.1 h
  exact List.drop_eq_getElem_cons hk
theorem ret_bool {a b : Bool} (h : a = b) : Ending.returned (.bool a) = .returned (.bool b) := by rw [h]
theorem ret_int {k : IntKind} {a b : Int} (h : a = b) : Ending.returned (.int k a) = .returned (.int k b) := by rw [h]
end Go.Proofs.YtafdbgielmlihaaDoor
