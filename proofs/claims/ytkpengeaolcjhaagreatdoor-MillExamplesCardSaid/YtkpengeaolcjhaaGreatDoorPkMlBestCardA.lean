/- The words in which this proof speaks of memory: a slice that reads as a list, a predicate handed over as a function value. -/
import Derived.Test.YtkpengeaolcjhaaGreatDoorProg
import Derived.WalkKit
import Derived.Deep.LoopGhost
import Derived.Deep.QuietTactic
import Derived.BigQuiet
import Derived.Deep.RegionWith
import Derived.Deep.RegionHeld3
import Derived.Deep.DeepCutAuto
import Derived.Shelf.Abstract
import Derived.Laws.EntriesVeiled
import Derived.Lib.Hide
import Derived.Shelf.SlicesQ.Load
namespace Go.Proofs.YtkpengeaolcjhaaGreatDoor
open Go.RowKit Go.Shelf

/-- Of what was there nothing has turned. -/
abbrev Ext (w w' : World) : Prop := Below w.heap.size w w'
theorem Ext.refl (w : World) : Ext w w := Below.refl _ _
theorem Ext.trans {a b c : World} (h : Ext a b) (k : Ext b c) : Ext a c := Below.trans h (k.mono h.size)
theorem Ext.alloc {a w : World} (h : Ext a w) (o : Obj) : Ext a (w.alloc o) := Below.alloc h h.size o
theorem Ext.drew {a w : World} (h : Ext a w) : Ext a w.drew := Below.drew h
theorem Ext.setCell {a w : World} (h : Ext a w) {p : Addr} (hp : a.heap.size ≤ p.block) (u : Value) : Ext a (w.setCell p u) := Below.setCell h hp u
theorem Ext.al (w : World) (o : Obj) : Ext w (w.alloc o) := (Ext.refl w).alloc o
theorem Ext.cells {w w' : World} (h : Ext w w') : (∀ b o, b < w.heap.size → w'.cell? ⟨b, o, none⟩ = w.cell? ⟨b, o, none⟩) ∧ (∀ b o, b < w.heap.size → w'.frozen? ⟨b, o, none⟩ = w.frozen? ⟨b, o, none⟩) :=
  ⟨fun b o hb => h.cell (p := ⟨b, o, none⟩) hb, fun b o hb => h.frozen (p := ⟨b, o, none⟩) hb⟩

theorem Ext.use {w w' : World} (h : Ext w w') : (∀ b o, b < w.heap.size → w'.cell? ⟨b, o, none⟩ = w.cell? ⟨b, o, none⟩) ∧ (∀ b o, b < w.heap.size → w'.frozen? ⟨b, o, none⟩ = w.frozen? ⟨b, o, none⟩) ∧ w.heap.size ≤ w'.heap.size ∧ Hid (Ext w w') :=
  ⟨h.cells.1, h.cells.2, h.size, h⟩
theorem hmf (P : Program) : ∀ (fn : Fn) (first cap : Array Value) (w : World), (Instr.makeFunc fn first cap).run P w = .ok (.func fn first cap) w := fun _ _ _ _ => rfl

/-- The slice value v reads as the list l; an element takes sz cells. -/
def Sl {α : Type} (enc : α → List Value) (sz : Nat) (w : World) (v : Value) (l : List α) : Prop :=
  ∃ A c, v = .slice A l.length c ∧ l.length ≤ c ∧ c ≤ maxLen ∧
    (0 < l.length → ∃ b off, A = some ⟨b, off, none⟩ ∧ b < w.heap.size ∧ ∀ k x, l[k]? = some x → ∀ j u, (enc x)[j]? = some u → w.cell? ⟨b, off + k * sz + j, none⟩ = some u)
section
variable {α : Type} {enc : α → List Value} {sz : Nat} {w w' : World} {v : Value} {l : List α}
theorem Sl.ext (h : Sl enc sz w v l) (e : Ext w w') : Sl enc sz w' v l := by
  obtain ⟨A, c, hv, hl, hc, hx⟩ := h
  refine ⟨A, c, hv, hl, hc, fun h0 => ?_⟩
  obtain ⟨b, off, hA, hb, hcell⟩ := hx h0
  exact ⟨b, off, hA, Nat.lt_of_lt_of_le hb e.size, fun k x hk j u hu => (e.cell (p := ⟨b, off + k * sz + j, none⟩) hb).trans (hcell k x hk j u hu)⟩
theorem Sl.at_ {A : Option Addr} {n c : Nat} (h : Sl enc sz w (.slice A n c) l) {k : Nat} (hk : k < n) :
    ∃ b off x, A = some ⟨b, off, none⟩ ∧ l[k]? = some x ∧ b < w.heap.size ∧ ∀ W, Ext w W → ∀ j u, (enc x)[j]? = some u → W.cell? ⟨b, off + k * sz + j, none⟩ = some u := by
  obtain ⟨A', c', hv, hl, hc, hx⟩ := h
  injection hv with h1 h2 h3
  subst h1 h2 h3
  obtain ⟨b, off, hA, hb, hcell⟩ := hx (by omega)
  exact ⟨b, off, l[k], hA, List.getElem?_eq_getElem hk, hb, fun W hW j u hu => (hW.cell (p := ⟨b, off + k * sz + j, none⟩) hb).trans (hcell k _ (List.getElem?_eq_getElem hk) j u hu)⟩
theorem Sl.form (h : Sl enc sz w v l) : ∃ A n c, v = .slice A n c ∧ Hid (n = l.length) ∧ n ≤ c ∧ c ≤ 9223372036854775807 := by
  obtain ⟨A, c, hv, hl, hc, _⟩ := h
  exact ⟨A, _, c, hv, rfl, hl, hc⟩
/-- An element of several cells is read at once. -/
theorem Sl.row {P : Program} {b off k : Nat} {x : α} (h : ∀ j u, (enc x)[j]? = some u → w.cell? ⟨b, off + k * sz + j, none⟩ = some u) (hk : (enc x).length = sz) :
    Sem.run P (loadCellsFrom ⟨b, off + k * sz, none⟩ 0 sz #[]) w = .ok (enc x).toArray w :=
  run_loadCellsFrom_list P _ _ (enc x) sz hk (fun i u hi => by rw [Addr.add_lit]; exact h i u hi)
theorem Sl.nil (w : World) : Sl enc sz w (.slice none 0 0) ([] : List α) := ⟨none, 0, rfl, Nat.zero_le _, by decide, fun h => absurd h (by simp)⟩
theorem flatMap_at (henc : ∀ x, (enc x).length = sz) : ∀ (l : List α) (k : Nat) (x : α), l[k]? = some x → ∀ j u, (enc x)[j]? = some u → (l.flatMap enc)[k * sz + j]? = some u
  | [], k, x, h, _, _, _ => by simp at h
  | y :: l, 0, x, h, j, u, hu => by
    simp at h; subst h
    have hj : j < (enc y).length := (List.getElem?_eq_some_iff.1 hu).1
    simpa [List.getElem?_append_left hj] using hu
  | y :: l, k + 1, x, h, j, u, hu => by
    have h' : l[k]? = some x := by simpa using h
    have := flatMap_at henc l k x h' j u hu
    rw [List.flatMap_cons, List.getElem?_append_right (by rw [henc]; rw [Nat.succ_mul]; omega), henc]
    rw [← this]; congr 1; rw [Nat.succ_mul]; omega
theorem Sl.of_own {base : Nat} {e : TypeId} (henc : ∀ x, (enc x).length = sz) (h : w.ownsRow base e sz v l.length (l.flatMap enc)) : Sl enc sz w v l := by
  obtain ⟨hlen, h⟩ := h
  rcases h with ⟨rfl, h0⟩ | ⟨g, cap, cur, rfl, hg, hh, hcap, hmax, hsz, hx⟩
  · have : l = [] := List.eq_nil_of_length_eq_zero h0
    subst this
    exact Sl.nil w
  · refine ⟨_, cap, rfl, hcap, hmax, fun _ => ⟨g, 0, rfl, (Array.getElem?_eq_some_iff.1 hh).1, fun k x hk j u hu => ?_⟩⟩
    have hi := flatMap_at henc l k x hk j u hu
    rw [← hx] at hi
    have hi2 : cur.toList[k * sz + j]? = some u := by
      rw [List.getElem?_take] at hi
      split at hi
      · exact hi
      · cases hi
    rw [cell_of_row w g _ cur e (0, 0) hh]
    simpa using hi2
end

abbrev encI (n : Int) : List Value := [.int .i64 n]
abbrev SlI (w : World) (v : Value) (l : List Int) : Prop := Sl encI 1 w v l
theorem SlI.cell {w W : World} {b off k : Nat} {x : Int} (h : ∀ W, Ext w W → ∀ j u, (encI x)[j]? = some u → W.cell? ⟨b, off + k * 1 + j, none⟩ = some u) (hW : Ext w W) : W.cell? ⟨b, off + k, none⟩ = some (.int .i64 x) := by
  simpa using h W hW 0 _ rfl
/-- A slice literal of one number. -/
theorem SlI.one {w : World} {b : Nat} {t : TypeId} {x : Int} (h : w.heap[b]? = some (.cells #[.int .i64 x] t (0, 0))) : SlI w (.slice (some ⟨b, 0, none⟩) 1 1) [x] := by
  refine ⟨_, 1, rfl, by simp, by decide, fun _ => ⟨b, 0, rfl, (Array.getElem?_eq_some_iff.1 h).1, fun k y hk j u hu => ?_⟩⟩
  match k, hk with
  | 0, hk =>
    simp at hk; subst hk
    match j, hu with
    | 0, hu => simp at hu; subst hu; simp [World.cell?, h]

/-- A predicate on x, handed over as a function value. -/
def Pred {α : Type} (val : α → Value) (g : FuncId) (cap : Array Value) (p : α → Bool) (l : List α) (w : World) : Prop :=
  ∀ W x, x ∈ l → Ext w W → Calls Tryz.prog g (#[val x] ++ cap) W fun e W' => e = .returned (.bool (p x)) ∧ Ext W W'

/-! A call through a function value. -/
def callVal (v : Value) (vs : Array Value) : Sem Next := do
  let d ← Deferred.ofValue v vs
  invoke d.target d.args
@[go_sem ↓] theorem execOp_call_tmp (ρ : Operand → Value) (dst : Option Tmp) (t : Tmp) (xs : Array Operand) (ats : Array TypeId) (ty : TypeId) (pos : String) (after : Array Edge) (guard : Option (Nat × Bool)) :
    execOp ρ { dst, op := .call { callee := .value (.tmp t), args := xs, argTypes := ats }, type := ty, pos, after, guard } = callVal (ρ (.tmp t)) (xs.map ρ) := by
  simp only [execOp, resolve, callVal]
@[go_sem] theorem callVal_func (g : FuncId) (lb vs : Array Value) : callVal (.func (.func g) #[] lb) vs = callFunc g (vs ++ lb) := by
  simp only [callVal, Deferred.ofValue, Array.empty_append]
  rfl

/-- The first place at which p holds; -1. -/
def idxF {α : Type} (p : α → Bool) (l : List α) : Int := match l.findIdx? p with | some i => (i : Int) | none => -1
theorem idxF_none {α : Type} (p : α → Bool) (l : List α) (h : ∀ x ∈ l, p x = false) : idxF p l = -1 := by
  unfold idxF
  rw [List.findIdx?_eq_none_iff.2 (by simpa using h)]
theorem idxF_some {α : Type} (p : α → Bool) (l : List α) (k : Nat) (x : α) (hx : l[k]? = some x) (hp : p x = true) (h : ∀ j y, j < k → l[j]? = some y → p y = false) : idxF p l = k := by
  unfold idxF
  have hk : k < l.length := (List.getElem?_eq_some_iff.1 hx).1
  have : l.findIdx? p = some k := by
    rw [List.findIdx?_eq_some_iff_getElem]
    refine ⟨hk, ?_, ?_⟩
    · have := (List.getElem?_eq_some_iff.1 hx).2; rw [this]; exact hp
    · intro j hj; have := h j _ hj (List.getElem?_eq_getElem (by omega)); simp [this]
  rw [this]
theorem idxF_any {α : Type} (p : α → Bool) (l : List α) : decide (0 ≤ idxF p l) = l.any p := by
  unfold idxF
  cases h : l.findIdx? p with
  | none =>
    rw [List.findIdx?_eq_none_iff] at h
    have : l.any p = false := by rw [List.any_eq_false]; intro x hx; simpa using h x hx
    rw [this]; decide
  | some i =>
    have : l.any p = true := by
      rw [List.findIdx?_eq_some_iff_getElem] at h
      obtain ⟨hi, hp, _⟩ := h
      rw [List.any_eq_true]; exact ⟨_, List.getElem_mem hi, hp⟩
    rw [this]; simp
theorem drop_at {α : Type} {l : List α} {k : Nat} {x : α} (h : l[k]? = some x) : l.drop k = x :: l.drop (k + 1) := by
  obtain ⟨hk, rfl⟩ := List.getElem?_eq_some_iff.1 h
  exact List.drop_eq_getElem_cons hk
theorem ret_bool {a b : Bool} (h : a = b) : Ending.returned (.bool a) = .returned (.bool b) := by rw [h]
theorem ret_int {k : IntKind} {a b : Int} (h : a = b) : Ending.returned (.int k a) = .returned (.int k b) := by rw [h]
end Go.Proofs.YtkpengeaolcjhaaGreatDoor
/- Words for memory that a call makes itself: a block that is known whole, a slice of the call's own, append onto it. -/
namespace Go.Proofs.YtkpengeaolcjhaaGreatDoor
open Go.RowKit Go.Shelf

/-- Block g is just these cells, none frozen. -/
def Blk (w : World) (g : Nat) (t : TypeId) (cs : Array Value) : Prop := w.heap[g]? = some (.cells cs t (0, 0))
section
variable {w w' : World} {g : Nat} {t : TypeId} {cs : Array Value}
theorem Blk.lt (h : Blk w g t cs) : g < w.heap.size := (Array.getElem?_eq_some_iff.1 h).1
theorem Blk.cell (h : Blk w g t cs) (i : Nat) : w.cell? ⟨g, i, none⟩ = cs[i]? := cell_of_row w g i cs t (0, 0) h
theorem Blk.frozen (h : Blk w g t cs) (i : Nat) : w.frozen? ⟨g, i, none⟩ = false := by
  unfold Blk at h
  simp [World.frozen?, h]
theorem Blk.new (w : World) (t : TypeId) (cs : Array Value) : Blk (w.alloc (.cells cs t)) w.heap.size t cs := by
  show (w.heap.push _)[w.heap.size]? = _
  simp
theorem Blk.at_ {g : Nat} {t : TypeId} {cs : Array Value} {w : World} (h : g = w.heap.size) : Blk (w.alloc (.cells cs t)) g t cs := h ▸ Blk.new w t cs
theorem Blk.alloc (h : Blk w g t cs) (o : Obj) : Blk (w.alloc o) g t cs := (Below.heap_alloc w o g h.lt).trans h
theorem Blk.set_ (h : Blk w g t cs) (i : Nat) (u : Value) : Blk (w.setCell ⟨g, i, none⟩ u) g t (cs.setIfInBounds i u) := by
  unfold Blk at h ⊢
  simp [World.setCell, Array.getElem?_modify, h]
theorem Blk.far (h : Blk w g t cs) {p : Addr} (hp : g ≠ p.block) (u : Value) : Blk (w.setCell p u) g t cs := (Below.heap_setCell w p u g hp).trans h
theorem Blk.ext (h : Blk w g t cs) (e : Ext w w') : Blk w' g t cs := (e.block g h.lt).trans h
theorem Blk.below {B : Nat} (h : Blk w g t cs) (e : Below B w w') (hg : g < B) : Blk w' g t cs := (e.block g hg).trans h
theorem Blk.grown {row : Option Nat} (h : Blk w g t cs) (hb : w.grownBy w' row) (hg : some g ≠ row) : Blk w' g t cs := (hb.block g h.lt hg).trans h
end

theorem own_succ {W : World} {base : Nat} {e : TypeId} {size : Nat} {v : Value} {k : Nat} {xs : List Value} (h : W.ownsRow base e size v (k + 1) xs) : ∃ g cap, v = .slice (some ⟨g, 0, none⟩) (k + 1) cap ∧ base ≤ g := by
  rcases h.2 with ⟨_, h0⟩ | ⟨g, cap, _, rfl, hg, _⟩
  · omega
  · exact ⟨g, cap, rfl, hg⟩
theorem own_far {w : World} {base : Nat} {e : TypeId} {size : Nat} {v : Value} {n : Nat} {xs : List Value} (h : w.ownsRow base e size v n xs) {a : Addr} (ha : a.block < base) (u : Value) : (w.setCell a u).ownsRow base e size v n xs := by
  obtain ⟨h1, h2⟩ := h
  refine ⟨h1, ?_⟩
  rcases h2 with h2 | ⟨g, cap, cur, hv, hg, hh, r⟩
  · exact Or.inl h2
  · exact Or.inr ⟨g, cap, cur, hv, hg, by rw [Below.heap_setCell _ _ _ _ (by omega)]; exact hh, r⟩
theorem own_ext {w w' : World} {base : Nat} {e : TypeId} {size : Nat} {v : Value} {n : Nat} {xs : List Value} (h : w.ownsRow base e size v n xs) (he : Ext w w') : w'.ownsRow base e size v n xs := by
  obtain ⟨h1, h2⟩ := h
  refine ⟨h1, ?_⟩
  rcases h2 with h2 | ⟨g, cap, cur, hv, hg, hh, r⟩
  · exact Or.inl h2
  · exact Or.inr ⟨g, cap, cur, hv, hg, (he.block g (Array.getElem?_eq_some_iff.1 hh).1).trans hh, r⟩
theorem own_mono {w : World} {base base' : Nat} {e : TypeId} {size : Nat} {v : Value} {n : Nat} {xs : List Value} (h : w.ownsRow base e size v n xs) (hb : base' ≤ base) : w.ownsRow base' e size v n xs := by
  obtain ⟨h1, h2⟩ := h
  refine ⟨h1, ?_⟩
  rcases h2 with h2 | ⟨g, cap, cur, hv, hg, r⟩
  · exact Or.inl h2
  · exact Or.inr ⟨g, cap, cur, hv, Nat.le_trans hb hg, r⟩

/-- v is a slice of the call's own (blocks from base on) that holds l. -/
def Own {α : Type} (enc : α → List Value) (e : TypeId) (sz : Nat) (w : World) (base : Nat) (v : Value) (l : List α) : Prop := w.ownsRow base e sz v l.length (l.flatMap enc)
section
variable {α : Type} {enc : α → List Value} {e : TypeId} {sz : Nat} {w w' : World} {base : Nat} {v : Value} {l : List α}
theorem Own.nil (w : World) (base : Nat) : Own enc e sz w base (.slice none 0 0) ([] : List α) := World.ownsRow_nil _ _ _ _
theorem Own.sl (henc : ∀ x, (enc x).length = sz) (h : Own enc e sz w base v l) : Sl enc sz w v l := Sl.of_own henc h
theorem Own.ext (h : Own enc e sz w base v l) (he : Ext w w') : Own enc e sz w' base v l := own_ext h he
theorem Own.alloc (h : Own enc e sz w base v l) (o : Obj) : Own enc e sz (w.alloc o) base v l := World.ownsRow.alloc h o
theorem Own.far (h : Own enc e sz w base v l) {a : Addr} (ha : a.block < base) (u : Value) : Own enc e sz (w.setCell a u) base v l := own_far h ha u
theorem Own.mono {base' : Nat} (h : Own enc e sz w base v l) (hb : base' ≤ base) : Own enc e sz w base' v l := own_mono h hb
end

theorem cells1 {w : World} {b : Nat} {x : Value} (h0 : w.cell? ⟨b, 0, none⟩ = some x) : ∀ (j : Nat) (u : Value), [x][j]? = some u → w.cell? ⟨b, j, none⟩ = some u := by
  intro j u hu
  match j, hu with
  | 0, hu => simp at hu; subst hu; exact h0
theorem cells2 {w : World} {b : Nat} {x y : Value} (h0 : w.cell? ⟨b, 0, none⟩ = some x) (h1 : w.cell? ⟨b, 1, none⟩ = some y) : ∀ (j : Nat) (u : Value), [x, y][j]? = some u → w.cell? ⟨b, j, none⟩ = some u := by
  intro j u hu
  match j, hu with
  | 0, hu => simp at hu; subst hu; exact h0
  | 1, hu => simp at hu; subst hu; exact h1
theorem grown_tr {a b c : World} {row : Option Nat} (h : a.grownBy b row) (k : b.grownBy c row) : a.grownBy c row :=
  ⟨k.os.trans h.os, k.tape.trans h.tape, k.output.trans h.output, Nat.le_trans h.size k.size, fun i hi hne => (k.block i (Nat.lt_of_lt_of_le hi h.size) hne).trans (h.block i hi hne)⟩
theorem grown_ext {a b c : World} {row : Option Nat} (h : a.grownBy b row) (k : Ext b c) : a.grownBy c row :=
  grown_tr h ⟨k.os, k.tape, k.output, k.size, fun i hi _ => k.block i hi⟩
theorem grown_below {a b c : World} {row : Option Nat} (h : a.grownBy b row) (k : Below a.heap.size b c) : a.grownBy c row :=
  ⟨k.os.trans h.os, k.tape.trans h.tape, k.output.trans h.output, Nat.le_trans h.size k.size, fun i hi hne => (k.block i hi).trans (h.block i hi hne)⟩
theorem grown_set {a b : World} {g : Nat} (h : a.grownBy b (some g)) {p : Addr} (hp : p.block = g ∨ a.heap.size ≤ p.block) (u : Value) : a.grownBy (b.setCell p u) (some g) :=
  ⟨h.os, h.tape, h.output, by simpa [World.setCell] using h.size, fun i hi hne => (Below.heap_setCell b p u i (by
    rintro rfl
    rcases hp with hp | hp
    · exact hne (by rw [hp])
    · omega)).trans (h.block i hi hne)⟩

theorem own_kept {w W : World} {base g : Nat} {e : TypeId} {size : Nat} {v : Value} {n : Nat} {xs : List Value} (h : w.ownsRow base e size v n xs) (hg : w.grownBy W (some g)) (hlt : g < base) : W.ownsRow base e size v n xs := by
  obtain ⟨h1, h2⟩ := h
  refine ⟨h1, ?_⟩
  rcases h2 with h2 | ⟨r, cap, cur, hv, hb, hh, rest⟩
  · exact Or.inl h2
  · exact Or.inr ⟨r, cap, cur, hv, hb, (hg.block r (Array.getElem?_eq_some_iff.1 hh).1 (by intro h; injection h with h; omega)).trans hh, rest⟩

/-- append of one element, made of fresh cells in block b. -/
theorem wpList_app {α : Type} (enc : α → List Value) (t e : TypeId) (sz : Nat) (z : Value) (bytes : Nat) (ht : Tryz.prog.underlying t = some (.slice e))
    (hinfo : (Tryz.prog.info? e).map (fun i => (i.zero, i.size, i.bytes)) = some (some z, sz, bytes)) (hzs : z.cells.size = sz) (hsz : 0 < sz) (hbytes : bytes ≤ 1000)
    (henc : ∀ x, (enc x).length = sz) (h1 : ∀ x, ∀ u ∈ enc x, u.oneCell' = true)
    {ops : Array Oper} {rest : List Oper} {o : Oper} {a : Act} {Q : Exit → Act → World → Prop} {w : World} (hgd : o.guard = none) (s x : Operand)
    (ho : o.op = .call { callee := .builtin .append, args := #[s, x], argTypes := #[t, t] }) (base : Nat) (v : Value) (l : List α) (hs : a.eval s = v) (hown : Own enc e sz w base v l)
    (b c : Nat) (y : α) (hx : a.eval x = .slice (some ⟨b, 0, none⟩) 1 c) (hc : ∀ j u, (enc y)[j]? = some u → w.cell? ⟨b, j, none⟩ = some u) (hlen : l.length < 100000000000) (hbase : base ≤ w.heap.size)
    (h : ∀ g cap w', Own enc e sz w' base (.slice (some ⟨g, 0, none⟩) (l.length + 1) cap) (l ++ [y]) → base ≤ g → Below base w w' → w.grownBy w' v.ownBlock → wpList Tryz.prog ops Q rest (a.put o.dst (.slice (some ⟨g, 0, none⟩) (l.length + 1) cap)) w') :
    wpList Tryz.prog ops Q (o :: rest) a w := by
  obtain ⟨i0, hi, hz0, hz1, hz2⟩ := info_parts hinfo
  refine wpList_append_own w hgd s x t ho base e i0 z sz bytes ht hi hz0 hz1 hz2 hzs hsz v l.length (l.flatMap enc) hs hown ⟨b, 0, none⟩ 1 c (enc y) hx (by rw [henc]; omega) ?_ (h1 y) ?_ ?_ hbase ?_
  · intro j u hj
    rw [Addr.add_lit, Nat.zero_add]
    exact hc j u hj
  · unfold maxLen; omega
  · have : (l.length + 1) * bytes ≤ 100000000000 * 1000 := Nat.mul_le_mul (by omega) hbytes
    omega
  · intro v' w' hown' hgrow _
    obtain ⟨g, cap, hv, hg⟩ := own_succ hown'
    subst hv
    refine h g cap w' ?_ hg ?_ hgrow
    · unfold Own; rw [List.length_append, List.flatMap_append]; simpa using hown'
    · exact (Below.refl base w).grown hgrow hbase (fun k hk => (World.ownsRow.lt hown k hk).1)
end Go.Proofs.YtkpengeaolcjhaaGreatDoor
/- The walks of slices.IndexFunc and slices.ContainsFunc at numbers, of core.in and core.rising: each returns what the plain function says. -/
namespace Go.Proofs.YtkpengeaolcjhaaGreatDoor
open Go.RowKit Go.Shelf

def inB (lo hi n : Int) : Bool := decide (lo ≤ n) && decide (n ≤ hi)
theorem not_inB (lo hi n : Int) : (decide (n < lo) || decide (hi < n)) = !inB lo hi n := by
  unfold inB; rw [Bool.eq_iff_iff]; simp

set_option maxHeartbeats 400000 in
theorem f96_any (g : FuncId) (cap : Array Value) (eg : ∀ args w, (callFunc g args).run Tryz.prog w = .ok (.enter g args) w) (p : Int → Bool) (l : List Int) (v : Value) (w : World) (hs : SlI w v l) (hp : Pred (fun n => .int .i64 n) g cap p l w) :
    Calls Tryz.prog 96 #[v, .func (.func g) #[] cap] w fun e w' => e = .returned (.int .i64 (idxF p l)) ∧ Ext w w' := by
  obtain ⟨A, n, c, rfl, hn, hlc, hcm⟩ := hs.form
  have HP := Lib.hid hp; clear hp
  go_enter Tryz.func96, Tryz.ntmps96
  go_wp2
  go_loopg [5, 8] n (fun gg _ s8 wr => ∃ kk : Nat, kk ≤ n ∧ n - kk ≤ gg ∧ s8 = .int .i64 kk ∧ Aside (Ext w wr) ∧ Aside (∀ j y, j < kk → l[j]? = some y → p y = false))
  case atStart => exact ⟨0, Nat.zero_le _, by omega, rfl, Ext.refl w, fun j y hj => absurd hj (Nat.not_lt_zero _)⟩
  case round =>
    obtain ⟨kk, hkk, hg, rfl, BW, FA⟩ := hrel
    by_cases hlt : kk < n
    · have hltz : (kk : Int) < (n : Int) := by omega
      obtain ⟨b, off, x, rfl, hx, hb, hcell⟩ := hs.at_ hlt
      have c0 := SlI.cell hcell BW.out
      have hcall := HP.out wr x (List.mem_of_getElem? hx) BW.out
      have HX := Lib.hid hx; clear hx hcell hs
      cases hq : p x with
      | true =>
        rw [hq] at hcall
        have HC := Lib.hid hcall; clear hcall
        have HQ := Lib.hid hq; clear hq
        go_wp2_with (go_at_fn g; refine HC.out.mono ?_; rintro e w' ⟨rfl, hb'⟩)
        go_ret
        exact ⟨by rw [idxF_some p l kk x HX.out HQ.out FA.out]; rfl, BW.out.trans hb'⟩
      | false =>
        rw [hq] at hcall
        have HC := Lib.hid hcall; clear hcall
        have HQ := Lib.hid hq; clear hq
        go_wp2_with (go_at_fn g; refine HC.out.mono ?_; rintro e w' ⟨rfl, hb'⟩)
        go_roundg (n - (kk + 1))
        case measure => omega
        case rel => exact ⟨kk + 1, by omega, by omega, rfl, BW.out.trans hb', fun j y hj hy => by
          rcases Nat.lt_succ_iff_lt_or_eq.1 hj with h | rfl
          · exact FA.out j y h hy
          · rw [HX.out] at hy; cases hy; exact HQ.out⟩
    · have HE := Lib.hid (show kk = n by omega); clear hs
      go_wp2
      go_ret
      exact ⟨by rw [idxF_none p l (fun x hx => by obtain ⟨j, hj⟩ := List.getElem?_of_mem hx; exact FA.out j x (by have := (List.getElem?_eq_some_iff.1 hj).1; have := HE.out; have := hn.out; omega) hj)]; rfl, BW.out⟩

theorem f135_any (g : FuncId) (cap : Array Value) (eg : ∀ args w, (callFunc g args).run Tryz.prog w = .ok (.enter g args) w) (p : Int → Bool) (l : List Int) (v : Value) (w : World) (hs : SlI w v l) (hp : Pred (fun n => .int .i64 n) g cap p l w) :
    Calls Tryz.prog 135 #[v, .func (.func g) #[] cap] w fun e w' => e = .returned (.bool (l.any p)) ∧ Ext w w' := by
  have HP := Lib.hid hp; clear hp
  have HS := Lib.hid hs; clear hs
  go_enter Tryz.func135, Tryz.ntmps135
  go_wp2_with (go_at_call 96; refine (f96_any g cap eg p l v _ HS.out HP.out).mono ?_; rintro e w' ⟨rfl, hb'⟩)
  go_ret
  exact ⟨ret_bool (idxF_any p l), hb'⟩

theorem f136_any (lo hi n : Int) (B1 B2 : Nat) (w : World) (h1 : w.cell? ⟨B1, 0, none⟩ = some (.int .i64 lo)) (h2 : w.cell? ⟨B2, 0, none⟩ = some (.int .i64 hi)) :
    Calls Tryz.prog 136 #[.int .i64 n, .pointer (some ⟨B1, 0, none⟩), .pointer (some ⟨B2, 0, none⟩)] w fun e w' => e = .returned (.bool (!inB lo hi n)) ∧ Ext w w' := by
  go_enter Tryz.func136, Tryz.ntmps136
  go_wp2
  all_goals go_ret
  all_goals exact ⟨ret_bool (by rw [← not_inB]; try simp [*]), Ext.refl w⟩

theorem in_any (lo hi : Int) (l : List Int) (v : Value) (w : World) (hs : SlI w v l) :
    Calls Tryz.prog 101 #[.int .i64 lo, .int .i64 hi, v] w fun e w' => e = .returned (.bool (l.all (inB lo hi))) ∧ Ext w w' := by
  have hmf : ∀ (fn : Fn) (first cap : Array Value) (w : World), (Instr.makeFunc fn first cap).run Tryz.prog w = .ok (.func fn first cap) w := fun _ _ _ _ => rfl
  have HS := Lib.hid hs; clear hs
  go_enter Tryz.func101, Tryz.ntmps101
  go_wp2_with fail
  refine (f135_any 136 _ (enters_of Tryz.func136 (by kernel_rfl) rfl) (fun n => !inB lo hi n) l v _ ((HS.out.ext (Ext.al _ _)).ext (Ext.al _ _)) ?_).mono ?_
  · intro W x _ hW
    exact f136_any lo hi x w.heap.size (w.heap.size + 1) W ((hW.cell (p := ⟨w.heap.size, 0, none⟩) (by simp; omega)).trans (by simp [go_sem])) ((hW.cell (p := ⟨w.heap.size + 1, 0, none⟩) (by simp)).trans (by simp [go_sem]))
  rintro e w' ⟨rfl, hb'⟩
  go_wp2
  go_ret
  exact ⟨ret_bool (by simp [List.all_eq_not_any_not]), ((Ext.al _ _).trans (Ext.al _ _)).trans hb'⟩

theorem SlI.lit {W : World} {B : Nat} (xs : List Int) (hb : B < W.heap.size) (hm : xs.length ≤ maxLen) (hc : ∀ (j : Nat) (x : Int), xs[j]? = some x → W.cell? ⟨B, j, none⟩ = some (.int .i64 x)) : SlI W (.slice (some ⟨B, 0, none⟩) xs.length xs.length) xs := by
  refine ⟨_, _, rfl, Nat.le_refl _, hm, fun _ => ⟨B, 0, rfl, hb, fun k y hk j u hu => ?_⟩⟩
  match j, hu with
  | 0, hu => simp at hu; subst hu; simpa using hc k y hk
theorem in1_any (lo hi n : Int) (B : Nat) (W : World) (hb : B < W.heap.size) (hc : W.cell? ⟨B, 0, none⟩ = some (.int .i64 n)) :
    Calls Tryz.prog 101 #[.int .i64 lo, .int .i64 hi, .slice (some ⟨B, 0, none⟩) 1 1] W fun e w' => e = .returned (.bool (inB lo hi n)) ∧ Ext W w' :=
  (in_any lo hi [n] _ W (SlI.lit [n] hb (by simp [maxLen]) (fun j x hx => by match j, hx with | 0, hx => simp at hx; subst hx; exact hc))).mono fun e w' ⟨he, hw⟩ => ⟨by rw [he]; exact ret_bool (by simp), hw⟩
theorem in2_any (lo hi n m : Int) (B : Nat) (W : World) (hb : B < W.heap.size) (hc : W.cell? ⟨B, 0, none⟩ = some (.int .i64 n)) (hd : W.cell? ⟨B, 1, none⟩ = some (.int .i64 m)) :
    Calls Tryz.prog 101 #[.int .i64 lo, .int .i64 hi, .slice (some ⟨B, 0, none⟩) 2 2] W fun e w' => e = .returned (.bool (inB lo hi n && inB lo hi m)) ∧ Ext W w' :=
  (in_any lo hi [n, m] _ W (SlI.lit [n, m] hb (by simp [maxLen]) (fun j x hx => by match j, hx with | 0, hx => (simp at hx; subst hx; exact hc) | 1, hx => (simp at hx; subst hx; exact hd)))).mono fun e w' ⟨he, hw⟩ => ⟨by rw [he]; exact ret_bool (by simp), hw⟩

theorem in_one (lo hi n : Int) (v : Value) (W : World) (h : SlI W v [n]) :
    Calls Tryz.prog 101 #[.int .i64 lo, .int .i64 hi, v] W fun e w' => e = .returned (.bool (inB lo hi n)) ∧ Ext W w' :=
  (in_any lo hi [n] v W h).mono fun e w' ⟨he, hw⟩ => ⟨by rw [he]; exact ret_bool (by simp), hw⟩
theorem SlI.one1 {W : World} {B : Nat} {n : Int} (hb : B < W.heap.size) (hc : W.cell? ⟨B, 0, none⟩ = some (.int .i64 n)) : SlI W (.slice (some ⟨B, 0, none⟩) 1 1) [n] :=
  SlI.lit [n] hb (by simp [maxLen]) (fun j x hx => by match j, hx with | 0, hx => simp at hx; subst hx; exact hc)

def rightB (a b lo hi : Int) : Bool := (inB lo hi a && inB lo hi b) && decide (a ≤ b)
theorem right_any (a b lo hi : Int) (w : World) :
    Calls Tryz.prog 198 #[.agg #[.int .i64 a, .int .i64 b], .int .i64 lo, .int .i64 hi] w fun e w' => e = .returned (.bool (rightB a b lo hi)) ∧ Ext w w' := by
  go_enter Tryz.func198, Tryz.ntmps198
  go_wp2_with fail
  refine (in2_any lo hi a b _ _ (by simp) (by simp [go_sem]) (by simp [go_sem])).mono ?_
  rintro e w' ⟨rfl, hb⟩
  obtain ⟨hc, hf⟩ := hb.cells
  cases hA : (inB lo hi a && inB lo hi b)
  all_goals
    have HA := Lib.hid hA; clear hA
    go_wp2
    all_goals go_ret
    all_goals exact ⟨ret_bool (by unfold rightB; rw [HA.out]; rfl), ((Ext.al _ _).trans (Ext.al _ _)).trans hb⟩

def risingB : Int → List Int → Bool
  | _, [] => true
  | last, n :: l => inB (last + 1) 9999 n && risingB n l
end Go.Proofs.YtkpengeaolcjhaaGreatDoor
/- The plain data of the core layer, and what its functions say of them: no program in sight. -/
namespace Go.Proofs.YtkpengeaolcjhaaGreatDoor
open Go.RowKit Go.Shelf

structure Span where
  lo : Int
  hi : Int
structure Draw where
  number : Int
  layer : Int
  grade : Span
structure Weigh where
  number : Int
  pounds : Int
  damp : Span
structure Bale where
  id : Int
  layers : Int
  dry : Span
  draws : List Draw
  weighs : List Weigh

abbrev encS (s : Span) : List Value := [.int .i64 s.lo, .int .i64 s.hi]
abbrev encD (x : Draw) : List Value := [.int .i64 x.number, .int .i64 x.layer, .int .i64 x.grade.lo, .int .i64 x.grade.hi]
abbrev encW (x : Weigh) : List Value := [.int .i64 x.number, .int .i64 x.pounds, .int .i64 x.damp.lo, .int .i64 x.damp.hi]
abbrev valS (s : Span) : Value := .agg #[.int .i64 s.lo, .int .i64 s.hi]
abbrev valD (x : Draw) : Value := .agg #[.int .i64 x.number, .int .i64 x.layer, .int .i64 x.grade.lo, .int .i64 x.grade.hi]
abbrev valW (x : Weigh) : Value := .agg #[.int .i64 x.number, .int .i64 x.pounds, .int .i64 x.damp.lo, .int .i64 x.damp.hi]
abbrev valB (b : Bale) (dv wv : Value) : Value := .agg #[.int .i64 b.id, .int .i64 b.layers, .int .i64 b.dry.lo, .int .i64 b.dry.hi, dv, wv]
abbrev SlS (w : World) (v : Value) (l : List Span) : Prop := Sl encS 2 w v l
abbrev SlD (w : World) (v : Value) (l : List Draw) : Prop := Sl encD 4 w v l
abbrev SlW (w : World) (v : Value) (l : List Weigh) : Prop := Sl encW 4 w v l

theorem SlS.cells {w W : World} {b off k : Nat} {x : Span} (h : ∀ W, Ext w W → ∀ j u, (encS x)[j]? = some u → W.cell? ⟨b, off + k * 2 + j, none⟩ = some u) (hW : Ext w W) :
    W.cell? ⟨b, off + k * 2, none⟩ = some (.int .i64 x.lo) ∧ W.cell? ⟨b, off + k * 2 + 1, none⟩ = some (.int .i64 x.hi) :=
  ⟨by simpa using h W hW 0 _ rfl, h W hW 1 _ rfl⟩
theorem SlD.cells {w W : World} {b off k : Nat} {x : Draw} (h : ∀ W, Ext w W → ∀ j u, (encD x)[j]? = some u → W.cell? ⟨b, off + k * 4 + j, none⟩ = some u) (hW : Ext w W) :
    W.cell? ⟨b, off + k * 4, none⟩ = some (.int .i64 x.number) ∧ W.cell? ⟨b, off + k * 4 + 1, none⟩ = some (.int .i64 x.layer) ∧ W.cell? ⟨b, off + k * 4 + 2, none⟩ = some (.int .i64 x.grade.lo) ∧ W.cell? ⟨b, off + k * 4 + 3, none⟩ = some (.int .i64 x.grade.hi) :=
  ⟨by simpa using h W hW 0 _ rfl, h W hW 1 _ rfl, h W hW 2 _ rfl, h W hW 3 _ rfl⟩
theorem SlW.cells {w W : World} {b off k : Nat} {x : Weigh} (h : ∀ W, Ext w W → ∀ j u, (encW x)[j]? = some u → W.cell? ⟨b, off + k * 4 + j, none⟩ = some u) (hW : Ext w W) :
    W.cell? ⟨b, off + k * 4, none⟩ = some (.int .i64 x.number) ∧ W.cell? ⟨b, off + k * 4 + 1, none⟩ = some (.int .i64 x.pounds) ∧ W.cell? ⟨b, off + k * 4 + 2, none⟩ = some (.int .i64 x.damp.lo) ∧ W.cell? ⟨b, off + k * 4 + 3, none⟩ = some (.int .i64 x.damp.hi) :=
  ⟨by simpa using h W hW 0 _ rfl, h W hW 1 _ rfl, h W hW 2 _ rfl, h W hW 3 _ rfl⟩
end Go.Proofs.YtkpengeaolcjhaaGreatDoor
/- The walks of slices.IndexFunc and slices.ContainsFunc at draws, weighings and spans, of core.draws and core.weighs. -/
namespace Go.Proofs.YtkpengeaolcjhaaGreatDoor
open Go.RowKit Go.Shelf


set_option maxHeartbeats 400000 in
theorem f209_any (g : FuncId) (cap : Array Value) (eg : ∀ args w, (callFunc g args).run Tryz.prog w = .ok (.enter g args) w) (p : Draw → Bool) (l : List Draw) (v : Value) (w : World) (hs : SlD w v l) (hp : Pred valD g cap p l w) :
    Calls Tryz.prog 209 #[v, .func (.func g) #[] cap] w fun e w' => e = .returned (.int .i64 (idxF p l)) ∧ Ext w w' := by
  obtain ⟨A, n, c, rfl, hn, hlc, hcm⟩ := hs.form
  have HP := Lib.hid hp; clear hp
  go_enter Tryz.func209, Tryz.ntmps209
  go_wp2
  go_loopg [5, 8] n (fun gg _ s8 wr => ∃ kk : Nat, kk ≤ n ∧ n - kk ≤ gg ∧ s8 = .int .i64 kk ∧ Aside (Ext w wr) ∧ Aside (∀ j y, j < kk → l[j]? = some y → p y = false))
  case atStart => exact ⟨0, Nat.zero_le _, by omega, rfl, Ext.refl w, fun j y hj => absurd hj (Nat.not_lt_zero _)⟩
  case round =>
    obtain ⟨kk, hkk, hg, rfl, BW, FA⟩ := hrel
    by_cases hlt : kk < n
    · have hltz : (kk : Int) < (n : Int) := by omega
      obtain ⟨b, off, x, rfl, hx, hb, hcell⟩ := hs.at_ hlt
      obtain ⟨c0, c1, c2, c3⟩ := SlD.cells hcell BW.out
      have hcall := HP.out wr x (List.mem_of_getElem? hx) BW.out
      have HX := Lib.hid hx; clear hx hcell hs
      cases hq : p x with
      | true =>
        rw [hq] at hcall
        have HC := Lib.hid hcall; clear hcall
        have HQ := Lib.hid hq; clear hq
        go_wp2_with (go_at_fn g; refine HC.out.mono ?_; rintro e w' ⟨rfl, hb'⟩)
        go_ret
        exact ⟨by rw [idxF_some p l kk x HX.out HQ.out FA.out]; rfl, BW.out.trans hb'⟩
      | false =>
        rw [hq] at hcall
        have HC := Lib.hid hcall; clear hcall
        have HQ := Lib.hid hq; clear hq
        go_wp2_with (go_at_fn g; refine HC.out.mono ?_; rintro e w' ⟨rfl, hb'⟩)
        go_roundg (n - (kk + 1))
        case measure => omega
        case rel => exact ⟨kk + 1, by omega, by omega, rfl, BW.out.trans hb', fun j y hj hy => by
          rcases Nat.lt_succ_iff_lt_or_eq.1 hj with h | rfl
          · exact FA.out j y h hy
          · rw [HX.out] at hy; cases hy; exact HQ.out⟩
    · have HE := Lib.hid (show kk = n by omega); clear hs
      go_wp2
      go_ret
      exact ⟨by rw [idxF_none p l (fun x hx => by obtain ⟨j, hj⟩ := List.getElem?_of_mem hx; exact FA.out j x (by have := (List.getElem?_eq_some_iff.1 hj).1; have := HE.out; have := hn.out; omega) hj)]; rfl, BW.out⟩

theorem f204_any (g : FuncId) (cap : Array Value) (eg : ∀ args w, (callFunc g args).run Tryz.prog w = .ok (.enter g args) w) (p : Draw → Bool) (l : List Draw) (v : Value) (w : World) (hs : SlD w v l) (hp : Pred valD g cap p l w) :
    Calls Tryz.prog 204 #[v, .func (.func g) #[] cap] w fun e w' => e = .returned (.bool (l.any p)) ∧ Ext w w' := by
  have HP := Lib.hid hp; clear hp
  have HS := Lib.hid hs; clear hs
  go_enter Tryz.func204, Tryz.ntmps204
  go_wp2_with (go_at_call 209; refine (f209_any g cap eg p l v _ HS.out HP.out).mono ?_; rintro e w' ⟨rfl, hb'⟩)
  go_ret
  exact ⟨ret_bool (idxF_any p l), hb'⟩

set_option maxHeartbeats 400000 in
theorem f210_any (g : FuncId) (cap : Array Value) (eg : ∀ args w, (callFunc g args).run Tryz.prog w = .ok (.enter g args) w) (p : Weigh → Bool) (l : List Weigh) (v : Value) (w : World) (hs : SlW w v l) (hp : Pred valW g cap p l w) :
    Calls Tryz.prog 210 #[v, .func (.func g) #[] cap] w fun e w' => e = .returned (.int .i64 (idxF p l)) ∧ Ext w w' := by
  obtain ⟨A, n, c, rfl, hn, hlc, hcm⟩ := hs.form
  have HP := Lib.hid hp; clear hp
  go_enter Tryz.func210, Tryz.ntmps210
  go_wp2
  go_loopg [5, 8] n (fun gg _ s8 wr => ∃ kk : Nat, kk ≤ n ∧ n - kk ≤ gg ∧ s8 = .int .i64 kk ∧ Aside (Ext w wr) ∧ Aside (∀ j y, j < kk → l[j]? = some y → p y = false))
  case atStart => exact ⟨0, Nat.zero_le _, by omega, rfl, Ext.refl w, fun j y hj => absurd hj (Nat.not_lt_zero _)⟩
  case round =>
    obtain ⟨kk, hkk, hg, rfl, BW, FA⟩ := hrel
    by_cases hlt : kk < n
    · have hltz : (kk : Int) < (n : Int) := by omega
      obtain ⟨b, off, x, rfl, hx, hb, hcell⟩ := hs.at_ hlt
      obtain ⟨c0, c1, c2, c3⟩ := SlW.cells hcell BW.out
      have hcall := HP.out wr x (List.mem_of_getElem? hx) BW.out
      have HX := Lib.hid hx; clear hx hcell hs
      cases hq : p x with
      | true =>
        rw [hq] at hcall
        have HC := Lib.hid hcall; clear hcall
        have HQ := Lib.hid hq; clear hq
        go_wp2_with (go_at_fn g; refine HC.out.mono ?_; rintro e w' ⟨rfl, hb'⟩)
        go_ret
        exact ⟨by rw [idxF_some p l kk x HX.out HQ.out FA.out]; rfl, BW.out.trans hb'⟩
      | false =>
        rw [hq] at hcall
        have HC := Lib.hid hcall; clear hcall
        have HQ := Lib.hid hq; clear hq
        go_wp2_with (go_at_fn g; refine HC.out.mono ?_; rintro e w' ⟨rfl, hb'⟩)
        go_roundg (n - (kk + 1))
        case measure => omega
        case rel => exact ⟨kk + 1, by omega, by omega, rfl, BW.out.trans hb', fun j y hj hy => by
          rcases Nat.lt_succ_iff_lt_or_eq.1 hj with h | rfl
          · exact FA.out j y h hy
          · rw [HX.out] at hy; cases hy; exact HQ.out⟩
    · have HE := Lib.hid (show kk = n by omega); clear hs
      go_wp2
      go_ret
      exact ⟨by rw [idxF_none p l (fun x hx => by obtain ⟨j, hj⟩ := List.getElem?_of_mem hx; exact FA.out j x (by have := (List.getElem?_eq_some_iff.1 hj).1; have := HE.out; have := hn.out; omega) hj)]; rfl, BW.out⟩

theorem f207_any (g : FuncId) (cap : Array Value) (eg : ∀ args w, (callFunc g args).run Tryz.prog w = .ok (.enter g args) w) (p : Weigh → Bool) (l : List Weigh) (v : Value) (w : World) (hs : SlW w v l) (hp : Pred valW g cap p l w) :
    Calls Tryz.prog 207 #[v, .func (.func g) #[] cap] w fun e w' => e = .returned (.bool (l.any p)) ∧ Ext w w' := by
  have HP := Lib.hid hp; clear hp
  have HS := Lib.hid hs; clear hs
  go_enter Tryz.func207, Tryz.ntmps207
  go_wp2_with (go_at_call 210; refine (f210_any g cap eg p l v _ HS.out HP.out).mono ?_; rintro e w' ⟨rfl, hb'⟩)
  go_ret
  exact ⟨ret_bool (idxF_any p l), hb'⟩

set_option maxHeartbeats 400000 in
theorem f169_any (g : FuncId) (cap : Array Value) (eg : ∀ args w, (callFunc g args).run Tryz.prog w = .ok (.enter g args) w) (p : Span → Bool) (l : List Span) (v : Value) (w : World) (hs : SlS w v l) (hp : Pred valS g cap p l w) :
    Calls Tryz.prog 169 #[v, .func (.func g) #[] cap] w fun e w' => e = .returned (.int .i64 (idxF p l)) ∧ Ext w w' := by
  obtain ⟨A, n, c, rfl, hn, hlc, hcm⟩ := hs.form
  have HP := Lib.hid hp; clear hp
  go_enter Tryz.func169, Tryz.ntmps169
  go_wp2
  go_loopg [5, 8] n (fun gg _ s8 wr => ∃ kk : Nat, kk ≤ n ∧ n - kk ≤ gg ∧ s8 = .int .i64 kk ∧ Aside (Ext w wr) ∧ Aside (∀ j y, j < kk → l[j]? = some y → p y = false))
  case atStart => exact ⟨0, Nat.zero_le _, by omega, rfl, Ext.refl w, fun j y hj => absurd hj (Nat.not_lt_zero _)⟩
  case round =>
    obtain ⟨kk, hkk, hg, rfl, BW, FA⟩ := hrel
    by_cases hlt : kk < n
    · have hltz : (kk : Int) < (n : Int) := by omega
      obtain ⟨b, off, x, rfl, hx, hb, hcell⟩ := hs.at_ hlt
      obtain ⟨c0, c1⟩ := SlS.cells hcell BW.out
      have hcall := HP.out wr x (List.mem_of_getElem? hx) BW.out
      have HX := Lib.hid hx; clear hx hcell hs
      cases hq : p x with
      | true =>
        rw [hq] at hcall
        have HC := Lib.hid hcall; clear hcall
        have HQ := Lib.hid hq; clear hq
        go_wp2_with (go_at_fn g; refine HC.out.mono ?_; rintro e w' ⟨rfl, hb'⟩)
        go_ret
        exact ⟨by rw [idxF_some p l kk x HX.out HQ.out FA.out]; rfl, BW.out.trans hb'⟩
      | false =>
        rw [hq] at hcall
        have HC := Lib.hid hcall; clear hcall
        have HQ := Lib.hid hq; clear hq
        go_wp2_with (go_at_fn g; refine HC.out.mono ?_; rintro e w' ⟨rfl, hb'⟩)
        go_roundg (n - (kk + 1))
        case measure => omega
        case rel => exact ⟨kk + 1, by omega, by omega, rfl, BW.out.trans hb', fun j y hj hy => by
          rcases Nat.lt_succ_iff_lt_or_eq.1 hj with h | rfl
          · exact FA.out j y h hy
          · rw [HX.out] at hy; cases hy; exact HQ.out⟩
    · have HE := Lib.hid (show kk = n by omega); clear hs
      go_wp2
      go_ret
      exact ⟨by rw [idxF_none p l (fun x hx => by obtain ⟨j, hj⟩ := List.getElem?_of_mem hx; exact FA.out j x (by have := (List.getElem?_eq_some_iff.1 hj).1; have := HE.out; have := hn.out; omega) hj)]; rfl, BW.out⟩

theorem f164_any (g : FuncId) (cap : Array Value) (eg : ∀ args w, (callFunc g args).run Tryz.prog w = .ok (.enter g args) w) (p : Span → Bool) (l : List Span) (v : Value) (w : World) (hs : SlS w v l) (hp : Pred valS g cap p l w) :
    Calls Tryz.prog 164 #[v, .func (.func g) #[] cap] w fun e w' => e = .returned (.bool (l.any p)) ∧ Ext w w' := by
  have HP := Lib.hid hp; clear hp
  have HS := Lib.hid hs; clear hs
  go_enter Tryz.func164, Tryz.ntmps164
  go_wp2_with (go_at_call 169; refine (f169_any g cap eg p l v _ HS.out HP.out).mono ?_; rintro e w' ⟨rfl, hb'⟩)
  go_ret
  exact ⟨ret_bool (idxF_any p l), hb'⟩

/-! Numbers that are collected: 'out = append(out, n)'. -/
theorem Tryd_info3 : (Tryz.prog.info? 3).map (fun i => (i.zero, i.size, i.bytes)) = some (some (.int .i64 0), 1, 8) := by kernel_rfl
abbrev OwnI (w : World) (base : Nat) (v : Value) (l : List Int) : Prop := w.ownsRow base 3 1 v l.length (l.map (.int .i64))
theorem flatMap_encI : ∀ l : List Int, l.flatMap encI = l.map (.int .i64)
  | [] => rfl
  | x :: l => by rw [List.flatMap_cons, flatMap_encI l]; rfl
theorem OwnI.sl {w : World} {base : Nat} {v : Value} {l : List Int} (h : OwnI w base v l) : SlI w v l :=
  Sl.of_own (fun _ => rfl) (by rw [flatMap_encI]; exact h)

theorem wpList_app_i {ops : Array Oper} {rest : List Oper} {o : Oper} {a : Act} {Q : Exit → Act → World → Prop} {w : World} (hgd : o.guard = none) (s x : Operand)
    (ho : o.op = .call { callee := .builtin .append, args := #[s, x], argTypes := #[36, 36] }) (base : Nat) (v : Value) (l : List Int) (hs : a.eval s = v) (hown : OwnI w base v l)
    (b : Nat) (y : Int) (hx : a.eval x = .slice (some ⟨b, 0, none⟩) 1 1) (hc : w.cell? ⟨b, 0, none⟩ = some (.int .i64 y)) (hlen : l.length < 1099511627776) (hbase : base ≤ w.heap.size)
    (h : ∀ g cap w', OwnI w' base (.slice (some ⟨g, 0, none⟩) (l ++ [y]).length cap) (l ++ [y]) → base ≤ g → Below base w w' → w.grownBy w' v.ownBlock → wpList Tryz.prog ops Q rest (a.put o.dst (.slice (some ⟨g, 0, none⟩) (l.length + 1) cap)) w') :
    wpList Tryz.prog ops Q (o :: rest) a w := by
  obtain ⟨i0, hi, hz0, hz1, hz2⟩ := info_parts Tryd_info3
  refine wpList_append_own w hgd s x 36 ho base 3 i0 (.int .i64 0) 1 8 Tryz.underlying36 hi hz0 hz1 hz2 rfl (by decide) v l.length (l.map (.int .i64)) hs hown ⟨b, 0, none⟩ 1 1 [.int .i64 y] hx rfl ?_ ?_ ?_ ?_ hbase ?_
  · intro j u hj
    match j, hj with
    | 0, hj => simp at hj; subst hj; simpa [Addr.add] using hc
  · intro u hu; simp at hu; subst hu; rfl
  · unfold maxLen; omega
  · omega
  · intro v' w' hown' hgrow _
    obtain ⟨g, cap, hv, hg⟩ := own_succ hown'
    subst hv
    refine h g cap w' (by simpa [OwnI] using hown') hg ?_ hgrow
    exact (Below.refl base w).grown hgrow hbase (fun k hk => (hown.lt k hk).1)

set_option maxHeartbeats 400000 in
theorem f201_any (b : Bale) (dv wv : Value) (w : World) (hd : SlD w dv b.draws) (hw : SlW w wv b.weighs) (hlen : b.draws.length < 1000000) :
    Calls Tryz.prog 201 #[valB b dv wv] w fun e w' => ∃ v, e = .returned v ∧ SlI w' v (b.draws.map (·.number)) ∧ Ext w w' := by
  obtain ⟨A, n, cp, rfl, hn, hlc, hcm⟩ := hd.form
  obtain ⟨A2, n2, cp2, rfl, hn2, hlc2, hcm2⟩ := hw.form
  go_enter Tryz.func201, Tryz.ntmps201
  go_wp2
  go_loopg [3, 9] n (fun gg v s wr => ∃ kk : Nat, kk ≤ n ∧ n - kk ≤ gg ∧ s = .int .i64 kk ∧ Aside (OwnI wr (w.heap.size + 1) v ((b.draws.take kk).map (·.number))) ∧ Aside (Below (w.heap.size + 1) (w.alloc (.cells #[.int .i64 b.id, .int .i64 b.layers, .int .i64 b.dry.lo, .int .i64 b.dry.hi, .slice A n cp, .slice A2 n2 cp2] 61)) wr))
  case atStart => exact ⟨0, Nat.zero_le _, by omega, rfl, World.ownsRow_nil _ _ _ _, Below.refl _ _⟩
  case round =>
    obtain ⟨kk, hkk, hg, rfl, OW, BW⟩ := hrel
    by_cases hlt : kk < n
    · have hltz : (kk : Int) < (n : Int) := by omega
      obtain ⟨bb, off, x, rfl, hx, hb, hcell⟩ := hd.at_ hlt
      have hE : Ext w wr := (Ext.al w _).trans (BW.out.mono (by simp))
      obtain ⟨c0, c1, c2, c3⟩ := SlD.cells hcell hE
      have hsz : w.heap.size + 1 ≤ wr.heap.size := by have := BW.out.size; simpa using this
      have hl : (b.draws.take kk).length = kk := by have := hn.out; have := hn2.out; rw [List.length_take]; omega
      have htk : b.draws.take (kk + 1) = b.draws.take kk ++ [x] := by rw [List.take_add_one, hx]; rfl
      have HX := Lib.hid htk; clear hx hcell htk
      have HL := Lib.hid hl; clear hl
      have HE := Lib.hid hE; clear hE
      go_wp2_with (at_builtin; refine wpList_app_i rfl (.tmp 13) (.tmp 16) rfl (w.heap.size + 1) _ ((b.draws.take kk).map (·.number)) rfl ((OW.out.alloc _).alloc _) (wr.heap.size + 1) x.number rfl (by simp [go_sem]) (by rw [List.length_map, HL.out]; have := hn.out; have := hn2.out; omega) (by simp; omega) ?_)
      intro g cap w' hown hg2 hbel _
      have hb2 : Below (w.heap.size + 1) (w.alloc (.cells #[.int .i64 b.id, .int .i64 b.layers, .int .i64 b.dry.lo, .int .i64 b.dry.hi, .slice (some ⟨bb, off, none⟩) n cp, .slice A2 n2 cp2] 61)) w' := ((BW.out.alloc (by omega) _).alloc (by simp; omega) _).trans hbel
      have HO := Lib.hid hown; clear hown
      have HB := Lib.hid hb2; clear hb2 hbel
      go_wp2
      go_roundg (n - (kk + 1))
      case measure => omega
      case rel => exact ⟨kk + 1, by omega, by omega, rfl, by
        have := HO.out
        show OwnI w' (w.heap.size + 1) _ _
        rw [show (b.draws.take (kk + 1)).map (·.number) = (b.draws.take kk).map (·.number) ++ [x.number] from by rw [HX.out]; simp]
        simpa [List.length_map, HL.out] using this, HB.out⟩
    · have HE := Lib.hid (show kk = n by omega)
      go_wp2
      go_ret
      exact ⟨_, rfl, by have := OW.out.sl; rwa [List.take_of_length_le (by have := HE.out; have := hn.out; have := hn2.out; omega)] at this, (Ext.al w _).trans (BW.out.mono (by simp))⟩

set_option maxHeartbeats 400000 in
theorem f202_any (b : Bale) (dv wv : Value) (w : World) (hd : SlD w dv b.draws) (hw : SlW w wv b.weighs) (hlen : b.weighs.length < 1000000) :
    Calls Tryz.prog 202 #[valB b dv wv] w fun e w' => ∃ v, e = .returned v ∧ SlI w' v (b.weighs.map (·.number)) ∧ Ext w w' := by
  obtain ⟨A, n, cp, rfl, hn, hlc, hcm⟩ := hd.form
  obtain ⟨A2, n2, cp2, rfl, hn2, hlc2, hcm2⟩ := hw.form
  go_enter Tryz.func202, Tryz.ntmps202
  go_wp2
  go_loopg [3, 9] n2 (fun gg v s wr => ∃ kk : Nat, kk ≤ n2 ∧ n2 - kk ≤ gg ∧ s = .int .i64 kk ∧ Aside (OwnI wr (w.heap.size + 1) v ((b.weighs.take kk).map (·.number))) ∧ Aside (Below (w.heap.size + 1) (w.alloc (.cells #[.int .i64 b.id, .int .i64 b.layers, .int .i64 b.dry.lo, .int .i64 b.dry.hi, .slice A n cp, .slice A2 n2 cp2] 61)) wr))
  case atStart => exact ⟨0, Nat.zero_le _, by omega, rfl, World.ownsRow_nil _ _ _ _, Below.refl _ _⟩
  case round =>
    obtain ⟨kk, hkk, hg, rfl, OW, BW⟩ := hrel
    by_cases hlt : kk < n2
    · have hltz : (kk : Int) < (n2 : Int) := by omega
      obtain ⟨bb, off, x, rfl, hx, hb, hcell⟩ := hw.at_ hlt
      have hE : Ext w wr := (Ext.al w _).trans (BW.out.mono (by simp))
      obtain ⟨c0, c1, c2, c3⟩ := SlW.cells hcell hE
      have hsz : w.heap.size + 1 ≤ wr.heap.size := by have := BW.out.size; simpa using this
      have hl : (b.weighs.take kk).length = kk := by have := hn.out; have := hn2.out; rw [List.length_take]; omega
      have htk : b.weighs.take (kk + 1) = b.weighs.take kk ++ [x] := by rw [List.take_add_one, hx]; rfl
      have HX := Lib.hid htk; clear hx hcell htk
      have HL := Lib.hid hl; clear hl
      have HE := Lib.hid hE; clear hE
      go_wp2_with (at_builtin; refine wpList_app_i rfl (.tmp 13) (.tmp 16) rfl (w.heap.size + 1) _ ((b.weighs.take kk).map (·.number)) rfl ((OW.out.alloc _).alloc _) (wr.heap.size + 1) x.number rfl (by simp [go_sem]) (by rw [List.length_map, HL.out]; have := hn.out; have := hn2.out; omega) (by simp; omega) ?_)
      intro g cap w' hown hg2 hbel _
      have hb2 : Below (w.heap.size + 1) (w.alloc (.cells #[.int .i64 b.id, .int .i64 b.layers, .int .i64 b.dry.lo, .int .i64 b.dry.hi, .slice A n cp, .slice (some ⟨bb, off, none⟩) n2 cp2] 61)) w' := ((BW.out.alloc (by omega) _).alloc (by simp; omega) _).trans hbel
      have HO := Lib.hid hown; clear hown
      have HB := Lib.hid hb2; clear hb2 hbel
      go_wp2
      go_roundg (n2 - (kk + 1))
      case measure => omega
      case rel => exact ⟨kk + 1, by omega, by omega, rfl, by
        have := HO.out
        show OwnI w' (w.heap.size + 1) _ _
        rw [show (b.weighs.take (kk + 1)).map (·.number) = (b.weighs.take kk).map (·.number) ++ [x.number] from by rw [HX.out]; simp]
        simpa [List.length_map, HL.out] using this, HB.out⟩
    · have HE := Lib.hid (show kk = n2 by omega)
      go_wp2
      go_ret
      exact ⟨_, rfl, by have := OW.out.sl; rwa [List.take_of_length_le (by have := HE.out; have := hn.out; have := hn2.out; omega)] at this, (Ext.al w _).trans (BW.out.mono (by simp))⟩
end Go.Proofs.YtkpengeaolcjhaaGreatDoor
/- The walks of core.rising, of the four checks of a bale, and of core.Check. -/
namespace Go.Proofs.YtkpengeaolcjhaaGreatDoor
open Go.RowKit Go.Shelf
set_option maxRecDepth 100000

set_option maxHeartbeats 400000 in
theorem rising_any (l : List Int) (v : Value) (w : World) (hs : SlI w v l) :
    Calls Tryz.prog 200 #[v] w fun e w' => e = .returned (.bool (risingB 0 l)) ∧ Ext w w' := by
  obtain ⟨A, n, cp, rfl, hn, hlc, hcm⟩ := hs.form
  go_enter Tryz.func200, Tryz.ntmps200
  go_wp2
  go_loopg [3, 8] n (fun gg la s wr => ∃ (kk : Nat) (last : Int), kk ≤ n ∧ n - kk ≤ gg ∧ s = .int .i64 kk ∧ la = .int .i64 last ∧ 0 ≤ last ∧ last ≤ 9999 ∧ Aside (risingB 0 l = risingB last (l.drop kk)) ∧ Aside (Ext w wr))
  case atStart => exact ⟨0, 0, Nat.zero_le _, by omega, rfl, rfl, by omega, by omega, rfl, Ext.refl w⟩
  case round =>
    obtain ⟨kk, last, hkk, hg, rfl, rfl, h0, h9, RE, BW⟩ := hrel
    by_cases hlt : kk < n
    · have hltz : (kk : Int) < (n : Int) := by omega
      obtain ⟨b, off, x, rfl, hx, hb, hcell⟩ := hs.at_ hlt
      have c0 := SlI.cell hcell BW.out
      have HX := Lib.hid hx; clear hx hcell
      go_wp2_with fail
      refine (in1_any (last + 1) 9999 x _ _ (by simp) (by simp [go_sem])).mono ?_
      rintro e w' ⟨rfl, hb'⟩
      have hE := BW.out.trans ((Ext.al _ _).trans hb')
      have HE := Lib.hid hE; clear hE hb'
      cases hq : inB (last + 1) 9999 x
      · have HQ := Lib.hid hq; clear hq
        go_wp2
        go_ret
        exact ⟨ret_bool (by rw [RE.out, drop_at HX.out, risingB, HQ.out]; rfl), HE.out⟩
      · have hq' := hq
        unfold inB at hq'
        simp at hq'
        have h1 : 0 ≤ x := by omega
        have h2 : x ≤ 9999 := by omega
        have HQ := Lib.hid hq; clear hq hq'
        go_wp2
        go_roundg (n - (kk + 1))
        case measure => omega
        case rel => exact ⟨kk + 1, x, by omega, by omega, rfl, rfl, h1, h2, by show _ = _; rw [RE.out, drop_at HX.out, risingB, HQ.out]; rfl, HE.out⟩
    · have HE := Lib.hid (show kk = n by omega)
      go_wp2
      go_ret
      exact ⟨ret_bool (by rw [RE.out, List.drop_eq_nil_of_le (by have := HE.out; have := hn.out; omega)]; rfl), BW.out⟩

def chk1 (b : Bale) : Bool := (inB 1 9999 b.id && inB 1 5 b.layers) && rightB b.dry.lo b.dry.hi 1 600
set_option maxHeartbeats 400000 in
theorem f197_any (b : Bale) (dv wv : Value) (w : World) (hd : SlD w dv b.draws) (hw : SlW w wv b.weighs) :
    Calls Tryz.prog 197 #[valB b dv wv] w fun e w' => e = .returned (.bool (chk1 b)) ∧ Ext w w' := by
  obtain ⟨A, n, cp, rfl, hn, hlc, hcm⟩ := hd.form
  obtain ⟨A2, n2, cp2, rfl, hn2, hlc2, hcm2⟩ := hw.form
  go_enter Tryz.func197, Tryz.ntmps197
  go_wp2_with fail
  refine (in1_any 1 9999 b.id _ _ (by simp) (by simp [go_sem])).mono ?_
  rintro e w1 ⟨rfl, hb1⟩
  obtain ⟨hc, hf⟩ := hb1.cells
  have hz := hb1.size
  simp at hz
  have E1 := Lib.hid (((Ext.al w _).trans (Ext.al _ _)).trans hb1); clear hb1
  have hz1 : w.heap.size < w1.heap.size := by omega
  cases hA : inB 1 9999 b.id
  · have HA := Lib.hid hA; clear hA
    go_wp2
    go_ret
    exact ⟨ret_bool (by unfold chk1; rw [HA.out]; rfl), E1.out⟩
  have HA := Lib.hid hA; clear hA
  go_wp2_with fail
  refine (in1_any 1 5 b.layers _ _ (by simp) (by simp [go_sem])).mono ?_
  rintro e w2 ⟨rfl, hb2⟩
  obtain ⟨hc2, hf2⟩ := hb2.cells
  have hz := hb2.size
  simp at hz
  have hz2 : w.heap.size < w2.heap.size := by omega
  have hz12 : w1.heap.size < w2.heap.size := by omega
  have E2 := Lib.hid ((E1.out.trans (Ext.al _ _)).trans hb2); clear hb2 E1
  cases hB : inB 1 5 b.layers
  · have HB := Lib.hid hB; clear hB
    go_wp2
    go_ret
    exact ⟨ret_bool (by unfold chk1; rw [HA.out, HB.out]; rfl), E2.out⟩
  have HB := Lib.hid hB; clear hB
  go_wp2_with fail
  refine (right_any b.dry.lo b.dry.hi 1 600 _).mono ?_
  rintro e w3 ⟨rfl, hb3⟩
  have E3 := Lib.hid (E2.out.trans hb3); clear hb3 E2
  go_wp2
  go_ret
  exact ⟨ret_bool (by unfold chk1; rw [HA.out, HB.out]; rfl), E3.out⟩

def chk2 (b : Bale) : Bool := ((decide ((b.draws.length : Int) ≤ 10) && decide ((b.weighs.length : Int) ≤ 8)) && risingB 0 (b.draws.map (·.number))) && risingB 0 (b.weighs.map (·.number))
set_option maxHeartbeats 400000 in
theorem f199_any (b : Bale) (dv wv : Value) (w : World) (hd : SlD w dv b.draws) (hw : SlW w wv b.weighs) :
    Calls Tryz.prog 199 #[valB b dv wv] w fun e w' => e = .returned (.bool (chk2 b)) ∧ Ext w w' := by
  obtain ⟨A, n, cp, hdv, hn, hlc, hcm⟩ := hd.form
  obtain ⟨A2, n2, cp2, hwv, hn2, hlc2, hcm2⟩ := hw.form
  by_cases h10 : (n : Int) ≤ 10
  · have D1 := Lib.hid (show decide ((b.draws.length : Int) ≤ 10) = true by have := hn.out; simp; omega)
    by_cases h8 : (n2 : Int) ≤ 8
    · have D2 := Lib.hid (show decide ((b.weighs.length : Int) ≤ 8) = true by have := hn2.out; simp; omega)
      have F1 := fun W (h : Ext w W) => f201_any b dv wv W (hd.ext h) (hw.ext h) (by have := hn.out; omega)
      have F2 := fun W (h : Ext w W) => f202_any b dv wv W (hd.ext h) (hw.ext h) (by have := hn2.out; omega)
      subst hdv hwv
      have G1 := Lib.hid F1; have G2 := Lib.hid F2; clear F1 F2 hd hw
      go_enter Tryz.func199, Tryz.ntmps199
      go_wp2_with fail
      refine (G1.out _ (Ext.al _ _)).mono ?_
      rintro e w1 ⟨v1, rfl, hs1, hb1⟩
      have E1 := Lib.hid ((Ext.al _ _).trans hb1)
      obtain ⟨hc, hf, hz, -⟩ := hb1.use
      simp at hz
      clear hb1
      go_wp2_with fail
      refine (rising_any _ _ _ hs1).mono ?_
      rintro e w2 ⟨rfl, hb2⟩
      obtain ⟨hc2, hf2, hz2, -⟩ := hb2.use
      have hz12 : w.heap.size < w1.heap.size := by omega
      have E2 := Lib.hid (E1.out.trans hb2); clear hb2
      cases hA : risingB 0 (b.draws.map (·.number))
      · have HA := Lib.hid hA; clear hA
        go_wp2
        go_ret
        exact ⟨ret_bool (by unfold chk2; rw [D1.out, D2.out, HA.out]; rfl), E2.out⟩
      have HA := Lib.hid hA; clear hA
      go_wp2_with fail
      refine (G2.out _ E2.out).mono ?_
      rintro e w3 ⟨v3, rfl, hs3, hb3⟩
      have E3 := Lib.hid (E2.out.trans hb3); clear hb3
      go_wp2_with fail
      refine (rising_any _ _ _ hs3).mono ?_
      rintro e w4 ⟨rfl, hb4⟩
      have E4 := Lib.hid (E3.out.trans hb4); clear hb4
      go_wp2
      go_ret
      exact ⟨ret_bool (by unfold chk2; rw [D1.out, D2.out, HA.out]; rfl), E4.out⟩
    · have D2 := Lib.hid (show decide ((b.weighs.length : Int) ≤ 8) = false by have := hn2.out; simp; omega)
      subst hdv hwv
      clear hd hw
      go_enter Tryz.func199, Tryz.ntmps199
      go_wp2
      go_ret
      exact ⟨ret_bool (by unfold chk2; rw [D1.out, D2.out]; rfl), Ext.al _ _⟩
  · have D1 := Lib.hid (show decide ((b.draws.length : Int) ≤ 10) = false by have := hn.out; simp; omega)
    subst hdv hwv
    clear hd hw
    go_enter Tryz.func199, Tryz.ntmps199
    go_wp2
    go_ret
    exact ⟨ret_bool (by unfold chk2; rw [D1.out]; rfl), Ext.al _ _⟩

def badD (layers : Int) (x : Draw) : Bool := !inB 0 (layers - 1) x.layer || !rightB x.grade.lo x.grade.hi 1 9
def badW (x : Weigh) : Bool := !inB 1 1200 x.pounds || !rightB x.damp.lo x.damp.hi 0 200
theorem f205_any (layers : Int) (x : Draw) (B : Nat) (w : World) (hB : B < w.heap.size) (h : w.cell? ⟨B, 1, none⟩ = some (.int .i64 layers)) (h1 : 1 ≤ layers) (h5 : layers ≤ 5) :
    Calls Tryz.prog 205 #[valD x, .pointer (some ⟨B, 0, none⟩)] w fun e w' => e = .returned (.bool (badD layers x)) ∧ Ext w w' := by
  go_enter Tryz.func205, Tryz.ntmps205
  go_wp2_with fail
  refine (in1_any 0 (layers - 1) x.layer _ _ (by simp) (by simp [go_sem])).mono ?_
  rintro e w1 ⟨rfl, hb1⟩
  obtain ⟨hc, hf, hz, -⟩ := hb1.use
  simp at hz
  have hz1 : w.heap.size < w1.heap.size := by omega
  have E1 := Lib.hid (((Ext.al w _).trans (Ext.al _ _)).trans hb1); clear hb1
  cases hA : inB 0 (layers - 1) x.layer
  · have HA := Lib.hid hA; clear hA
    go_wp2
    go_ret
    exact ⟨ret_bool (by unfold badD; rw [HA.out]; rfl), E1.out⟩
  have HA := Lib.hid hA; clear hA
  go_wp2_with fail
  refine (right_any x.grade.lo x.grade.hi 1 9 _).mono ?_
  rintro e w3 ⟨rfl, hb3⟩
  have E3 := Lib.hid (E1.out.trans hb3); clear hb3
  go_wp2
  go_ret
  exact ⟨ret_bool (by unfold badD; rw [HA.out]; rfl), E3.out⟩
theorem f208_any (x : Weigh) (w : World) :
    Calls Tryz.prog 208 #[valW x] w fun e w' => e = .returned (.bool (badW x)) ∧ Ext w w' := by
  go_enter Tryz.func208, Tryz.ntmps208
  go_wp2_with fail
  refine (in1_any 1 1200 x.pounds _ _ (by simp) (by simp [go_sem])).mono ?_
  rintro e w1 ⟨rfl, hb1⟩
  obtain ⟨hc, hf, hz, -⟩ := hb1.use
  simp at hz
  have hz1 : w.heap.size < w1.heap.size := by omega
  have E1 := Lib.hid (((Ext.al w _).trans (Ext.al _ _)).trans hb1); clear hb1
  cases hA : inB 1 1200 x.pounds
  · have HA := Lib.hid hA; clear hA
    go_wp2
    go_ret
    exact ⟨ret_bool (by unfold badW; rw [HA.out]; rfl), E1.out⟩
  have HA := Lib.hid hA; clear hA
  go_wp2_with fail
  refine (right_any x.damp.lo x.damp.hi 0 200 _).mono ?_
  rintro e w3 ⟨rfl, hb3⟩
  have E3 := Lib.hid (E1.out.trans hb3); clear hb3
  go_wp2
  go_ret
  exact ⟨ret_bool (by unfold badW; rw [HA.out]; rfl), E3.out⟩

theorem f203_any (b : Bale) (dv wv : Value) (w : World) (hd : SlD w dv b.draws) (hw : SlW w wv b.weighs) (h1 : 1 ≤ b.layers) (h5 : b.layers ≤ 5) :
    Calls Tryz.prog 203 #[valB b dv wv] w fun e w' => e = .returned (.bool (!b.draws.any (badD b.layers))) ∧ Ext w w' := by
  have hmf := hmf Tryz.prog
  obtain ⟨A, n, cp, rfl, hn, hlc, hcm⟩ := hd.form
  obtain ⟨A2, n2, cp2, rfl, hn2, hlc2, hcm2⟩ := hw.form
  have HD := Lib.hid hd; clear hd hw
  go_enter Tryz.func203, Tryz.ntmps203
  go_wp2_with fail
  refine (f204_any 205 _ (enters_of Tryz.func205 (by kernel_rfl) rfl) (badD b.layers) b.draws _ _ (HD.out.ext (Ext.al _ _)) ?_).mono ?_
  · intro W x _ hW
    exact f205_any b.layers x w.heap.size W (by have := hW.size; simp at this; omega) ((hW.cell (p := ⟨w.heap.size, 1, none⟩) (by simp)).trans (by simp [go_sem])) h1 h5
  rintro e w1 ⟨rfl, hb1⟩
  generalize hr : b.draws.any (badD b.layers) = r
  have HR := Lib.hid hr; clear hr
  go_wp2
  go_ret
  exact ⟨ret_bool (congrArg (!·) HR.out.symm), (Ext.al _ _).trans hb1⟩
theorem f206_any (b : Bale) (dv wv : Value) (w : World) (hd : SlD w dv b.draws) (hw : SlW w wv b.weighs) :
    Calls Tryz.prog 206 #[valB b dv wv] w fun e w' => e = .returned (.bool (!b.weighs.any badW)) ∧ Ext w w' := by
  obtain ⟨A, n, cp, rfl, hn, hlc, hcm⟩ := hd.form
  obtain ⟨A2, n2, cp2, rfl, hn2, hlc2, hcm2⟩ := hw.form
  have HW := Lib.hid hw; clear hd hw
  go_enter Tryz.func206, Tryz.ntmps206
  go_wp2_with fail
  refine (f207_any 208 _ (enters_of Tryz.func208 (by kernel_rfl) rfl) badW b.weighs _ _ (HW.out.ext (Ext.al _ _)) ?_).mono ?_
  · intro W x _ hW
    exact f208_any x W
  rintro e w1 ⟨rfl, hb1⟩
  generalize hr : b.weighs.any badW = r
  have HR := Lib.hid hr; clear hr
  go_wp2
  go_ret
  exact ⟨ret_bool (congrArg (!·) HR.out.symm), (Ext.al _ _).trans hb1⟩

/-- The table of checks, as the program lays it. -/
def Tab (w : World) : Prop := 1 < w.heap.size ∧ w.cell? ⟨1, 0, none⟩ = some (.func (.func 197) #[] #[]) ∧ w.cell? ⟨1, 1, none⟩ = some (.func (.func 199) #[] #[]) ∧ w.cell? ⟨1, 2, none⟩ = some (.func (.func 203) #[] #[]) ∧ w.cell? ⟨1, 3, none⟩ = some (.func (.func 206) #[] #[])
theorem Tab.ext {w w' : World} (h : Tab w) (e : Ext w w') : Tab w' := by
  obtain ⟨h0, h1, h2, h3, h4⟩ := h
  exact ⟨Nat.lt_of_lt_of_le h0 e.size, (e.cells.1 _ _ h0).trans h1, (e.cells.1 _ _ h0).trans h2, (e.cells.1 _ _ h0).trans h3, (e.cells.1 _ _ h0).trans h4⟩

theorem tab_i0 (W : World) : Sem.run Tryz.prog (Instr.index 226 (.agg #[.func (.func 197) #[] #[], .func (.func 199) #[] #[], .func (.func 203) #[] #[], .func (.func 206) #[] #[]]) (.int .i64 0)) W = .ok (.agg #[.func (.func 197) #[] #[]]) W := by kernel_rfl
theorem tab_i1 (W : World) : Sem.run Tryz.prog (Instr.index 226 (.agg #[.func (.func 197) #[] #[], .func (.func 199) #[] #[], .func (.func 203) #[] #[], .func (.func 206) #[] #[]]) (.int .i64 1)) W = .ok (.agg #[.func (.func 199) #[] #[]]) W := by kernel_rfl
theorem tab_i2 (W : World) : Sem.run Tryz.prog (Instr.index 226 (.agg #[.func (.func 197) #[] #[], .func (.func 199) #[] #[], .func (.func 203) #[] #[], .func (.func 206) #[] #[]]) (.int .i64 2)) W = .ok (.agg #[.func (.func 203) #[] #[]]) W := by kernel_rfl
theorem tab_i3 (W : World) : Sem.run Tryz.prog (Instr.index 226 (.agg #[.func (.func 197) #[] #[], .func (.func 199) #[] #[], .func (.func 203) #[] #[], .func (.func 206) #[] #[]]) (.int .i64 3)) W = .ok (.agg #[.func (.func 206) #[] #[]]) W := by kernel_rfl
/-- Whether a bale is valid. -/
def valid (b : Bale) : Bool := chk1 b && (chk2 b && (!b.draws.any (badD b.layers) && !b.weighs.any badW))
def errB (ok : Bool) (e : Int) : Int := if ok then 0 else e
theorem chk1_layers {b : Bale} (h : chk1 b = true) : 1 ≤ b.layers ∧ b.layers ≤ 5 := by
  unfold chk1 inB at h
  simp at h
  omega
set_option maxHeartbeats 1000000 in
set_option maxHeartbeats 1000000 in
theorem check_any (b : Bale) (dv wv : Value) (w : World) (hT : Tab w) (hd : SlD w dv b.draws) (hw : SlW w wv b.weighs) :
    Calls Tryz.prog 133 #[valB b dv wv] w fun e w' => e = .returned (.int .i64 (errB (valid b) 30)) ∧ Ext w w' := by
  have i0 := tab_i0
  have i1 := tab_i1
  have i2 := tab_i2
  have i3 := tab_i3
  have HD := Lib.hid hd
  have HW := Lib.hid hw
  obtain ⟨A, n, cp, rfl, hn, hlc, hcm⟩ := hd.form
  obtain ⟨A2, n2, cp2, rfl, hn2, hlc2, hcm2⟩ := hw.form
  obtain ⟨h0, t0, t1, t2, t3⟩ := hT
  clear hd hw
  go_enter Tryz.func133, Tryz.ntmps133
  go_wp2
  go_loopg [6] 4 (fun gg s wr => ∃ i : Int, s = .int .i64 i ∧ (i = 0 ∨ i = 1 ∨ i = 2 ∨ i = 3 ∨ i = 4) ∧ (4 - i).toNat ≤ gg ∧ Aside ((0 < i → chk1 b = true) ∧ (1 < i → chk2 b = true) ∧ (2 < i → (!b.draws.any (badD b.layers)) = true) ∧ (3 < i → (!b.weighs.any badW) = true)) ∧
    Aside (Ext (w.alloc (.cells #[.int .i64 b.id, .int .i64 b.layers, .int .i64 b.dry.lo, .int .i64 b.dry.hi, .slice A n cp, .slice A2 n2 cp2] 61)) wr))
  case atStart => exact ⟨0, rfl, .inl rfl, by omega, ⟨by omega, by omega, by omega, by omega⟩, Ext.refl _⟩
  case round =>
    obtain ⟨i, rfl, hi, hg, CH, BW⟩ := hrel
    obtain ⟨hc, hf, hz, -⟩ := BW.out.use
    simp at hz
    have hz1 : w.heap.size < wr.heap.size := by omega
    have hE : Ext w wr := (Ext.al _ _).trans BW.out
    have HE := Lib.hid hE; clear hE
    have t0' := (HE.out.cells.1 _ 0 h0).trans t0
    rcases hi with rfl | rfl | rfl | rfl | rfl
    · go_wp2_with fail
      refine (f197_any b _ _ _ (HD.out.ext (HE.out.trans (Ext.al _ _))) (HW.out.ext (HE.out.trans (Ext.al _ _)))).mono ?_
      rintro e w' ⟨rfl, hb'⟩
      have E2 := Lib.hid ((BW.out.trans (Ext.al _ _)).trans hb'); clear hb'
      cases hq : chk1 b
      · have HQ := Lib.hid hq; clear hq
        go_wp2
        go_ret
        exact ⟨ret_int (by unfold errB valid; rw [HQ.out]; rfl), (Ext.al _ _).trans E2.out⟩
      · have HQ := Lib.hid hq; clear hq
        go_wp2
        go_roundg 3
        case measure => omega
        case rel => exact ⟨1, rfl, by omega, by omega, ⟨fun _ => HQ.out, by omega, by omega, by omega⟩, E2.out⟩
    · go_wp2_with fail
      refine (f199_any b _ _ _ (HD.out.ext (HE.out.trans (Ext.al _ _))) (HW.out.ext (HE.out.trans (Ext.al _ _)))).mono ?_
      rintro e w' ⟨rfl, hb'⟩
      have E2 := Lib.hid ((BW.out.trans (Ext.al _ _)).trans hb'); clear hb'
      cases hq : chk2 b
      · have HQ := Lib.hid hq; clear hq
        go_wp2
        go_ret
        exact ⟨ret_int (by unfold errB valid; rw [HQ.out, CH.out.1 (by omega)]; rfl), (Ext.al _ _).trans E2.out⟩
      · have HQ := Lib.hid hq; clear hq
        go_wp2
        go_roundg 2
        case measure => omega
        case rel => exact ⟨2, rfl, by omega, by omega, ⟨fun _ => CH.out.1 (by omega), fun _ => HQ.out, by omega, by omega⟩, E2.out⟩
    · have hl := chk1_layers (CH.out.1 (by omega))
      go_wp2_with fail
      refine (f203_any b _ _ _ (HD.out.ext (HE.out.trans (Ext.al _ _))) (HW.out.ext (HE.out.trans (Ext.al _ _))) hl.1 hl.2).mono ?_
      clear hl
      rintro e w' ⟨rfl, hb'⟩
      have E2 := Lib.hid ((BW.out.trans (Ext.al _ _)).trans hb'); clear hb'
      cases hq : (!b.draws.any (badD b.layers))
      · have HQ := Lib.hid hq; clear hq
        go_wp2
        go_ret
        exact ⟨ret_int (by unfold errB valid; rw [HQ.out, CH.out.1 (by omega), CH.out.2.1 (by omega)]; rfl), (Ext.al _ _).trans E2.out⟩
      · have HQ := Lib.hid hq; clear hq
        go_wp2
        go_roundg 1
        case measure => omega
        case rel => exact ⟨3, rfl, by omega, by omega, ⟨fun _ => CH.out.1 (by omega), fun _ => CH.out.2.1 (by omega), fun _ => HQ.out, by omega⟩, E2.out⟩
    · go_wp2_with fail
      refine (f206_any b _ _ _ (HD.out.ext (HE.out.trans (Ext.al _ _))) (HW.out.ext (HE.out.trans (Ext.al _ _)))).mono ?_
      rintro e w' ⟨rfl, hb'⟩
      have E2 := Lib.hid ((BW.out.trans (Ext.al _ _)).trans hb'); clear hb'
      cases hq : (!b.weighs.any badW)
      · have HQ := Lib.hid hq; clear hq
        go_wp2
        go_ret
        exact ⟨ret_int (by unfold errB valid; rw [HQ.out, CH.out.1 (by omega), CH.out.2.1 (by omega), CH.out.2.2.1 (by omega)]; rfl), (Ext.al _ _).trans E2.out⟩
      · have HQ := Lib.hid hq; clear hq
        go_wp2
        go_roundg 0
        case measure => omega
        case rel => exact ⟨4, rfl, by omega, by omega, ⟨fun _ => CH.out.1 (by omega), fun _ => CH.out.2.1 (by omega), fun _ => CH.out.2.2.1 (by omega), fun _ => HQ.out⟩, E2.out⟩
    · go_wp2
      go_ret
      exact ⟨ret_int (by unfold errB valid; rw [CH.out.1 (by omega), CH.out.2.1 (by omega), CH.out.2.2.1 (by omega), CH.out.2.2.2 (by omega)]; rfl), HE.out⟩
end Go.Proofs.YtkpengeaolcjhaaGreatDoor
/- The walks of the reference's within, Bale, Check and Great. -/
namespace Go.Proofs.YtkpengeaolcjhaaGreatDoor
open Go.RowKit Go.Shelf
set_option maxRecDepth 100000

theorem within_any (n lo hi : Int) (w : World) : Calls Tryz.prog 129 #[.int .i64 n, .int .i64 lo, .int .i64 hi] w fun e w' => e = .returned (.bool (inB lo hi n)) ∧ w = w' := by
  go_enter Tryz.func129, Tryz.ntmps129
  go_wp2
  all_goals go_ret
  all_goals exact ⟨ret_bool (by unfold inB; first | (simp [*]; done) | (simp [*]; omega)), rfl⟩

def refD (layers last : Int) (x : Draw) : Bool := ((inB (last + 1) 9999 x.number && inB 0 (layers - 1) x.layer) && inB 1 x.grade.hi x.grade.lo) && !decide (9 < x.grade.hi)
def refW (last : Int) (x : Weigh) : Bool := ((inB (last + 1) 9999 x.number && inB 1 1200 x.pounds) && inB 0 x.damp.hi x.damp.lo) && !decide (200 < x.damp.hi)
def refDs (layers : Int) : Int → List Draw → Bool
  | _, [] => true
  | last, x :: l => refD layers last x && refDs layers x.number l
def refWs : Int → List Weigh → Bool
  | _, [] => true
  | last, x :: l => refW last x && refWs x.number l
def refHead (b : Bale) : Bool := ((((inB 1 9999 b.id && inB 1 5 b.layers) && inB 1 b.dry.hi b.dry.lo) && !decide (600 < b.dry.hi)) && !decide (10 < (b.draws.length : Int))) && !decide (8 < (b.weighs.length : Int))
def refValid (b : Bale) : Bool := (refHead b && refDs b.layers 0 b.draws) && refWs 0 b.weighs

set_option maxHeartbeats 2000000 in
theorem refBale_any (b : Bale) (dv wv : Value) (w : World) (hd : SlD w dv b.draws) (hw : SlW w wv b.weighs) :
    Calls Tryz.prog 93 #[valB b dv wv] w fun e w' => e = .returned (.bool (refValid b)) ∧ Ext w w' := by
  have HD := Lib.hid hd
  have HW := Lib.hid hw
  obtain ⟨A, n, cp, rfl, hn, hlc, hcm⟩ := hd.form
  obtain ⟨A2, n2, cp2, rfl, hn2, hlc2, hcm2⟩ := hw.form
  clear hd hw
  have F : ∀ x, refHead b = x → x = false → refValid b = false := fun x h1 h2 => by unfold refValid; rw [h1, h2]; rfl
  have HF := Lib.hid F; clear F
  go_enter Tryz.func93, Tryz.ntmps93
  go_wp2_with fail
  refine (within_any b.id 1 9999 _).mono ?_
  rintro e w1 ⟨rfl, rfl⟩
  cases hq : inB 1 9999 b.id
  · have HQ := Lib.hid hq; clear hq
    go_wp2
    go_ret
    exact ⟨ret_bool (HF.out _ rfl (by unfold refHead; rw [HQ.out]; rfl)).symm, Ext.al _ _⟩
  have HA := Lib.hid hq; clear hq
  go_wp2_with fail
  refine (within_any b.layers 1 5 _).mono ?_
  rintro e w1 ⟨rfl, rfl⟩
  cases hq : inB 1 5 b.layers
  · have HQ := Lib.hid hq; clear hq
    go_wp2
    go_ret
    exact ⟨ret_bool (HF.out _ rfl (by unfold refHead; rw [HA.out, HQ.out]; rfl)).symm, Ext.al _ _⟩
  have HB := Lib.hid hq; clear hq
  go_wp2_with fail
  refine (within_any b.dry.lo 1 b.dry.hi _).mono ?_
  rintro e w1 ⟨rfl, rfl⟩
  cases hq : inB 1 b.dry.hi b.dry.lo
  · have HQ := Lib.hid hq; clear hq
    go_wp2
    go_ret
    exact ⟨ret_bool (HF.out _ rfl (by unfold refHead; rw [HA.out, HB.out, HQ.out]; rfl)).symm, Ext.al _ _⟩
  have HC := Lib.hid hq; clear hq
  by_cases h6 : 600 < b.dry.hi
  · go_wp2
    go_ret
    exact ⟨ret_bool (HF.out _ rfl (by unfold refHead; rw [HA.out, HB.out, HC.out]; simp [h6])).symm, Ext.al _ _⟩
  by_cases h10 : (10 : Int) < n
  · go_wp2
    go_ret
    exact ⟨ret_bool (HF.out _ rfl (by unfold refHead; rw [HA.out, HB.out, HC.out]; have := hn.out; simp; omega)).symm, Ext.al _ _⟩
  by_cases h8 : (8 : Int) < n2
  · go_wp2
    go_ret
    exact ⟨ret_bool (HF.out _ rfl (by unfold refHead; rw [HA.out, HB.out, HC.out]; have := hn2.out; simp; omega)).symm, Ext.al _ _⟩
  have HH := Lib.hid (show refHead b = true by unfold refHead; rw [HA.out, HB.out, HC.out]; have := hn.out; have := hn2.out; simp; omega)
  have HL := HB.out
  unfold inB at HL
  simp at HL
  obtain ⟨hl1, hl5⟩ := HL
  clear HF
  go_wp2
  go_loopg [3, 49] n (fun gg la s wr => ∃ (kk : Nat) (last : Int), kk ≤ n ∧ n - kk ≤ gg ∧ s = .int .i64 kk ∧ la = .int .i64 last ∧ 0 ≤ last ∧ last ≤ 9999 ∧ Aside (refDs b.layers 0 b.draws = refDs b.layers last (b.draws.drop kk)) ∧ Aside (Ext (w.alloc (.cells #[.int .i64 b.id, .int .i64 b.layers, .int .i64 b.dry.lo, .int .i64 b.dry.hi, .slice A n cp, .slice A2 n2 cp2] 61)) wr))
  case atStart => exact ⟨0, 0, Nat.zero_le _, by omega, rfl, rfl, by omega, by omega, rfl, Ext.refl _⟩
  case round =>
    obtain ⟨kk, last, hkk, hg, rfl, rfl, h0, h9, RE, BW⟩ := hrel
    obtain ⟨hc, hf, hz, -⟩ := BW.out.use
    simp at hz
    have hz1 : w.heap.size < wr.heap.size := by omega
    by_cases hlt : kk < n
    · have hltz : (kk : Int) < (n : Int) := by omega
      obtain ⟨bb, off, x, rfl, hx, hb, hcell⟩ := HD.out.at_ hlt
      obtain ⟨c0, c1, c2, c3⟩ := SlD.cells hcell ((Ext.al w _).trans BW.out)
      have HX := Lib.hid hx; clear hx hcell hb
      have hE := (Ext.al w _).trans (BW.out.trans (Ext.al wr (.cells #[.int .i64 x.number, .int .i64 x.layer, .int .i64 x.grade.lo, .int .i64 x.grade.hi] 134)))
      have HE := Lib.hid hE; clear hE
      have F : refD b.layers last x = false → refValid b = false := fun h => by unfold refValid; rw [RE.out, drop_at HX.out, refDs, h]; simp
      have HF := Lib.hid F; clear F
      go_wp2_with fail
      refine (within_any x.number (last + 1) 9999 _).mono ?_
      rintro e w1 ⟨rfl, rfl⟩
      cases hq : inB (last + 1) 9999 x.number
      · have HQ := Lib.hid hq; clear hq
        go_wp2
        go_ret
        exact ⟨ret_bool (HF.out (by unfold refD; rw [HQ.out]; rfl)).symm, HE.out⟩
      have GA := Lib.hid hq; clear hq
      go_wp2_with fail
      refine (within_any x.layer 0 (b.layers - 1) _).mono ?_
      rintro e w1 ⟨rfl, rfl⟩
      cases hq : inB 0 (b.layers - 1) x.layer
      · have HQ := Lib.hid hq; clear hq
        go_wp2
        go_ret
        exact ⟨ret_bool (HF.out (by unfold refD; rw [GA.out, HQ.out]; rfl)).symm, HE.out⟩
      have GB := Lib.hid hq; clear hq
      go_wp2_with fail
      refine (within_any x.grade.lo 1 x.grade.hi _).mono ?_
      rintro e w1 ⟨rfl, rfl⟩
      cases hq : inB 1 x.grade.hi x.grade.lo
      · have HQ := Lib.hid hq; clear hq
        go_wp2
        go_ret
        exact ⟨ret_bool (HF.out (by unfold refD; rw [GA.out, GB.out, HQ.out]; rfl)).symm, HE.out⟩
      have GC := Lib.hid hq; clear hq
      by_cases hg9 : 9 < x.grade.hi
      · go_wp2
        go_ret
        exact ⟨ret_bool (HF.out (by unfold refD; rw [GA.out, GB.out, GC.out]; simp [hg9])).symm, HE.out⟩
      have hq' := GA.out
      unfold inB at hq'
      simp at hq'
      have i1 : 0 ≤ x.number := by omega
      have i2 : x.number ≤ 9999 := by omega
      have HR := Lib.hid (show refD b.layers last x = true by unfold refD; rw [GA.out, GB.out, GC.out]; simp; omega)
      clear hq' HF
      go_wp2
      go_roundg (n - (kk + 1))
      case measure => omega
      case rel => exact ⟨kk + 1, x.number, by omega, by omega, rfl, rfl, i1, i2, by show _ = _; rw [RE.out, drop_at HX.out, refDs, HR.out]; rfl, BW.out.trans (Ext.al _ _)⟩
    · have HK := Lib.hid (show kk = n by omega)
      have DD := Lib.hid (show refDs b.layers 0 b.draws = true by rw [RE.out, List.drop_eq_nil_of_le (by have := HK.out; have := hn.out; omega)]; rfl)
      obtain ⟨wo, hwo⟩ : ∃ wo : World, wo = wr := ⟨_, rfl⟩
      subst hwo
      go_wp2
      go_loopg [3, 90] n2 (fun gg la s wr => ∃ (kk : Nat) (last : Int), kk ≤ n2 ∧ n2 - kk ≤ gg ∧ s = .int .i64 kk ∧ la = .int .i64 last ∧ 0 ≤ last ∧ last ≤ 9999 ∧ Aside (refWs 0 b.weighs = refWs last (b.weighs.drop kk)) ∧ Aside (Ext (w.alloc (.cells #[.int .i64 b.id, .int .i64 b.layers, .int .i64 b.dry.lo, .int .i64 b.dry.hi, .slice A n cp, .slice A2 n2 cp2] 61)) wr))
      case atStart => exact ⟨0, 0, Nat.zero_le _, by omega, rfl, rfl, by omega, by omega, rfl, BW.out⟩
      case round =>
        clear hc hf hz hz1
        obtain ⟨kk, last, hkk, hg, rfl, rfl, h0, h9, RE, BW⟩ := hrel
        obtain ⟨hc, hf, hz, -⟩ := BW.out.use
        simp at hz
        have hz1 : w.heap.size < wr.heap.size := by omega
        by_cases hlt : kk < n2
        · have hltz : (kk : Int) < (n2 : Int) := by omega
          obtain ⟨bb, off, x, rfl, hx, hb, hcell⟩ := HW.out.at_ hlt
          obtain ⟨c0, c1, c2, c3⟩ := SlW.cells hcell ((Ext.al w _).trans BW.out)
          have HX := Lib.hid hx; clear hx hcell hb
          have hE := (Ext.al w _).trans (BW.out.trans (Ext.al wr (.cells #[.int .i64 x.number, .int .i64 x.pounds, .int .i64 x.damp.lo, .int .i64 x.damp.hi] 186)))
          have HE := Lib.hid hE; clear hE
          have F : refW last x = false → refValid b = false := fun h => by unfold refValid; rw [HH.out, DD.out, RE.out, drop_at HX.out, refWs, h]; simp
          have HF := Lib.hid F; clear F
          go_wp2_with fail
          refine (within_any x.number (last + 1) 9999 _).mono ?_
          rintro e w1 ⟨rfl, rfl⟩
          cases hq : inB (last + 1) 9999 x.number
          · have HQ := Lib.hid hq; clear hq
            go_wp2
            go_ret
            exact ⟨ret_bool (HF.out (by unfold refW; rw [HQ.out]; rfl)).symm, HE.out⟩
          have GA := Lib.hid hq; clear hq
          go_wp2_with fail
          refine (within_any x.pounds 1 1200 _).mono ?_
          rintro e w1 ⟨rfl, rfl⟩
          cases hq : inB 1 1200 x.pounds
          · have HQ := Lib.hid hq; clear hq
            go_wp2
            go_ret
            exact ⟨ret_bool (HF.out (by unfold refW; rw [GA.out, HQ.out]; rfl)).symm, HE.out⟩
          have GB := Lib.hid hq; clear hq
          go_wp2_with fail
          refine (within_any x.damp.lo 0 x.damp.hi _).mono ?_
          rintro e w1 ⟨rfl, rfl⟩
          cases hq : inB 0 x.damp.hi x.damp.lo
          · have HQ := Lib.hid hq; clear hq
            go_wp2
            go_ret
            exact ⟨ret_bool (HF.out (by unfold refW; rw [GA.out, GB.out, HQ.out]; rfl)).symm, HE.out⟩
          have GC := Lib.hid hq; clear hq
          by_cases hg9 : 200 < x.damp.hi
          · go_wp2
            go_ret
            exact ⟨ret_bool (HF.out (by unfold refW; rw [GA.out, GB.out, GC.out]; simp [hg9])).symm, HE.out⟩
          have hq' := GA.out
          unfold inB at hq'
          simp at hq'
          have i1 : 0 ≤ x.number := by omega
          have i2 : x.number ≤ 9999 := by omega
          have HR := Lib.hid (show refW last x = true by unfold refW; rw [GA.out, GB.out, GC.out]; simp; omega)
          clear hq' HF
          go_wp2
          go_roundg (n2 - (kk + 1))
          case measure => omega
          case rel => exact ⟨kk + 1, x.number, by omega, by omega, rfl, rfl, i1, i2, by show _ = _; rw [RE.out, drop_at HX.out, refWs, HR.out]; rfl, BW.out.trans (Ext.al _ _)⟩
        · have HK2 := Lib.hid (show kk = n2 by omega)
          go_wp2
          go_ret
          exact ⟨ret_bool (by unfold refValid; rw [HH.out, DD.out, RE.out, List.drop_eq_nil_of_le (by have := HK2.out; have := hn2.out; omega)]; rfl), (Ext.al w _).trans BW.out⟩

def greatB (b : Bale) : Bool := decide (20 < (b.draws.length : Int)) || decide (16 < (b.weighs.length : Int))
theorem great_any (b : Bale) (dv wv : Value) (w : World) (hd : SlD w dv b.draws) (hw : SlW w wv b.weighs) :
    Calls Tryz.prog 49 #[valB b dv wv] w fun e w' => e = .returned (.bool (greatB b)) ∧ Ext w w' := by
  obtain ⟨A, n, cp, rfl, hn, hlc, hcm⟩ := hd.form
  obtain ⟨A2, n2, cp2, rfl, hn2, hlc2, hcm2⟩ := hw.form
  clear hd hw
  go_enter Tryz.func49, Tryz.ntmps49
  go_wp2
  all_goals go_ret
  all_goals exact ⟨ret_bool (by unfold greatB; rw [← hn.out, ← hn2.out]; try simp [*]), Ext.al _ _⟩
end Go.Proofs.YtkpengeaolcjhaaGreatDoor
/- What is known of a bale's layers and of its dry weight: the reference's layers, dries and asked. -/
namespace Go.Proofs.YtkpengeaolcjhaaGreatDoor
open Go.RowKit Go.Shelf
set_option maxRecDepth 100000

def weight (d r : Int) : Int := d * (1000 + r) / 1000
theorem weight_bd {d r : Int} (h0 : 0 ≤ d) (h1 : d ≤ 1000000) (h2 : 0 ≤ r) (h3 : r ≤ 1000000) : 0 ≤ d * (1000 + r) ∧ d * (1000 + r) ≤ 1001000000000 :=
  ⟨Int.mul_nonneg h0 (by omega), by
    have := Int.mul_le_mul h1 (show 1000 + r ≤ 1001000 by omega) (by omega) (by omega)
    omega⟩
theorem f154_any (d r : Int) (w : World) (h0 : 0 ≤ d) (h1 : d ≤ 1000000) (h2 : 0 ≤ r) (h3 : r ≤ 1000000) : Calls Tryz.prog 154 #[.int .i64 d, .int .i64 r] w fun e w' => e = .returned (.int .i64 (weight d r)) ∧ w = w' := by
  obtain ⟨b0, b1⟩ := weight_bd h0 h1 h2 h3
  go_enter Tryz.func154, Tryz.ntmps154
  go_wp2
  go_ret
  exact ⟨ret_int rfl, rfl⟩
def could (d : Int) (x : Weigh) : Bool := inB (weight d x.damp.lo) (weight d x.damp.hi) x.pounds
def spanStep (i : Int) (s : Span) (x : Draw) : Span := if x.layer = i then ⟨max s.lo x.grade.lo, min s.hi x.grade.hi⟩ else s
def spanAt (ds : List Draw) (i : Int) : Span := ds.foldl (spanStep i) ⟨1, 9⟩
def spansTo (b : Bale) (k : Nat) : List Span := (List.range k).map fun (i : Nat) => spanAt b.draws (i : Int)
def spans (b : Bale) : List Span := spansTo b b.layers.toNat
def okS (s : Span) : Bool := decide (s.lo ≤ s.hi)
def grown (l : List Span) : Bool := l.all okS
theorem spansTo_succ (b : Bale) (k : Nat) : spansTo b (k + 1) = spansTo b k ++ [spanAt b.draws k] := by unfold spansTo; rw [List.range_succ]; simp
theorem spansTo_len (b : Bale) (k : Nat) : (spansTo b k).length = k := by simp [spansTo]
theorem foldl_snoc {α β : Type} (f : β → α → β) (s : β) (l : List α) (k : Nat) (x : α) (h : l[k]? = some x) : (l.take (k + 1)).foldl f s = f ((l.take k).foldl f s) x := by
  rw [List.take_add_one, h]; simp
theorem info57x : (Tryz.prog.info? 57).map (fun i => (i.zero, i.size, i.bytes)) = some (some (.agg #[.int .i64 0, .int .i64 0]), 2, 16) := by kernel_rfl
theorem encS_one : ∀ x : Span, ∀ u ∈ encS x, u.oneCell' = true := fun x u hu => by simp at hu; rcases hu with rfl | rfl <;> rfl

def LayersPost (b : Bale) (w : World) (e : Ending) (w' : World) : Prop := ∃ v, e = .returned (.tuple #[v, .bool (grown (spans b))]) ∧ (grown (spans b) = true → SlS w' v (spans b)) ∧ Ext w w'
theorem LayersPost.of {b : Bale} {w w' : World} {v : Value} {g : Bool} (hg : g = grown (spans b)) (hs : g = true → SlS w' v (spans b)) (hE : Ext w w') : LayersPost b w (.returned (.tuple #[v, .bool g])) w' := by
  subst hg; exact ⟨v, rfl, hs, hE⟩
end Go.Proofs.YtkpengeaolcjhaaGreatDoor
/- The dry weights that can be; whether a bale has a truth: the reference's dries, asked, True and Can. -/
namespace Go.Proofs.YtkpengeaolcjhaaGreatDoor
open Go.RowKit Go.Shelf
set_option maxRecDepth 100000

theorem info3x : (Tryz.prog.info? 3).map (fun i => (i.zero, i.size, i.bytes)) = some (some (.int .i64 0), 1, 8) := by kernel_rfl
theorem encI_one : ∀ x : Int, ∀ u ∈ encI x, u.oneCell' = true := fun x u hu => by simp at hu; subst hu; rfl
def driesTo (b : Bale) (k : Nat) : List Int := ((List.range k).map fun (i : Nat) => b.dry.lo + (i : Int)).filter fun d => b.weighs.all (could d)
def dries (b : Bale) : List Int := driesTo b (b.dry.hi - b.dry.lo + 1).toNat
theorem driesTo_succ (b : Bale) (k : Nat) : driesTo b (k + 1) = driesTo b k ++ (if b.weighs.all (could (b.dry.lo + k)) then [b.dry.lo + (k : Int)] else []) := by
  unfold driesTo; rw [List.range_succ, List.map_append, List.filter_append]; simp [List.filter_cons]
theorem driesTo_len (b : Bale) (k : Nat) : (driesTo b k).length ≤ k := by
  unfold driesTo; exact Nat.le_trans (List.length_filter_le _ _) (by simp)
theorem all_snoc {α : Type} (p : α → Bool) (l : List α) (k : Nat) (x : α) (h : l[k]? = some x) : (l.take (k + 1)).all p = ((l.take k).all p && p x) := by
  rw [List.take_add_one, h]; simp

/-- What validity says of the numbers. -/
structure Bds (b : Bale) : Prop where
  l1 : 1 ≤ b.layers
  l5 : b.layers ≤ 5
  lo : 1 ≤ b.dry.lo
  lh : b.dry.lo ≤ b.dry.hi
  hi : b.dry.hi ≤ 600
  nd : b.draws.length ≤ 10
  nw : b.weighs.length ≤ 8
  d : ∀ x ∈ b.draws, 0 ≤ x.layer ∧ x.layer < b.layers ∧ 1 ≤ x.grade.lo ∧ x.grade.lo ≤ x.grade.hi ∧ x.grade.hi ≤ 9
  w : ∀ x ∈ b.weighs, 1 ≤ x.pounds ∧ x.pounds ≤ 1200 ∧ 0 ≤ x.damp.lo ∧ x.damp.lo ≤ x.damp.hi ∧ x.damp.hi ≤ 200
theorem valid_bds {b : Bale} (h : valid b = true) : Bds b := by
  unfold valid chk1 chk2 at h
  simp only [Bool.and_eq_true, Bool.not_eq_true', decide_eq_true_eq, List.any_eq_false] at h
  obtain ⟨⟨⟨h1, h2⟩, h3⟩, ⟨⟨⟨h4, h5⟩, _⟩, _⟩, h6, h7⟩ := h
  unfold rightB at h3
  unfold inB at h1 h2 h3
  simp only [Bool.and_eq_true, decide_eq_true_eq] at h1 h2 h3
  refine ⟨by omega, by omega, by omega, by omega, by omega, by omega, by omega, fun x hx => ?_, fun x hx => ?_⟩
  · have := h6 x hx
    unfold badD rightB inB at this
    simp at this
    omega
  · have := h7 x hx
    unfold badW rightB inB at this
    simp at this
    omega

end Go.Proofs.YtkpengeaolcjhaaGreatDoor
