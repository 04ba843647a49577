/- The words in which this proof speaks of memory: a slice that reads as a list, a predicate handed over as a function value. -/
import Derived.Test.YtafdbgielmlihaaDoorProg
import Derived.WalkKit
import Derived.Deep.LoopGhost
import Derived.Deep.QuietTactic
import Derived.BigQuiet
import Derived.Deep.RegionWith
import Derived.Deep.RegionHeld3
import Derived.Deep.DeepCutAuto
import Derived.Shelf.Abstract
import Derived.Laws.EntriesVeiled
import Derived.Lib.Hide
import Derived.Shelf.SlicesQ.Load
import Derived.Orders
namespace Go.Proofs.YtafdbgielmlihaaDoor
open Go.RowKit Go.Shelf

/-- Of what was there nothing has turned. -/
abbrev Ext (w w' : World) : Prop := Below w.heap.size w w'
theorem Ext.refl (w : World) : Ext w w := Below.refl _ _
theorem Ext.trans {a b c : World} (h : Ext a b) (k : Ext b c) : Ext a c := Below.trans h (k.mono h.size)
theorem Ext.alloc {a w : World} (h : Ext a w) (o : Obj) : Ext a (w.alloc o) := Below.alloc h h.size o
theorem Ext.drew {a w : World} (h : Ext a w) : Ext a w.drew := Below.drew h
theorem Ext.setCell {a w : World} (h : Ext a w) {p : Addr} (hp : a.heap.size ≤ p.block) (u : Value) : Ext a (w.setCell p u) := Below.setCell h hp u
theorem Ext.al (w : World) (o : Obj) : Ext w (w.alloc o) := (Ext.refl w).alloc o
theorem Ext.cells {w w' : World} (h : Ext w w') : (∀ b o, b < w.heap.size → w'.cell? ⟨b, o, none⟩ = w.cell? ⟨b, o, none⟩) ∧ (∀ b o, b < w.heap.size → w'.frozen? ⟨b, o, none⟩ = w.frozen? ⟨b, o, none⟩) :=
  ⟨fun b o hb => h.cell (p := ⟨b, o, none⟩) hb, fun b o hb => h.frozen (p := ⟨b, o, none⟩) hb⟩

theorem Ext.use {w w' : World} (h : Ext w w') : (∀ b o, b < w.heap.size → w'.cell? ⟨b, o, none⟩ = w.cell? ⟨b, o, none⟩) ∧ (∀ b o, b < w.heap.size → w'.frozen? ⟨b, o, none⟩ = w.frozen? ⟨b, o, none⟩) ∧ w.heap.size ≤ w'.heap.size ∧ Hid (Ext w w') :=
  ⟨h.cells.1, h.cells.2, h.size, h⟩
theorem hmf (P : Program) : ∀ (fn : Fn) (first cap : Array Value) (w : World), (Instr.makeFunc fn first cap).run P w = .ok (.func fn first cap) w := fun _ _ _ _ => rfl

/-- The slice value v reads as the list l; an element takes sz cells. -/
def Sl {α : Type} (enc : α → List Value) (sz : Nat) (w : World) (v : Value) (l : List α) : Prop :=
  ∃ A c, v = .slice A l.length c ∧ l.length ≤ c ∧ c ≤ maxLen ∧
    (0 < l.length → ∃ b off, A = some ⟨b, off, none⟩ ∧ b < w.heap.size ∧ ∀ k x, l[k]? = some x → ∀ j u, (enc x)[j]? = some u → w.cell? ⟨b, off + k * sz + j, none⟩ = some u)
section
variable {α : Type} {enc : α → List Value} {sz : Nat} {w w' : World} {v : Value} {l : List α}
theorem Sl.ext (h : Sl enc sz w v l) (e : Ext w w') : Sl enc sz w' v l := by
  obtain ⟨A, c, hv, hl, hc, hx⟩ := h
  refine ⟨A, c, hv, hl, hc, fun h0 => ?_⟩
  obtain ⟨b, off, hA, hb, hcell⟩ := hx h0
  exact ⟨b, off, hA, Nat.lt_of_lt_of_le hb e.size, fun k x hk j u hu => (e.cell (p := ⟨b, off + k * sz + j, none⟩) hb).trans (hcell k x hk j u hu)⟩
theorem Sl.at_ {A : Option Addr} {n c : Nat} (h : Sl enc sz w (.slice A n c) l) {k : Nat} (hk : k < n) :
    ∃ b off x, A = some ⟨b, off, none⟩ ∧ l[k]? = some x ∧ b < w.heap.size ∧ ∀ W, Ext w W → ∀ j u, (enc x)[j]? = some u → W.cell? ⟨b, off + k * sz + j, none⟩ = some u := by
  obtain ⟨A', c', hv, hl, hc, hx⟩ := h
  injection hv with h1 h2 h3
  subst h1 h2 h3
  obtain ⟨b, off, hA, hb, hcell⟩ := hx (by omega)
  exact ⟨b, off, l[k], hA, List.getElem?_eq_getElem hk, hb, fun W hW j u hu => (hW.cell (p := ⟨b, off + k * sz + j, none⟩) hb).trans (hcell k _ (List.getElem?_eq_getElem hk) j u hu)⟩
theorem Sl.form (h : Sl enc sz w v l) : ∃ A n c, v = .slice A n c ∧ Hid (n = l.length) ∧ n ≤ c ∧ c ≤ 9223372036854775807 := by
  obtain ⟨A, c, hv, hl, hc, _⟩ := h
  exact ⟨A, _, c, hv, rfl, hl, hc⟩
/-- An element of several cells is read at once. -/
theorem Sl.row {P : Program} {b off k : Nat} {x : α} (h : ∀ j u, (enc x)[j]? = some u → w.cell? ⟨b, off + k * sz + j, none⟩ = some u) (hk : (enc x).length = sz) :
    Sem.run P (loadCellsFrom ⟨b, off + k * sz, none⟩ 0 sz #[]) w = .ok (enc x).toArray w :=
  run_loadCellsFrom_list P _ _ (enc x) sz hk (fun i u hi => by rw [Addr.add_lit]; exact h i u hi)
theorem Sl.nil (w : World) : Sl enc sz w (.slice none 0 0) ([] : List α) := ⟨none, 0, rfl, Nat.zero_le _, by decide, fun h => absurd h (by simp)⟩
theorem flatMap_at (henc : ∀ x, (enc x).length = sz) : ∀ (l : List α) (k : Nat) (x : α), l[k]? = some x → ∀ j u, (enc x)[j]? = some u → (l.flatMap enc)[k * sz + j]? = some u
  | [], k, x, h, _, _, _ => by simp at h
  | y :: l, 0, x, h, j, u, hu => by
    simp at h; subst h
    have hj : j < (enc y).length := (List.getElem?_eq_some_iff.1 hu).1
    simpa [List.getElem?_append_left hj] using hu
  | y :: l, k + 1, x, h, j, u, hu => by
    have h' : l[k]? = some x := by simpa using h
    have := flatMap_at henc l k x h' j u hu
    rw [List.flatMap_cons, List.getElem?_append_right (by rw [henc]; rw [Nat.succ_mul]; omega), henc]
    rw [← this]; congr 1; rw [Nat.succ_mul]; omega
theorem Sl.of_own {base : Nat} {e : TypeId} (henc : ∀ x, (enc x).length = sz) (h : w.ownsRow base e sz v l.length (l.flatMap enc)) : Sl enc sz w v l := by
  obtain ⟨hlen, h⟩ := h
  rcases h with ⟨rfl, h0⟩ | ⟨g, cap, cur, rfl, hg, hh, hcap, hmax, hsz, hx⟩
  · have : l = [] := List.eq_nil_of_length_eq_zero h0
    subst this
    exact Sl.nil w
  · refine ⟨_, cap, rfl, hcap, hmax, fun _ => ⟨g, 0, rfl, (Array.getElem?_eq_some_iff.1 hh).1, fun k x hk j u hu => ?_⟩⟩
    have hi := flatMap_at henc l k x hk j u hu
    rw [← hx] at hi
    have hi2 : cur.toList[k * sz + j]? = some u := by
      rw [List.getElem?_take] at hi
      split at hi
      · exact hi
      · cases hi
    rw [cell_of_row w g _ cur e (0, 0) hh]
    simpa using hi2
end

abbrev encI (n : Int) : List Value := [.int .i64 n]
abbrev SlI (w : World) (v : Value) (l : List Int) : Prop := Sl encI 1 w v l
theorem SlI.cell {w W : World} {b off k : Nat} {x : Int} (h : ∀ W, Ext w W → ∀ j u, (encI x)[j]? = some u → W.cell? ⟨b, off + k * 1 + j, none⟩ = some u) (hW : Ext w W) : W.cell? ⟨b, off + k, none⟩ = some (.int .i64 x) := by
  simpa using h W hW 0 _ rfl
/-- A slice literal of one number. -/
theorem SlI.one {w : World} {b : Nat} {t : TypeId} {x : Int} (h : w.heap[b]? = some (.cells #[.int .i64 x] t (0, 0))) : SlI w (.slice (some ⟨b, 0, none⟩) 1 1) [x] := by
  refine ⟨_, 1, rfl, by simp, by decide, fun _ => ⟨b, 0, rfl, (Array.getElem?_eq_some_iff.1 h).1, fun k y hk j u hu => ?_⟩⟩
  match k, hk with
  | 0, hk =>
    simp at hk; subst hk
    match j, hu with
    | 0, hu => simp at hu; subst hu; simp [World.cell?, h]

/-- A predicate on x, handed over as a function value. -/
def Pred {α : Type} (val : α → Value) (g : FuncId) (cap : Array Value) (p : α → Bool) (l : List α) (w : World) : Prop :=
  ∀ W x, x ∈ l → Ext w W → Calls Tryd.prog g (#[val x] ++ cap) W fun e W' => e = .returned (.bool (p x)) ∧ Ext W W'

/-! A call through a function value. -/
def callVal (v : Value) (vs : Array Value) : Sem Next := do
  let d ← Deferred.ofValue v vs
  invoke d.target d.args
@[go_sem ↓] theorem execOp_call_tmp (ρ : Operand → Value) (dst : Option Tmp) (t : Tmp) (xs : Array Operand) (ats : Array TypeId) (ty : TypeId) (pos : String) (after : Array Edge) (guard : Option (Nat × Bool)) :
    execOp ρ { dst, op := .call { callee := .value (.tmp t), args := xs, argTypes := ats }, type := ty, pos, after, guard } = callVal (ρ (.tmp t)) (xs.map ρ) := by
  simp only [execOp, resolve, callVal]
@[go_sem] theorem callVal_func (g : FuncId) (lb vs : Array Value) : callVal (.func (.func g) #[] lb) vs = callFunc g (vs ++ lb) := by
  simp only [callVal, Deferred.ofValue, Array.empty_append]
  rfl

/-- The first place at which p holds; -1. -/
def idxF {α : Type} (p : α → Bool) (l : List α) : Int := match l.findIdx? p with | some i => (i : Int) | none => -1
theorem idxF_none {α : Type} (p : α → Bool) (l : List α) (h : ∀ x ∈ l, p x = false) : idxF p l = -1 := by
  unfold idxF
  rw [List.findIdx?_eq_none_iff.2 (by simpa using h)]
theorem idxF_some {α : Type} (p : α → Bool) (l : List α) (k : Nat) (x : α) (hx : l[k]? = some x) (hp : p x = true) (h : ∀ j y, j < k → l[j]? = some y → p y = false) : idxF p l = k := by
  unfold idxF
  have hk : k < l.length := (List.getElem?_eq_some_iff.1 hx).1
  have : l.findIdx? p = some k := by
    rw [List.findIdx?_eq_some_iff_getElem]
    refine ⟨hk, ?_, ?_⟩
    · have := (List.getElem?_eq_some_iff.1 hx).2; rw [this]; exact hp
    · intro j hj; have := h j _ hj (List.getElem?_eq_getElem (by omega)); simp [this]
  rw [this]
theorem idxF_any {α : Type} (p : α → Bool) (l : List α) : decide (0 ≤ idxF p l) = l.any p := by
  unfold idxF
  cases h : l.findIdx? p with
  | none =>
    rw [List.findIdx?_eq_none_iff] at h
    have : l.any p = false := by rw [List.any_eq_false]; intro x hx; simpa using h x hx
    rw [this]; decide
  | some i =>
    have : l.any p = true := by
      rw [List.findIdx?_eq_some_iff_getElem] at h
      obtain ⟨hi, hp, _⟩ := h
      rw [List.any_eq_true]; exact ⟨_, List.getElem_mem hi, hp⟩
    rw [this]; simp
theorem drop_at {α : Type} {l : List α} {k : Nat} {x : α} (h : l[k]? = some x) : l.drop k = x :: l.drop (k + 1) := by
  obtain ⟨hk, rfl⟩ := List.getElem?_eq_some_iff.1 h
  exact List.drop_eq_getElem_cons hk
theorem ret_bool {a b : Bool} (h : a = b) : Ending.returned (.bool a) = .returned (.bool b) := by rw [h]
theorem ret_int {k : IntKind} {a b : Int} (h : a = b) : Ending.returned (.int k a) = .returned (.int k b) := by rw [h]
end Go.Proofs.YtafdbgielmlihaaDoor
/- Words for memory that a call makes itself: a block that is known whole, a slice of the call's own, append onto it. -/
namespace Go.Proofs.YtafdbgielmlihaaDoor
open Go.RowKit Go.Shelf

/-- Block g is just these cells, none frozen. -/
def Blk (w : World) (g : Nat) (t : TypeId) (cs : Array Value) : Prop := w.heap[g]? = some (.cells cs t (0, 0))
section
variable {w w' : World} {g : Nat} {t : TypeId} {cs : Array Value}
theorem Blk.lt (h : Blk w g t cs) : g < w.heap.size := (Array.getElem?_eq_some_iff.1 h).1
theorem Blk.cell (h : Blk w g t cs) (i : Nat) : w.cell? ⟨g, i, none⟩ = cs[i]? := cell_of_row w g i cs t (0, 0) h
theorem Blk.frozen (h : Blk w g t cs) (i : Nat) : w.frozen? ⟨g, i, none⟩ = false := by
  unfold Blk at h
  simp [World.frozen?, h]
theorem Blk.new (w : World) (t : TypeId) (cs : Array Value) : Blk (w.alloc (.cells cs t)) w.heap.size t cs := by
  show (w.heap.push _)[w.heap.size]? = _
  simp
theorem Blk.at_ {g : Nat} {t : TypeId} {cs : Array Value} {w : World} (h : g = w.heap.size) : Blk (w.alloc (.cells cs t)) g t cs := h ▸ Blk.new w t cs
theorem Blk.alloc (h : Blk w g t cs) (o : Obj) : Blk (w.alloc o) g t cs := (Below.heap_alloc w o g h.lt).trans h
theorem Blk.set_ (h : Blk w g t cs) (i : Nat) (u : Value) : Blk (w.setCell ⟨g, i, none⟩ u) g t (cs.setIfInBounds i u) := by
  unfold Blk at h ⊢
  simp [World.setCell, Array.getElem?_modify, h]
theorem Blk.far (h : Blk w g t cs) {p : Addr} (hp : g ≠ p.block) (u : Value) : Blk (w.setCell p u) g t cs := (Below.heap_setCell w p u g hp).trans h
theorem Blk.ext (h : Blk w g t cs) (e : Ext w w') : Blk w' g t cs := (e.block g h.lt).trans h
theorem Blk.below {B : Nat} (h : Blk w g t cs) (e : Below B w w') (hg : g < B) : Blk w' g t cs := (e.block g hg).trans h
theorem Blk.grown {row : Option Nat} (h : Blk w g t cs) (hb : w.grownBy w' row) (hg : some g ≠ row) : Blk w' g t cs := (hb.block g h.lt hg).trans h
end

theorem own_succ {W : World} {base : Nat} {e : TypeId} {size : Nat} {v : Value} {k : Nat} {xs : List Value} (h : W.ownsRow base e size v (k + 1) xs) : ∃ g cap, v = .slice (some ⟨g, 0, none⟩) (k + 1) cap ∧ base ≤ g := by
  rcases h.2 with ⟨_, h0⟩ | ⟨g, cap, _, rfl, hg, _⟩
  · omega
  · exact ⟨g, cap, rfl, hg⟩
theorem own_far {w : World} {base : Nat} {e : TypeId} {size : Nat} {v : Value} {n : Nat} {xs : List Value} (h : w.ownsRow base e size v n xs) {a : Addr} (ha : a.block < base) (u : Value) : (w.setCell a u).ownsRow base e size v n xs := by
  obtain ⟨h1, h2⟩ := h
  refine ⟨h1, ?_⟩
  rcases h2 with h2 | ⟨g, cap, cur, hv, hg, hh, r⟩
  · exact Or.inl h2
  · exact Or.inr ⟨g, cap, cur, hv, hg, by rw [Below.heap_setCell _ _ _ _ (by omega)]; exact hh, r⟩
theorem own_ext {w w' : World} {base : Nat} {e : TypeId} {size : Nat} {v : Value} {n : Nat} {xs : List Value} (h : w.ownsRow base e size v n xs) (he : Ext w w') : w'.ownsRow base e size v n xs := by
  obtain ⟨h1, h2⟩ := h
  refine ⟨h1, ?_⟩
  rcases h2 with h2 | ⟨g, cap, cur, hv, hg, hh, r⟩
  · exact Or.inl h2
  · exact Or.inr ⟨g, cap, cur, hv, hg, (he.block g (Array.getElem?_eq_some_iff.1 hh).1).trans hh, r⟩
theorem own_mono {w : World} {base base' : Nat} {e : TypeId} {size : Nat} {v : Value} {n : Nat} {xs : List Value} (h : w.ownsRow base e size v n xs) (hb : base' ≤ base) : w.ownsRow base' e size v n xs := by
  obtain ⟨h1, h2⟩ := h
  refine ⟨h1, ?_⟩
  rcases h2 with h2 | ⟨g, cap, cur, hv, hg, r⟩
  · exact Or.inl h2
  · exact Or.inr ⟨g, cap, cur, hv, Nat.le_trans hb hg, r⟩

/-- v is a slice of the call's own (blocks from base on) that holds l. -/
def Own {α : Type} (enc : α → List Value) (e : TypeId) (sz : Nat) (w : World) (base : Nat) (v : Value) (l : List α) : Prop := w.ownsRow base e sz v l.length (l.flatMap enc)
section
variable {α : Type} {enc : α → List Value} {e : TypeId} {sz : Nat} {w w' : World} {base : Nat} {v : Value} {l : List α}
theorem Own.nil (w : World) (base : Nat) : Own enc e sz w base (.slice none 0 0) ([] : List α) := World.ownsRow_nil _ _ _ _
theorem Own.sl (henc : ∀ x, (enc x).length = sz) (h : Own enc e sz w base v l) : Sl enc sz w v l := Sl.of_own henc h
theorem Own.ext (h : Own enc e sz w base v l) (he : Ext w w') : Own enc e sz w' base v l := own_ext h he
theorem Own.alloc (h : Own enc e sz w base v l) (o : Obj) : Own enc e sz (w.alloc o) base v l := World.ownsRow.alloc h o
theorem Own.far (h : Own enc e sz w base v l) {a : Addr} (ha : a.block < base) (u : Value) : Own enc e sz (w.setCell a u) base v l := own_far h ha u
theorem Own.mono {base' : Nat} (h : Own enc e sz w base v l) (hb : base' ≤ base) : Own enc e sz w base' v l := own_mono h hb
end

theorem cells1 {w : World} {b : Nat} {x : Value} (h0 : w.cell? ⟨b, 0, none⟩ = some x) : ∀ (j : Nat) (u : Value), [x][j]? = some u → w.cell? ⟨b, j, none⟩ = some u := by
  intro j u hu
  match j, hu with
  | 0, hu => simp at hu; subst hu; exact h0
theorem cells2 {w : World} {b : Nat} {x y : Value} (h0 : w.cell? ⟨b, 0, none⟩ = some x) (h1 : w.cell? ⟨b, 1, none⟩ = some y) : ∀ (j : Nat) (u : Value), [x, y][j]? = some u → w.cell? ⟨b, j, none⟩ = some u := by
  intro j u hu
  match j, hu with
  | 0, hu => simp at hu; subst hu; exact h0
  | 1, hu => simp at hu; subst hu; exact h1
theorem grown_tr {a b c : World} {row : Option Nat} (h : a.grownBy b row) (k : b.grownBy c row) : a.grownBy c row :=
  ⟨k.os.trans h.os, k.tape.trans h.tape, k.output.trans h.output, Nat.le_trans h.size k.size, fun i hi hne => (k.block i (Nat.lt_of_lt_of_le hi h.size) hne).trans (h.block i hi hne)⟩
theorem grown_ext {a b c : World} {row : Option Nat} (h : a.grownBy b row) (k : Ext b c) : a.grownBy c row :=
  grown_tr h ⟨k.os, k.tape, k.output, k.size, fun i hi _ => k.block i hi⟩
theorem grown_set {a b : World} {g : Nat} (h : a.grownBy b (some g)) {p : Addr} (hp : p.block = g ∨ a.heap.size ≤ p.block) (u : Value) : a.grownBy (b.setCell p u) (some g) :=
  ⟨h.os, h.tape, h.output, by simpa [World.setCell] using h.size, fun i hi hne => (Below.heap_setCell b p u i (by
    rintro rfl
    rcases hp with hp | hp
    · exact hne (by rw [hp])
    · omega)).trans (h.block i hi hne)⟩

theorem own_kept {w W : World} {base g : Nat} {e : TypeId} {size : Nat} {v : Value} {n : Nat} {xs : List Value} (h : w.ownsRow base e size v n xs) (hg : w.grownBy W (some g)) (hlt : g < base) : W.ownsRow base e size v n xs := by
  obtain ⟨h1, h2⟩ := h
  refine ⟨h1, ?_⟩
  rcases h2 with h2 | ⟨r, cap, cur, hv, hb, hh, rest⟩
  · exact Or.inl h2
  · exact Or.inr ⟨r, cap, cur, hv, hb, (hg.block r (Array.getElem?_eq_some_iff.1 hh).1 (by intro h; injection h with h; omega)).trans hh, rest⟩

/-- append of one element, made of fresh cells in block b. -/
theorem wpList_app {α : Type} (enc : α → List Value) (t e : TypeId) (sz : Nat) (z : Value) (bytes : Nat) (ht : Tryd.prog.underlying t = some (.slice e))
    (hinfo : (Tryd.prog.info? e).map (fun i => (i.zero, i.size, i.bytes)) = some (some z, sz, bytes)) (hzs : z.cells.size = sz) (hsz : 0 < sz) (hbytes : bytes ≤ 1000)
    (henc : ∀ x, (enc x).length = sz) (h1 : ∀ x, ∀ u ∈ enc x, u.oneCell' = true)
    {ops : Array Oper} {rest : List Oper} {o : Oper} {a : Act} {Q : Exit → Act → World → Prop} {w : World} (hgd : o.guard = none) (s x : Operand)
    (ho : o.op = .call { callee := .builtin .append, args := #[s, x], argTypes := #[t, t] }) (base : Nat) (v : Value) (l : List α) (hs : a.eval s = v) (hown : Own enc e sz w base v l)
    (b c : Nat) (y : α) (hx : a.eval x = .slice (some ⟨b, 0, none⟩) 1 c) (hc : ∀ j u, (enc y)[j]? = some u → w.cell? ⟨b, j, none⟩ = some u) (hlen : l.length < 100000000000) (hbase : base ≤ w.heap.size)
    (h : ∀ g cap w', Own enc e sz w' base (.slice (some ⟨g, 0, none⟩) (l.length + 1) cap) (l ++ [y]) → base ≤ g → Below base w w' → w.grownBy w' v.ownBlock → wpList Tryd.prog ops Q rest (a.put o.dst (.slice (some ⟨g, 0, none⟩) (l.length + 1) cap)) w') :
    wpList Tryd.prog ops Q (o :: rest) a w := by
  obtain ⟨i0, hi, hz0, hz1, hz2⟩ := info_parts hinfo
  refine wpList_append_own w hgd s x t ho base e i0 z sz bytes ht hi hz0 hz1 hz2 hzs hsz v l.length (l.flatMap enc) hs hown ⟨b, 0, none⟩ 1 c (enc y) hx (by rw [henc]; omega) ?_ (h1 y) ?_ ?_ hbase ?_
  · intro j u hj
    rw [Addr.add_lit, Nat.zero_add]
    exact hc j u hj
  · unfold maxLen; omega
  · have : (l.length + 1) * bytes ≤ 100000000000 * 1000 := Nat.mul_le_mul (by omega) hbytes
    omega
  · intro v' w' hown' hgrow _
    obtain ⟨g, cap, hv, hg⟩ := own_succ hown'
    subst hv
    refine h g cap w' ?_ hg ?_ hgrow
    · unfold Own; rw [List.length_append, List.flatMap_append]; simpa using hown'
    · exact (Below.refl base w).grown hgrow hbase (fun k hk => (World.ownsRow.lt hown k hk).1)
end Go.Proofs.YtafdbgielmlihaaDoor
/- The walks of slices.IndexFunc and slices.ContainsFunc at numbers, of core.in and core.rising: each returns what the plain function says. -/
namespace Go.Proofs.YtafdbgielmlihaaDoor
open Go.RowKit Go.Shelf

def inB (lo hi n : Int) : Bool := decide (lo ≤ n) && decide (n ≤ hi)
theorem not_inB (lo hi n : Int) : (decide (n < lo) || decide (hi < n)) = !inB lo hi n := by
  unfold inB; rw [Bool.eq_iff_iff]; simp

set_option maxHeartbeats 400000 in
theorem f124_any (g : FuncId) (cap : Array Value) (eg : ∀ args w, (callFunc g args).run Tryd.prog w = .ok (.enter g args) w) (p : Int → Bool) (l : List Int) (v : Value) (w : World) (hs : SlI w v l) (hp : Pred (fun n => .int .i64 n) g cap p l w) :
    Calls Tryd.prog 124 #[v, .func (.func g) #[] cap] w fun e w' => e = .returned (.int .i64 (idxF p l)) ∧ Ext w w' := by
  obtain ⟨A, n, c, rfl, hn, hlc, hcm⟩ := hs.form
  have HP := Lib.hid hp; clear hp
  go_enter Tryd.func124, Tryd.ntmps124
  go_wp2
  go_loopg [5, 8] n (fun gg _ s8 wr => ∃ kk : Nat, kk ≤ n ∧ n - kk ≤ gg ∧ s8 = .int .i64 kk ∧ Aside (Ext w wr) ∧ Aside (∀ j y, j < kk → l[j]? = some y → p y = false))
  case atStart => exact ⟨0, Nat.zero_le _, by omega, rfl, Ext.refl w, fun j y hj => absurd hj (Nat.not_lt_zero _)⟩
  case round =>
    obtain ⟨kk, hkk, hg, rfl, BW, FA⟩ := hrel
    by_cases hlt : kk < n
    · have hltz : (kk : Int) < (n : Int) := by omega
      obtain ⟨b, off, x, rfl, hx, hb, hcell⟩ := hs.at_ hlt
      have c0 := SlI.cell hcell BW.out
      have hcall := HP.out wr x (List.mem_of_getElem? hx) BW.out
      have HX := Lib.hid hx; clear hx hcell hs
      cases hq : p x with
      | true =>
        rw [hq] at hcall
        have HC := Lib.hid hcall; clear hcall
        have HQ := Lib.hid hq; clear hq
        go_wp2_with (go_at_fn g; refine HC.out.mono ?_; rintro e w' ⟨rfl, hb'⟩)
        go_ret
        exact ⟨by rw [idxF_some p l kk x HX.out HQ.out FA.out]; rfl, BW.out.trans hb'⟩
      | false =>
        rw [hq] at hcall
        have HC := Lib.hid hcall; clear hcall
        have HQ := Lib.hid hq; clear hq
        go_wp2_with (go_at_fn g; refine HC.out.mono ?_; rintro e w' ⟨rfl, hb'⟩)
        go_roundg (n - (kk + 1))
        case measure => omega
        case rel => exact ⟨kk + 1, by omega, by omega, rfl, BW.out.trans hb', fun j y hj hy => by
          rcases Nat.lt_succ_iff_lt_or_eq.1 hj with h | rfl
          · exact FA.out j y h hy
          · rw [HX.out] at hy; cases hy; exact HQ.out⟩
    · have HE := Lib.hid (show kk = n by omega); clear hs
      go_wp2
      go_ret
      exact ⟨by rw [idxF_none p l (fun x hx => by obtain ⟨j, hj⟩ := List.getElem?_of_mem hx; exact FA.out j x (by have := (List.getElem?_eq_some_iff.1 hj).1; have := HE.out; have := hn.out; omega) hj)]; rfl, BW.out⟩

theorem f114_any (g : FuncId) (cap : Array Value) (eg : ∀ args w, (callFunc g args).run Tryd.prog w = .ok (.enter g args) w) (p : Int → Bool) (l : List Int) (v : Value) (w : World) (hs : SlI w v l) (hp : Pred (fun n => .int .i64 n) g cap p l w) :
    Calls Tryd.prog 114 #[v, .func (.func g) #[] cap] w fun e w' => e = .returned (.bool (l.any p)) ∧ Ext w w' := by
  have HP := Lib.hid hp; clear hp
  have HS := Lib.hid hs; clear hs
  go_enter Tryd.func114, Tryd.ntmps114
  go_wp2_with (go_at_call 124; refine (f124_any g cap eg p l v _ HS.out HP.out).mono ?_; rintro e w' ⟨rfl, hb'⟩)
  go_ret
  exact ⟨ret_bool (idxF_any p l), hb'⟩

theorem f115_any (lo hi n : Int) (B1 B2 : Nat) (w : World) (h1 : w.cell? ⟨B1, 0, none⟩ = some (.int .i64 lo)) (h2 : w.cell? ⟨B2, 0, none⟩ = some (.int .i64 hi)) :
    Calls Tryd.prog 115 #[.int .i64 n, .pointer (some ⟨B1, 0, none⟩), .pointer (some ⟨B2, 0, none⟩)] w fun e w' => e = .returned (.bool (!inB lo hi n)) ∧ Ext w w' := by
  go_enter Tryd.func115, Tryd.ntmps115
  go_wp2
  all_goals go_ret
  all_goals exact ⟨ret_bool (by rw [← not_inB]; try simp [*]), Ext.refl w⟩

theorem in_any (lo hi : Int) (l : List Int) (v : Value) (w : World) (hs : SlI w v l) :
    Calls Tryd.prog 89 #[.int .i64 lo, .int .i64 hi, v] w fun e w' => e = .returned (.bool (l.all (inB lo hi))) ∧ Ext w w' := by
  have hmf : ∀ (fn : Fn) (first cap : Array Value) (w : World), (Instr.makeFunc fn first cap).run Tryd.prog w = .ok (.func fn first cap) w := fun _ _ _ _ => rfl
  have HS := Lib.hid hs; clear hs
  go_enter Tryd.func89, Tryd.ntmps89
  go_wp2_with fail
  refine (f114_any 115 _ (enters_of Tryd.func115 (by kernel_rfl) rfl) (fun n => !inB lo hi n) l v _ ((HS.out.ext (Ext.al _ _)).ext (Ext.al _ _)) ?_).mono ?_
  · intro W x _ hW
    exact f115_any lo hi x w.heap.size (w.heap.size + 1) W ((hW.cell (p := ⟨w.heap.size, 0, none⟩) (by simp; omega)).trans (by simp [go_sem])) ((hW.cell (p := ⟨w.heap.size + 1, 0, none⟩) (by simp)).trans (by simp [go_sem]))
  rintro e w' ⟨rfl, hb'⟩
  go_wp2
  go_ret
  exact ⟨ret_bool (by simp [List.all_eq_not_any_not]), ((Ext.al _ _).trans (Ext.al _ _)).trans hb'⟩

theorem SlI.lit {W : World} {B : Nat} (xs : List Int) (hb : B < W.heap.size) (hm : xs.length ≤ maxLen) (hc : ∀ (j : Nat) (x : Int), xs[j]? = some x → W.cell? ⟨B, j, none⟩ = some (.int .i64 x)) : SlI W (.slice (some ⟨B, 0, none⟩) xs.length xs.length) xs := by
  refine ⟨_, _, rfl, Nat.le_refl _, hm, fun _ => ⟨B, 0, rfl, hb, fun k y hk j u hu => ?_⟩⟩
  match j, hu with
  | 0, hu => simp at hu; subst hu; simpa using hc k y hk
theorem in1_any (lo hi n : Int) (B : Nat) (W : World) (hb : B < W.heap.size) (hc : W.cell? ⟨B, 0, none⟩ = some (.int .i64 n)) :
    Calls Tryd.prog 89 #[.int .i64 lo, .int .i64 hi, .slice (some ⟨B, 0, none⟩) 1 1] W fun e w' => e = .returned (.bool (inB lo hi n)) ∧ Ext W w' :=
  (in_any lo hi [n] _ W (SlI.lit [n] hb (by simp [maxLen]) (fun j x hx => by match j, hx with | 0, hx => simp at hx; subst hx; exact hc))).mono fun e w' ⟨he, hw⟩ => ⟨by rw [he]; exact ret_bool (by simp), hw⟩
theorem in2_any (lo hi n m : Int) (B : Nat) (W : World) (hb : B < W.heap.size) (hc : W.cell? ⟨B, 0, none⟩ = some (.int .i64 n)) (hd : W.cell? ⟨B, 1, none⟩ = some (.int .i64 m)) :
    Calls Tryd.prog 89 #[.int .i64 lo, .int .i64 hi, .slice (some ⟨B, 0, none⟩) 2 2] W fun e w' => e = .returned (.bool (inB lo hi n && inB lo hi m)) ∧ Ext W w' :=
  (in_any lo hi [n, m] _ W (SlI.lit [n, m] hb (by simp [maxLen]) (fun j x hx => by match j, hx with | 0, hx => (simp at hx; subst hx; exact hc) | 1, hx => (simp at hx; subst hx; exact hd)))).mono fun e w' ⟨he, hw⟩ => ⟨by rw [he]; exact ret_bool (by simp), hw⟩

def risingB : Int → List Int → Bool
  | _, [] => true
  | last, n :: l => inB (last + 1) 9999 n && risingB n l
end Go.Proofs.YtafdbgielmlihaaDoor
/- The plain data of the layer chain: chains, sales, what is handed; what is asked of them: no program in sight. -/
namespace Go.Proofs.YtafdbgielmlihaaDoor
open Go.RowKit Go.Shelf

structure Span where
  lo : Int
  hi : Int
structure Sale where
  number : Int
  seller : Int
  buyer : Int
  bales : Int
  price : Int
structure Handed where
  src : Int
  dest : Int
  bales : Int
structure Chn where
  houses : List Int
  sales : List Sale

abbrev encS (s : Span) : List Value := [.int .i64 s.lo, .int .i64 s.hi]
abbrev encL (x : Sale) : List Value := [.int .i64 x.number, .int .i64 x.seller, .int .i64 x.buyer, .int .i64 x.bales, .int .i64 x.price]
abbrev encH (x : Handed) : List Value := [.int .i64 x.src, .int .i64 x.dest, .int .i64 x.bales]
abbrev valL (x : Sale) : Value := .agg #[.int .i64 x.number, .int .i64 x.seller, .int .i64 x.buyer, .int .i64 x.bales, .int .i64 x.price]
abbrev valC (hv sv : Value) : Value := .agg #[hv, sv]
abbrev SlS (w : World) (v : Value) (l : List Span) : Prop := Sl encS 2 w v l
abbrev SlL (w : World) (v : Value) (l : List Sale) : Prop := Sl encL 5 w v l
abbrev SlH (w : World) (v : Value) (l : List Handed) : Prop := Sl encH 3 w v l
theorem SlS.cells {w W : World} {b off k : Nat} {x : Span} (h : ∀ W, Ext w W → ∀ j u, (encS x)[j]? = some u → W.cell? ⟨b, off + k * 2 + j, none⟩ = some u) (hW : Ext w W) :
    W.cell? ⟨b, off + k * 2, none⟩ = some (.int .i64 x.lo) ∧ W.cell? ⟨b, off + k * 2 + 1, none⟩ = some (.int .i64 x.hi) :=
  ⟨by simpa using h W hW 0 _ rfl, h W hW 1 _ rfl⟩
theorem SlL.cells {w W : World} {b off k : Nat} {x : Sale} (h : ∀ W, Ext w W → ∀ j u, (encL x)[j]? = some u → W.cell? ⟨b, off + k * 5 + j, none⟩ = some u) (hW : Ext w W) :
    W.cell? ⟨b, off + k * 5, none⟩ = some (.int .i64 x.number) ∧ W.cell? ⟨b, off + k * 5 + 1, none⟩ = some (.int .i64 x.seller) ∧ W.cell? ⟨b, off + k * 5 + 2, none⟩ = some (.int .i64 x.buyer) ∧ W.cell? ⟨b, off + k * 5 + 3, none⟩ = some (.int .i64 x.bales) ∧ W.cell? ⟨b, off + k * 5 + 4, none⟩ = some (.int .i64 x.price) :=
  ⟨by simpa using h W hW 0 _ rfl, h W hW 1 _ rfl, h W hW 2 _ rfl, h W hW 3 _ rfl, h W hW 4 _ rfl⟩
theorem SlH.cells {w W : World} {b off k : Nat} {x : Handed} (h : ∀ W, Ext w W → ∀ j u, (encH x)[j]? = some u → W.cell? ⟨b, off + k * 3 + j, none⟩ = some u) (hW : Ext w W) :
    W.cell? ⟨b, off + k * 3, none⟩ = some (.int .i64 x.src) ∧ W.cell? ⟨b, off + k * 3 + 1, none⟩ = some (.int .i64 x.dest) ∧ W.cell? ⟨b, off + k * 3 + 2, none⟩ = some (.int .i64 x.bales) :=
  ⟨by simpa using h W hW 0 _ rfl, h W hW 1 _ rfl, h W hW 2 _ rfl⟩

/-! What is asked. -/
def hasI (l : List Int) (x : Int) : Bool := l.any fun y => decide (x = y)
/-- A sale that cannot be. -/
def badS (H : List Int) (x : Sale) : Bool := decide (x.seller = x.buyer) || !hasI H x.seller || !hasI H x.buyer || !inB 1 9 x.bales || !inB 0 1000000 x.price
def rightP (c : Chn) : Bool := (decide (c.houses.length ≤ 6) && risingB 0 c.houses && risingB 0 (c.sales.map (·.number))) && !(c.sales.any (badS c.houses))
def checkP (c : Chn) : Bool := decide (c.sales.length ≤ 10) && rightP c
/-- The place of a house, of a sale. -/
def houseI (c : Chn) (id : Int) : Int := idxF (fun h => decide (h = id)) c.houses
def saleI (c : Chn) (n : Int) : Int := idxF (fun x : Sale => decide (x.number = n)) c.sales
def saleR (c : Chn) (last : Int) (x : Sale) : Bool := ((((inB (last + 1) 9999 x.number && decide (0 ≤ houseI c x.seller)) && decide (0 ≤ houseI c x.buyer)) && !decide (x.seller = x.buyer)) && inB 1 9 x.bales) && inB 0 1000000 x.price
def salesR (c : Chn) : Int → List Sale → Bool
  | _, [] => true
  | last, x :: l => saleR c last x && salesR c x.number l
def chainedR (c : Chn) : Bool := (decide (c.houses.length ≤ 6) && risingB 0 c.houses) && salesR c 0 c.sales
def chainR (c : Chn) : Bool := decide (c.sales.length ≤ 10) && chainedR c

theorem hasI_idx (l : List Int) (x : Int) : decide (0 ≤ idxF (fun h => decide (h = x)) l) = hasI l x := by
  rw [idxF_any]
  unfold hasI
  congr 1
  funext y
  exact decide_eq_decide.2 eq_comm
theorem salesR_eq (c : Chn) : ∀ (l : List Sale) (last : Int), salesR c last l = (risingB last (l.map (·.number)) && !(l.any (badS c.houses)))
  | [], _ => rfl
  | x :: l, last => by
    have e1 : decide (0 ≤ houseI c x.seller) = hasI c.houses x.seller := hasI_idx _ _
    have e2 : decide (0 ≤ houseI c x.buyer) = hasI c.houses x.buyer := hasI_idx _ _
    have e3 : badS c.houses x = (decide (x.seller = x.buyer) || !hasI c.houses x.seller || !hasI c.houses x.buyer || !inB 1 9 x.bales || !inB 0 1000000 x.price) := rfl
    simp only [salesR, saleR, List.map_cons, risingB, List.any_cons, salesR_eq c l]
    rw [e1, e2, e3]
    generalize inB (last + 1) 9999 x.number = a
    generalize hasI c.houses x.seller = b
    generalize hasI c.houses x.buyer = d
    generalize decide (x.seller = x.buyer) = e
    generalize inB 1 9 x.bales = f
    generalize inB 0 1000000 x.price = g
    generalize risingB x.number (l.map (·.number)) = h
    generalize l.any (badS c.houses) = i
    cases a <;> cases b <;> cases d <;> cases e <;> cases f <;> cases g <;> cases h <;> cases i <;> rfl
theorem chained_eq (c : Chn) : chainedR c = rightP c := by
  unfold chainedR rightP
  rw [salesR_eq, Bool.and_assoc, Bool.and_assoc, Bool.and_assoc]
theorem chain_eq (c : Chn) : chainR c = checkP c := by unfold chainR checkP; rw [chained_eq]

/-- What a right chain is good for. -/
structure Right (c : Chn) : Prop where
  h6 : c.houses.length ≤ 6
  hr : risingB 0 c.houses = true
  sr : risingB 0 (c.sales.map (·.number)) = true
  sale : ∀ x ∈ c.sales, x.seller ≠ x.buyer ∧ x.seller ∈ c.houses ∧ x.buyer ∈ c.houses ∧ (1 ≤ x.bales ∧ x.bales ≤ 9) ∧ (0 ≤ x.price ∧ x.price ≤ 1000000)
theorem inB_iff {lo hi n : Int} : inB lo hi n = true ↔ lo ≤ n ∧ n ≤ hi := by unfold inB; simp
theorem hasI_iff {l : List Int} {x : Int} : hasI l x = true ↔ x ∈ l := by
  unfold hasI
  rw [List.any_eq_true]
  constructor
  · rintro ⟨y, hy, h⟩; simp at h; subst h; exact hy
  · intro h; exact ⟨x, h, by simp⟩
theorem right_of {c : Chn} (h : rightP c = true) : Right c := by
  unfold rightP at h
  simp only [Bool.and_eq_true, decide_eq_true_eq, Bool.not_eq_true', List.any_eq_false] at h
  obtain ⟨⟨⟨h1, h2⟩, h3⟩, h4⟩ := h
  refine ⟨h1, h2, h3, fun x hx => ?_⟩
  have := h4 x hx
  simp only [badS, Bool.or_eq_true, not_or, decide_eq_true_eq, Bool.not_eq_true, Bool.not_eq_false'] at this
  obtain ⟨⟨⟨⟨a, b⟩, d⟩, e⟩, f⟩ := this
  exact ⟨a, hasI_iff.1 b, hasI_iff.1 d, inB_iff.1 e, inB_iff.1 f⟩
theorem check_right {c : Chn} (h : checkP c = true) : Right c ∧ c.sales.length ≤ 10 := by
  unfold checkP at h
  simp only [Bool.and_eq_true, decide_eq_true_eq] at h
  exact ⟨right_of h.2, h.1⟩
theorem rising_gt : ∀ {l : List Int} {last : Int}, risingB last l = true → ∀ x ∈ l, last < x ∧ x ≤ 9999
  | [], _, _, x, hx => by cases hx
  | y :: l, last, h, x, hx => by
    unfold risingB at h
    simp only [Bool.and_eq_true] at h
    have h1 := inB_iff.1 h.1
    rcases List.mem_cons.1 hx with rfl | hx
    · omega
    · have := rising_gt h.2 x hx; omega
theorem rising_pair : ∀ {l : List Int} {last : Int}, risingB last l = true → l.Pairwise (· < ·)
  | [], _, _ => List.Pairwise.nil
  | y :: l, last, h => by
    unfold risingB at h
    simp only [Bool.and_eq_true] at h
    exact List.Pairwise.cons (fun z hz => (rising_gt h.2 z hz).1) (rising_pair h.2)
end Go.Proofs.YtafdbgielmlihaaDoor
/- The plain law of changed chains: what the program makes of a chain is what the reference does. -/
namespace Go.Proofs.YtafdbgielmlihaaDoor
open Go.RowKit Go.Shelf

def noC : Chn := ⟨[], []⟩
/-- How many sales have lesser Numbers, of those at the head. -/
def posL (l : List Sale) (n : Int) : Nat := (l.takeWhile fun y => decide (y.number < n)).length
def withC (c : Chn) (x : Sale) : Chn := ⟨c.houses, c.sales.take (posL c.sales x.number) ++ x :: c.sales.drop (posL c.sales x.number)⟩
theorem posL_le (l : List Sale) (n : Int) : posL l n ≤ l.length := by
  unfold posL
  exact (List.takeWhile_prefix _).length_le
theorem withC_len (c : Chn) (x : Sale) : (withC c x).sales.length = c.sales.length + 1 := by
  have := posL_le c.sales x.number
  simp only [withC, List.length_append, List.length_take, List.length_cons, List.length_drop]
  omega
def putE (c : Chn) (x : Sale) : Int := if checkP c then (if c.sales.length = 10 then 9 else if rightP (withC c x) then 0 else 61) else 60
def putC (c : Chn) (x : Sale) : Chn := if putE c x = 0 then withC c x else noC
/-- Without the sales of which something is so. -/
def lessC (c : Chn) (p : Sale → Bool) : Chn := ⟨c.houses, c.sales.filter fun x => !p x⟩
def okL (c : Chn) : Int → List Int → Bool
  | _, [] => true
  | last, n :: l => (decide (last < n) && hasI (c.sales.map (·.number)) n) && okL c n l
def strikeE (c : Chn) (l : List Int) : Int := if checkP c then (if okL c 0 l then 0 else 61) else 60
def strikeC (c : Chn) (l : List Int) : Chn := if strikeE c l = 0 then lessC c (fun x => hasI l x.number) else noC
def soldBy (h : Int) (x : Sale) : Bool := decide (x.seller = h) || decide (x.buyer = h)
def stopE (c : Chn) (h : Int) : Int := if checkP c then (if hasI c.houses h then 0 else 6) else 60
def stopC (c : Chn) (h : Int) : Chn := if stopE c h = 0 then lessC c (soldBy h) else noC
end Go.Proofs.YtafdbgielmlihaaDoor
/- A region that draws its order, whatever its operations make: each operation by a predicate on its value; one walk in the order of the text serves every order. -/
namespace Go.Proofs.YtafdbgielmlihaaDoor
open Go.RowKit Go.Shelf

abbrev Facts := List (Option Tmp × (Value → World → Prop))
/-- What stands in an operation's temporary. -/
def atD (ρ : Operand → Value) : Option Tmp → Value
  | some d => ρ (.tmp d)
  | none => undef
/-- What is known of operation j. -/
def Fact (F : Facts) (ρ : Operand → Value) (W : World) (j : Nat) : Prop :=
  match F[j]? with
  | some (d, U) => U (atD ρ d) W
  | none => True
def isB (v : Value) (b : Bool) : Bool := match v with | .bool c => c == b | _ => false
/-- Whether a guarded operation runs. -/
def runs (F : Facts) (ρ : Operand → Value) : Option (Nat × Bool) → Bool
  | none => true
  | some (j, b) => match F[j]? with
    | some (some d, _) => isB (ρ (.tmp d)) b
    | _ => false
def notIn (ds : List (Option Tmp)) (t : Tmp) : Bool := ds.all fun d => d != some t
/-- The frame, but for the region's own temporaries. -/
def Same0 (ds : List (Option Tmp)) (a0 A : Act) : Prop := A.defers = a0.defers ∧ A.tmps.size = a0.tmps.size ∧ ∀ t, notIn ds t = true → A.eval (.tmp t) = a0.eval (.tmp t)

/-- o, in the frame A and the world W, gives a value and a world of which U holds. -/
def CR (C : World → Prop) (R : World → World → Prop) (W W' : World) : Prop := C W' ∧ R W W'
def CallPost (C : World → Prop) (R : World → World → Prop) (W : World) (U : Value → World → Prop) (e : Ending) (W' : World) : Prop := ∃ v, e = .returned v ∧ CR C R W W' ∧ U v W'
def IsL (l' l : List Value) : Prop := l = l'
/-- A value that is known. -/
def Is (v0 v : Value) : Prop := v = v0
def opPost (P : Program) (C : World → Prop) (R : World → World → Prop) (W : World) (U : Value → World → Prop) : Result Next → Prop
  | .ok (.value v) W' => CR C R W W' ∧ U v W'
  | .ok .skip W' => CR C R W W' ∧ U undef W'
  | .ok (.enter f args) W' => Calls P f args W' (CallPost C R W U)
  | _ => False
def opGives (P : Program) (C : World → Prop) (R : World → World → Prop) (o : Oper) (ρ : Operand → Value) (W : World) (U : Value → World → Prop) : Prop := opPost P C R W U ((execOp ρ o).run P W)

/-- The walk, in the order of the text. -/
def wpTame (P : Program) (C : World → Prop) (R : World → World → Prop) (ds : List (Option Tmp)) (a0 : Act) (Q : Act → World → Prop) (n : Nat) : List Oper → Facts → Prop
  | [], F => ∀ A W, C W → Same0 ds a0 A → (∀ j, j < n → Fact F A.eval W j) → Q A W
  | o :: rest, F => ∃ U : Value → World → Prop, (∀ v W W', C W' → R W W' → U v W → U v W') ∧
      (∀ A W, C W → Same0 ds a0 A → (∀ e ∈ o.after, Region.binds .any e = true → Fact F A.eval W e.on) → if runs F A.eval o.guard then opGives P C R o A.eval W (fun v => U (if o.dst.isSome then v else undef)) else U undef W) ∧
      wpTame P C R ds a0 Q n rest (F ++ [(o.dst, U)])

/-- The region is of the common form: each operation looks back, no temporary is written twice. -/
def tameB (l : List Oper) (size : Nat) : Bool :=
  l.zipIdx.all (fun (o, i) => o.after.toList.all (fun e => !Region.binds .any e || decide (e.on < i)) && (match o.dst with | some d => decide (d < size) | none => true) && (match o.guard with | some (j, _) => decide (j < i) && o.after.toList.any (fun e => e.on == j && Region.binds .any e) | none => true)) &&
  l.zipIdx.all (fun (o, i) => match o.dst with | none => true | some d => l.zipIdx.all (fun (p, j) => i == j || p.dst != some d))

theorem wpTame_facts {P : Program} {C : World → Prop} {R : World → World → Prop} {ds : List (Option Tmp)} {a0 : Act} {Q : Act → World → Prop} {n : Nat} : ∀ (l : List Oper) (F : Facts), wpTame P C R ds a0 Q n l F →
    ∃ G : Facts, G.length = F.length + l.length ∧ (∀ j, j < F.length → G[j]? = F[j]?) ∧ (∀ A W, C W → Same0 ds a0 A → (∀ j, j < n → Fact G A.eval W j) → Q A W) ∧
      ∀ i o, l[i]? = some o → ∃ U, G[F.length + i]? = some (o.dst, U) ∧ (∀ v W W', C W' → R W W' → U v W → U v W') ∧
        (∀ A W, C W → Same0 ds a0 A → (∀ e ∈ o.after, Region.binds .any e = true → Fact (G.take (F.length + i)) A.eval W e.on) → if runs (G.take (F.length + i)) A.eval o.guard then opGives P C R o A.eval W (fun v => U (if o.dst.isSome then v else undef)) else U undef W)
  | [], F, h => ⟨F, by simp, fun _ _ => rfl, h, fun i o hi => by simp at hi⟩
  | o :: rest, F, h => by
    obtain ⟨U, hst, hstep, hrest⟩ := h
    obtain ⟨G, hlen, hpre, hfin, hops⟩ := wpTame_facts rest (F ++ [(o.dst, U)]) hrest
    have hF : G.take F.length = F := by
      apply List.ext_getElem?
      intro j
      rw [List.getElem?_take]
      by_cases hj : j < F.length
      · rw [if_pos hj, hpre j (by simp; omega), List.getElem?_append_left hj]
      · rw [if_neg hj, List.getElem?_eq_none (by omega)]
    refine ⟨G, by rw [hlen]; simp; omega, fun j hj => by rw [hpre j (by simp; omega), List.getElem?_append_left hj], hfin, fun i o' hi => ?_⟩
    cases i with
    | zero =>
      simp at hi; subst hi
      refine ⟨U, ?_, hst, ?_⟩
      · rw [Nat.add_zero, hpre F.length (by simp)]; simp
      · rw [Nat.add_zero, hF]; exact hstep
    | succ i =>
      obtain ⟨U', h1, h2, h3⟩ := hops i o' (by simpa using hi)
      have e : (F ++ [(o.dst, U)]).length + i = F.length + (i + 1) := by simp; omega
      rw [e] at h1 h3
      exact ⟨U', h1, h2, h3⟩

theorem yielded_isB {ops : Array Oper} {A : Act} {j : Nat} {o : Oper} {d : Tmp} (ho : ops[j]? = some o) (hd : o.dst = some d) (b : Bool) : (yielded ops A.tmps j == some b) = isB (A.eval (.tmp d)) b := by
  unfold yielded
  simp only [ho, Option.bind_some, hd, Act.eval]
  cases hx : A.tmps[d]? with
  | none => simp [Array.getD_eq_getD_getElem?, hx]; rfl
  | some v => simp only [Array.getD_eq_getD_getElem?, hx, Option.getD_some]; cases v <;> simp [isB]

theorem eval_put_self {A : Act} {d : Tmp} {v : Value} (h : d < A.tmps.size) : (A.put (some d) v).eval (.tmp d) = v := by
  simp [Act.put, Act.eval, h]
theorem eval_put_ne {A : Act} {d t : Tmp} {v : Value} (h : d ≠ t) : (A.put (some d) v).eval (.tmp t) = A.eval (.tmp t) := by
  simp only [Act.put, Act.eval, Array.getD_eq_getD_getElem?]
  rw [Array.getElem?_setIfInBounds_ne h]
theorem same0_put {ds : List (Option Tmp)} {a0 A : Act} {o : Option Tmp} (h : Same0 ds a0 A) (ho : o ∈ ds) (v : Value) : Same0 ds a0 (A.put o v) := by
  obtain ⟨h1, h2, h3⟩ := h
  cases o with
  | none => exact ⟨h1, h2, h3⟩
  | some d =>
    refine ⟨h1, by simpa [Act.put] using h2, fun t ht => ?_⟩
    have hne : d ≠ t := by
      unfold notIn at ht
      rw [List.all_eq_true] at ht
      have := ht _ ho
      simpa using this
    rw [eval_put_ne hne]; exact h3 t ht

section
variable {P : Program} {C : World → Prop} {R : World → World → Prop} {a0 : Act} {l : List Oper}

theorem tame_any {Q : Exit → Act → World → Prop} {Qn : Act → World → Prop} (hQ : ∀ A W, Qn A W → Q .normal A W) (hB : tameB l a0.tmps.size = true) (G : Facts) (hlen : G.length = l.length)
    (hfin : ∀ A W, C W → Same0 (l.map (·.dst)) a0 A → (∀ j, j < l.length → Fact G A.eval W j) → Qn A W)
    (hops : ∀ i o, l[i]? = some o → ∃ U, G[i]? = some (o.dst, U) ∧ (∀ v W W', C W' → R W W' → U v W → U v W') ∧
        (∀ A W, C W → Same0 (l.map (·.dst)) a0 A → (∀ e ∈ o.after, Region.binds .any e = true → Fact (G.take i) A.eval W e.on) → if runs (G.take i) A.eval o.guard then opGives P C R o A.eval W (fun v => U (if o.dst.isSome then v else undef)) else U undef W)) :
    ∀ (fuel : Nat) (listed : Array Bool) (A : Act) (W : World), listed.size = l.length → ((List.range l.length).filter fun j => !listed.getD j true).length ≤ fuel → C W → Same0 (l.map (·.dst)) a0 A →
      (∀ j, listed.getD j false = true → Fact G A.eval W j) → wpAny P .any l.toArray Q fuel listed A W := by
  have hB' := hB
  unfold tameB at hB'
  rw [Bool.and_eq_true, List.all_eq_true, List.all_eq_true] at hB'
  obtain ⟨hb1, hb2⟩ := hB'
  have hback : ∀ (i : Nat) (o : Oper), l[i]? = some o → (∀ e ∈ o.after, Region.binds .any e = true → e.on < i) ∧ (∀ d, o.dst = some d → d < a0.tmps.size) ∧ (∀ (j : Nat) (b : Bool), o.guard = some (j, b) → j < i ∧ ∃ e ∈ o.after, e.on = j ∧ Region.binds .any e = true) := by
    intro i o hi
    have h := hb1 (o, i) (by rw [List.mem_zipIdx_iff_getElem?]; simpa using hi)
    simp only [Bool.and_eq_true] at h
    obtain ⟨⟨h1, h2⟩, h3⟩ := h
    refine ⟨fun e he hbd => ?_, fun d hd => ?_, fun j b hg => ?_⟩
    · rw [List.all_eq_true] at h1
      have := h1 e (Array.mem_toList_iff.2 he)
      simpa [hbd] using this
    · rw [hd] at h2; simpa using h2
    · rw [hg] at h3
      simp only [Bool.and_eq_true, decide_eq_true_eq] at h3
      refine ⟨h3.1, ?_⟩
      obtain ⟨_, h3⟩ := h3
      rw [List.any_eq_true] at h3
      obtain ⟨e, he, h4⟩ := h3
      exact ⟨e, Array.mem_toList_iff.1 he, by simpa using h4⟩
  have hdist : ∀ (i j : Nat) (o p : Oper) (d : Tmp), l[i]? = some o → l[j]? = some p → o.dst = some d → i ≠ j → p.dst ≠ some d := by
    intro i j o p d hi hj hd hne
    have h := hb2 (o, i) (by rw [List.mem_zipIdx_iff_getElem?]; simpa using hi)
    simp only [hd] at h
    rw [List.all_eq_true] at h
    have := h (p, j) (by rw [List.mem_zipIdx_iff_getElem?]; simpa using hj)
    simpa [hne] using this
  have hall : ∀ (listed : Array Bool) (A : Act) (W : World), listed.size = l.length → C W → Same0 (l.map (·.dst)) a0 A → (∀ j, listed.getD j false = true → Fact G A.eval W j) → Region.ready .any l.toArray listed = [] → Q .normal A W := by
    intro listed A W hs hC hS hF hr
    refine hQ _ _ (hfin A W hC hS fun j hj => hF j ?_)
    -- the least one that is not listed would be ready
    have key : ∀ k, k < l.length → listed.getD k false = true := by
      intro k
      induction k using Nat.strongRecOn with
      | _ k ih =>
        intro hk
        cases hv : listed.getD k false with
        | true => rfl
        | false =>
          exfalso
          have hmem : k ∈ Region.ready .any l.toArray listed := by
            rw [mem_ready]
            have hkl : k < listed.size := by omega
            refine ⟨by simpa [Array.getD_eq_getD_getElem?, hkl] using hv, l[k], by simp, fun e he hb => ?_⟩
            have := (hback k _ (List.getElem?_eq_getElem hk)).1 e he hb
            exact ih e.on this (by omega)
          rw [hr] at hmem
          cases hmem
    exact key j hj
  intro fuel
  induction fuel with
  | zero =>
    intro listed A W hs hcount hC hS hF
    have hr : Region.ready .any l.toArray listed = [] := by
      rw [List.eq_nil_iff_forall_not_mem]
      intro k hk
      rw [mem_ready] at hk
      obtain ⟨h0, o, ho, _⟩ := hk
      have hkl : k < l.length := by simpa using (Array.getElem?_eq_some_iff.1 ho).1
      have : k ∈ (List.range l.length).filter fun j => !listed.getD j true := by simp [hkl]; simpa using h0
      have := List.length_pos_of_mem this
      omega
    exact ⟨hr, hall listed A W hs hC hS hF hr⟩
  | succ fuel ih =>
    intro listed A W hs hcount hC hS hF
    refine ⟨hall listed A W hs hC hS hF, fun i hi => ?_⟩
    rw [mem_ready] at hi
    obtain ⟨h0, o, ho, hdeps⟩ := hi
    have hil : i < l.length := by simpa using (Array.getElem?_eq_some_iff.1 ho).1
    have hlo : l[i]? = some o := by simpa using ho
    obtain ⟨U, hU, hst, hstep⟩ := hops i o hlo
    obtain ⟨hb, hdb, hgb⟩ := hback i o hlo
    have htake : ∀ j, j < i → Fact (G.take i) A.eval W j = Fact G A.eval W j := fun j hj => by
      unfold Fact; rw [List.getElem?_take, if_pos hj]
    have hstep' := hstep A W hC hS (fun e he hbd => by rw [htake e.on (hb e he hbd)]; exact hF e.on (hdeps e he hbd))
    have hrun : Region.wanted o (yielded l.toArray A.tmps) = runs (G.take i) A.eval o.guard := by
      unfold Region.wanted runs
      cases hg : o.guard with
      | none => rfl
      | some jb =>
        obtain ⟨j, b⟩ := jb
        obtain ⟨hj, _⟩ := hgb j b hg
        have hjl : j < l.length := by omega
        obtain ⟨Uj, hUj, _⟩ := hops j l[j] (List.getElem?_eq_getElem hjl)
        simp only [List.getElem?_take, if_pos hj, hUj]
        cases hd : (l[j]).dst with
        | none =>
          simp only [yielded]
          simp [List.getElem?_eq_getElem hjl, hd]
        | some d => exact yielded_isB (by simp) hd b
    -- what stands behind the operation
    have hnext : ∀ (v : Value) (W' : World), C W' → (∀ j d V, G[j]? = some (d, V) → listed.getD j false = true → ∀ u, V u W → V u W') → U (if o.dst.isSome then v else undef) W' →
        wpAny P .any l.toArray Q fuel (listed.setIfInBounds i true) (A.put o.dst v) W' := by
      intro v W' hC' hkeep hUv
      refine ih _ _ _ (by simpa using hs) ?_ hC' (same0_put hS (by rw [List.mem_map]; exact ⟨o, List.mem_of_getElem? hlo, rfl⟩) v) ?_
      · have hsub : ((List.range l.length).filter fun j => !(listed.setIfInBounds i true).getD j true).length < ((List.range l.length).filter fun j => !listed.getD j true).length := by
          have h1 : (List.range l.length).filter (fun j => !(listed.setIfInBounds i true).getD j true) = ((List.range l.length).filter fun j => !listed.getD j true).filter (fun j => j != i) := by
            rw [List.filter_filter]
            refine List.filter_congr fun j hj => ?_
            by_cases hji : j = i
            · subst hji
              simp [Array.getD_eq_getD_getElem?, show j < listed.size by omega]
            · rw [getD_set_ne true (Ne.symm hji)]; simp [hji]
          rw [h1]
          have hmem : i ∈ (List.range l.length).filter fun j => !listed.getD j true := by simp [hil]; simpa using h0
          refine Nat.lt_of_le_of_ne (List.length_filter_le _ _) fun he => ?_
          have := (List.length_filter_eq_length_iff.1 he) i hmem
          simp at this
        omega
      · intro j hj
        by_cases hji : j = i
        · subst hji
          unfold Fact
          rw [hU]
          cases hd : o.dst with
          | none => simpa [hd, atD] using hUv
          | some d =>
            have hsz : d < A.tmps.size := by rw [hS.2.1]; exact hdb d hd
            simp only [atD, eval_put_self hsz]
            simpa [hd] using hUv
        · rw [getD_set_ne false (Ne.symm hji)] at hj
          have hFj := hF j hj
          unfold Fact at hFj ⊢
          cases hGj : G[j]? with
          | none => trivial
          | some dV =>
            obtain ⟨d, V⟩ := dV
            rw [hGj] at hFj
            have hval : atD (A.put o.dst v).eval d = atD A.eval d := by
              cases d with
              | none => rfl
              | some d =>
                cases hdo : o.dst with
                | none => rfl
                | some d' =>
                  simp only [atD]
                  refine eval_put_ne fun he => ?_
                  have hjl : j < l.length := by rw [← hlen]; exact (List.getElem?_eq_some_iff.1 hGj).1
                  obtain ⟨Uj, hUj, _⟩ := hops j l[j] (List.getElem?_eq_getElem hjl)
                  rw [hGj] at hUj
                  injection hUj with hUj
                  have hdj : (l[j]).dst = some d := (Prod.mk.inj hUj).1.symm
                  exact hdist i j o _ d' hlo (List.getElem?_eq_getElem hjl) hdo (Ne.symm hji) (by rw [hdj, he])
            show V (atD (A.put o.dst v).eval d) W'
            rw [hval]
            exact hkeep j d V hGj hj _ hFj
    have hstab : ∀ W', C W' → R W W' → ∀ j d V, G[j]? = some (d, V) → listed.getD j false = true → ∀ u, V u W → V u W' := by
      intro W' hC' hR j d V hGj hj u hu
      have hjl : j < l.length := by rw [← hlen]; exact (List.getElem?_eq_some_iff.1 hGj).1
      obtain ⟨Uj, hUj, hstj, _⟩ := hops j l[j] (List.getElem?_eq_getElem hjl)
      rw [hGj] at hUj
      injection hUj with hUj
      have hV : V = Uj := (Prod.mk.inj hUj).2
      subst hV
      exact hstj u W W' hC' hR hu
    unfold wpOp
    simp only [ho]
    rw [hrun]
    cases hw : runs (G.take i) A.eval o.guard with
    | false =>
      rw [hw] at hstep'
      simp only [Bool.false_eq_true, if_false] at hstep' ⊢
      exact hnext undef W hC (fun _ _ _ _ _ _ h => h) (by cases hds : o.dst.isSome <;> simpa using hstep')
    | true =>
      rw [hw] at hstep'
      simp only [if_true] at hstep' ⊢
      left
      unfold Oper.wp
      unfold opGives opPost at hstep'
      generalize (execOp A.eval o).run P W = r at hstep'
      cases r with
      | halt x w' => exact hstep'.elim
      | ok nx w' =>
        cases nx with
        | value v => obtain ⟨⟨h1, h2⟩, h3⟩ := hstep'; exact hnext v w' h1 (hstab w' h1 h2) h3
        | skip => obtain ⟨⟨h1, h2⟩, h3⟩ := hstep'; exact hnext undef w' h1 (hstab w' h1 h2) (by cases hds : o.dst.isSome <;> simpa [hds] using h3)
        | enter f args =>
          refine Calls.mono (R' := _) hstep' ?_
          rintro e w'' ⟨v, rfl, ⟨h1, h2⟩, h3⟩
          exact hnext v w'' h1 (hstab w'' h1 h2) h3
        | _ => exact hstep'.elim

/-- **ONE WALK IN THE ORDER OF THE TEXT SERVES EVERY ORDER.** -/
theorem wp_region_tame {id : Nat} {Q : Exit → Act → World → Prop} {w : World} (C : World → Prop) (R : World → World → Prop) (hm : P.follows .mixedOrders = true) (n : Nat) (hn : a0.tmps.size = n) (hB : tameB l n = true) (hC : C w.drew)
    (h : wpTame P C R (l.map (·.dst)) a0 (fun A W => Q .normal A W) l.length l []) : (Code.region id l.toArray true).wp P Q a0 w := by
  subst hn
  obtain ⟨G, hlen, _, hfin, hops⟩ := wpTame_facts l [] h
  refine wp_region_any hm (tame_any (Q := Q) (Qn := fun A W => Q .normal A W) (fun _ _ h => h) hB G (by simpa using hlen) hfin (by simpa using hops) _ _ _ _ (by simp) ?_ hC ⟨rfl, rfl, fun _ _ => rfl⟩ ?_)
  · refine Nat.le_trans (List.length_filter_le _ _) (by simp)
  · intro j hj
    have : (Array.replicate l.toArray.size false).getD j false = false := by
      rw [Array.getD_eq_getD_getElem?, Array.getElem?_replicate]; split <;> rfl
    rw [this] at hj
    cases hj

/-! What a step is shown in: any reading of the operands that knows what stands outside the region, and what was made ahead. -/
structure Rd (a0 : Act) (ds : List (Option Tmp)) (ρ : Operand → Value) : Prop where
  c : ∀ v, ρ (.const v) = v
  g : ∀ g, ρ (.global g) = .pointer (some ⟨g, 0, none⟩)
  f : ∀ f, ρ (.func f) = .func (.func f) #[] #[]
  s : ∀ t, notIn ds t = true → ρ (.tmp t) = a0.eval (.tmp t)
theorem Rd.of {ds : List (Option Tmp)} {A : Act} (h : Same0 ds a0 A) : Rd a0 ds A.eval := ⟨fun _ => rfl, fun _ => rfl, fun _ => rfl, h.2.2⟩

variable {ds : List (Option Tmp)} {Q : Act → World → Prop} {n : Nat} {o : Oper} {rest : List Oper} {F : Facts}
theorem tame_n (U : Value → World → Prop) (hst : ∀ v W W', C W' → R W W' → U v W → U v W')
    (hstep : ∀ ρ W, C W → Rd a0 ds ρ → (∀ e ∈ o.after, Region.binds .any e = true → Fact F ρ W e.on) → if runs F ρ o.guard then opGives P C R o ρ W (fun v => U (if o.dst.isSome then v else undef)) else U undef W)
    (h : wpTame P C R ds a0 Q n rest (F ++ [(o.dst, U)])) : wpTame P C R ds a0 Q n (o :: rest) F :=
  ⟨U, hst, fun A W hC hS hD => hstep A.eval W hC (Rd.of hS) hD, h⟩
theorem tame_q {d : Tmp} (hd : o.dst = some d) (v0 : Value)
    (hstep : ∀ ρ W, C W → Rd a0 ds ρ → (∀ e ∈ o.after, Region.binds .any e = true → Fact F ρ W e.on) → if runs F ρ o.guard then opGives P C R o ρ W (fun v _ => Is v0 v) else Is v0 undef)
    (h : wpTame P C R ds a0 Q n rest (F ++ [(some d, fun v _ => v = v0)])) : wpTame P C R ds a0 Q n (o :: rest) F := by
  refine tame_n (fun v _ => Is v0 v) (fun _ _ _ _ _ h => h) ?_ (hd ▸ h)
  intro ρ W hC hr hD
  have := hstep ρ W hC hr hD
  rw [hd]
  exact this
theorem tame_v {d : Tmp} (hd : o.dst = some d) (U : Value → World → Prop) (hst : ∀ v W W', C W' → R W W' → U v W → U v W')
    (hstep : ∀ ρ W, C W → Rd a0 ds ρ → (∀ e ∈ o.after, Region.binds .any e = true → Fact F ρ W e.on) → if runs F ρ o.guard then opGives P C R o ρ W U else U undef W)
    (h : wpTame P C R ds a0 Q n rest (F ++ [(some d, U)])) : wpTame P C R ds a0 Q n (o :: rest) F := by
  refine tame_n U hst ?_ (hd ▸ h)
  intro ρ W hC hr hD
  have := hstep ρ W hC hr hD
  rw [hd]
  exact this

/-- The frame, slot by slot. -/
def evs (ρ : Operand → Value) : Nat → Nat → List Value
  | _, 0 => []
  | s, k + 1 => ρ (.tmp s) :: evs ρ (s + 1) k
theorem evs_get (ρ : Operand → Value) : ∀ (k s j : Nat), j < k → (evs ρ s k)[j]? = some (ρ (.tmp (s + j)))
  | k + 1, s, 0, _ => rfl
  | k + 1, s, j + 1, h => by
    rw [evs, List.getElem?_cons_succ, evs_get ρ k (s + 1) j (by omega), show s + 1 + j = s + (j + 1) from by omega]
theorem evs_len (ρ : Operand → Value) : ∀ (k s : Nat), (evs ρ s k).length = k
  | 0, _ => rfl
  | k + 1, s => by rw [evs, List.length_cons, evs_len]
theorem frame_lit {A : Act} {m : Nat} (h : A.tmps.size = m) : A = { tmps := (evs A.eval 0 m).toArray, defers := A.defers } := by
  obtain ⟨tmps, defers⟩ := A
  congr 1
  apply Array.ext_getElem?
  intro j
  by_cases hj : j < m
  · have hj' : j < tmps.size := by simpa using h ▸ hj
    have h2 : (evs (Act.eval { tmps, defers }) 0 m).toArray[j]? = some (Act.eval { tmps, defers } (.tmp (0 + j))) := by rw [List.getElem?_toArray]; exact evs_get _ m 0 j hj
    rw [h2, Nat.zero_add]
    simp [Act.eval, hj']
  · have h1 : tmps.size ≤ j := by have : tmps.size = m := h; omega
    rw [Array.getElem?_eq_none h1, List.getElem?_toArray, List.getElem?_eq_none (by rw [evs_len]; omega)]
def allF : Facts → (Operand → Value) → World → Prop
  | [], _, _ => True
  | (d, U) :: F, ρ, W => U (atD ρ d) W ∧ allF F ρ W
theorem allF_of : ∀ (F : Facts) (ρ : Operand → Value) (W : World), (∀ j, j < F.length → Fact F ρ W j) → allF F ρ W
  | [], _, _, _ => trivial
  | (d, U) :: F, ρ, W, h => ⟨h 0 (by simp), allF_of F ρ W fun j hj => h (j + 1) (by simpa using hj)⟩
theorem tame_end (m : Nat) (hm : a0.tmps.size = m) (hn : n = F.length) (h : ∀ ρ W, C W → Rd a0 ds ρ → allF F ρ W → Q { tmps := (evs ρ 0 m).toArray, defers := a0.defers } W) : wpTame P C R ds a0 Q n [] F := by
  intro A W hC hS hF
  rw [frame_lit (A := A) (m := m) (by rw [hS.2.1, hm]), hS.1]
  exact h A.eval W hC (Rd.of hS) (allF_of _ _ _ (hn ▸ hF))
theorem frame_to {l l' : List Value} {dfs : List Deferred} {W : World} (hl : IsL l' l) (h : Q { tmps := l'.toArray, defers := dfs } W) : Q { tmps := l.toArray, defers := dfs } W := by
  unfold IsL at hl; rw [hl]; exact h
end
attribute [go_sem] evs allF
attribute [go_sem] Fact atD runs isB notIn opGives opPost Region.binds
@[go_sem ↓] theorem execOp_call_fn (ρ : Operand → Value) (h : ∀ f, ρ (.func f) = .func (.func f) #[] #[]) (dst : Option Tmp) (f : FuncId) (xs : Array Operand) (ats : Array TypeId) (ty : TypeId) (pos : String) (after : Array Edge) (guard : Option (Nat × Bool)) :
    execOp ρ { dst, op := .call { callee := .value (.func f), args := xs, argTypes := ats }, type := ty, pos, after, guard } = callFunc f (xs.map ρ) := by
  simp only [execOp, resolve, Deferred.ofValue, h]
  show callFunc f (#[] ++ xs.map ρ ++ #[]) = _
  simp

/-! A region that stores, last, into a block of the call's own. -/
def CS (w : World) (g : Nat) (t : TypeId) (k : Nat) (W : World) : Prop := w.grownBy W (some g) ∧ ∃ cs, Blk W g t cs ∧ cs.size = k
def RS (g : Nat) (t : TypeId) (fin : Array Value) (W W' : World) : Prop := W.grownBy W' (some g) ∧ (Blk W g t fin → Blk W' g t fin)
theorem RS.refl {g : Nat} {t : TypeId} {fin : Array Value} (W : World) : RS g t fin W W := ⟨World.grownBy.refl _ _, fun h => h⟩
theorem RS.ext {g : Nat} {t : TypeId} {fin : Array Value} {W W' : World} (h : Ext W W') : RS g t fin W W' := ⟨⟨h.os, h.tape, h.output, h.size, fun i hi _ => h.block i hi⟩, fun hB => hB.ext h⟩
theorem CS.ext {w : World} {g : Nat} {t : TypeId} {k : Nat} {W W' : World} (hC : CS w g t k W) (h : Ext W W') : CS w g t k W' := by
  obtain ⟨h1, cs, h2, h3⟩ := hC
  exact ⟨grown_ext h1 h, cs, h2.ext h, h3⟩
theorem CS.start {w : World} {g : Nat} {t : TypeId} {cs : Array Value} (h : Blk w g t cs) : CS w g t cs.size w.drew := ⟨⟨rfl, rfl, rfl, Nat.le_refl _, fun _ _ _ => rfl⟩, cs, h, rfl⟩
theorem CS.cell {w : World} {g : Nat} {t : TypeId} {k : Nat} {W : World} (hC : CS w g t k W) {b : Nat} (hb : b < w.heap.size) (hne : b ≠ g) (i : Nat) : W.cell? ⟨b, i, none⟩ = w.cell? ⟨b, i, none⟩ :=
  World.cell?_of_block (a := ⟨b, i, none⟩) (hC.1.block b hb (by intro h; injection h with h; exact hne h))
/- The run of operations that only reckon or read, in a region that draws its order. -/

end Go.Proofs.YtafdbgielmlihaaDoor
/- Cheapest ways by relaxing all arcs again and again (Bellman and Ford), in plain words: what is known of costs and of the arcs by which nodes were come to, after so many passes. -/
namespace Go.Proofs.YtafdbgielmlihaaDoor

structure Arc where
  src : Nat
  dst : Nat
  w : Int
  tag : Int
structure BF where
  d : Nat → Option Int
  p : Nat → Option Arc
def upd {α : Type} (f : Nat → α) (v : Nat) (x : α) : Nat → α := fun u => if u = v then x else f u
theorem upd_self {α : Type} (f : Nat → α) (v : Nat) (x : α) : upd f v x v = x := if_pos rfl
theorem upd_ne {α : Type} (f : Nat → α) {v u : Nat} (x : α) (h : u ≠ v) : upd f v x u = f u := if_neg h
/-- Whether a new cost is less than what is known. -/
def lessO (x : Int) : Option Int → Bool
  | none => true
  | some y => decide (x < y)
def relax (σ : BF) (a : Arc) : BF :=
  match σ.d a.src with
  | none => σ
  | some x => if lessO (x + a.w) (σ.d a.dst) then ⟨upd σ.d a.dst (some (x + a.w)), upd σ.p a.dst (some a)⟩ else σ
def pass (A : List Arc) (σ : BF) : BF := A.foldl relax σ
def passes (A : List Arc) : Nat → BF → BF
  | 0, σ => σ
  | k + 1, σ => pass A (passes A k σ)
/-- Some nodes are come to for nothing. -/
def init0 (S : Nat → Bool) : BF := ⟨fun v => if S v then some 0 else none, fun _ => none⟩

/-- x is as good as y, or better. -/
def Better (x y : Option Int) : Prop := ∀ b, y = some b → ∃ a, x = some a ∧ a ≤ b
theorem Better.refl (x : Option Int) : Better x x := fun b h => ⟨b, h, Int.le_refl _⟩
theorem Better.trans {x y z : Option Int} (h : Better x y) (k : Better y z) : Better x z := fun c hc => by
  obtain ⟨b, hb, h1⟩ := k c hc
  obtain ⟨a, ha, h2⟩ := h b hb
  exact ⟨a, ha, Int.le_trans h2 h1⟩
theorem relax_better (σ : BF) (a : Arc) (v : Nat) : Better ((relax σ a).d v) (σ.d v) := by
  unfold relax
  cases hx : σ.d a.src with
  | none => exact Better.refl _
  | some x =>
    simp only
    split
    · rename_i hl
      intro b hb
      by_cases hv : v = a.dst
      · subst hv
        simp only [upd_self]
        rw [hb] at hl
        simp only [lessO, decide_eq_true_eq] at hl
        exact ⟨_, rfl, by omega⟩
      · simp only [upd_ne _ _ hv]
        exact ⟨b, hb, Int.le_refl _⟩
    · exact Better.refl _
theorem pass_better (A : List Arc) : ∀ (σ : BF) (v : Nat), Better ((pass A σ).d v) (σ.d v) := by
  induction A with
  | nil => intro σ v; exact Better.refl _
  | cons a A ih => intro σ v; exact (ih (relax σ a) v).trans (relax_better σ a v)
theorem passes_better (A : List Arc) (σ : BF) (v : Nat) : ∀ k, Better ((passes A k σ).d v) (σ.d v)
  | 0 => Better.refl _
  | k + 1 => (pass_better A _ v).trans (passes_better A σ v k)
theorem relax_at (σ : BF) (a : Arc) {x : Int} (h : σ.d a.src = some x) : ∃ y, (relax σ a).d a.dst = some y ∧ y ≤ x + a.w := by
  unfold relax
  rw [h]
  simp only
  cases hy : σ.d a.dst with
  | none => simp only [lessO, if_true, upd_self]; exact ⟨_, rfl, Int.le_refl _⟩
  | some y =>
    simp only [lessO, decide_eq_true_eq]
    split
    · simp only [upd_self]; exact ⟨_, rfl, Int.le_refl _⟩
    · exact ⟨y, hy, by omega⟩
theorem pass_at (A : List Arc) : ∀ (σ : BF) (a : Arc), a ∈ A → ∀ x, σ.d a.src = some x → ∃ y, (pass A σ).d a.dst = some y ∧ y ≤ x + a.w := by
  induction A with
  | nil => intro σ a ha; cases ha
  | cons c A ih =>
    intro σ a ha x hx
    rcases List.mem_cons.1 ha with rfl | ha
    · obtain ⟨y, hy, h1⟩ := relax_at σ a hx
      obtain ⟨z, hz, h2⟩ := pass_better A (relax σ a) a.dst y hy
      exact ⟨z, hz, by omega⟩
    · obtain ⟨x', hx', h1⟩ := relax_better σ c a.src x hx
      obtain ⟨y, hy, h2⟩ := ih (relax σ c) a ha x' hx'
      exact ⟨y, hy, by omega⟩

/-- From u to v by k arcs, at the cost W. -/
inductive Walk (A : List Arc) : Nat → Nat → Int → Nat → Prop
  | nil (v : Nat) : Walk A v v 0 0
  | snoc {u x : Nat} {W : Int} {k : Nat} (a : Arc) : Walk A u x W k → a ∈ A → a.src = x → Walk A u a.dst (W + a.w) (k + 1)
theorem walk_bound {A : List Arc} {S : Nat → Bool} {u v : Nat} {W : Int} {k : Nat} (h : Walk A u v W k) (hu : S u = true) : ∀ j, k ≤ j → ∃ y, (passes A j (init0 S)).d v = some y ∧ y ≤ W := by
  induction h with
  | nil =>
    intro j _
    obtain ⟨a, ha, h1⟩ := passes_better A (init0 S) u j 0 (by simp [init0, hu])
    exact ⟨a, ha, h1⟩
  | snoc a hw ha hs ih =>
    intro j hj
    cases j with
    | zero => omega
    | succ j =>
      obtain ⟨x, hx, h1⟩ := ih j (by omega)
      rw [← hs] at hx
      obtain ⟨y, hy, h2⟩ := pass_at A _ a ha x hx
      exact ⟨y, hy, by omega⟩

/-- Back from v to u by k of the arcs by which nodes were come to. -/
inductive Chain (p : Nat → Option Arc) : Nat → Nat → Int → Nat → Prop
  | nil (v : Nat) : Chain p v v 0 0
  | cons {v u : Nat} {W : Int} {k : Nat} (a : Arc) : p v = some a → Chain p a.src u W k → Chain p v u (W + a.w) (k + 1)
theorem Chain.trans {p : Nat → Option Arc} {v u t : Nat} {W W' : Int} {k k' : Nat} (h : Chain p v u W k) (h' : Chain p u t W' k') : Chain p v t (W + W') (k + k') := by
  induction h with
  | nil v => simpa using h'
  | @cons v u W1 k1 a ha _ ih =>
    have := Chain.cons a ha (ih h')
    rw [show W1 + a.w + W' = W1 + W' + a.w by omega, show k1 + 1 + k' = k1 + k' + 1 by omega]
    exact this

structure Inv (A : List Arc) (S : Nat → Bool) (σ : BF) : Prop where
  arc : ∀ v a, σ.p v = some a → a ∈ A ∧ a.dst = v ∧ ∃ x y, σ.d a.src = some x ∧ σ.d v = some y ∧ x + a.w ≤ y
  root : ∀ v, σ.p v = none → σ.d v = (init0 S).d v
  ring : ∀ v W k, 0 < k → Chain σ.p v v W k → W < 0
theorem Inv.init (A : List Arc) (S : Nat → Bool) : Inv A S (init0 S) :=
  ⟨fun v a h => (by cases h), fun v _ => rfl, fun v W k hk h => (by
    cases h with
    | nil => omega
    | cons a ha _ => cases ha)⟩
theorem Inv.chain {A : List Arc} {S : Nat → Bool} {σ : BF} (hI : Inv A S σ) {v u : Nat} {W : Int} {k : Nat} (h : Chain σ.p v u W k) : ∀ x, σ.d u = some x → ∃ y, σ.d v = some y ∧ x + W ≤ y := by
  induction h with
  | nil v => intro x hx; exact ⟨x, hx, by omega⟩
  | cons a ha _ ih =>
    intro x hx
    obtain ⟨y, hy, h1⟩ := ih x hx
    obtain ⟨_, _, x', y', e1, e2, h2⟩ := hI.arc _ a ha
    rw [hy] at e1
    injection e1 with e1
    exact ⟨y', e2, by omega⟩
theorem Inv.known {A : List Arc} {S : Nat → Bool} {σ : BF} (hI : Inv A S σ) {t r : Nat} {W : Int} {k : Nat} (h : Chain σ.p t r W k) : (∃ x, σ.d t = some x) → ∃ x, σ.d r = some x := by
  induction h with
  | nil t => exact id
  | cons c hc _ ih =>
    intro _
    obtain ⟨_, _, x, _, e, _⟩ := hI.arc _ c hc
    exact ih ⟨x, e⟩
theorem Inv.walk {A : List Arc} {S : Nat → Bool} {σ : BF} (hI : Inv A S σ) {v u : Nat} {W : Int} {k : Nat} (h : Chain σ.p v u W k) : Walk A u v W k := by
  induction h with
  | nil v => exact .nil v
  | cons a ha _ ih =>
    obtain ⟨h1, h2, _⟩ := hI.arc _ a ha
    have := Walk.snoc a ih h1 rfl
    rw [h2] at this
    exact this

theorem Inv.relax {A : List Arc} {S : Nat → Bool} {σ : BF} (hI : Inv A S σ) {a : Arc} (ha : a ∈ A) : Inv A S (relax σ a) := by
  have hm := fun v => relax_better σ a v
  unfold Go.Proofs.YtafdbgielmlihaaDoor.relax at hm ⊢
  cases hx : σ.d a.src with
  | none => exact hI
  | some x =>
    rw [hx] at hm
    simp only at hm ⊢
    cases hl : lessO (x + a.w) (σ.d a.dst) with
    | false => simpa using hI
    | true =>
      rw [hl] at hm
      simp only [if_true] at hm ⊢
      refine ⟨?_, ?_, ?_⟩
      · intro v c hc
        simp only at hc ⊢
        by_cases hv : v = a.dst
        · subst hv
          rw [upd_self] at hc
          injection hc with hc
          subst hc
          obtain ⟨x', hx', h1⟩ := hm a.src x hx
          exact ⟨ha, rfl, x', _, hx', upd_self _ _ _, by omega⟩
        · rw [upd_ne _ _ hv] at hc
          obtain ⟨h1, h2, x1, y1, e1, e2, h3⟩ := hI.arc v c hc
          obtain ⟨x2, e3, h4⟩ := hm c.src x1 e1
          exact ⟨h1, h2, x2, y1, e3, by rw [upd_ne _ _ hv]; exact e2, by omega⟩
      · intro v hv
        simp only at hv ⊢
        by_cases hd : v = a.dst
        · subst hd; rw [upd_self] at hv; cases hv
        · rw [upd_ne _ _ hd] at hv ⊢
          exact hI.root v hv
      · intro v W k hk hC
        simp only at hC
        -- along the new arcs the old costs rise; strictly where the new arc is
        have key : ∀ {v u : Nat} {W : Int} {k : Nat}, Chain (upd σ.p a.dst (some a)) v u W k → ∀ z, σ.d u = some z →
            (Chain σ.p v u W k ∧ (∃ y, σ.d v = some y ∧ z + W ≤ y)) ∨ ∃ y, (σ.d a.dst = none ∧ v = a.dst) ∨ (σ.d v = some y ∧ z + W < y) := by
          intro v u W k h
          induction h with
          | nil v => intro z hz; exact .inl ⟨.nil v, z, hz, by omega⟩
          | @cons v u W k c hc _ ih =>
            intro z hz
            by_cases hv : v = a.dst
            · subst hv
              rw [upd_self] at hc
              injection hc with hc
              subst hc
              right
              cases hb : σ.d a.dst with
              | none => exact ⟨0, .inl ⟨rfl, rfl⟩⟩
              | some y =>
                rw [hb] at hl
                simp only [lessO, decide_eq_true_eq] at hl
                refine ⟨y, .inr ⟨rfl, ?_⟩⟩
                rcases ih z hz with ⟨_, y', e1, h1⟩ | ⟨y', ⟨e1, _⟩ | ⟨e1, h1⟩⟩
                · rw [hx] at e1; injection e1 with e1; omega
                · rw [hb] at e1; cases e1
                · rw [hx] at e1; injection e1 with e1; omega
            · rw [upd_ne _ _ hv] at hc
              obtain ⟨_, _, x1, y1, e1, e2, h3⟩ := hI.arc v c hc
              rcases ih z hz with ⟨hch, y', e3, h1⟩ | ⟨y', ⟨e3, e4⟩ | ⟨e3, h1⟩⟩
              · rw [e1] at e3; injection e3 with e3
                exact .inl ⟨.cons c hc hch, y1, e2, by omega⟩
              · exfalso
                rw [e4, e3] at e1
                cases e1
              · rw [e1] at e3; injection e3 with e3
                exact .inr ⟨y1, .inr ⟨e2, by omega⟩⟩
        -- a ring's nodes are known, but for the new one
        cases hdv : σ.d v with
        | some z =>
          rcases key hC z hdv with ⟨hch, _⟩ | ⟨y, ⟨e1, e2⟩ | ⟨e1, h1⟩⟩
          · exact hI.ring v W k hk hch
          · rw [e2, e1] at hdv; cases hdv
          · rw [hdv] at e1; injection e1 with e1; omega
        | none =>
          exfalso
          -- v was not known: so it is the new node, and the arc into it comes from a known one; no old arc comes from it
          have notold : ∀ {t u : Nat} {W : Int} {k : Nat}, Chain (upd σ.p a.dst (some a)) t u W k → σ.d u = none → (∃ y, σ.d t = some y) → False := by
            intro t u W k h
            induction h with
            | nil t => intro h1 ⟨y, h2⟩; rw [h1] at h2; cases h2
            | @cons t u W k c hc _ ih =>
              intro h1 _
              refine ih h1 ?_
              by_cases ht : t = a.dst
              · subst ht
                rw [upd_self] at hc
                injection hc with hc
                subst hc
                exact ⟨x, hx⟩
              · rw [upd_ne _ _ ht] at hc
                obtain ⟨_, _, x1, y1, e1, _⟩ := hI.arc t c hc
                exact ⟨x1, e1⟩
          cases hC with
          | nil => omega
          | cons c hc hr =>
            refine notold hr hdv ?_
            by_cases ht : v = a.dst
            · subst ht
              rw [upd_self] at hc
              injection hc with hc
              subst hc
              exact ⟨x, hx⟩
            · rw [upd_ne _ _ ht] at hc
              obtain ⟨_, _, x1, y1, e1, _⟩ := hI.arc v c hc
              exact ⟨x1, e1⟩
theorem Inv.fold {A : List Arc} {S : Nat → Bool} : ∀ (B : List Arc) {σ : BF}, Inv A S σ → (∀ a ∈ B, a ∈ A) → Inv A S (B.foldl Go.Proofs.YtafdbgielmlihaaDoor.relax σ)
  | [], _, h, _ => h
  | b :: B, _, h, hB => Inv.fold B (h.relax (hB b (by simp))) fun a ha => hB a (by simp [ha])
theorem Inv.passes (A : List Arc) (S : Nat → Bool) : ∀ k, Inv A S (passes A k (init0 S))
  | 0 => Inv.init A S
  | k + 1 => Inv.fold A (Inv.passes A S k) fun _ h => h

/-! The nodes are fewer than n. -/
theorem pigeon : ∀ (n : Nat) (f : Nat → Nat), (∀ i, i ≤ n → f i < n) → ∃ i j, i < j ∧ j ≤ n ∧ f i = f j
  | 0, f, h => absurd (h 0 (Nat.le_refl _)) (by omega)
  | n + 1, f, h => by
    by_cases hm : ∃ i, i ≤ n ∧ f i = f (n + 1)
    · obtain ⟨i, hi, he⟩ := hm
      exact ⟨i, n + 1, by omega, Nat.le_refl _, he⟩
    · have hm' : ∀ i, i ≤ n → f i ≠ f (n + 1) := fun i hi he => hm ⟨i, hi, he⟩
      have hl := h (n + 1) (Nat.le_refl _)
      obtain ⟨i, j, hij, hj, he⟩ := pigeon n (fun i => if f i = n then f (n + 1) else f i) (by
        intro i hi
        have h1 := h i (by omega)
        have h2 := hm' i hi
        show (if f i = n then f (n + 1) else f i) < n
        split <;> omega)
      refine ⟨i, j, hij, by omega, ?_⟩
      have h1 := hm' i (by omega)
      have h2 := hm' j hj
      split at he <;> split at he <;> omega
/-- k steps back. -/
def backK (p : Nat → Option Arc) : Nat → Nat → Option Nat
  | 0, v => some v
  | k + 1, v => match p v with | none => none | some a => backK p k a.src
theorem back_chain (p : Nat → Option Arc) : ∀ (k v u : Nat), backK p k v = some u ↔ ∃ W, Chain p v u W k
  | 0, v, u => by
    unfold backK
    constructor
    · intro h; injection h with h; subst h; exact ⟨0, .nil _⟩
    · rintro ⟨W, h⟩; cases h; rfl
  | k + 1, v, u => by
    unfold backK
    cases hp : p v with
    | none =>
      constructor
      · intro h; cases h
      · rintro ⟨W, h⟩; cases h with | cons a ha _ => rw [hp] at ha; cases ha
    | some a =>
      simp only
      rw [back_chain p k a.src u]
      constructor
      · rintro ⟨W, h⟩; exact ⟨_, .cons a hp h⟩
      · rintro ⟨W, h⟩
        cases h with
        | cons c hc h => rw [hp] at hc; injection hc with hc; subst hc; exact ⟨_, h⟩
theorem back_add (p : Nat → Option Arc) : ∀ (i j v : Nat), backK p (i + j) v = (backK p i v).bind (backK p j)
  | 0, j, v => by rw [Nat.zero_add]; rfl
  | i + 1, j, v => by
    rw [show i + 1 + j = (i + j) + 1 by omega]
    unfold backK
    cases p v with
    | none => rfl
    | some a => simp only; exact back_add p i j a.src
/-- Where one comes back for ever, a ring is met within n steps; the node that is n steps back is on it. -/
theorem back_ring {p : Nat → Option Arc} {n v : Nat} (hn : ∀ k u, backK p k v = some u → u < n) (hall : ∀ k, k ≤ n → (backK p k v).isSome = true) :
    ∃ u t W, backK p n v = some u ∧ 0 < t ∧ t ≤ n ∧ Chain p u u W t := by
  obtain ⟨i, j, hij, hj, he⟩ := pigeon n (fun k => (backK p k v).getD 0) (by
    intro k hk
    have := hall k hk
    cases hb : backK p k v with
    | none => rw [hb] at this; cases this
    | some u => exact hn k u hb)
  have hi := hall i (by omega)
  have hj' := hall j hj
  obtain ⟨x, hx⟩ := Option.isSome_iff_exists.1 hi
  obtain ⟨y, hy⟩ := Option.isSome_iff_exists.1 hj'
  rw [hx, hy] at he
  simp at he
  subst he
  obtain ⟨u, hu⟩ := Option.isSome_iff_exists.1 (hall n (Nat.le_refl _))
  have h1 : backK p n v = backK p (n - i) x := by
    have := back_add p i (n - i) v
    rw [hx, show i + (n - i) = n by omega] at this
    exact this
  have h2 : backK p (j + (n - i)) v = backK p (n - i) x := by rw [back_add, hy]; rfl
  have h3 : backK p (n + (j - i)) v = some u := by rw [show n + (j - i) = j + (n - i) by omega, h2, ← h1]; exact hu
  rw [back_add, hu] at h3
  obtain ⟨W, hW⟩ := (back_chain p (j - i) u u).1 h3
  exact ⟨u, j - i, W, hu, by omega, by omega, hW⟩
/-- Back to a root it is fewer than n steps. -/
theorem back_root {p : Nat → Option Arc} {n v r k : Nat} (hn : ∀ k u, backK p k v = some u → u < n) (h : backK p k v = some r) (hr : p r = none) : k < n := by
  refine Nat.lt_of_not_le fun hk => ?_
  have hnone : ∀ j, k < j → backK p j v = none := by
    intro j hj
    rw [show j = k + (1 + (j - k - 1)) by omega, back_add, h]
    show backK p (1 + (j - k - 1)) r = none
    rw [Nat.add_comm]
    unfold backK
    rw [hr]
  have hsome : ∀ j, j ≤ k → (backK p j v).isSome = true := by
    intro j hj
    cases hb : backK p j v with
    | some _ => rfl
    | none =>
      have := back_add p j (k - j) v
      rw [hb, show j + (k - j) = k by omega, h] at this
      cases this
  obtain ⟨u, t, W, h1, h2, h3, h4⟩ := back_ring hn (fun j hj => hsome j (by omega))
  have h5 := (back_chain p t u u).2 ⟨W, h4⟩
  have h6 : ∀ i, backK p (n + i * t) v = some u := by
    intro i
    induction i with
    | zero => simpa using h1
    | succ i ih => rw [show n + (i + 1) * t = (n + i * t) + t by rw [Nat.succ_mul]; omega, back_add, ih]; exact h5
  have := h6 (k + 1)
  rw [hnone] at this
  · cases this
  · have : k + 1 ≤ (k + 1) * t := Nat.le_mul_of_pos_right _ h2
    omega

section
variable {A : List Arc} {S : Nat → Bool} {n : Nat}
theorem back_lt (hA : ∀ a ∈ A, a.src < n) {σ : BF} (hI : Inv A S σ) : ∀ (k v u : Nat), v < n → backK σ.p k v = some u → u < n
  | 0, v, u, hv, h => by unfold backK at h; injection h with h; omega
  | k + 1, v, u, hv, h => by
    unfold backK at h
    cases hp : σ.p v with
    | none => rw [hp] at h; cases h
    | some a =>
      rw [hp] at h
      exact back_lt hA hI k a.src u (hA a (hI.arc v a hp).1) h
/-- **What is bettered behind n passes is not come to from a root.** -/
theorem no_root (hA : ∀ a ∈ A, a.src < n) {σ : BF} (hI : Inv A S σ) {v : Nat} (hv : v < n) {y : Int} (hy : σ.d v = some y) (hb : lessO y ((passes A n (init0 S)).d v) = true) :
    ∀ k r, backK σ.p k v = some r → σ.p r ≠ none := by
  intro k r hk hr
  have hlt := back_root (fun k u h => back_lt hA hI k v u hv h) hk hr
  obtain ⟨W, hC⟩ := (back_chain σ.p k v r).1 hk
  have hdr : ∃ x, σ.d r = some x := by
    cases hC with
    | nil => exact ⟨y, hy⟩
    | cons a ha hC =>
      obtain ⟨_, _, x, _, e, _⟩ := hI.arc _ a ha
      exact hI.known hC ⟨x, e⟩
  obtain ⟨x, hx⟩ := hdr
  have hroot := hI.root r hr
  rw [hx] at hroot
  have hS : S r = true ∧ x = 0 := by
    unfold init0 at hroot
    simp only at hroot
    split at hroot
    · injection hroot with hroot; exact ⟨by assumption, hroot⟩
    · cases hroot
  obtain ⟨hS, rfl⟩ := hS
  obtain ⟨y', e1, h1⟩ := hI.chain hC 0 hx
  rw [hy] at e1
  injection e1 with e1
  obtain ⟨z, e2, h2⟩ := walk_bound (hI.walk hC) hS n (by omega)
  rw [e2] at hb
  simp only [lessO, decide_eq_true_eq] at hb
  omega
/-- So one comes from it back onto a ring that costs less than nothing. -/
theorem ring_of (hA : ∀ a ∈ A, a.src < n) {σ : BF} (hI : Inv A S σ) {v : Nat} (hv : v < n) {y : Int} (hy : σ.d v = some y) (hb : lessO y ((passes A n (init0 S)).d v) = true) :
    ∃ u t W, backK σ.p n v = some u ∧ 0 < t ∧ t ≤ n ∧ Chain σ.p u u W t ∧ W < 0 := by
  have hall : ∀ k, (backK σ.p k v).isSome = true := by
    intro k
    induction k with
    | zero => rfl
    | succ k ih =>
      obtain ⟨u, hu⟩ := Option.isSome_iff_exists.1 ih
      have := no_root hA hI hv hy hb k u hu
      rw [back_add, hu]
      show (backK σ.p 1 u).isSome = true
      unfold backK
      cases hp : σ.p u with
      | none => exact absurd hp this
      | some a => rfl
  obtain ⟨u, t, W, h1, h2, h3, h4⟩ := back_ring (fun k u h => back_lt hA hI k v u hv h) (fun k _ => hall k)
  exact ⟨u, t, W, h1, h2, h3, h4, hI.ring u W t h2 h4⟩

/-! With numbers at the nodes that rise by no more than the arcs cost, no ring costs less than nothing. -/
def Pot (A : List Arc) (π : Nat → Int) : Prop := ∀ a ∈ A, π a.dst ≤ π a.src + a.w
theorem walk_pot {π : Nat → Int} (hπ : Pot A π) {u v : Nat} {W : Int} {k : Nat} (h : Walk A u v W k) : π v ≤ π u + W := by
  induction h with
  | nil => omega
  | snoc a _ ha hs ih => have := hπ a ha; rw [hs] at this; omega
theorem no_ring {π : Nat → Int} (hπ : Pot A π) {σ : BF} (hI : Inv A S σ) {v : Nat} {W : Int} {k : Nat} (hk : 0 < k) : ¬ Chain σ.p v v W k := by
  intro h
  have h1 := hI.ring v W k hk h
  have h2 := walk_pot hπ (hI.walk h)
  omega
/-- **Behind n passes nothing is bettered.** -/
theorem tight (hA : ∀ a ∈ A, a.src < n) (hA2 : ∀ a ∈ A, a.dst < n) {π : Nat → Int} (hπ : Pot A π) {a : Arc} (ha : a ∈ A) {x : Int} (hx : (passes A n (init0 S)).d a.src = some x) :
    ∃ y, (passes A n (init0 S)).d a.dst = some y ∧ y ≤ x + a.w := by
  cases hl : lessO (x + a.w) ((passes A n (init0 S)).d a.dst) with
  | false =>
    cases hy : (passes A n (init0 S)).d a.dst with
    | none => rw [hy] at hl; cases hl
    | some y => rw [hy] at hl; simp [lessO] at hl; exact ⟨y, rfl, by omega⟩
  | true =>
    exfalso
    have hI := (Inv.passes A S n).relax ha
    have hd : (relax (passes A n (init0 S)) a).d a.dst = some (x + a.w) := by
      unfold relax
      rw [hx]
      simp only [hl, if_true, upd_self]
    obtain ⟨u, t, W, _, h2, _, h4, _⟩ := ring_of hA hI (hA2 a ha) hd hl
    exact no_ring hπ hI h2 h4
/-- The way back from a node that was come to ends at a root. -/
theorem root_of (hA : ∀ a ∈ A, a.src < n) {π : Nat → Int} (hπ : Pot A π) {σ : BF} (hI : Inv A S σ) {v : Nat} (hv : v < n) : ∃ k r, k < n ∧ backK σ.p k v = some r ∧ σ.p r = none := by
  apply Classical.byContradiction
  intro hno
  have hall : ∀ k, k ≤ n → (backK σ.p k v).isSome = true := by
    intro k
    induction k with
    | zero => intro _; rfl
    | succ k ih =>
      intro hk
      obtain ⟨u, hu⟩ := Option.isSome_iff_exists.1 (ih (by omega))
      rw [back_add, hu]
      show (backK σ.p 1 u).isSome = true
      unfold backK
      cases hp : σ.p u with
      | none => exact absurd ⟨k, u, by omega, hu, hp⟩ hno
      | some a => rfl
  obtain ⟨u, t, W, _, h2, _, h4⟩ := back_ring (fun k u h => back_lt hA hI k v u hv h) hall
  exact no_ring hπ hI h2 h4
end
end Go.Proofs.YtafdbgielmlihaaDoor
