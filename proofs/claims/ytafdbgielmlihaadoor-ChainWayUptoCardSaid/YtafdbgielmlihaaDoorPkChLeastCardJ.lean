/- A map from numbers to numbers, as a function that is 0 where the map has nothing. -/
import Derived.Test.YtafdbgielmlihaaDoorPkChLeastCardA
import Derived.Maps.Own
import Derived.Maps.OwnSet
import Derived.Maps.Range
import Derived.Carry
namespace Go.Proofs.YtafdbgielmlihaaDoor
open Go.RowKit Go.Shelf
set_option linter.unusedSimpArgs false
set_option maxRecDepth 100000

def In64 (k : Int) : Prop := -1000000 ≤ k ∧ k ≤ 1000000
theorem In64.wf {k : Int} (h : In64 k) : (Lit.int .i64 k).wf = true := by
  unfold In64 at h
  have h1 : IntKind.i64.min = -9223372036854775808 := by decide
  have h2 : IntKind.i64.max = 9223372036854775807 := by decide
  simp only [Lit.wf, Bool.and_eq_true, decide_eq_true_eq, h1, h2]
  omega
def MapI (W : World) (m n : Nat) (g : Int → Int) : Prop :=
  ∃ D : DataW Unit, W.ownsMap Tryd.prog 3 (plainElem Tryd.prog 3) m n D ∧ Maps.IsMap D ∧ ∀ k, D.atKey (.int .i64 k) (.lit (.int .i64 0)) = .lit (.int .i64 (g k))
theorem MapI.made (w : World) : MapI (w.alloc (.map #[] 0)) w.heap.size 0 (fun _ => 0) :=
  ⟨.map [], World.ownsMap_made w _ _ _, ⟨_, rfl⟩, fun _ => rfl⟩
theorem MapI.lt {W : World} {m n : Nat} {g : Int → Int} (h : MapI W m n g) : m < W.heap.size := by
  obtain ⟨D, h, _⟩ := h
  exact World.ownsMap.lt h
theorem MapI.at_ {W W' : World} {m n : Nat} {g : Int → Int} (h : MapI W m n g) (e : W'.heap[m]? = W.heap[m]?) : MapI W' m n g := by
  obtain ⟨D, ⟨es, clock, hb, F, hs, hD⟩, hg⟩ := h
  exact ⟨D, ⟨es, clock, e.trans hb, F, hs, hD⟩, hg⟩
theorem MapI.ext {W W' : World} {m n : Nat} {g : Int → Int} (h : MapI W m n g) (e : Ext W W') : MapI W' m n g := h.at_ (e.block m h.lt)
theorem MapI.mono {W : World} {m n n' : Nat} {g : Int → Int} (h : MapI W m n g) (hn : n ≤ n') : MapI W m n' g := by
  obtain ⟨D, ho, hg⟩ := h
  exact ⟨D, ho.mono hn, hg⟩
theorem MapI.noCells {W : World} {m n : Nat} {g : Int → Int} (h : MapI W m n g) : ¬ ∃ c t f, W.heap[m]? = some (.cells c t f) := by
  obtain ⟨D, ⟨es, clock, hb, _⟩, _⟩ := h
  rintro ⟨c, t, f, h⟩
  rw [hb] at h
  cases h
theorem MapI.store {W : World} {m n : Nat} {g : Int → Int} (h : MapI W m n g) {k v : Int} (hk : In64 k) (hn : n < 100000000) (hv : In64 v) :
    ∃ W', (Instr.mapUpdate 117 (.map (some m)) (.int .i64 k) (.int .i64 v)).run Tryd.prog W = .ok () W' ∧ MapI W' m (n + 1) (fun x => if x = k then v else g x) ∧ W.grownBy W' (some m) := by
  obtain ⟨D, ho, hM, hg⟩ := h
  obtain ⟨W', hr, ho', ht⟩ := ho.store (Maps.int_keyed Tryd.underlying3) Tryd.underlying117 (by unfold maxLen; omega) (Maps.keyOf_int_mk Tryd.underlying3 hk.wf) (plainElem_int Tryd.underlying3 hv.wf)
  refine ⟨W', hr, ⟨_, ho', ho'.isMap, fun x => ?_⟩, ht.grown⟩
  by_cases hx : x = k
  · subst hx
    rw [Maps.atKey_put_same hM ((Maps.int_keyed Tryd.underlying3).key (Maps.keyOf_int_mk Tryd.underlying3 hk.wf))]
    simp
  · rw [Maps.atKey_put_other (by intro e; injection e with _ e; exact hx e), hg x]
    simp [hx]
theorem MapI.drop {W : World} {m n : Nat} {g : Int → Int} (h : MapI W m n g) {k : Int} (hk : In64 k) (ty : TypeId) :
    ∃ W', (Builtin.delete_ #[117, 3] ty #[.map (some m), .int .i64 k]).run Tryd.prog W = .ok (.tuple #[]) W' ∧ MapI W' m n (fun x => if x = k then 0 else g x) ∧ W.grownBy W' (some m) := by
  obtain ⟨D, ho, hM, hg⟩ := h
  obtain ⟨W', hr, ho', ht⟩ := ho.drop (Maps.int_keyed Tryd.underlying3) Tryd.underlying117 (Maps.keyOf_int_mk Tryd.underlying3 hk.wf) ty
  refine ⟨W', hr, ⟨_, ho', ho'.isMap, fun x => ?_⟩, ht.grown⟩
  by_cases hx : x = k
  · subst hx
    rw [Maps.atKey_del_same]
    simp
  · rw [Maps.atKey_del_other (by intro e; injection e with _ e; exact hx e), hg x]
    simp [hx]
theorem MapI.look {W : World} {m n : Nat} {g : Int → Int} (h : MapI W m n g) {k : Int} (hk : In64 k) : (Instr.lookup 117 (.map (some m)) (.int .i64 k) false).run Tryd.prog W = .ok (.int .i64 (g k)) W := by
  obtain ⟨D, ho, hM, hg⟩ := h
  obtain ⟨c, hr, hc, -⟩ := ho.lookup_int (Maps.int_keyed Tryd.underlying3) Tryd.underlying117 Tryd.underlying3 (Tryd.zeroValue3 W) (Maps.keyOf_int_mk Tryd.underlying3 hk.wf)
  rw [hg k] at hc
  injection hc with hc
  injection hc with _ hc
  rw [hr, hc]
end Go.Proofs.YtafdbgielmlihaaDoor
/- A map from numbers to truth values, as a function that is false where the map has nothing. -/
namespace Go.Proofs.YtafdbgielmlihaaDoor
open Go.RowKit Go.Shelf
set_option linter.unusedSimpArgs false
set_option maxRecDepth 100000

def MapB (W : World) (m n : Nat) (g : Int → Bool) : Prop :=
  ∃ D : DataW Unit, W.ownsMap Tryd.prog 3 (plainElem Tryd.prog 4) m n D ∧ Maps.IsMap D ∧ ∀ k, D.atKey (.int .i64 k) (.lit (.bool false)) = .lit (.bool (g k))
theorem MapB.made (w : World) : MapB (w.alloc (.map #[] 0)) w.heap.size 0 (fun _ => false) :=
  ⟨.map [], World.ownsMap_made w _ _ _, ⟨_, rfl⟩, fun _ => rfl⟩
theorem MapB.lt {W : World} {m n : Nat} {g : Int → Bool} (h : MapB W m n g) : m < W.heap.size := by
  obtain ⟨D, h, _⟩ := h
  exact World.ownsMap.lt h
theorem MapB.at_ {W W' : World} {m n : Nat} {g : Int → Bool} (h : MapB W m n g) (e : W'.heap[m]? = W.heap[m]?) : MapB W' m n g := by
  obtain ⟨D, ⟨es, clock, hb, F, hs, hD⟩, hg⟩ := h
  exact ⟨D, ⟨es, clock, e.trans hb, F, hs, hD⟩, hg⟩
theorem MapB.ext {W W' : World} {m n : Nat} {g : Int → Bool} (h : MapB W m n g) (e : Ext W W') : MapB W' m n g := h.at_ (e.block m h.lt)
theorem MapB.noCells {W : World} {m n : Nat} {g : Int → Bool} (h : MapB W m n g) : ¬ ∃ c t f, W.heap[m]? = some (.cells c t f) := by
  obtain ⟨D, ⟨es, clock, hb, _⟩, _⟩ := h
  rintro ⟨c, t, f, h⟩
  rw [hb] at h
  cases h
theorem MapB.store {W : World} {m n : Nat} {g : Int → Bool} (h : MapB W m n g) {k : Int} (hk : In64 k) (hn : n < 100000000) (v : Bool) :
    ∃ W', (Instr.mapUpdate 147 (.map (some m)) (.int .i64 k) (.bool v)).run Tryd.prog W = .ok () W' ∧ MapB W' m (n + 1) (fun x => if x = k then v else g x) ∧ W.grownBy W' (some m) := by
  obtain ⟨D, ho, hM, hg⟩ := h
  obtain ⟨W', hr, ho', ht⟩ := ho.store (Maps.int_keyed Tryd.underlying3) Tryd.underlying147 (by unfold maxLen; omega) (Maps.keyOf_int_mk Tryd.underlying3 hk.wf) (plainElem_bool Tryd.underlying4 v)
  refine ⟨W', hr, ⟨_, ho', ho'.isMap, fun x => ?_⟩, ht.grown⟩
  by_cases hx : x = k
  · subst hx
    rw [Maps.atKey_put_same hM ((Maps.int_keyed Tryd.underlying3).key (Maps.keyOf_int_mk Tryd.underlying3 hk.wf))]
    simp
  · rw [Maps.atKey_put_other (by intro e; injection e with _ e; exact hx e), hg x]
    simp [hx]
theorem MapB.look {W : World} {m n : Nat} {g : Int → Bool} (h : MapB W m n g) {k : Int} (hk : In64 k) : (Instr.lookup 147 (.map (some m)) (.int .i64 k) false).run Tryd.prog W = .ok (.bool (g k)) W := by
  obtain ⟨D, ho, hM, hg⟩ := h
  obtain ⟨v, ps, hr, hv⟩ := ho.lookup (Maps.int_keyed Tryd.underlying3) Tryd.underlying147 (Tryd.zeroValue4 W) (plainElem_bool Tryd.underlying4 false) (Maps.keyOf_int_mk Tryd.underlying3 hk.wf)
  rw [hg k] at hv
  rw [hr]
  cases v <;> simp [plainElem, Tryd.underlying4] at hv
  rw [hv.1]
end Go.Proofs.YtafdbgielmlihaaDoor
