/- A map from the four kinds: which of them it has. -/
import Derived.Test.YtkpengeaolcjhaaGreatDoorPkMlBestCardA
import Derived.Maps.Own
import Derived.Maps.OwnSet
import Derived.Maps.Range
import Derived.Carry
namespace Go.Proofs.YtkpengeaolcjhaaGreatDoor
open Go.RowKit Go.Shelf
set_option maxRecDepth 100000

structure S4 where
  a : Bool
  b : Bool
  c : Bool
  d : Bool
deriving DecidableEq
def S4.none : S4 := ⟨false, false, false, false⟩
def S4.all : S4 := ⟨true, true, true, true⟩
def S4.add (s : S4) (k : Int) : S4 := ⟨s.a || decide (k = 1), s.b || decide (k = 2), s.c || decide (k = 3), s.d || decide (k = 4)⟩
def S4.del (s : S4) (k : Int) : S4 := ⟨s.a && !decide (k = 1), s.b && !decide (k = 2), s.c && !decide (k = 3), s.d && !decide (k = 4)⟩
def S4.not (s : S4) : S4 := ⟨!s.a, !s.b, !s.c, !s.d⟩
def S4.has (s : S4) (k : Int) : Bool := (s.a && decide (k = 1)) || (s.b && decide (k = 2)) || (s.c && decide (k = 3)) || (s.d && decide (k = 4))
def S4.num (s : S4) : Nat := (if s.a then 1 else 0) + (if s.b then 1 else 0) + (if s.c then 1 else 0) + (if s.d then 1 else 0)
theorem S4.not_add (s : S4) (k : Int) : (s.add k).not = s.not.del k := by
  obtain ⟨a, b, c, d⟩ := s
  simp [S4.add, S4.not, S4.del]

/-- As a map reads. -/
def S4.datum (s : S4) : DataW Unit := .map ((if s.a then [(.int .i64 1, .lit (.bool true))] else []) ++ ((if s.b then [(.int .i64 2, .lit (.bool true))] else []) ++ ((if s.c then [(.int .i64 3, .lit (.bool true))] else []) ++ (if s.d then [(.int .i64 4, .lit (.bool true))] else []))))
theorem four {k : Int} (h1 : 1 ≤ k) (h4 : k ≤ 4) : k = 1 ∨ k = 2 ∨ k = 3 ∨ k = 4 := by omega
theorem S4.put (s : S4) {k : Int} (h1 : 1 ≤ k) (h4 : k ≤ 4) : s.datum.put (.int .i64 k) (.lit (.bool true)) = (s.add k).datum := by
  obtain ⟨a, b, c, d⟩ := s
  rcases four h1 h4 with rfl | rfl | rfl | rfl <;> cases a <;> cases b <;> cases c <;> cases d <;> rfl
theorem S4.drop (s : S4) {k : Int} (h1 : 1 ≤ k) (h4 : k ≤ 4) : s.datum.del (.int .i64 k) = (s.del k).datum := by
  obtain ⟨a, b, c, d⟩ := s
  rcases four h1 h4 with rfl | rfl | rfl | rfl <;> cases a <;> cases b <;> cases c <;> cases d <;> rfl
theorem S4.size (s : S4) : Maps.size s.datum = s.num := by
  obtain ⟨a, b, c, d⟩ := s
  cases a <;> cases b <;> cases c <;> cases d <;> rfl
theorem S4.at_ (s : S4) {k : Int} (h1 : 1 ≤ k) (h4 : k ≤ 4) : s.datum.atKey (.int .i64 k) (.lit (.bool false)) = .lit (.bool (s.has k)) := by
  obtain ⟨a, b, c, d⟩ := s
  rcases four h1 h4 with rfl | rfl | rfl | rfl <;> cases a <;> cases b <;> cases c <;> cases d <;> rfl
theorem S4.num_le (s : S4) : s.num ≤ 4 := by
  obtain ⟨a, b, c, d⟩ := s
  cases a <;> cases b <;> cases c <;> cases d <;> decide

def MapIs (W : World) (m : Nat) (s : S4) : Prop := W.ownsMap Tryz.prog 3 (plainElem Tryz.prog 4) m 4 s.datum
theorem own_tight {W : World} {m n : Nat} {D : DataW Unit} (h : W.ownsMap Tryz.prog 3 (plainElem Tryz.prog 4) m n D) : W.ownsMap Tryz.prog 3 (plainElem Tryz.prog 4) m (Maps.size D) D := by
  obtain ⟨es, clock, hb, F, hs, hD⟩ := h
  refine ⟨es, clock, hb, F, ?_, hD⟩
  rw [hD]
  simp [Maps.size, length_sorted]
theorem MapIs.of {W : World} {m n : Nat} {s : S4} (h : W.ownsMap Tryz.prog 3 (plainElem Tryz.prog 4) m n s.datum) : MapIs W m s := (own_tight h).mono (by rw [S4.size]; exact S4.num_le s)
theorem MapIs.made (w : World) : MapIs (w.alloc (.map #[] 0)) w.heap.size S4.none := MapIs.of (n := 0) (World.ownsMap_made w _ _ _)
theorem MapIs.lt {W : World} {m : Nat} {s : S4} (h : MapIs W m s) : m < W.heap.size := World.ownsMap.lt h
theorem MapIs.at_ {W W' : World} {m : Nat} {s : S4} (h : MapIs W m s) (e : W'.heap[m]? = W.heap[m]?) : MapIs W' m s := by
  obtain ⟨es, clock, hb, F, hs, hD⟩ := h
  exact ⟨es, clock, e.trans hb, F, hs, hD⟩
theorem MapIs.ext {W W' : World} {m : Nat} {s : S4} (h : MapIs W m s) (e : Ext W W') : MapIs W' m s := h.at_ (e.block m h.lt)
theorem MapIs.noCells {W : World} {m : Nat} {s : S4} (h : MapIs W m s) : ¬ ∃ c t f, W.heap[m]? = some (.cells c t f) := by
  obtain ⟨es, clock, hb, _⟩ := h
  rintro ⟨c, t, f, h⟩
  rw [hb] at h
  cases h
theorem key4 (k : Int) (h1 : 1 ≤ k) (h4 : k ≤ 4) : keyOf Tryz.prog 3 (.int .i64 k) = some (.int .i64 k) :=
  Maps.keyOf_int_mk Tryz.underlying3 (by rcases four h1 h4 with rfl | rfl | rfl | rfl <;> rfl)
theorem MapIs.store {W : World} {m : Nat} {s : S4} (h : MapIs W m s) {k : Int} (h1 : 1 ≤ k) (h4 : k ≤ 4) :
    ∃ W', (Instr.mapUpdate 93 (.map (some m)) (.int .i64 k) (.bool true)).run Tryz.prog W = .ok () W' ∧ MapIs W' m (s.add k) ∧ W.grownBy W' (some m) := by
  obtain ⟨W', hr, ho, ht⟩ := World.ownsMap.store h (Maps.int_keyed Tryz.underlying3) Tryz.underlying93 (by decide) (key4 k h1 h4) (plainElem_bool Tryz.underlying4 true)
  rw [S4.put s h1 h4] at ho
  exact ⟨W', hr, MapIs.of ho, ht.grown⟩
theorem MapIs.drop {W : World} {m : Nat} {s : S4} (h : MapIs W m s) {k : Int} (h1 : 1 ≤ k) (h4 : k ≤ 4) (ty : TypeId) :
    ∃ W', (Builtin.delete_ #[93, 3] ty #[.map (some m), .int .i64 k]).run Tryz.prog W = .ok (.tuple #[]) W' ∧ MapIs W' m (s.del k) ∧ W.grownBy W' (some m) := by
  obtain ⟨W', hr, ho, ht⟩ := World.ownsMap.drop h (Maps.int_keyed Tryz.underlying3) Tryz.underlying93 (key4 k h1 h4) ty
  rw [S4.drop s h1 h4] at ho
  exact ⟨W', hr, ho, ht.grown⟩
theorem MapIs.len {W : World} {m : Nat} {s : S4} (h : MapIs W m s) (ty : TypeId) : (Builtin.len_ #[93] ty #[.map (some m)]).run Tryz.prog W = .ok (.int .i64 (s.num : Nat)) W := by
  rw [← S4.size]
  exact World.ownsMap.len h Tryz.underlying93 ty
theorem MapIs.look {W : World} {m : Nat} {s : S4} (h : MapIs W m s) {k : Int} (h1 : 1 ≤ k) (h4 : k ≤ 4) : (Instr.lookup 93 (.map (some m)) (.int .i64 k) false).run Tryz.prog W = .ok (.bool (s.has k)) W := by
  obtain ⟨v, ps, hr, hv⟩ := World.ownsMap.lookup h (Maps.int_keyed Tryz.underlying3) Tryz.underlying93 (Tryz.zeroValue4 W) (plainElem_bool Tryz.underlying4 false) (key4 k h1 h4)
  rw [S4.at_ s h1 h4] at hv
  rw [hr]
  cases v <;> simp [plainElem, Tryz.underlying4] at hv
  rw [hv.1]
end Go.Proofs.YtkpengeaolcjhaaGreatDoor
/- A map from numbers to numbers, as a function that is 0 where the map has nothing. -/
namespace Go.Proofs.YtkpengeaolcjhaaGreatDoor
open Go.RowKit Go.Shelf
set_option linter.unusedSimpArgs false
set_option maxRecDepth 100000

def In64 (k : Int) : Prop := -1000000 ≤ k ∧ k ≤ 1000000
theorem In64.wf {k : Int} (h : In64 k) : (Lit.int .i64 k).wf = true := by
  unfold In64 at h
  have h1 : IntKind.i64.min = -9223372036854775808 := by decide
  have h2 : IntKind.i64.max = 9223372036854775807 := by decide
  simp only [Lit.wf, Bool.and_eq_true, decide_eq_true_eq, h1, h2]
  omega
def MapI (W : World) (m n : Nat) (g : Int → Int) : Prop :=
  ∃ D : DataW Unit, W.ownsMap Tryz.prog 3 (plainElem Tryz.prog 3) m n D ∧ Maps.IsMap D ∧ ∀ k, D.atKey (.int .i64 k) (.lit (.int .i64 0)) = .lit (.int .i64 (g k))
theorem MapI.made (w : World) : MapI (w.alloc (.map #[] 0)) w.heap.size 0 (fun _ => 0) :=
  ⟨.map [], World.ownsMap_made w _ _ _, ⟨_, rfl⟩, fun _ => rfl⟩
theorem MapI.lt {W : World} {m n : Nat} {g : Int → Int} (h : MapI W m n g) : m < W.heap.size := by
  obtain ⟨D, h, _⟩ := h
  exact World.ownsMap.lt h
theorem MapI.at_ {W W' : World} {m n : Nat} {g : Int → Int} (h : MapI W m n g) (e : W'.heap[m]? = W.heap[m]?) : MapI W' m n g := by
  obtain ⟨D, ⟨es, clock, hb, F, hs, hD⟩, hg⟩ := h
  exact ⟨D, ⟨es, clock, e.trans hb, F, hs, hD⟩, hg⟩
theorem MapI.ext {W W' : World} {m n : Nat} {g : Int → Int} (h : MapI W m n g) (e : Ext W W') : MapI W' m n g := h.at_ (e.block m h.lt)
theorem MapI.mono {W : World} {m n n' : Nat} {g : Int → Int} (h : MapI W m n g) (hn : n ≤ n') : MapI W m n' g := by
  obtain ⟨D, ho, hg⟩ := h
  exact ⟨D, ho.mono hn, hg⟩
theorem MapI.noCells {W : World} {m n : Nat} {g : Int → Int} (h : MapI W m n g) : ¬ ∃ c t f, W.heap[m]? = some (.cells c t f) := by
  obtain ⟨D, ⟨es, clock, hb, _⟩, _⟩ := h
  rintro ⟨c, t, f, h⟩
  rw [hb] at h
  cases h
theorem MapI.store {W : World} {m n : Nat} {g : Int → Int} (h : MapI W m n g) {k v : Int} (hk : In64 k) (hn : n < 100000000) (hv : In64 v) :
    ∃ W', (Instr.mapUpdate 84 (.map (some m)) (.int .i64 k) (.int .i64 v)).run Tryz.prog W = .ok () W' ∧ MapI W' m (n + 1) (fun x => if x = k then v else g x) ∧ W.grownBy W' (some m) := by
  obtain ⟨D, ho, hM, hg⟩ := h
  obtain ⟨W', hr, ho', ht⟩ := ho.store (Maps.int_keyed Tryz.underlying3) Tryz.underlying84 (by unfold maxLen; omega) (Maps.keyOf_int_mk Tryz.underlying3 hk.wf) (plainElem_int Tryz.underlying3 hv.wf)
  refine ⟨W', hr, ⟨_, ho', ho'.isMap, fun x => ?_⟩, ht.grown⟩
  by_cases hx : x = k
  · subst hx
    rw [Maps.atKey_put_same hM ((Maps.int_keyed Tryz.underlying3).key (Maps.keyOf_int_mk Tryz.underlying3 hk.wf))]
    simp
  · rw [Maps.atKey_put_other (by intro e; injection e with _ e; exact hx e), hg x]
    simp [hx]
theorem MapI.drop {W : World} {m n : Nat} {g : Int → Int} (h : MapI W m n g) {k : Int} (hk : In64 k) (ty : TypeId) :
    ∃ W', (Builtin.delete_ #[84, 3] ty #[.map (some m), .int .i64 k]).run Tryz.prog W = .ok (.tuple #[]) W' ∧ MapI W' m n (fun x => if x = k then 0 else g x) ∧ W.grownBy W' (some m) := by
  obtain ⟨D, ho, hM, hg⟩ := h
  obtain ⟨W', hr, ho', ht⟩ := ho.drop (Maps.int_keyed Tryz.underlying3) Tryz.underlying84 (Maps.keyOf_int_mk Tryz.underlying3 hk.wf) ty
  refine ⟨W', hr, ⟨_, ho', ho'.isMap, fun x => ?_⟩, ht.grown⟩
  by_cases hx : x = k
  · subst hx
    rw [Maps.atKey_del_same]
    simp
  · rw [Maps.atKey_del_other (by intro e; injection e with _ e; exact hx e), hg x]
    simp [hx]
theorem MapI.look {W : World} {m n : Nat} {g : Int → Int} (h : MapI W m n g) {k : Int} (hk : In64 k) : (Instr.lookup 84 (.map (some m)) (.int .i64 k) false).run Tryz.prog W = .ok (.int .i64 (g k)) W := by
  obtain ⟨D, ho, hM, hg⟩ := h
  obtain ⟨c, hr, hc, -⟩ := ho.lookup_int (Maps.int_keyed Tryz.underlying3) Tryz.underlying84 Tryz.underlying3 (Tryz.zeroValue3 W) (Maps.keyOf_int_mk Tryz.underlying3 hk.wf)
  rw [hg k] at hc
  injection hc with hc
  injection hc with _ hc
  rw [hr, hc]
end Go.Proofs.YtkpengeaolcjhaaGreatDoor
/- A map from numbers to truth values, as a function that is false where the map has nothing. -/
namespace Go.Proofs.YtkpengeaolcjhaaGreatDoor
open Go.RowKit Go.Shelf
set_option linter.unusedSimpArgs false
set_option maxRecDepth 100000

def MapB (W : World) (m n : Nat) (g : Int → Bool) : Prop :=
  ∃ D : DataW Unit, W.ownsMap Tryz.prog 3 (plainElem Tryz.prog 4) m n D ∧ Maps.IsMap D ∧ ∀ k, D.atKey (.int .i64 k) (.lit (.bool false)) = .lit (.bool (g k))
theorem MapB.made (w : World) : MapB (w.alloc (.map #[] 0)) w.heap.size 0 (fun _ => false) :=
  ⟨.map [], World.ownsMap_made w _ _ _, ⟨_, rfl⟩, fun _ => rfl⟩
theorem MapB.lt {W : World} {m n : Nat} {g : Int → Bool} (h : MapB W m n g) : m < W.heap.size := by
  obtain ⟨D, h, _⟩ := h
  exact World.ownsMap.lt h
theorem MapB.at_ {W W' : World} {m n : Nat} {g : Int → Bool} (h : MapB W m n g) (e : W'.heap[m]? = W.heap[m]?) : MapB W' m n g := by
  obtain ⟨D, ⟨es, clock, hb, F, hs, hD⟩, hg⟩ := h
  exact ⟨D, ⟨es, clock, e.trans hb, F, hs, hD⟩, hg⟩
theorem MapB.ext {W W' : World} {m n : Nat} {g : Int → Bool} (h : MapB W m n g) (e : Ext W W') : MapB W' m n g := h.at_ (e.block m h.lt)
theorem MapB.noCells {W : World} {m n : Nat} {g : Int → Bool} (h : MapB W m n g) : ¬ ∃ c t f, W.heap[m]? = some (.cells c t f) := by
  obtain ⟨D, ⟨es, clock, hb, _⟩, _⟩ := h
  rintro ⟨c, t, f, h⟩
  rw [hb] at h
  cases h
theorem MapB.store {W : World} {m n : Nat} {g : Int → Bool} (h : MapB W m n g) {k : Int} (hk : In64 k) (hn : n < 100000000) (v : Bool) :
    ∃ W', (Instr.mapUpdate 93 (.map (some m)) (.int .i64 k) (.bool v)).run Tryz.prog W = .ok () W' ∧ MapB W' m (n + 1) (fun x => if x = k then v else g x) ∧ W.grownBy W' (some m) := by
  obtain ⟨D, ho, hM, hg⟩ := h
  obtain ⟨W', hr, ho', ht⟩ := ho.store (Maps.int_keyed Tryz.underlying3) Tryz.underlying93 (by unfold maxLen; omega) (Maps.keyOf_int_mk Tryz.underlying3 hk.wf) (plainElem_bool Tryz.underlying4 v)
  refine ⟨W', hr, ⟨_, ho', ho'.isMap, fun x => ?_⟩, ht.grown⟩
  by_cases hx : x = k
  · subst hx
    rw [Maps.atKey_put_same hM ((Maps.int_keyed Tryz.underlying3).key (Maps.keyOf_int_mk Tryz.underlying3 hk.wf))]
    simp
  · rw [Maps.atKey_put_other (by intro e; injection e with _ e; exact hx e), hg x]
    simp [hx]
theorem MapB.look {W : World} {m n : Nat} {g : Int → Bool} (h : MapB W m n g) {k : Int} (hk : In64 k) : (Instr.lookup 93 (.map (some m)) (.int .i64 k) false).run Tryz.prog W = .ok (.bool (g k)) W := by
  obtain ⟨D, ho, hM, hg⟩ := h
  obtain ⟨v, ps, hr, hv⟩ := ho.lookup (Maps.int_keyed Tryz.underlying3) Tryz.underlying93 (Tryz.zeroValue4 W) (plainElem_bool Tryz.underlying4 false) (Maps.keyOf_int_mk Tryz.underlying3 hk.wf)
  rw [hg k] at hv
  rw [hr]
  cases v <;> simp [plainElem, Tryz.underlying4] at hv
  rw [hv.1]
end Go.Proofs.YtkpengeaolcjhaaGreatDoor
