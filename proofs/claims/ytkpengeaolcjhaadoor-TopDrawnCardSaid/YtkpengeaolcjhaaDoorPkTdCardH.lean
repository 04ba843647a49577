/- middlinglaw03.CoreTells: the walk. -/
import Derived.Test.YtkpengeaolcjhaaDoorPkMlTellsCardG
import Derived.Test.YtkpengeaolcjhaaDoorPkMlTellsCardF
import Derived.Test.YtkpengeaolcjhaaDoorPkMlTellsCardD
namespace Go.Proofs.YtkpengeaolcjhaaDoor
open Go.RowKit Go.Shelf
set_option maxRecDepth 100000
set_option linter.unusedSimpArgs false

/-- The two boxes of a law: the bale that came in, and its twin. -/
structure St (b : Bale) (w : World) (p q : Nat) (dv wv d2 w2 : Value) (W : World) : Prop where
  e : Ext w W
  p : Blk W p 59 #[.int .i64 b.id, .int .i64 b.layers, .int .i64 b.dry.lo, .int .i64 b.dry.hi, dv, wv]
  q : Blk W q 59 #[.int .i64 b.id, .int .i64 b.layers, .int .i64 b.dry.lo, .int .i64 b.dry.hi, d2, w2]
  t : Tab W
  a1 : SlD W dv b.draws
  a2 : SlW W wv b.weighs
  b1 : SlD W d2 b.draws
  b2 : SlW W w2 b.weighs
theorem St.ext {b : Bale} {w : World} {p q : Nat} {dv wv d2 w2 : Value} {W W' : World} (h : St b w p q dv wv d2 w2 W) (e : Ext W W') : St b w p q dv wv d2 w2 W' :=
  ⟨h.e.trans e, h.p.ext e, h.q.ext e, h.t.ext e, h.a1.ext e, h.a2.ext e, h.b1.ext e, h.b2.ext e⟩
theorem St.cells {b : Bale} {w : World} {p q : Nat} {dv wv d2 w2 : Value} {W : World} (h : St b w p q dv wv d2 w2 W) :
    (W.cell? ⟨p, 0, none⟩ = some (.int .i64 b.id) ∧ W.cell? ⟨p, 1, none⟩ = some (.int .i64 b.layers) ∧ W.cell? ⟨p, 2, none⟩ = some (.int .i64 b.dry.lo) ∧ W.cell? ⟨p, 3, none⟩ = some (.int .i64 b.dry.hi) ∧ W.cell? ⟨p, 4, none⟩ = some dv ∧ W.cell? ⟨p, 5, none⟩ = some wv) ∧
    (W.cell? ⟨q, 0, none⟩ = some (.int .i64 b.id) ∧ W.cell? ⟨q, 1, none⟩ = some (.int .i64 b.layers) ∧ W.cell? ⟨q, 2, none⟩ = some (.int .i64 b.dry.lo) ∧ W.cell? ⟨q, 3, none⟩ = some (.int .i64 b.dry.hi) ∧ W.cell? ⟨q, 4, none⟩ = some d2 ∧ W.cell? ⟨q, 5, none⟩ = some w2) ∧ p < W.heap.size ∧ q < W.heap.size :=
  ⟨⟨h.p.cell 0, h.p.cell 1, h.p.cell 2, h.p.cell 3, h.p.cell 4, h.p.cell 5⟩, ⟨h.q.cell 0, h.q.cell 1, h.q.cell 2, h.q.cell 3, h.q.cell 4, h.q.cell 5⟩, h.p.lt, h.q.lt⟩

theorem eql55s (a b : Int) (w : World) : (binOp .eql 55 (.agg #[.int .i64 a, .int .i64 b]) (.agg #[.int .i64 a, .int .i64 b])).run Tryd.prog w = .ok (.bool true) w := by
  rw [run_eql_struct, show (10000 : Nat) = 9998 + 2 from rfl, eqin55]; simp [Result.andThen]

end Go.Proofs.YtkpengeaolcjhaaDoor
