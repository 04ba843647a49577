/- The reference's round, part one: one sale of a pass. -/
import Derived.Test.YtafdbgielmlihaaDoorPkChLeastCardE
import Derived.Test.YtafdbgielmlihaaDoorPkChLeastCardD
import Derived.Test.YtafdbgielmlihaaDoorPkChLeastCardL
import Derived.Deep.CutBlock
namespace Go.Proofs.YtafdbgielmlihaaDoor
open Go.RowKit Go.Shelf Go.Lib
set_option maxRecDepth 100000
set_option linter.unusedSimpArgs false

/-- Memory in a pass. -/
structure RdW (w0 : World) (b3 gc gb : Nat) (hv sv : Value) (cost by' : List Int) (W : World) : Prop where
  e : Ext w0 W
  b : Blk W b3 25 #[hv, sv]
  c : RowI W gc cost
  y : RowI W gb by'
theorem RdW.ext {w0 : World} {b3 gc gb : Nat} {hv sv : Value} {cost by' : List Int} {W W' : World} (h : RdW w0 b3 gc gb hv sv cost by' W) (k : Ext W W') : RdW w0 b3 gc gb hv sv cost by' W' :=
  ⟨h.e.trans k, h.b.ext k, h.c.ext k, h.y.ext k⟩
/-- While two numbers are stored. -/
structure StC (w0 : World) (b3 gc gb bx : Nat) (hv sv : Value) (xs : Array Value) (by' by1 : List Int) (W : World) : Prop where
  e : Ext w0 W
  b : Blk W b3 25 #[hv, sv]
  x : Blk W bx 68 xs
  c : ∃ z, RowI W gc z
  y : RowI W gb by' ∨ RowI W gb by1
theorem StC.drew {w0 : World} {b3 gc gb bx : Nat} {hv sv : Value} {xs : Array Value} {by' by1 : List Int} {W : World} (h : StC w0 b3 gc gb bx hv sv xs by' by1 W) : StC w0 b3 gc gb bx hv sv xs by' by1 W.drew :=
  ⟨h.e.trans (Ext.refl _).drew, h.b.ext (Ext.refl _).drew, h.x.ext (Ext.refl _).drew, h.c.imp fun _ h => h.ext (Ext.refl _).drew, h.y.imp (·.ext (Ext.refl _).drew) (·.ext (Ext.refl _).drew)⟩

end Go.Proofs.YtafdbgielmlihaaDoor
/- The reference's round, part three: back to the ring, and round it. -/
namespace Go.Proofs.YtafdbgielmlihaaDoor
open Go.RowKit Go.Shelf Go.Lib
set_option maxRecDepth 100000
set_option linter.unusedSimpArgs false

/-- Memory while one goes round. -/
structure RgW (w0 : World) (b3 gc gb go : Nat) (hv sv : Value) (cost by' z : List Int) (W : World) : Prop where
  r : RdW w0 b3 gc gb hv sv cost by' W
  o : RowI W go z
theorem RgW.ext {w0 : World} {b3 gc gb go : Nat} {hv sv : Value} {cost by' z : List Int} {W W' : World} (h : RgW w0 b3 gc gb go hv sv cost by' z W) (k : Ext W W') : RgW w0 b3 gc gb go hv sv cost by' z W' :=
  ⟨h.r.ext k, h.o.ext k⟩
theorem RgW.set {w0 : World} {b3 gc gb go : Nat} {hv sv : Value} {cost by' z : List Int} {W : World} (h : RgW w0 b3 gc gb go hv sv cost by' z W) (hg : w0.heap.size ≤ go) (x1 : b3 ≠ go) (x2 : gc ≠ go) (x3 : gb ≠ go) (i : Nat) (x : Int) :
    RgW w0 b3 gc gb go hv sv cost by' (z.set i x) (W.setCell ⟨go, i, none⟩ (.int .i64 x)) :=
  ⟨⟨h.r.e.setCell hg _, h.r.b.far x1 _, h.r.c.far x2 _, h.r.y.far x3 _⟩, h.o.set i x⟩
end Go.Proofs.YtafdbgielmlihaaDoor
/- The reference's cheapest: rings are gone round until none is left. -/
namespace Go.Proofs.YtafdbgielmlihaaDoor
open Go.RowKit Go.Shelf Go.Lib
set_option maxRecDepth 100000
set_option linter.unusedSimpArgs false

/-- Numbers at the head of a block of their own. -/
def RowX (w : World) (g : Nat) (m : List Int) : Prop := ∃ cur, Blk w g 3 cur ∧ m.length ≤ cur.size ∧ ∀ (i : Nat) (x : Int), m[i]? = some x → cur[i]? = some (Value.int .i64 x)
section
variable {w w' : World} {g : Nat} {m : List Int}
theorem RowX.lt (h : RowX w g m) : g < w.heap.size := by obtain ⟨cur, h, -, -⟩ := h; exact Blk.lt h
theorem RowX.cell (h : RowX w g m) {i : Nat} {x : Int} (hx : m[i]? = some x) : w.cell? ⟨g, i, none⟩ = some (.int .i64 x) := by
  obtain ⟨cur, h, -, h2⟩ := h
  rw [Blk.cell h i]
  exact h2 i x hx
theorem RowX.frozen (h : RowX w g m) (i : Nat) : w.frozen? ⟨g, i, none⟩ = false := by obtain ⟨cur, h, -, -⟩ := h; exact Blk.frozen h i
theorem RowX.ext (h : RowX w g m) (e : Ext w w') : RowX w' g m := by obtain ⟨cur, h, h1⟩ := h; exact ⟨cur, Blk.ext h e, h1⟩
theorem RowX.set (h : RowX w g m) (i : Nat) (x : Int) : RowX (w.setCell ⟨g, i, none⟩ (.int .i64 x)) g (m.set i x) := by
  obtain ⟨cur, h, h1, h2⟩ := h
  refine ⟨_, Blk.set_ h i (.int .i64 x), by simpa using h1, fun j y hy => ?_⟩
  rw [List.getElem?_set] at hy
  rw [Array.getElem?_setIfInBounds]
  by_cases e : i = j
  · subst e
    rw [if_pos rfl] at hy ⊢
    split at hy
    · injection hy with hy
      rw [if_pos (by omega), hy]
    · cases hy
  · rw [if_neg e] at hy ⊢
    exact h2 j y hy
theorem RowX.sl (h : RowX w g m) {c : Nat} (hl : m.length ≤ c) (hc : c ≤ maxLen) : SlI w (.slice (some ⟨g, 0, none⟩) m.length c) m := by
  refine ⟨_, _, rfl, hl, hc, fun _ => ⟨g, 0, rfl, h.lt, fun k x hx j u hu => ?_⟩⟩
  have hj : j = 0 := by
    have := (List.getElem?_eq_some_iff.1 hu).1
    simp [encI] at this
    omega
  subst hj
  have e : u = .int .i64 x := by simpa [encI] using hu.symm
  rw [e, show 0 + k * 1 + 0 = k by omega]
  exact h.cell hx
end
theorem rowX_own {w : World} {base : Nat} {v : Value} {l : List Int} (h : Own encI 3 1 w base v l) : (v = .slice none 0 0 ∧ l = []) ∨ ∃ g c, v = .slice (some ⟨g, 0, none⟩) l.length c ∧ base ≤ g ∧ l.length ≤ c ∧ c ≤ maxLen ∧ RowX w g l := by
  rcases own_form h with h | ⟨g, cap, cur, h1, h2, h3, h4, h5, h6, h7⟩
  · exact .inl h
  · refine .inr ⟨g, cap, h1, h2, h4, h5, cur, h3, by omega, fun i x hx => ?_⟩
    have hi := (List.getElem?_eq_some_iff.1 hx).1
    have e := flatMap_at (enc := encI) (sz := 1) (fun _ => rfl) l i x hx 0 (.int .i64 x) rfl
    simp only [Nat.mul_one, Nat.add_zero] at e
    have e2 : (cur.toList.take l.length)[i]? = some (.int .i64 x) := by
      first | rw [h7]; exact e | (rw [show l.length = l.length * 1 by omega, h7]; exact e)
    rw [List.getElem?_take, if_pos hi] at e2
    rw [← Array.getElem?_toList]
    exact e2
/-- A list in new memory of its own. -/
def OwnM (B : Nat) (v : Value) (l : List Int) (W : World) : Prop := ∃ A cm gm, v = .slice A l.length cm ∧ l.length ≤ cm ∧ cm ≤ maxLen ∧ (0 < l.length → A = some ⟨gm, 0, none⟩ ∧ B ≤ gm ∧ RowX W gm l)
theorem OwnM.sl {B : Nat} {v : Value} {l : List Int} {W : World} (h : OwnM B v l W) : SlI W v l := by
  obtain ⟨A, cm, gm, rfl, h1, h2, h3⟩ := h
  by_cases h0 : 0 < l.length
  · obtain ⟨rfl, -, hx⟩ := h3 h0
    exact hx.sl h1 h2
  · exact ⟨A, cm, rfl, h1, h2, fun h => absurd h h0⟩
theorem OwnM.ext {B : Nat} {v : Value} {l : List Int} {W W' : World} (h : OwnM B v l W) (e : Ext W W') : OwnM B v l W' := by
  obtain ⟨A, cm, gm, h0, h1, h2, h3⟩ := h
  exact ⟨A, cm, gm, h0, h1, h2, fun h => ⟨(h3 h).1, (h3 h).2.1, (h3 h).2.2.ext e⟩⟩
theorem OwnM.base {B B' : Nat} {v : Value} {l : List Int} {W : World} (h : OwnM B v l W) (e : B' ≤ B) : OwnM B' v l W := by
  obtain ⟨A, cm, gm, h0, h1, h2, h3⟩ := h
  exact ⟨A, cm, gm, h0, h1, h2, fun h => ⟨(h3 h).1, Nat.le_trans e (h3 h).2.1, (h3 h).2.2⟩⟩
end Go.Proofs.YtafdbgielmlihaaDoor
