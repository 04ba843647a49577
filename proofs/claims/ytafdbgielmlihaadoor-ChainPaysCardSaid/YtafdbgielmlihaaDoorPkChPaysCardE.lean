/- A span that comes into a law by value. -/
import Derived.Test.YtafdbgielmlihaaDoorPkChTellsCardI
namespace Go.Proofs.YtafdbgielmlihaaDoor
open Go.RowKit Go.Shelf Go.ChangeShapes Go.WideShapes Go.ChangeAt
set_option maxRecDepth 100000

section
variable {H : Type} {enc : TypeId × Value → H} {w : World}
theorem coSpan : Tryd.prog.cellsOf 48 = 2 := by kernel_rfl
theorem span_of {n : Nat} {cs : List Value} {z : DataW H × List MemPlace} (h : DataW.trod enc Tryd.prog w 0 (fun _ => true) true n 48 cs = some z) (hl : cs.length = 2) : ∃ x : Span, cs = encS x := by
  obtain ⟨xs, m, _, _, _, hxs, hf⟩ := DataW.trod_struct Tryd.underlying48 h
  match cs, hl, xs, hxs with
  | [c0, c1], _, [y0, y1], _ =>
    have g0 := hf 0 _ rfl
    have g1 := hf 1 _ rfl
    simp [co3] at g0 g1
    obtain ⟨x0, hx0⟩ := int_of g0
    obtain ⟨x1, hx1⟩ := int_of g1
    simp at hx0 hx1
    exact ⟨⟨x0, x1⟩, by rw [hx0, hx1]⟩
theorem open_span {r : Reach} {b0 : Nat} {v : Value} {d : DataW H} {p : List MemPlace} (hv : Value.okWide Tryd.prog w r b0 48 v) (h : DataW.Trod enc Tryd.prog w 0 (fun _ => true) true 48 v d p) : ∃ x : Span, v = .agg #[.int .i64 x.lo, .int .i64 x.hi] := by
  obtain ⟨cs, rfl, hsz⟩ := okWide_struct Tryd.underlying48 hv
  obtain ⟨fuel, hf⟩ := h
  obtain ⟨x, hx⟩ := span_of hf (by simpa [Value.cells] using hsz.trans coSpan)
  exact ⟨x, by
    obtain ⟨l⟩ := cs
    simp [Value.cells] at hx
    subst hx
    rfl⟩
end
def noSpan : Value := .agg #[.int .i64 0, .int .i64 0]
def noSpanD {H : Type} : DataW H := .agg [.lit (.int .i64 0), .lit (.int .i64 0)]
end Go.Proofs.YtafdbgielmlihaaDoor
