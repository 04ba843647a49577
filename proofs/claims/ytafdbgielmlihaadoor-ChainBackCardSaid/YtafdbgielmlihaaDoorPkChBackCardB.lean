/- Four bytes that come into a law by value. -/
import Derived.Test.YtafdbgielmlihaaDoorPkChClosedCardI
namespace Go.Proofs.YtafdbgielmlihaaDoor
open Go.RowKit Go.Shelf Go.ChangeShapes Go.WideShapes Go.ChangeAt
set_option maxRecDepth 100000

section
variable {H : Type} {enc : TypeId × Value → H} {w : World}
theorem coByte : Tryd.prog.cellsOf 5 = 1 := by kernel_rfl
theorem coFour : Tryd.prog.cellsOf 105 = 4 := by kernel_rfl
theorem byte_in {n : Nat} {cs : List Value} {z : DataW H × List MemPlace} (h : DataW.trod enc Tryd.prog w 0 (fun _ => true) true n 5 cs = some z) : ∃ x : Int, cs = [.int .u8 x] ∧ 0 ≤ x ∧ x ≤ 255 := by
  obtain ⟨x, hx, _, hw⟩ := DataW.trod_int Tryd.underlying5 h
  exact ⟨x, hx, bounds_u8 hw⟩
theorem open_four {r : Reach} {b0 : Nat} {v : Value} {d : DataW H} {p : List MemPlace} (hv : Value.okWide Tryd.prog w r b0 105 v) (h : DataW.Trod enc Tryd.prog w 0 (fun _ => true) true 105 v d p) :
    ∃ u0 u1 u2 u3 : Int, v = .agg #[.int .u8 u0, .int .u8 u1, .int .u8 u2, .int .u8 u3] ∧ (0 ≤ u0 ∧ u0 ≤ 255) ∧ (0 ≤ u1 ∧ u1 ≤ 255) ∧ (0 ≤ u2 ∧ u2 ≤ 255) ∧ (0 ≤ u3 ∧ u3 ≤ 255) := by
  simp only [Value.okWide, Tryd.underlying105] at hv
  obtain ⟨cs, rfl, hsz, -⟩ := hv
  obtain ⟨c0, c1, c2, c3, rfl⟩ : ∃ c0 c1 c2 c3, cs = #[c0, c1, c2, c3] := by
    obtain ⟨l⟩ := cs
    match l, hsz.trans coFour with
    | [c0, c1, c2, c3], _ => exact ⟨c0, c1, c2, c3, rfl⟩
  obtain ⟨fuel, hf⟩ := h
  obtain ⟨xs, m, _, _, _, hxs, hg⟩ := DataW.trod_array Tryd.underlying105 hf
  match xs, hxs with
  | [y0, y1, y2, y3], _ =>
    have g0 := hg 0 (by decide)
    have g1 := hg 1 (by decide)
    have g2 := hg 2 (by decide)
    have g3 := hg 3 (by decide)
    simp [coByte, Value.cells] at g0 g1 g2 g3
    obtain ⟨x0, hx0, b0⟩ := byte_in g0
    obtain ⟨x1, hx1, b1⟩ := byte_in g1
    obtain ⟨x2, hx2, b2⟩ := byte_in g2
    obtain ⟨x3, hx3, b3⟩ := byte_in g3
    simp at hx0 hx1 hx2 hx3
    exact ⟨x0, x1, x2, x3, by rw [hx0, hx1, hx2, hx3], b0, b1, b2, b3⟩
end
def noFour : Value := .agg #[.int .u8 0, .int .u8 0, .int .u8 0, .int .u8 0]
def noFourD {H : Type} : DataW H := .agg [.lit (.int .u8 0), .lit (.int .u8 0), .lit (.int .u8 0), .lit (.int .u8 0)]
end Go.Proofs.YtafdbgielmlihaaDoor
