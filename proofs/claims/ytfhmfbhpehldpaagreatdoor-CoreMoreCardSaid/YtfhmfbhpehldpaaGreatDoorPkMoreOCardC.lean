/- Bytes, and small numbers, that are handed over, opened. -/
import Derived.Test.YtfhmfbhpehldpaaGreatDoorPkMoreOCardB
import Derived.Test.YtfhmfbhpehldpaaGreatDoorPkMoreOQ
namespace Go.Proofs.YtfhmfbhpehldpaaGreatDoor
open Go.RowKit Go.Shelf Go.ChangeShapes Go.WideShapes Go.ChangeAt
set_option maxRecDepth 100000

theorem Sl.map {α β : Type} {enc : β → List Value} {sz : Nat} {w : World} {v : Value} (f : α → β) {l : List α} (h : Sl (fun x => enc (f x)) sz w v l) : Sl enc sz w v (l.map f) := by
  obtain ⟨A, c, hv, hl, hc, hx⟩ := h
  refine ⟨A, c, by rw [List.length_map]; exact hv, by rw [List.length_map]; exact hl, hc, fun h0 => ?_⟩
  rw [List.length_map] at h0
  obtain ⟨b, off, hA, hb, hcell⟩ := hx h0
  refine ⟨b, off, hA, hb, fun k y hk j u hu => ?_⟩
  rw [List.getElem?_map] at hk
  cases hx : l[k]? with
  | none => rw [hx] at hk; cases hk
  | some x =>
    rw [hx] at hk
    injection hk with hk
    subst hk
    exact hcell k x hx j u hu
section
variable {H : Type} {enc : TypeId × Value → H} {w : World}
theorem co5 : Tryz.prog.cellsOf 5 = 1 := by kernel_rfl
theorem byte_of {n : Nat} {cs : List Value} {z : DataW H × List MemPlace} (h : DataW.trod enc Tryz.prog w 0 (fun _ => true) true n 5 cs = some z) : ∃ x : {x : Int // 0 ≤ x ∧ x ≤ 255}, cs = [.int .u8 x.1] := by
  obtain ⟨x, hx, _, hw⟩ := DataW.trod_int Tryz.underlying5 h
  exact ⟨⟨x, bounds_u8 hw⟩, hx⟩
theorem trodAll_only {P : Program} {base : Nat} {spare : Nat → Bool} {held : Bool} {t : TypeId} {args : Array Value} {ds : List (DataW H)} {ps : List MemPlace} (h : DataW.TrodAll enc P w base spare held [t] args.toList ds ps) :
    ∃ v d p, args = #[v] ∧ ds = [d] ∧ ps = p ∧ DataW.Trod enc P w base spare held t v d p := by
  obtain ⟨v, vs, d, ds', p, q, hargs, rfl, rfl, hd, hrest⟩ := trodAll_cons h
  obtain ⟨rfl, rfl, rfl⟩ := trodAll_nil hrest
  exact ⟨v, d, p, by cases args; simp_all, rfl, by simp, hd⟩
end
end Go.Proofs.YtfhmfbhpehldpaaGreatDoor
