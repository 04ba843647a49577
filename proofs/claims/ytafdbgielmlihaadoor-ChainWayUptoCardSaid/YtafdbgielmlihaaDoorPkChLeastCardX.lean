/- Bytes that come into a law as a list. -/
import Derived.Test.YtafdbgielmlihaaDoorPkChLeastCardI
import Derived.Test.YtafdbgielmlihaaDoorPkChLeastCardR
namespace Go.Proofs.YtafdbgielmlihaaDoor
open Go.RowKit Go.Shelf Go.ChangeShapes Go.WideShapes Go.ChangeAt
set_option maxRecDepth 100000

theorem Sl.mapB {α β : Type} {enc : β → List Value} {sz : Nat} {w : World} {v : Value} (f : α → β) {l : List α} (h : Sl (fun x => enc (f x)) sz w v l) : Sl enc sz w v (l.map f) := by
  obtain ⟨A, c, hv, hl, hc, hx⟩ := h
  refine ⟨A, c, by rw [List.length_map]; exact hv, by rw [List.length_map]; exact hl, hc, fun h0 => ?_⟩
  rw [List.length_map] at h0
  obtain ⟨b, off, hA, hb, hcell⟩ := hx h0
  refine ⟨b, off, hA, hb, fun k y hk j u hu => ?_⟩
  rw [List.getElem?_map] at hk
  cases hx : l[k]? with
  | none => rw [hx] at hk; cases hk
  | some x =>
    rw [hx] at hk
    injection hk with hk
    subst hk
    exact hcell k x hx j u hu
section
variable {H : Type} {enc : TypeId × Value → H} {w : World}
theorem byte_sub {n : Nat} {cs : List Value} {z : DataW H × List MemPlace} (h : DataW.trod enc Tryd.prog w 0 (fun _ => true) true n 5 cs = some z) : ∃ x : {x : Int // 0 ≤ x ∧ x ≤ 255}, cs = [.int .u8 x.1] := by
  obtain ⟨x, hx, _, hw⟩ := DataW.trod_int Tryd.underlying5 h
  exact ⟨⟨x, bounds_u8 hw⟩, hx⟩
theorem open_bytesC {r : Reach} {b0 : Nat} {v : Value} {d : DataW H} {p : List MemPlace} (hv : Value.okWide Tryd.prog w r b0 95 v) (h : DataW.Trod enc Tryd.prog w 0 (fun _ => true) true 95 v d p) : ∃ l : List Int, Sl encU 1 w v l ∧ ∀ x ∈ l, 0 ≤ x ∧ x ≤ 255 := by
  obtain ⟨a, n, c, rfl⟩ := okWide_slice Tryd.underlying95 hv
  obtain ⟨fuel, hf⟩ := h
  obtain ⟨l, hl⟩ := sl_of_trod (enc' := fun x : {x : Int // 0 ≤ x ∧ x ≤ 255} => encU x.1) (sz := 1) Tryd.underlying95 coByte (by decide) (fun _ => rfl) (fun _ _ _ h _ => byte_sub h) hf
  refine ⟨l.map (fun x => x.1), Sl.mapB (enc := encU) (fun x : {x : Int // 0 ≤ x ∧ x ≤ 255} => x.1) hl, fun x hx => ?_⟩
  obtain ⟨y, _, rfl⟩ := List.mem_map.1 hx
  exact y.2
end
end Go.Proofs.YtafdbgielmlihaaDoor
