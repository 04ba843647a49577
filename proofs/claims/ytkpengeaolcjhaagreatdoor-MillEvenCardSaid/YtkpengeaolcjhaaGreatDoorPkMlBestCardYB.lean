/- Bytes that come into a law of the mill as a list. -/
import Derived.Test.YtkpengeaolcjhaaGreatDoorPkMlBestCardYA
import Derived.Test.YtkpengeaolcjhaaGreatDoorPkMlBestCardX
namespace Go.Proofs.YtkpengeaolcjhaaGreatDoor
open Go.RowKit Go.Shelf Go.ChangeShapes Go.WideShapes Go.ChangeAt
set_option maxRecDepth 100000

theorem Sl.mapM {α β : Type} {enc : β → List Value} {sz : Nat} {w : World} {v : Value} (f : α → β) {l : List α} (h : Sl (fun x => enc (f x)) sz w v l) : Sl enc sz w v (l.map f) := by
  obtain ⟨A, c, hv, hl, hc, hx⟩ := h
  refine ⟨A, c, by rw [List.length_map]; exact hv, by rw [List.length_map]; exact hl, hc, fun h0 => ?_⟩
  rw [List.length_map] at h0
  obtain ⟨b, off, hA, hb, hcell⟩ := hx h0
  refine ⟨b, off, hA, hb, fun k y hk j u hu => ?_⟩
  rw [List.getElem?_map] at hk
  cases hx : l[k]? with
  | none => rw [hx] at hk; cases hk
  | some x =>
    rw [hx] at hk
    injection hk with hk
    subst hk
    exact hcell k x hx j u hu
section
variable {H : Type} {enc : TypeId × Value → H} {w : World}
theorem coByteM : Tryz.prog.cellsOf 5 = 1 := by kernel_rfl
theorem byte_subM {n : Nat} {cs : List Value} {z : DataW H × List MemPlace} (h : DataW.trod enc Tryz.prog w 0 (fun _ => true) true n 5 cs = some z) : ∃ x : {x : Int // 0 ≤ x ∧ x ≤ 255}, cs = [.int .u8 x.1] := by
  obtain ⟨x, hx, _, hw⟩ := DataW.trod_int Tryz.underlying5 h
  exact ⟨⟨x, bounds_u8 hw⟩, hx⟩
theorem open_bytesM {r : Reach} {b0 : Nat} {v : Value} {d : DataW H} {p : List MemPlace} (hv : Value.okWide Tryz.prog w r b0 44 v) (h : DataW.Trod enc Tryz.prog w 0 (fun _ => true) true 44 v d p) : ∃ l : List Int, Sl encU8 1 w v l ∧ ∀ x ∈ l, 0 ≤ x ∧ x ≤ 255 := by
  obtain ⟨a, n, c, rfl⟩ := okWide_slice Tryz.underlying44 hv
  obtain ⟨fuel, hf⟩ := h
  obtain ⟨l, hl⟩ := sl_of_trod (enc' := fun x : {x : Int // 0 ≤ x ∧ x ≤ 255} => encU8 x.1) (sz := 1) Tryz.underlying44 coByteM (by decide) (fun _ => rfl) (fun _ _ _ h _ => byte_subM h) hf
  refine ⟨l.map (fun x => x.1), Sl.mapM (enc := encU8) (fun x : {x : Int // 0 ≤ x ∧ x ≤ 255} => x.1) hl, fun x hx => ?_⟩
  obtain ⟨y, _, rfl⟩ := List.mem_map.1 hx
  exact y.2
end
end Go.Proofs.YtkpengeaolcjhaaGreatDoor
