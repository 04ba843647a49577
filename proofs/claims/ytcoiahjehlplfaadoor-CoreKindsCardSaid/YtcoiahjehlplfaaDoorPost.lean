/- What each law's proof ends with: it returned true, and below the heap's old size nothing has turned: so the row's answer holds. -/
import Derived.Test.YtcoiahjehlplfaaDoorOpen
namespace Go.Proofs.YtcoiahjehlplfaaDoor
open Go.RowKit Go.Shelf Go.ChangeShapes Go.WideShapes Go.ChangeAt
set_option maxRecDepth 100000

section
variable {H : Type} {enc : TypeId × Value → H}
/-- Arguments that read as they did. -/
theorem args_stay {P : Program} (hlo : laidOutB P = true) {W W' : World} (hb : Below W.heap.size W W') (ts : List TypeId) : ∀ (vs : List Value) (ds : List (DataW H)) (ps : List MemPlace), DataW.TrodAll enc P W 0 (fun _ => true) true ts vs ds ps →
    (∀ t ∈ ts, P.readableRec t = true ∧ t < P.types.size) → (∀ x ∈ ps, x.block < W.heap.size) → DataW.TrodAll enc P W' 0 (fun b => decide (b < W.heap.size)) true ts vs ds ps := by
  induction ts with
  | nil =>
    intro vs ds ps h _ _
    obtain ⟨rfl, rfl, rfl⟩ := trodAll_nil h
    exact trodAll_mk0
  | cons t ts ih =>
    intro vs ds ps h ht hl
    obtain ⟨v, vs, d, ds, p, q, rfl, rfl, rfl, h0, h1⟩ := trodAll_cons h
    have h2 := ht t (List.mem_cons_self ..)
    exact trodAll_cons_mk (Below.trod hlo h2.1 h2.2 h0 hb fun x hx => hl x (List.mem_append_left _ hx))
      (ih _ _ _ h1 (fun t' h' => ht t' (List.mem_cons_of_mem _ h')) fun x hx => hl x (List.mem_append_right _ hx))
theorem law_post {f : Func} {s : ChangeSpec} {W W' : World} {args : Array Value} {ds : List (DataW H)} {before : List MemPlace} (hv : s.vars = []) (hr : f.resultTypes = #[4])
    (hp : f.params.toList.all (fun t => Tryd.prog.readableRec t && decide (t < Tryd.prog.types.size)) = true) (hW : DataW.Whole enc Tryd.prog f.params.toList s.vars false W args.toList ds [] before)
    (hs : s.fn H ds = ⟨[.lit (.bool true)], ds, []⟩) (hb : Below W.heap.size W W') : s.post enc Tryd.prog f false true false false W args (.bool true) W' := by
  have hlt := hW.lt
  have hW' := hW
  rw [hv] at hW'
  obtain ⟨p, q, hA, hV, rfl, hz, hn⟩ := hW'
  obtain ⟨_, rfl⟩ := trodVars_none hV
  rw [List.append_nil] at hW hlt
  have he : s.fn H (ds ++ []) = ⟨[.lit (.bool true)], ds, []⟩ := by rw [List.append_nil]; exact hs
  refine ⟨ds, [], p, [], p, [], hW, ?_, ?_, ?_, World.keptBut_mono (fun x hx => ⟨hx, Or.inr (Or.inl hx)⟩) (hb.frame (· ∈ p)), fun h => by cases h⟩
  · rw [he, hr]
    exact trodAll_mk1 (shut_bool Tryd.underlying4 _)
  · rw [he]
    refine args_stay laid_ok hb _ _ _ _ hA (fun t ht => ?_) hlt
    have := List.all_eq_true.1 hp t ht
    simpa only [Bool.and_eq_true, decide_eq_true_eq] using this
  · rw [he, hv]
    exact rfl
end
end Go.Proofs.YtcoiahjehlplfaaDoor
