/- The law ChainStops: for every chain and four numbers the call returns true, and what came in reads behind the call as it did before. No condition beyond the row's own: the table of checks holds what the program's text lays (the card ties it). -/
import Derived.Test.YtafdbgielmlihaaDoorPkChClosedCardI
import Derived.Test.YtafdbgielmlihaaDoorPkChClosedCardV
import Derived.Test.YtafdbgielmlihaaDoorPkChStopsCardB
namespace Go.Proofs.YtafdbgielmlihaaDoor
open Go.RowKit Go.Shelf Go.ChangeShapes Go.WideShapes Go.ChangeAt
set_option maxRecDepth 100000

theorem stopsch_contract (H : Type) (enc : TypeId × Value → H) (W : World) (base : Nat) (args : Array Value) (ds gs : List (DataW H)) (before : List MemPlace)
    (hval : ∀ (j : Nat) t v, Tryd.f14.params[j]? = some t → args[j]? = some v → Value.okWide Tryd.prog W .any base t v)
    (hW : DataW.Whole enc Tryd.prog Tryd.f14.params.toList Rows.chainStopsSpec.vars false W args.toList ds gs before) (hL : laidMetH Tryd.prog Rows.chainStopsRow.laid W) :
    Calls Tryd.prog 14 args W fun e W' => ∃ v, e = .returned v ∧ Rows.chainStopsSpec.post enc Tryd.prog Tryd.f14 false true false false W args v W' := by
  have hW' := hW
  obtain ⟨p, q, hA0, hV, rfl, hfz, hnd⟩ := hW
  have hA : DataW.TrodAll enc Tryd.prog W 0 (fun _ => true) true Tryd.f14.params.toList args.toList ds p := hA0
  rw [Tryd.params14] at hA hval
  obtain ⟨v0, v1, v2, v3, v4, d0, d1, d2, d3, d4, p0, p1, p2, p3, p4, rfl, rfl, rfl, h0, h1, h2, h3, h4⟩ := trodAll_fiveL hA
  obtain ⟨rfl, rfl⟩ := trodVars_none hV
  obtain ⟨c, hv, sv, rfl, hh, hs⟩ := open_chain (hval 0 25 v0 rfl rfl) h0
  obtain ⟨x1, rfl, rfl, rfl, wx1⟩ := open_int Tryd.underlying5 (hval 1 5 v1 rfl rfl) h1
  have hx1 := bounds_u8 wx1
  obtain ⟨x2, rfl, rfl, rfl, wx2⟩ := open_int Tryd.underlying100 (hval 2 100 v2 rfl rfl) h2
  have hx2 := bounds_u32 wx2
  obtain ⟨x3, rfl, rfl, rfl, wx3⟩ := open_int Tryd.underlying100 (hval 3 100 v3 rfl rfl) h3
  have hx3 := bounds_u32 wx3
  obtain ⟨x4, rfl, rfl, rfl, wx4⟩ := open_int Tryd.underlying100 (hval 4 100 v4 rfl rfl) h4
  have hx4 := bounds_u32 wx4
  refine (stopsLaw_of alive_any c x1 x2 x3 x4 hv sv W (tab_of hL) hh hs hx1 hx2 hx3 hx4).mono fun e W' ⟨he, hb⟩ => ?_
  subst he
  exact ⟨_, rfl, law_post rfl rfl (by kernel_rfl) hW' rfl hb⟩

theorem stopsch_reads (os : Os) {H : Type} (enc : TypeId × Value → H) : ∃ places, DataW.whole enc Tryd.prog ((laidWorld os).forCall (fun _ _ => 0) ⟨#[], #[noChain, .int .u8 0, .int .u32 0, .int .u32 0, .int .u32 0], []⟩).memory Tryd.f14.params.toList Rows.chainStopsSpec.vars false #[noChain, .int .u8 0, .int .u32 0, .int .u32 0, .int .u32 0].toList 8 = some ([noChainD, .lit (.int .u8 0), .lit (.int .u32 0), .lit (.int .u32 0), .lit (.int .u32 0)], [], places) :=
  ⟨[], by kernel_rfl⟩

theorem stopsch_lifted (os : Os) (started : os.Started) (H : Type) (enc : TypeId × Value → H) (F : Stop.Interp) :
    ReturnsInHanded {} Tryd.checked os 14 .any ((OpenSpec.ofChange Rows.chainStopsSpec).preRow enc Tryd.prog Tryd.f14 Rows.chainStopsRow.domain false Rows.chainStopsRow.laid) (((OpenSpec.ofChange Rows.chainStopsSpec).at F).post enc Tryd.prog Tryd.f14 false true false false) := by
  obtain ⟨places, hx⟩ := stopsch_reads os enc
  refine returnsInHanded_of_row (C := Tryd.checked) (s := OpenSpec.ofChange Rows.chainStopsSpec) own started (by kernel_rfl) Tryd.func14
    (witness_row_at (enc := enc) (C := Tryd.checked) false (laidWorld os) #[noChain, .int .u8 0, .int .u32 0, .int .u32 0, .int .u32 0] rfl (by kernel_rfl) (by kernel_rfl) (by kernel_rfl)
      (OpenSpec.preRow_of_cond 8 hx (by kernel_rfl) (fun k hk => by cases hk) (by kernel_rfl) (laid_met os _))) ?_
  intro W base args ds gs before hval hW _ _ _ hL _ _
  exact stopsch_contract H enc W base args ds gs before hval hW hL

theorem stopsch_said : Rows.ChainStopsSaid :=
  OpenClaim.holds_of_cond 14 Tryd.f14 rfl rfl rfl rfl rfl rfl rfl ⟨rfl, rfl, rfl, rfl, rfl⟩ rfl rfl rfl rfl rfl (by kernel_rfl) Tryd.func14 (by kernel_rfl)
    (of_decide_eq_true (by kernel_rfl)) (by unfold Func.isWrapper; first | (rw [if_pos (by decide +kernel)]; kernel_rfl) | (rw [if_neg (by decide +kernel)]; exact ⟨rfl, rfl⟩))
    (fun os started H enc _ F => by rw [OpenClaim.pre_eq_preRow]; exact stopsch_lifted os started H enc F)

theorem stopsch_plain (f : FuncId) (fn : Func) (hf : Tryd.pinned.checked.prog.funcNamed "middling/middlinglaw06.ChainStops" = some f) (hfn : Tryd.pinned.checked.prog.funcs[f]? = some fn) :
    false = Tryd.pinned.checked.prog.looks [] ∧ ∀ (j : Nat) t, fn.params[j]? = some t → Tryd.pinned.checked.prog.wantsStandIn t = false := by
  obtain rfl : f = 14 := Option.some.inj ((show Tryd.prog.funcNamed "middling/middlinglaw06.ChainStops" = some 14 by kernel_rfl).symm.trans hf) |>.symm
  obtain rfl : fn = Tryd.f14 := (Option.some.inj (Tryd.func14.symm.trans hfn)).symm
  refine ⟨by kernel_rfl, fun j t ht => ?_⟩
  rw [Tryd.params14] at ht
  have hm : t ∈ [25, 5, 100, 100, 100] := by simpa using Array.mem_of_getElem? ht
  have hall : ([25, 5, 100, 100, 100].all fun u => !Tryd.prog.wantsStandIn u) = true := by kernel_rfl
  exact (show Tryd.prog.wantsStandIn t = false by simpa using List.all_eq_true.1 hall t hm)

theorem stopsch_card : Rows.ChainStopsCardSaid :=
  Claim7.holds_tied_plain_at .later [] _ _ _ _ stopsch_said (fun _ h => by cases h) (by kernel_rfl) (fun _ h => by cases h) chainStops_row_tie rfl ⟨rfl, rfl⟩ (by kernel_rfl) rfl stopsch_plain (by kernel_rfl)
end Go.Proofs.YtafdbgielmlihaaDoor
