/- The law CoreDecide: for every bale, two lists of choices, and bits the call returns true, and what came in reads behind the call as it did before. No condition beyond the row's own: the table of checks holds what the program's text lays (the card ties it). -/
import Derived.Test.YtdlipbobfgdleaaDoorPkTruthCardG
import Derived.Test.YtdlipbobfgdleaaDoorPkTruthCardU
import Derived.Test.YtdlipbobfgdleaaDoorPkDecideOCardB
namespace Go.Proofs.YtdlipbobfgdleaaDoor
open Go.RowKit Go.Shelf Go.ChangeShapes Go.WideShapes Go.ChangeAt
set_option maxRecDepth 100000

theorem decideoc_contract (H : Type) (enc : TypeId × Value → H) (W : World) (base : Nat) (args : Array Value) (ds gs : List (DataW H)) (before : List MemPlace)
    (hval : ∀ (j : Nat) t v, Tryd.f9.params[j]? = some t → args[j]? = some v → Value.okWide Tryd.prog W .any base t v)
    (hW : DataW.Whole enc Tryd.prog Tryd.f9.params.toList Rows.coreDecideSpec.vars false W args.toList ds gs before) (hL : laidMetH Tryd.prog Rows.coreDecideRow.laid W) :
    Calls Tryd.prog 9 args W fun e W' => ∃ v, e = .returned v ∧ Rows.coreDecideSpec.post enc Tryd.prog Tryd.f9 false true false false W args v W' := by
  have hW' := hW
  obtain ⟨p, q, hA0, hV, rfl, hfz, hnd⟩ := hW
  have hA : DataW.TrodAll enc Tryd.prog W 0 (fun _ => true) true Tryd.f9.params.toList args.toList ds p := hA0
  rw [Tryd.params9] at hA hval
  obtain ⟨v0, v1, v2, v3, d0, d1, d2, d3, p0, p1, p2, p3, rfl, rfl, rfl, h0, h1, h2, h3⟩ := trodAll_four hA
  obtain ⟨rfl, rfl⟩ := trodVars_none hV
  obtain ⟨b, dv, wv, rfl, hd, hw⟩ := open_bale (hval 0 27 v0 rfl rfl) h0
  obtain ⟨c1, hc1, hb1⟩ := open_bytes (hval 1 80 v1 rfl rfl) h1
  obtain ⟨c2, hc2, hb2⟩ := open_bytes (hval 2 80 v2 rfl rfl) h2
  obtain ⟨x3, rfl, rfl, rfl, wx3⟩ := open_int Tryd.underlying5 (hval 3 5 v3 rfl rfl) h3
  have hx3 := bounds_u8 wx3
  refine (decideLaw_any b c1 c2 x3 dv wv v1 v2 W (tab_of hL) hd hw hc1 hb1 hc2 hb2 hx3).mono fun e W' ⟨he, hb⟩ => ?_
  subst he
  exact ⟨_, rfl, law_post rfl rfl (by kernel_rfl) hW' rfl hb⟩

theorem decideoc_reads (os : Os) {H : Type} (enc : TypeId × Value → H) : ∃ places, DataW.whole enc Tryd.prog ((laidWorld os).forCall (fun _ _ => 0) ⟨#[], #[noBale, .slice none 0 0, .slice none 0 0, .int .u8 0], []⟩).memory Tryd.f9.params.toList Rows.coreDecideSpec.vars false #[noBale, .slice none 0 0, .slice none 0 0, .int .u8 0].toList 8 = some ([noBaleD, .nil, .nil, .lit (.int .u8 0)], [], places) :=
  ⟨[], by kernel_rfl⟩

theorem decideoc_lifted (os : Os) (started : os.Started) (H : Type) (enc : TypeId × Value → H) (F : Stop.Interp) :
    ReturnsInHanded {} Tryd.checked os 9 .any ((OpenSpec.ofChange Rows.coreDecideSpec).preRow enc Tryd.prog Tryd.f9 Rows.coreDecideRow.domain false Rows.coreDecideRow.laid) (((OpenSpec.ofChange Rows.coreDecideSpec).at F).post enc Tryd.prog Tryd.f9 false true false false) := by
  obtain ⟨places, hx⟩ := decideoc_reads os enc
  refine returnsInHanded_of_row (C := Tryd.checked) (s := OpenSpec.ofChange Rows.coreDecideSpec) own started (by kernel_rfl) Tryd.func9
    (witness_row_at (enc := enc) (C := Tryd.checked) false (laidWorld os) #[noBale, .slice none 0 0, .slice none 0 0, .int .u8 0] rfl (by kernel_rfl) (by kernel_rfl) (by kernel_rfl)
      (OpenSpec.preRow_of_cond 8 hx (by kernel_rfl) (fun k hk => by cases hk) (by kernel_rfl) (laid_met os _))) ?_
  intro W base args ds gs before hval hW _ _ _ hL _ _
  exact decideoc_contract H enc W base args ds gs before hval hW hL

theorem decideoc_said : Rows.CoreDecideSaid :=
  OpenClaim.holds_of_cond 9 Tryd.f9 rfl rfl rfl rfl rfl rfl rfl ⟨rfl, rfl, rfl, rfl, rfl⟩ rfl rfl rfl rfl rfl (by kernel_rfl) Tryd.func9 (by kernel_rfl)
    (of_decide_eq_true (by kernel_rfl)) (by unfold Func.isWrapper; first | (rw [if_pos (by decide +kernel)]; kernel_rfl) | (rw [if_neg (by decide +kernel)]; exact ⟨rfl, rfl⟩))
    (fun os started H enc _ F => by rw [OpenClaim.pre_eq_preRow]; exact decideoc_lifted os started H enc F)

theorem decideoc_plain (f : FuncId) (fn : Func) (hf : Tryd.pinned.checked.prog.funcNamed "middling/middlinglaw03.CoreDecide" = some f) (hfn : Tryd.pinned.checked.prog.funcs[f]? = some fn) :
    false = Tryd.pinned.checked.prog.looks [] ∧ ∀ (j : Nat) t, fn.params[j]? = some t → Tryd.pinned.checked.prog.wantsStandIn t = false := by
  obtain rfl : f = 9 := Option.some.inj ((show Tryd.prog.funcNamed "middling/middlinglaw03.CoreDecide" = some 9 by kernel_rfl).symm.trans hf) |>.symm
  obtain rfl : fn = Tryd.f9 := (Option.some.inj (Tryd.func9.symm.trans hfn)).symm
  refine ⟨by kernel_rfl, fun j t ht => ?_⟩
  rw [Tryd.params9] at ht
  have hm : t ∈ [27, 80, 80, 5] := by simpa using Array.mem_of_getElem? ht
  have hall : ([27, 80, 80, 5].all fun u => !Tryd.prog.wantsStandIn u) = true := by kernel_rfl
  exact (show Tryd.prog.wantsStandIn t = false by simpa using List.all_eq_true.1 hall t hm)

theorem decideoc_card : Rows.CoreDecideCardSaid :=
  Claim7.holds_tied_plain_at .later [] _ _ _ _ decideoc_said (fun _ h => by cases h) (by kernel_rfl) (fun _ h => by cases h) coreDecide_row_tie rfl ⟨rfl, rfl⟩ (by kernel_rfl) rfl decideoc_plain (by kernel_rfl)
end Go.Proofs.YtdlipbobfgdleaaDoor
