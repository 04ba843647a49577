/- The law CoreTruth: for every bale and every list of choices the call returns true, and what came in reads behind the call as it did before. No condition beyond the row's own: the table of checks holds what the program's text lays (the card ties it). -/
import Derived.Test.YtdlipbobfgdleaaDoorPkTruthCardG
import Derived.Test.YtdlipbobfgdleaaDoorPkTruthCardU
import Derived.Test.YtdlipbobfgdleaaDoorPkTruthCardT
namespace Go.Proofs.YtdlipbobfgdleaaDoor
open Go.RowKit Go.Shelf Go.ChangeShapes Go.WideShapes Go.ChangeAt
set_option maxRecDepth 100000

theorem truthc_contract (H : Type) (enc : TypeId × Value → H) (W : World) (base : Nat) (args : Array Value) (ds gs : List (DataW H)) (before : List MemPlace)
    (hval : ∀ (j : Nat) t v, Tryd.f7.params[j]? = some t → args[j]? = some v → Value.okWide Tryd.prog W .any base t v)
    (hW : DataW.Whole enc Tryd.prog Tryd.f7.params.toList Rows.coreTruthSpec.vars false W args.toList ds gs before) (hL : laidMetH Tryd.prog Rows.coreTruthRow.laid W) :
    Calls Tryd.prog 7 args W fun e W' => ∃ v, e = .returned v ∧ Rows.coreTruthSpec.post enc Tryd.prog Tryd.f7 false true false false W args v W' := by
  have hW' := hW
  obtain ⟨p, q, hA0, hV, rfl, hfz, hnd⟩ := hW
  have hA : DataW.TrodAll enc Tryd.prog W 0 (fun _ => true) true Tryd.f7.params.toList args.toList ds p := hA0
  rw [Tryd.params7] at hA hval
  obtain ⟨v0, v1, d0, d1, p0, p1, rfl, rfl, rfl, h0, h1⟩ := trodAll_two hA
  obtain ⟨rfl, rfl⟩ := trodVars_none hV
  obtain ⟨b, dv, wv, rfl, hd, hw⟩ := open_bale (hval 0 27 v0 rfl rfl) h0
  obtain ⟨c1, hc1, hb1⟩ := open_bytes (hval 1 80 v1 rfl rfl) h1
  refine (truthLaw_any b c1 dv wv v1 W (tab_of hL) hd hw hc1 hb1).mono fun e W' ⟨he, hb⟩ => ?_
  subst he
  exact ⟨_, rfl, law_post rfl rfl (by kernel_rfl) hW' rfl hb⟩

theorem truthc_reads (os : Os) {H : Type} (enc : TypeId × Value → H) : ∃ places, DataW.whole enc Tryd.prog ((laidWorld os).forCall (fun _ _ => 0) ⟨#[], #[noBale, .slice none 0 0], []⟩).memory Tryd.f7.params.toList Rows.coreTruthSpec.vars false #[noBale, .slice none 0 0].toList 8 = some ([noBaleD, .nil], [], places) :=
  ⟨[], by kernel_rfl⟩

theorem truthc_lifted (os : Os) (started : os.Started) (H : Type) (enc : TypeId × Value → H) (F : Stop.Interp) :
    ReturnsInHanded {} Tryd.checked os 7 .any ((OpenSpec.ofChange Rows.coreTruthSpec).preRow enc Tryd.prog Tryd.f7 Rows.coreTruthRow.domain false Rows.coreTruthRow.laid) (((OpenSpec.ofChange Rows.coreTruthSpec).at F).post enc Tryd.prog Tryd.f7 false true false false) := by
  obtain ⟨places, hx⟩ := truthc_reads os enc
  refine returnsInHanded_of_row (C := Tryd.checked) (s := OpenSpec.ofChange Rows.coreTruthSpec) own started (by kernel_rfl) Tryd.func7
    (witness_row_at (enc := enc) (C := Tryd.checked) false (laidWorld os) #[noBale, .slice none 0 0] rfl (by kernel_rfl) (by kernel_rfl) (by kernel_rfl)
      (OpenSpec.preRow_of_cond 8 hx (by kernel_rfl) (fun k hk => by cases hk) (by kernel_rfl) (laid_met os _))) ?_
  intro W base args ds gs before hval hW _ _ _ hL _ _
  exact truthc_contract H enc W base args ds gs before hval hW hL

theorem truthc_said : Rows.CoreTruthSaid :=
  OpenClaim.holds_of_cond 7 Tryd.f7 rfl rfl rfl rfl rfl rfl rfl ⟨rfl, rfl, rfl, rfl, rfl⟩ rfl rfl rfl rfl rfl (by kernel_rfl) Tryd.func7 (by kernel_rfl)
    (of_decide_eq_true (by kernel_rfl)) (by unfold Func.isWrapper; first | (rw [if_pos (by decide +kernel)]; kernel_rfl) | (rw [if_neg (by decide +kernel)]; exact ⟨rfl, rfl⟩))
    (fun os started H enc _ F => by rw [OpenClaim.pre_eq_preRow]; exact truthc_lifted os started H enc F)

theorem truthc_plain (f : FuncId) (fn : Func) (hf : Tryd.pinned.checked.prog.funcNamed "middling/middlinglaw03.CoreTruth" = some f) (hfn : Tryd.pinned.checked.prog.funcs[f]? = some fn) :
    false = Tryd.pinned.checked.prog.looks [] ∧ ∀ (j : Nat) t, fn.params[j]? = some t → Tryd.pinned.checked.prog.wantsStandIn t = false := by
  obtain rfl : f = 7 := Option.some.inj ((show Tryd.prog.funcNamed "middling/middlinglaw03.CoreTruth" = some 7 by kernel_rfl).symm.trans hf) |>.symm
  obtain rfl : fn = Tryd.f7 := (Option.some.inj (Tryd.func7.symm.trans hfn)).symm
  refine ⟨by kernel_rfl, fun j t ht => ?_⟩
  rw [Tryd.params7] at ht
  have hm : t ∈ [27, 80] := by simpa using Array.mem_of_getElem? ht
  have hall : ([27, 80].all fun u => !Tryd.prog.wantsStandIn u) = true := by kernel_rfl
  exact (show Tryd.prog.wantsStandIn t = false by simpa using List.all_eq_true.1 hall t hm)

theorem truthc_card : Rows.CoreTruthCardSaid :=
  Claim7.holds_tied_plain_at .later [] _ _ _ _ truthc_said (fun _ h => by cases h) (by kernel_rfl) (fun _ h => by cases h) coreTruth_row_tie rfl ⟨rfl, rfl⟩ (by kernel_rfl) rfl truthc_plain (by kernel_rfl)
end Go.Proofs.YtdlipbobfgdleaaDoor
