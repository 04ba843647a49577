/- The law MillExamples: for no input the call returns true, and what came in reads behind the call as it did before. No condition beyond the row's own: the tables of checks hold what the program's text lays (the card ties it). -/
import Derived.Test.YtkpengeaolcjhaaGreatDoorPkMlBestCardYA
import Derived.Test.YtkpengeaolcjhaaGreatDoorPkMlBestCardX
import Derived.Test.YtkpengeaolcjhaaGreatDoorPkMlExamplesCardA
namespace Go.Proofs.YtkpengeaolcjhaaGreatDoor
open Go.RowKit Go.Shelf Go.ChangeShapes Go.WideShapes Go.ChangeAt
set_option maxRecDepth 100000

theorem examplesml_contract (H : Type) (enc : TypeId × Value → H) (W : World) (base : Nat) (args : Array Value) (ds gs : List (DataW H)) (before : List MemPlace)
    (hval : ∀ (j : Nat) t v, Tryz.f11.params[j]? = some t → args[j]? = some v → Value.okWide Tryz.prog W .any base t v)
    (hW : DataW.Whole enc Tryz.prog Tryz.f11.params.toList Rows.millExamplesSpec.vars false W args.toList ds gs before) (hL : laidMetH Tryz.prog Rows.millExamplesRow.laid W) :
    Calls Tryz.prog 11 args W fun e W' => ∃ v, e = .returned v ∧ Rows.millExamplesSpec.post enc Tryz.prog Tryz.f11 false true false false W args v W' := by
  have hW' := hW
  obtain ⟨p, q, hA0, hV, rfl, hfz, hnd⟩ := hW
  have hA : DataW.TrodAll enc Tryz.prog W 0 (fun _ => true) true Tryz.f11.params.toList args.toList ds p := hA0
  rw [Tryz.params11] at hA hval
  obtain ⟨hz, rfl, rfl⟩ := trodAll_nil hA
  obtain rfl : args = #[] := Array.toList_eq_nil_iff.1 hz
  obtain ⟨rfl, rfl⟩ := trodVars_none hV
  refine (millExamples_of alive_anyM  W (tabM_of hL)).mono fun e W' ⟨he, hb⟩ => ?_
  subst he
  exact ⟨_, rfl, law_post rfl rfl (by kernel_rfl) hW' rfl hb⟩

theorem examplesml_reads (os : Os) {H : Type} (enc : TypeId × Value → H) : ∃ places, DataW.whole enc Tryz.prog ((laidWorldM os).forCall (fun _ _ => 0) ⟨#[], #[], []⟩).memory Tryz.f11.params.toList Rows.millExamplesSpec.vars false #[].toList 8 = some ([], [], places) :=
  ⟨[], by kernel_rfl⟩

theorem examplesml_lifted (os : Os) (started : os.Started) (H : Type) (enc : TypeId × Value → H) (F : Stop.Interp) :
    ReturnsInHanded {} Tryz.checked os 11 .any ((OpenSpec.ofChange Rows.millExamplesSpec).preRow enc Tryz.prog Tryz.f11 Rows.millExamplesRow.domain false Rows.millExamplesRow.laid) (((OpenSpec.ofChange Rows.millExamplesSpec).at F).post enc Tryz.prog Tryz.f11 false true false false) := by
  obtain ⟨places, hx⟩ := examplesml_reads os enc
  refine returnsInHanded_of_row (C := Tryz.checked) (s := OpenSpec.ofChange Rows.millExamplesSpec) own started (by kernel_rfl) Tryz.func11
    (witness_row_at (enc := enc) (C := Tryz.checked) false (laidWorldM os) #[] rfl (by kernel_rfl) (by kernel_rfl) (by kernel_rfl)
      (OpenSpec.preRow_of_cond 8 hx (by kernel_rfl) (fun k hk => by cases hk) (by kernel_rfl) (laid_metM os _))) ?_
  intro W base args ds gs before hval hW _ _ _ hL _ _
  exact examplesml_contract H enc W base args ds gs before hval hW hL

theorem examplesml_said : Rows.MillExamplesSaid :=
  OpenClaim.holds_of_cond 11 Tryz.f11 rfl rfl rfl rfl rfl rfl rfl ⟨rfl, rfl, rfl, rfl, rfl⟩ rfl rfl rfl rfl rfl (by kernel_rfl) Tryz.func11 (by kernel_rfl)
    (of_decide_eq_true (by kernel_rfl)) (by unfold Func.isWrapper; first | (rw [if_pos (by decide +kernel)]; kernel_rfl) | (rw [if_neg (by decide +kernel)]; exact ⟨rfl, rfl⟩))
    (fun os started H enc _ F => by rw [OpenClaim.pre_eq_preRow]; exact examplesml_lifted os started H enc F)

theorem examplesml_plain (f : FuncId) (fn : Func) (hf : Tryz.pinned.checked.prog.funcNamed "middling/middlinglaw09.MillExamples" = some f) (hfn : Tryz.pinned.checked.prog.funcs[f]? = some fn) :
    false = Tryz.pinned.checked.prog.looks [] ∧ ∀ (j : Nat) t, fn.params[j]? = some t → Tryz.pinned.checked.prog.wantsStandIn t = false := by
  obtain rfl : f = 11 := Option.some.inj ((show Tryz.prog.funcNamed "middling/middlinglaw09.MillExamples" = some 11 by kernel_rfl).symm.trans hf) |>.symm
  obtain rfl : fn = Tryz.f11 := (Option.some.inj (Tryz.func11.symm.trans hfn)).symm
  refine ⟨by kernel_rfl, fun j t ht => ?_⟩
  rw [Tryz.params11] at ht
  simp at ht

theorem examplesml_card : Rows.MillExamplesCardSaid :=
  Claim7.holds_tied_plain_at .later [] _ _ _ _ examplesml_said (fun _ h => by cases h) (by kernel_rfl) (fun _ h => by cases h) millExamples_row_tie rfl ⟨rfl, rfl⟩ (by kernel_rfl) rfl examplesml_plain (by kernel_rfl)
end Go.Proofs.YtkpengeaolcjhaaGreatDoor
