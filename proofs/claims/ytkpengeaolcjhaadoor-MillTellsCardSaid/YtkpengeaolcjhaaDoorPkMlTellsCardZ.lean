/- The law MillTells: for every mill the call returns true, and what came in reads behind the call as it did before. No condition beyond the row's own: the tables of checks hold what the program's text lays (the card ties it). -/
import Derived.Test.YtkpengeaolcjhaaDoorPkMlTellsCardW
import Derived.Test.YtkpengeaolcjhaaDoorPkMlTellsCardV
namespace Go.Proofs.YtkpengeaolcjhaaDoor
open Go.RowKit Go.Shelf Go.ChangeShapes Go.WideShapes Go.ChangeAt
set_option maxRecDepth 100000

theorem tellsml_contract (H : Type) (enc : TypeId × Value → H) (W : World) (base : Nat) (args : Array Value) (ds gs : List (DataW H)) (before : List MemPlace)
    (hval : ∀ (j : Nat) t v, Tryd.f3.params[j]? = some t → args[j]? = some v → Value.okWide Tryd.prog W .any base t v)
    (hW : DataW.Whole enc Tryd.prog Tryd.f3.params.toList Rows.millTellsSpec.vars false W args.toList ds gs before) (hL : laidMetH Tryd.prog Rows.millTellsRow.laid W) :
    Calls Tryd.prog 3 args W fun e W' => ∃ v, e = .returned v ∧ Rows.millTellsSpec.post enc Tryd.prog Tryd.f3 false true false false W args v W' := by
  have hW' := hW
  obtain ⟨p, q, hA0, hV, rfl, hfz, hnd⟩ := hW
  have hA : DataW.TrodAll enc Tryd.prog W 0 (fun _ => true) true Tryd.f3.params.toList args.toList ds p := hA0
  rw [Tryd.params3] at hA hval
  obtain ⟨v0, d0, p0, rfl, rfl, rfl, h0⟩ := trodAll_only hA
  obtain ⟨rfl, rfl⟩ := trodVars_none hV
  obtain ⟨lots, size, l, sv, rfl, hs⟩ := open_mill (hval 0 24 v0 rfl rfl) h0
  refine (millTells_any lots size l sv W (tabM_of hL) hs).mono fun e W' ⟨he, hb⟩ => ?_
  subst he
  exact ⟨_, rfl, law_post rfl rfl (by kernel_rfl) hW' rfl hb⟩

theorem tellsml_reads (os : Os) {H : Type} (enc : TypeId × Value → H) : ∃ places, DataW.whole enc Tryd.prog ((laidWorldM os).forCall (fun _ _ => 0) ⟨#[], #[noMill], []⟩).memory Tryd.f3.params.toList Rows.millTellsSpec.vars false #[noMill].toList 8 = some ([noMillD], [], places) :=
  ⟨[], by kernel_rfl⟩

theorem tellsml_lifted (os : Os) (started : os.Started) (H : Type) (enc : TypeId × Value → H) (F : Stop.Interp) :
    ReturnsInHanded {} Tryd.checked os 3 .any ((OpenSpec.ofChange Rows.millTellsSpec).preRow enc Tryd.prog Tryd.f3 Rows.millTellsRow.domain false Rows.millTellsRow.laid) (((OpenSpec.ofChange Rows.millTellsSpec).at F).post enc Tryd.prog Tryd.f3 false true false false) := by
  obtain ⟨places, hx⟩ := tellsml_reads os enc
  refine returnsInHanded_of_row (C := Tryd.checked) (s := OpenSpec.ofChange Rows.millTellsSpec) own started (by kernel_rfl) Tryd.func3
    (witness_row_at (enc := enc) (C := Tryd.checked) false (laidWorldM os) #[noMill] rfl (by kernel_rfl) (by kernel_rfl) (by kernel_rfl)
      (OpenSpec.preRow_of_cond 8 hx (by kernel_rfl) (fun k hk => by cases hk) (by kernel_rfl) (laid_metM os _))) ?_
  intro W base args ds gs before hval hW _ _ _ hL _ _
  exact tellsml_contract H enc W base args ds gs before hval hW hL

theorem tellsml_said : Rows.MillTellsSaid :=
  OpenClaim.holds_of_cond 3 Tryd.f3 rfl rfl rfl rfl rfl rfl rfl ⟨rfl, rfl, rfl, rfl, rfl⟩ rfl rfl rfl rfl rfl (by kernel_rfl) Tryd.func3 (by kernel_rfl)
    (of_decide_eq_true (by kernel_rfl)) (by unfold Func.isWrapper; first | (rw [if_pos (by decide +kernel)]; kernel_rfl) | (rw [if_neg (by decide +kernel)]; exact ⟨rfl, rfl⟩))
    (fun os started H enc _ F => by rw [OpenClaim.pre_eq_preRow]; exact tellsml_lifted os started H enc F)

theorem tellsml_plain (f : FuncId) (fn : Func) (hf : Tryd.pinned.checked.prog.funcNamed "middling/middlinglaw09.MillTells" = some f) (hfn : Tryd.pinned.checked.prog.funcs[f]? = some fn) :
    false = Tryd.pinned.checked.prog.looks [] ∧ ∀ (j : Nat) t, fn.params[j]? = some t → Tryd.pinned.checked.prog.wantsStandIn t = false := by
  obtain rfl : f = 3 := Option.some.inj ((show Tryd.prog.funcNamed "middling/middlinglaw09.MillTells" = some 3 by kernel_rfl).symm.trans hf) |>.symm
  obtain rfl : fn = Tryd.f3 := (Option.some.inj (Tryd.func3.symm.trans hfn)).symm
  refine ⟨by kernel_rfl, fun j t ht => ?_⟩
  rw [Tryd.params3] at ht
  have hm : t ∈ [24] := by simpa using Array.mem_of_getElem? ht
  have hall : ([24].all fun u => !Tryd.prog.wantsStandIn u) = true := by kernel_rfl
  exact (show Tryd.prog.wantsStandIn t = false by simpa using List.all_eq_true.1 hall t hm)

theorem tellsml_card : Rows.MillTellsCardSaid :=
  Claim7.holds_tied_plain_at .later [] _ _ _ _ tellsml_said (fun _ h => by cases h) (by kernel_rfl) (fun _ h => by cases h) millTells_row_tie rfl ⟨rfl, rfl⟩ (by kernel_rfl) rfl tellsml_plain (by kernel_rfl)
end Go.Proofs.YtkpengeaolcjhaaDoor
