/- The law MillMore: for every mill, cotton and byte the call returns true, and what came in reads behind the call as it did before. No condition beyond the row's own: the tables of checks hold what the program's text lays (the card ties it). -/
import Derived.Test.YtkpengeaolcjhaaGreatDoorPkMlBestCardYA
import Derived.Test.YtkpengeaolcjhaaGreatDoorPkMlBestCardYB
import Derived.Test.YtkpengeaolcjhaaGreatDoorPkMlBestCardX
import Derived.Test.YtkpengeaolcjhaaGreatDoorPkMlMoreCardA
namespace Go.Proofs.YtkpengeaolcjhaaGreatDoor
open Go.RowKit Go.Shelf Go.ChangeShapes Go.WideShapes Go.ChangeAt
set_option maxRecDepth 100000

theorem trodAll_threeM {H : Type} {enc : TypeId × Value → H} {P : Program} {w : World} {base : Nat} {spare : Nat → Bool} {held : Bool} {t0 t1 t2 : TypeId} {args : Array Value} {ds : List (DataW H)} {ps : List MemPlace} (h : DataW.TrodAll enc P w base spare held [t0, t1, t2] args.toList ds ps) :
    ∃ v0 v1 v2 d0 d1 d2 p0 p1 p2, args = #[v0, v1, v2] ∧ ds = [d0, d1, d2] ∧ ps = p0 ++ (p1 ++ (p2)) ∧ DataW.Trod enc P w base spare held t0 v0 d0 p0 ∧ DataW.Trod enc P w base spare held t1 v1 d1 p1 ∧ DataW.Trod enc P w base spare held t2 v2 d2 p2 := by
  obtain ⟨v0, vs0, d0, ds0, p0, q0, e0, rfl, rfl, h0, r0⟩ := trodAll_cons h
  obtain ⟨v1, vs1, d1, ds1, p1, q1, rfl, rfl, rfl, h1, r1⟩ := trodAll_cons r0
  obtain ⟨v2, vs2, d2, ds2, p2, q2, rfl, rfl, rfl, h2, r2⟩ := trodAll_cons r1
  obtain ⟨rfl, rfl, rfl⟩ := trodAll_nil r2
  exact ⟨v0, v1, v2, d0, d1, d2, p0, p1, p2, by cases args; simp_all, rfl, by simp, h0, h1, h2⟩

/-- A cotton by value. -/
theorem open_cotton {H : Type} {enc : TypeId × Value → H} {w : World} {r : Reach} {b0 : Nat} {v : Value} {d : DataW H} {p : List MemPlace} (hv : Value.okWide Tryz.prog w r b0 63 v) (h : DataW.Trod enc Tryz.prog w 0 (fun _ => true) true 63 v d p) :
    ∃ x : Rc, v = valC x ∧ (SlD w (.slice x.da x.dn x.dc) x.c.b.draws ∧ SlW w (.slice x.wa x.wn x.wc) x.c.b.weighs) := by
  obtain ⟨cs, rfl, hsz⟩ := okWide_struct Tryz.underlying63 hv
  obtain ⟨fuel, hf⟩ := h
  obtain ⟨x, hx, hg⟩ := cot_of hf (by
    have h8 := hsz.trans co2061
    simpa [Value.cells] using h8)
  refine ⟨x, ?_, hg⟩
  have : cs.toList = encC x := by simpa [Value.cells] using hx
  rw [show cs = (encC x).toArray by rw [← this]]
def noCot : Value := .agg #[.int .i64 0, .int .i64 0, .int .i64 0, .int .i64 0, .slice none 0 0, .slice none 0 0, .int .i64 0, .int .i64 0]
def noCotD {H : Type} : DataW H := .agg [.agg [.lit (.int .i64 0), .lit (.int .i64 0), .agg [.lit (.int .i64 0), .lit (.int .i64 0)], .nil, .nil], .lit (.int .i64 0), .lit (.int .i64 0)]

theorem moreml_contract (H : Type) (enc : TypeId × Value → H) (W : World) (base : Nat) (args : Array Value) (ds gs : List (DataW H)) (before : List MemPlace)
    (hval : ∀ (j : Nat) t v, Tryz.f7.params[j]? = some t → args[j]? = some v → Value.okWide Tryz.prog W .any base t v)
    (hW : DataW.Whole enc Tryz.prog Tryz.f7.params.toList Rows.millMoreSpec.vars false W args.toList ds gs before) (hL : laidMetH Tryz.prog Rows.millMoreRow.laid W) :
    Calls Tryz.prog 7 args W fun e W' => ∃ v, e = .returned v ∧ Rows.millMoreSpec.post enc Tryz.prog Tryz.f7 false true false false W args v W' := by
  have hW' := hW
  obtain ⟨p, q, hA0, hV, rfl, hfz, hnd⟩ := hW
  have hA : DataW.TrodAll enc Tryz.prog W 0 (fun _ => true) true Tryz.f7.params.toList args.toList ds p := hA0
  rw [Tryz.params7] at hA hval
  obtain ⟨v0, v1, v2, d0, d1, d2, p0, p1, p2, rfl, rfl, rfl, h0, h1, h2⟩ := trodAll_threeM hA
  obtain ⟨rfl, rfl⟩ := trodVars_none hV
  obtain ⟨lots, size, l, sv, rfl, hs⟩ := open_mill (hval 0 24 v0 rfl rfl) h0
  obtain ⟨x, rfl, hx⟩ := open_cotton (hval 1 63 v1 rfl rfl) h1
  obtain ⟨x2, rfl, rfl, rfl, wx2⟩ := open_int Tryz.underlying5 (hval 2 5 v2 rfl rfl) h2
  have hx2 := bounds_u8 wx2
  refine (millMore_of alive_anyM lots size x x2 l sv W (tabM_of hL) hs hx hx2).mono fun e W' ⟨he, hb⟩ => ?_
  subst he
  exact ⟨_, rfl, law_post rfl rfl (by kernel_rfl) hW' rfl hb⟩

theorem moreml_reads (os : Os) {H : Type} (enc : TypeId × Value → H) : ∃ places, DataW.whole enc Tryz.prog ((laidWorldM os).forCall (fun _ _ => 0) ⟨#[], #[noMill, noCot, .int .u8 0], []⟩).memory Tryz.f7.params.toList Rows.millMoreSpec.vars false #[noMill, noCot, .int .u8 0].toList 8 = some ([noMillD, noCotD, .lit (.int .u8 0)], [], places) :=
  ⟨[], by kernel_rfl⟩

theorem moreml_lifted (os : Os) (started : os.Started) (H : Type) (enc : TypeId × Value → H) (F : Stop.Interp) :
    ReturnsInHanded {} Tryz.checked os 7 .any ((OpenSpec.ofChange Rows.millMoreSpec).preRow enc Tryz.prog Tryz.f7 Rows.millMoreRow.domain false Rows.millMoreRow.laid) (((OpenSpec.ofChange Rows.millMoreSpec).at F).post enc Tryz.prog Tryz.f7 false true false false) := by
  obtain ⟨places, hx⟩ := moreml_reads os enc
  refine returnsInHanded_of_row (C := Tryz.checked) (s := OpenSpec.ofChange Rows.millMoreSpec) own started (by kernel_rfl) Tryz.func7
    (witness_row_at (enc := enc) (C := Tryz.checked) false (laidWorldM os) #[noMill, noCot, .int .u8 0] rfl (by kernel_rfl) (by kernel_rfl) (by kernel_rfl)
      (OpenSpec.preRow_of_cond 8 hx (by kernel_rfl) (fun k hk => by cases hk) (by kernel_rfl) (laid_metM os _))) ?_
  intro W base args ds gs before hval hW _ _ _ hL _ _
  exact moreml_contract H enc W base args ds gs before hval hW hL

theorem moreml_said : Rows.MillMoreSaid :=
  OpenClaim.holds_of_cond 7 Tryz.f7 rfl rfl rfl rfl rfl rfl rfl ⟨rfl, rfl, rfl, rfl, rfl⟩ rfl rfl rfl rfl rfl (by kernel_rfl) Tryz.func7 (by kernel_rfl)
    (of_decide_eq_true (by kernel_rfl)) (by unfold Func.isWrapper; first | (rw [if_pos (by decide +kernel)]; kernel_rfl) | (rw [if_neg (by decide +kernel)]; exact ⟨rfl, rfl⟩))
    (fun os started H enc _ F => by rw [OpenClaim.pre_eq_preRow]; exact moreml_lifted os started H enc F)

theorem moreml_plain (f : FuncId) (fn : Func) (hf : Tryz.pinned.checked.prog.funcNamed "middling/middlinglaw09.MillMore" = some f) (hfn : Tryz.pinned.checked.prog.funcs[f]? = some fn) :
    false = Tryz.pinned.checked.prog.looks [] ∧ ∀ (j : Nat) t, fn.params[j]? = some t → Tryz.pinned.checked.prog.wantsStandIn t = false := by
  obtain rfl : f = 7 := Option.some.inj ((show Tryz.prog.funcNamed "middling/middlinglaw09.MillMore" = some 7 by kernel_rfl).symm.trans hf) |>.symm
  obtain rfl : fn = Tryz.f7 := (Option.some.inj (Tryz.func7.symm.trans hfn)).symm
  refine ⟨by kernel_rfl, fun j t ht => ?_⟩
  rw [Tryz.params7] at ht
  have hm : t ∈ [24, 63, 5] := by simpa using Array.mem_of_getElem? ht
  have hall : ([24, 63, 5].all fun u => !Tryz.prog.wantsStandIn u) = true := by kernel_rfl
  exact (show Tryz.prog.wantsStandIn t = false by simpa using List.all_eq_true.1 hall t hm)

theorem moreml_card : Rows.MillMoreCardSaid :=
  Claim7.holds_tied_plain_at .later [] _ _ _ _ moreml_said (fun _ h => by cases h) (by kernel_rfl) (fun _ h => by cases h) millMore_row_tie rfl ⟨rfl, rfl⟩ (by kernel_rfl) rfl moreml_plain (by kernel_rfl)
end Go.Proofs.YtkpengeaolcjhaaGreatDoor
