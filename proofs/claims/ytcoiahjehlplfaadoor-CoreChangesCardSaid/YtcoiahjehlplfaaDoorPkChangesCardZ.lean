/- The law CoreChanges: for every bale, draw, weighing and two lists of numbers the call returns true, and all that came in reads behind the call as it did before. No condition beyond the row's own: the table of checks holds what the program's text lays (the card ties it). -/
import Derived.Test.YtcoiahjehlplfaaDoorPkChangesCardH
import Derived.Test.YtcoiahjehlplfaaDoorPkChangesCardT
namespace Go.Proofs.YtcoiahjehlplfaaDoor
open Go.RowKit Go.Shelf Go.ChangeShapes Go.WideShapes Go.ChangeAt
set_option maxRecDepth 100000

section
variable {H : Type} {enc : TypeId × Value → H}
theorem trodAll_five {P : Program} {w : World} {base : Nat} {spare : Nat → Bool} {held : Bool} {t t' t2 t3 t4 : TypeId} {args : Array Value} {ds : List (DataW H)} {ps : List MemPlace} (h : DataW.TrodAll enc P w base spare held [t, t', t2, t3, t4] args.toList ds ps) :
    ∃ v v' v2 v3 v4 d d' d2 d3 d4 p p' p2 p3 p4, args = #[v, v', v2, v3, v4] ∧ ds = [d, d', d2, d3, d4] ∧ ps = p ++ p' ++ p2 ++ p3 ++ p4 ∧ DataW.Trod enc P w base spare held t v d p ∧ DataW.Trod enc P w base spare held t' v' d' p' ∧ DataW.Trod enc P w base spare held t2 v2 d2 p2 ∧
      DataW.Trod enc P w base spare held t3 v3 d3 p3 ∧ DataW.Trod enc P w base spare held t4 v4 d4 p4 := by
  obtain ⟨v, vs, d, ds', p, q, hargs, rfl, rfl, hd, hrest⟩ := trodAll_cons h
  obtain ⟨v', vs', d', ds1, p', q', rfl, rfl, rfl, hd', hrest'⟩ := trodAll_cons hrest
  obtain ⟨v2, vs2, d2, ds2, p2, q2, rfl, rfl, rfl, hd2, hrest2⟩ := trodAll_cons hrest'
  obtain ⟨v3, vs3, d3, ds3, p3, q3, rfl, rfl, rfl, hd3, hrest3⟩ := trodAll_cons hrest2
  obtain ⟨v4, vs4, d4, ds4, p4, q4, rfl, rfl, rfl, hd4, hrest4⟩ := trodAll_cons hrest3
  obtain ⟨rfl, rfl, rfl⟩ := trodAll_nil hrest4
  exact ⟨v, v', v2, v3, v4, d, d', d2, d3, d4, p, p', p2, p3, p4, by cases args; simp_all, rfl, by simp, hd, hd', hd2, hd3, hd4⟩
variable {w : World}
theorem open_draw {r : Reach} {b0 : Nat} {v : Value} {d : DataW H} {p : List MemPlace} (hv : Value.okWide Tryd.prog w r b0 63 v) (h : DataW.Trod enc Tryd.prog w 0 (fun _ => true) true 63 v d p) : ∃ x : Draw, v = valD x := by
  obtain ⟨cs, rfl, hsz⟩ := okWide_struct Tryd.underlying63 hv
  obtain ⟨fuel, hf⟩ := h
  obtain ⟨x, hx⟩ := draw_of hf (by simpa [Value.cells] using hsz.trans co63)
  exact ⟨x, by
    obtain ⟨l⟩ := cs
    simp [Value.cells] at hx
    subst hx
    rfl⟩
theorem open_weigh {r : Reach} {b0 : Nat} {v : Value} {d : DataW H} {p : List MemPlace} (hv : Value.okWide Tryd.prog w r b0 65 v) (h : DataW.Trod enc Tryd.prog w 0 (fun _ => true) true 65 v d p) : ∃ x : Weigh, v = valW x := by
  obtain ⟨cs, rfl, hsz⟩ := okWide_struct Tryd.underlying65 hv
  obtain ⟨fuel, hf⟩ := h
  obtain ⟨x, hx⟩ := weigh_of hf (by simpa [Value.cells] using hsz.trans co65)
  exact ⟨x, by
    obtain ⟨l⟩ := cs
    simp [Value.cells] at hx
    subst hx
    rfl⟩
theorem open_ints {r : Reach} {b0 : Nat} {v : Value} {d : DataW H} {p : List MemPlace} (hv : Value.okWide Tryd.prog w r b0 56 v) (h : DataW.Trod enc Tryd.prog w 0 (fun _ => true) true 56 v d p) : ∃ l : List Int, SlI w v l := by
  obtain ⟨a, n, c, rfl⟩ := okWide_slice Tryd.underlying56 hv
  obtain ⟨fuel, hf⟩ := h
  exact sl_of_trod (enc' := encI) Tryd.underlying56 co3 (by decide) (fun _ => rfl) (fun _ _ _ h _ => int_of h) hf
end

theorem changesc_contract (H : Type) (enc : TypeId × Value → H) (W : World) (base : Nat) (args : Array Value) (ds gs : List (DataW H)) (before : List MemPlace)
    (hval : ∀ (j : Nat) t v, Tryd.f6.params[j]? = some t → args[j]? = some v → Value.okWide Tryd.prog W .any base t v)
    (hW : DataW.Whole enc Tryd.prog Tryd.f6.params.toList Rows.coreChangesSpec.vars false W args.toList ds gs before) (hL : laidMetH Tryd.prog Rows.coreChangesRow.laid W) :
    Calls Tryd.prog 6 args W fun e W' => ∃ v, e = .returned v ∧ Rows.coreChangesSpec.post enc Tryd.prog Tryd.f6 false true false false W args v W' := by
  have hW' := hW
  obtain ⟨p, q, hA0, hV, rfl, hfz, hnd⟩ := hW
  have hA : DataW.TrodAll enc Tryd.prog W 0 (fun _ => true) true Tryd.f6.params.toList args.toList ds p := hA0
  rw [Tryd.params6] at hA hval
  obtain ⟨v0, v1, v2, v3, v4, d0, d1, d2, d3, d4, p0, p1, p2, p3, p4, rfl, rfl, rfl, h0, h1, h2, h3, h4⟩ := trodAll_five hA
  obtain ⟨rfl, rfl⟩ := trodVars_none hV
  obtain ⟨b, dv, wv, rfl, hd, hw⟩ := open_bale (hval 0 27 v0 rfl rfl) h0
  obtain ⟨x, rfl⟩ := open_draw (hval 1 63 v1 rfl rfl) h1
  obtain ⟨y, rfl⟩ := open_weigh (hval 2 65 v2 rfl rfl) h2
  obtain ⟨l, hl⟩ := open_ints (hval 3 56 v3 rfl rfl) h3
  obtain ⟨k, hk⟩ := open_ints (hval 4 56 v4 rfl rfl) h4
  refine (changesLaw_any b x y l k dv wv v3 v4 W (tab_of hL) hd hw hl hk).mono fun e W' ⟨he, hb⟩ => ?_
  subst he
  exact ⟨_, rfl, law_post rfl rfl (by kernel_rfl) hW' rfl hb⟩

/-- A draw, or a weighing, of zeros. -/
def noDraw : Value := .agg #[.int .i64 0, .int .i64 0, .int .i64 0, .int .i64 0]
def noDrawD {H : Type} : DataW H := .agg [.lit (.int .i64 0), .lit (.int .i64 0), .agg [.lit (.int .i64 0), .lit (.int .i64 0)]]
theorem changesc_reads (os : Os) {H : Type} (enc : TypeId × Value → H) : ∃ places, DataW.whole enc Tryd.prog ((laidWorld os).forCall (fun _ _ => 0) ⟨#[], #[noBale, noDraw, noDraw, .slice none 0 0, .slice none 0 0], []⟩).memory Tryd.f6.params.toList Rows.coreChangesSpec.vars false #[noBale, noDraw, noDraw, .slice none 0 0, .slice none 0 0].toList 8 = some ([noBaleD, noDrawD, noDrawD, .nil, .nil], [], places) :=
  ⟨[], by kernel_rfl⟩

theorem changesc_lifted (os : Os) (started : os.Started) (H : Type) (enc : TypeId × Value → H) (F : Stop.Interp) :
    ReturnsInHanded {} Tryd.checked os 6 .any ((OpenSpec.ofChange Rows.coreChangesSpec).preRow enc Tryd.prog Tryd.f6 Rows.coreChangesRow.domain false Rows.coreChangesRow.laid) (((OpenSpec.ofChange Rows.coreChangesSpec).at F).post enc Tryd.prog Tryd.f6 false true false false) := by
  obtain ⟨places, hx⟩ := changesc_reads os enc
  refine returnsInHanded_of_row (C := Tryd.checked) (s := OpenSpec.ofChange Rows.coreChangesSpec) own started (by kernel_rfl) Tryd.func6
    (witness_row_at (enc := enc) (C := Tryd.checked) false (laidWorld os) #[noBale, noDraw, noDraw, .slice none 0 0, .slice none 0 0] rfl (by kernel_rfl) (by kernel_rfl) (by kernel_rfl)
      (OpenSpec.preRow_of_cond 8 hx (by kernel_rfl) (fun k hk => by cases hk) (by kernel_rfl) (laid_met os _))) ?_
  intro W base args ds gs before hval hW _ _ _ hL _ _
  exact changesc_contract H enc W base args ds gs before hval hW hL

theorem changesc_said : Rows.CoreChangesSaid :=
  OpenClaim.holds_of_cond 6 Tryd.f6 rfl rfl rfl rfl rfl rfl rfl ⟨rfl, rfl, rfl, rfl, rfl⟩ rfl rfl rfl rfl rfl (by kernel_rfl) Tryd.func6 (by kernel_rfl)
    (of_decide_eq_true (by kernel_rfl)) (by unfold Func.isWrapper; first | (rw [if_pos (by decide +kernel)]; kernel_rfl) | (rw [if_neg (by decide +kernel)]; exact ⟨rfl, rfl⟩))
    (fun os started H enc _ F => by rw [OpenClaim.pre_eq_preRow]; exact changesc_lifted os started H enc F)

theorem changesc_plain (f : FuncId) (fn : Func) (hf : Tryd.pinned.checked.prog.funcNamed "middling/middlinglaw03.CoreChanges" = some f) (hfn : Tryd.pinned.checked.prog.funcs[f]? = some fn) :
    false = Tryd.pinned.checked.prog.looks [] ∧ ∀ (j : Nat) t, fn.params[j]? = some t → Tryd.pinned.checked.prog.wantsStandIn t = false := by
  obtain rfl : f = 6 := Option.some.inj ((show Tryd.prog.funcNamed "middling/middlinglaw03.CoreChanges" = some 6 by kernel_rfl).symm.trans hf) |>.symm
  obtain rfl : fn = Tryd.f6 := (Option.some.inj (Tryd.func6.symm.trans hfn)).symm
  refine ⟨by kernel_rfl, fun j t ht => ?_⟩
  rw [Tryd.params6] at ht
  have hm : t ∈ [27, 63, 65, 56, 56] := by simpa using Array.mem_of_getElem? ht
  have hall : ([27, 63, 65, 56, 56].all fun u => !Tryd.prog.wantsStandIn u) = true := by kernel_rfl
  exact (show Tryd.prog.wantsStandIn t = false by simpa using List.all_eq_true.1 hall t hm)

theorem changesc_card : Rows.CoreChangesCardSaid :=
  Claim7.holds_tied_plain_at .later [] _ _ _ _ changesc_said (fun _ h => by cases h) (by kernel_rfl) (fun _ h => by cases h) coreChanges_row_tie rfl ⟨rfl, rfl⟩ (by kernel_rfl) rfl changesc_plain (by kernel_rfl)
end Go.Proofs.YtcoiahjehlplfaaDoor
