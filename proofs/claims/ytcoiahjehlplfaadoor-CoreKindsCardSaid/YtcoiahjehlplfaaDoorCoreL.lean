/- The reference: True, asked, Can, Layer, Best, Worst. -/
import Derived.Test.YtcoiahjehlplfaaDoorCoreK
namespace Go.Proofs.YtcoiahjehlplfaaDoor
open Go.RowKit Go.Shelf
set_option maxRecDepth 100000

theorem okB_eq (b : Bale) : (grown (spans b) && decide (0 < (dries b).length)) = okB b := by
  unfold okB; cases dries b <;> simp
theorem true_any (b : Bale) (dv wv : Value) (w : World) (hv : valid b = true) (hd : SlD w dv b.draws) (hw : SlW w wv b.weighs) :
    Calls Tryd.prog 50 #[valB b dv wv] w fun e w' => e = .returned (.bool (okB b)) ∧ Ext w w' := by
  have HB := Lib.hid (valid_bds hv)
  have HD := Lib.hid hd
  have HW := Lib.hid hw
  obtain ⟨A, n, cp, rfl, hn, hlc, hcm⟩ := hd.form
  obtain ⟨A2, n2, cp2, rfl, hn2, hlc2, hcm2⟩ := hw.form
  clear hd hw hv
  go_enter Tryd.func50, Tryd.ntmps50
  go_wp2_with fail
  refine (layers_any b _ _ _ (HD.out.ext (Ext.al _ _)) (HW.out.ext (Ext.al _ _)) HB.out.l1 HB.out.l5).mono ?_
  rintro e w1 ⟨v, rfl, hs, hE⟩
  obtain ⟨hc, hf, hz, HE⟩ := hE.use
  have HE1 := Lib.hid ((Ext.al w _).trans HE.out)
  cases hg : grown (spans b) with
  | false =>
    have HG := Lib.hid hg; clear hg
    go_wp2
    go_ret
    exact ⟨ret_bool (by rw [← okB_eq, HG.out]; rfl), HE1.out⟩
  | true =>
    have HG := Lib.hid hg; clear hg
    have HDW := Lib.hid (show SlD w1 (.slice A n cp) b.draws ∧ SlW w1 (.slice A2 n2 cp2) b.weighs from ⟨HD.out.ext HE1.out, HW.out.ext HE1.out⟩)
    go_wp2_with fail
    refine (dries_any b _ _ _ HDW.out.1 HDW.out.2 HB.out.lo HB.out.lh HB.out.hi (fun x hx => by have := HB.out.w x hx; omega)).mono ?_
    rintro e w2 ⟨v2, rfl, hl, hE2⟩
    obtain ⟨Al, nl, cl, rfl, hnl, hlc', hlm⟩ := hl.form
    have HE2 := Lib.hid (HE1.out.trans hE2)
    clear hE2 hl hs
    go_wp2
    go_ret
    exact ⟨ret_bool (by rw [← okB_eq, HG.out, ← hnl.out]; simp), HE2.out⟩

theorem refCan_any (b : Bale) (dv wv : Value) (w : World) (hd : SlD w dv b.draws) (hw : SlW w wv b.weighs) :
    Calls Tryd.prog 10 #[valB b dv wv] w fun e w' => e = .returned (.tuple #[.bool (valid b && okB b), .int .i64 (errB (valid b) 30)]) ∧ Ext w w' := by
  have HD := Lib.hid hd
  have HW := Lib.hid hw
  obtain ⟨A, n, cp, rfl, hn, hlc, hcm⟩ := hd.form
  obtain ⟨A2, n2, cp2, rfl, hn2, hlc2, hcm2⟩ := hw.form
  clear hd hw
  go_enter Tryd.func10, Tryd.ntmps10
  go_wp2_with fail
  refine (refBale_v b _ _ _ (HD.out.ext (Ext.al _ _)) (HW.out.ext (Ext.al _ _))).mono ?_
  rintro e w1 ⟨rfl, hE⟩
  obtain ⟨hc, hf, hz, HE⟩ := hE.use
  have HE1 := Lib.hid ((Ext.al w _).trans HE.out)
  cases hv : valid b with
  | false =>
    have HV := Lib.hid hv; clear hv
    go_wp2
    refine bodyPost_ret (v := .tuple #[.bool false, .int .i64 30]) (by simp [results, Tryd.results10, go_sem]) rfl ?_
    exact ⟨by rw [HV.out]; rfl, HE1.out⟩
  | true =>
    have HV := Lib.hid hv; clear hv
    go_wp2_with fail
    refine (true_any b _ _ _ HV.out (HD.out.ext HE1.out) (HW.out.ext HE1.out)).mono ?_
    rintro e w2 ⟨rfl, hE2⟩
    have HE2 := Lib.hid (HE1.out.trans hE2)
    clear hE2
    go_wp2
    refine bodyPost_ret (v := .tuple #[.bool (okB b), .int .i64 0]) (by simp [results, Tryd.results10, go_sem]) rfl ?_
    exact ⟨by rw [HV.out]; rfl, HE2.out⟩

def RAsked (b : Bale) (w : World) (e : Ending) (w' : World) : Prop :=
  ∃ sv lv, e = .returned (.tuple #[sv, lv, .int .i64 (askE b true 0)]) ∧ (askE b true 0 = 0 → SlS w' sv (spans b) ∧ SlI w' lv (dries b)) ∧ Ext w w'
theorem RAsked.bad {b : Bale} {w w' : World} {E : Int} (hE : E = askE b true 0) (h0 : askE b true 0 ≠ 0) (h : Ext w w') : RAsked b w (.returned (.tuple #[.slice none 0 0, .slice none 0 0, .int .i64 E])) w' := by
  subst hE; exact ⟨_, _, rfl, fun h => absurd h h0, h⟩
theorem refAsked_any (b : Bale) (dv wv : Value) (w : World) (hd : SlD w dv b.draws) (hw : SlW w wv b.weighs) :
    Calls Tryd.prog 55 #[valB b dv wv] w (RAsked b w) := by
  have HD := Lib.hid hd
  have HW := Lib.hid hw
  obtain ⟨A, n, cp, rfl, hn, hlc, hcm⟩ := hd.form
  obtain ⟨A2, n2, cp2, rfl, hn2, hlc2, hcm2⟩ := hw.form
  clear hd hw
  go_enter Tryd.func55, Tryd.ntmps55
  go_wp2_with fail
  refine (refBale_v b _ _ _ (HD.out.ext (Ext.al _ _)) (HW.out.ext (Ext.al _ _))).mono ?_
  rintro e w1 ⟨rfl, hE⟩
  obtain ⟨hc, hf, hz, HE⟩ := hE.use
  have HE1 := Lib.hid ((Ext.al w _).trans HE.out)
  have hz0 : w.heap.size < w1.heap.size := by simp at hz; omega
  cases hv : valid b with
  | false =>
    have HV := Lib.hid hv; clear hv
    go_wp2
    refine bodyPost_ret (v := .tuple #[.slice none 0 0, .slice none 0 0, .int .i64 30]) (by simp [results, Tryd.results55, go_sem]) rfl ?_
    exact RAsked.bad (by unfold askE; rw [HV.out]; rfl) (by unfold askE; rw [HV.out]; simp) HE1.out
  | true =>
    have HV := Lib.hid hv; clear hv
    have HB := Lib.hid (valid_bds HV.out)
    go_wp2_with fail
    refine (layers_any b _ _ _ (HD.out.ext HE1.out) (HW.out.ext HE1.out) HB.out.l1 HB.out.l5).mono ?_
    rintro e w2 ⟨v, rfl, hs, hE2⟩
    obtain ⟨hc2, hf2, hz2, HE2⟩ := hE2.use
    have HE3 := Lib.hid (HE1.out.trans HE2.out)
    have HDW := Lib.hid (show SlD w2 (.slice A n cp) b.draws ∧ SlW w2 (.slice A2 n2 cp2) b.weighs from ⟨HD.out.ext HE3.out, HW.out.ext HE3.out⟩)
    have HS := Lib.hid hs; clear hs
    generalize hg : grown (spans b) = gr
    have HG := Lib.hid hg; clear hg
    go_wp2_with fail
    refine (dries_any b _ _ _ HDW.out.1 HDW.out.2 HB.out.lo HB.out.lh HB.out.hi (fun x hx => by have := HB.out.w x hx; omega)).mono ?_
    rintro e w3 ⟨v2, rfl, hl, hE4⟩
    obtain ⟨Al, nl, cl, rfl, hnl, hlc', hlm⟩ := hl.form
    have HL := Lib.hid hl
    have HE5 := Lib.hid (HE3.out.trans hE4)
    have HS2 := Lib.hid (show grown (spans b) = true → SlS w3 v (spans b) from fun h => (HS.out h).ext hE4)
    clear hE4 hl
    cases gr with
    | false =>
      go_wp2
      refine bodyPost_ret (v := .tuple #[.slice none 0 0, .slice none 0 0, .int .i64 8]) (by simp [results, Tryd.results55, go_sem]) rfl ?_
      have ho : okB b = false := by rw [← okB_eq, HG.out]; rfl
      exact RAsked.bad (by unfold askE; rw [HV.out, ho]; rfl) (by unfold askE; rw [HV.out, ho]; simp) HE5.out
    | true =>
      by_cases h0 : nl = 0
      · have hnz : (nl : Int) = 0 := by omega
        have ho : okB b = false := by rw [← okB_eq, ← hnl.out, h0]; simp
        have HO := Lib.hid ho; clear ho
        go_wp2
        refine bodyPost_ret (v := .tuple #[.slice none 0 0, .slice none 0 0, .int .i64 8]) (by simp [results, Tryd.results55, go_sem]) rfl ?_
        exact RAsked.bad (by unfold askE; rw [HV.out, HO.out]; rfl) (by unfold askE; rw [HV.out, HO.out]; simp) HE5.out
      · have hnz : ¬ (nl : Int) = 0 := by omega
        have ho : okB b = true := by rw [← okB_eq, ← hnl.out, HG.out]; simp; omega
        have HO := Lib.hid ho; clear ho
        go_wp2
        refine bodyPost_ret (v := .tuple #[v, .slice Al nl cl, .int .i64 0]) (by simp [results, Tryd.results55, go_sem]) rfl ?_
        exact ⟨_, _, by unfold askE; rw [HV.out, HO.out]; rfl, fun _ => ⟨HS2.out HG.out, HL.out⟩, HE5.out⟩
end Go.Proofs.YtcoiahjehlplfaaDoor
