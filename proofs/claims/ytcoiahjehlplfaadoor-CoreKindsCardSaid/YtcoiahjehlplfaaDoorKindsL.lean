/- middlinglaw03.CoreKinds: the walk. -/
import Derived.Test.YtcoiahjehlplfaaDoorCoreT
import Derived.Test.YtcoiahjehlplfaaDoorCutLaw
import Derived.Test.YtcoiahjehlplfaaDoorDecide
import Derived.Test.YtcoiahjehlplfaaDoorRDecide
namespace Go.Proofs.YtcoiahjehlplfaaDoor
open Go.RowKit Go.Shelf
set_option maxRecDepth 100000
set_option linter.unusedSimpArgs false

theorem rdec_eq (b : Bale) : rdecB b = decB b := by
  unfold rdecB decB
  split
  · rename_i hz
    obtain ⟨h1, h3⟩ : valid b = true ∧ okB b = true := by
      unfold askE at hz
      split at hz
      · simp at hz; exact ⟨by assumption, hz⟩
      · cases hz
    have hB := valid_bds h1
    have hl := spans_len b
    have h5 : (spans b).length ≤ 5 := by have := hB.l5; omega
    have h0 : 0 < (spans b).length := by have := hB.l1; omega
    have hlh : ∀ x ∈ spans b, x.lo ≤ x.hi := by
      unfold okB grown at h3
      simp only [Bool.and_eq_true, List.all_eq_true] at h3
      exact fun x hx => by have := h3.1 x hx; simpa [okS] using this
    exact decide_eq h5 h0 fun x hx => by have := spans_bd h1 x hx; have := hlh x hx; omega
  · rfl

set_option maxHeartbeats 4000000 in
theorem kindsLaw_any (b : Bale) (kind : Int) (dv wv : Value) (w : World) (hT : Tab w) (hd : SlD w dv b.draws) (hw : SlW w wv b.weighs) :
    Calls Tryd.prog 5 #[valB b dv wv, .int .i64 kind] w fun e w' => e = .returned (.bool true) ∧ Ext w w' := by
  have HT := Lib.hid hT
  have HD := Lib.hid hd
  have HW := Lib.hid hw
  obtain ⟨A, n, cp, rfl, hn, hlc, hcm⟩ := hd.form
  obtain ⟨A2, n2, cp2, rfl, hn2, hlc2, hcm2⟩ := hw.form
  clear hd hw hT
  have nq := neq23
  go_enter Tryd.func5, Tryd.ntmps5
  go_wp2_with fail
  refine (great_any b _ _ _ (HD.out.ext (Ext.al _ _)) (HW.out.ext (Ext.al _ _))).mono ?_
  rintro e w1 ⟨rfl, hE⟩
  obtain ⟨hc, hf, hz, HE⟩ := hE.use
  have HE1 := Lib.hid ((Ext.al w _).trans HE.out)
  have hz0 : w.heap.size < w1.heap.size := by simp at hz; omega
  cases hg : greatB b with
  | true =>
    go_wp2
    go_ret
    exact ⟨rfl, HE1.out⟩
  | false =>
    have hlen : b.draws.length ≤ 20 ∧ b.weighs.length ≤ 16 := by
      unfold greatB at hg; simp at hg; omega
    clear hg
    have HLE := Lib.hid hlen; clear hlen
    have HB1 := Lib.hid (show Blk w1 w.heap.size 27 #[.int .i64 b.id, .int .i64 b.layers, .int .i64 b.dry.lo, .int .i64 b.dry.hi, .slice A n cp, .slice A2 n2 cp2] from (Blk.at_ rfl).ext HE.out)
    go_wp2_with fail
    refine (twin_any b _ _ _ (HD.out.ext HE1.out) (HW.out.ext HE1.out) (by have := HLE.out; omega) (by have := HLE.out; omega)).mono ?_
    rintro e w2 ⟨⟨v, rfl, tv⟩, hE2⟩
    obtain ⟨dv, wv, rfl, o1, o2⟩ := tv
    obtain ⟨Ad, nd, cd, rfl, -, -, -⟩ := (show SlD w2 dv b.draws from o1.sl (fun _ => rfl)).form
    obtain ⟨Aw, nw, cw, rfl, -, -, -⟩ := (show SlW w2 wv b.weighs from o2.sl (fun _ => rfl)).form
    have HTD := Lib.hid (show SlD w2 (.slice Ad nd cd) b.draws from o1.sl (fun _ => rfl))
    have HTW := Lib.hid (show SlW w2 (.slice Aw nw cw) b.weighs from o2.sl (fun _ => rfl))
    have HE2 := Lib.hid (HE1.out.trans hE2)
    have HBx := Lib.hid (HB1.out.ext hE2)
    clear o1 o2 hE2 hc hf
    have x0 := HBx.out.cell 0
    have x1 := HBx.out.cell 1
    have x2 := HBx.out.cell 2
    have x3 := HBx.out.cell 3
    have x4 := HBx.out.cell 4
    have x5 := HBx.out.cell 5
    have xl := HBx.out.lt
    simp at x0 x1 x2 x3 x4 x5
    dsimp only [valB]
    go_wp2_with fail
    have S := Lib.hid (show St b w w.heap.size w2.heap.size (.slice A n cp) (.slice A2 n2 cp2) (.slice Ad nd cd) (.slice Aw nw cw) _ from ⟨HE2.out.alloc (.cells #[.int .i64 b.id, .int .i64 b.layers, .int .i64 b.dry.lo, .int .i64 b.dry.hi, .slice Ad nd cd, .slice Aw nw cw] 27), HBx.out.alloc _, Blk.new _ _ _, (HT.out.ext HE2.out).ext (Ext.al _ _), (HD.out.ext HE2.out).ext (Ext.al _ _), (HW.out.ext HE2.out).ext (Ext.al _ _), HTD.out.ext (Ext.al _ _), HTW.out.ext (Ext.al _ _)⟩)
    clear x0 x1 x2 x3 x4 x5 xl HTD HTW HBx HE2
    refine (kindC_any b kind _ _ _ S.out.t S.out.b1 S.out.b2).mono ?_
    rintro e w3 ⟨rfl, hE3⟩
    have S3 := Lib.hid (S.out.ext hE3); clear S hE3
    obtain ⟨⟨x0, x1, x2, x3, x4, x5⟩, ⟨y0, y1, y2, y3, y4, y5⟩, xl, yl⟩ := S3.out.cells
    dsimp only
    go_wp2_with fail
    clear x0 x1 x2 x3 x4 x5 y0 y1 y2 y3 y4 y5 xl yl
    refine (refKind_any b kind _ _ _ S3.out.a1 S3.out.a2).mono ?_
    rintro e w4 ⟨rfl, hE4⟩
    have S4 := Lib.hid (S3.out.ext hE4); clear S3 hE4
    obtain ⟨⟨x0, x1, x2, x3, x4, x5⟩, ⟨y0, y1, y2, y3, y4, y5⟩, xl, yl⟩ := S4.out.cells
    dsimp only
    go_wp2_with fail
    clear x0 x1 x2 x3 x4 x5 y0 y1 y2 y3 y4 y5 xl yl
    refine (cut_any b _ _ _ S4.out.t S4.out.b1 S4.out.b2).mono ?_
    rintro e w5 ⟨rfl, hE5⟩
    have S5 := Lib.hid (S4.out.ext hE5); clear S4 hE5
    obtain ⟨⟨x0, x1, x2, x3, x4, x5⟩, ⟨y0, y1, y2, y3, y4, y5⟩, xl, yl⟩ := S5.out.cells
    dsimp only [valS]
    go_wp2_with fail
    have S5a := Lib.hid (S5.out.ext (Ext.al _ (.cells #[.int .i64 (cutB b).lo, .int .i64 (cutB b).hi] 23)))
    have HA := Lib.hid (Blk.new w5 23 #[.int .i64 (cutB b).lo, .int .i64 (cutB b).hi])
    clear x0 x1 x2 x3 x4 x5 y0 y1 y2 y3 y4 y5 xl yl
    refine (refCut_any b _ _ _ S5a.out.a1 S5a.out.a2).mono ?_
    rintro e w6 ⟨rfl, hE6⟩
    rw [(cut_same b).1, (cut_same b).2]
    have S6 := Lib.hid (S5a.out.ext hE6)
    have HA6 := Lib.hid (HA.out.ext hE6)
    clear S5 S5a HA hE6
    obtain ⟨⟨x0, x1, x2, x3, x4, x5⟩, ⟨y0, y1, y2, y3, y4, y5⟩, xl, yl⟩ := S6.out.cells
    have a0 := HA6.out.cell 0
    have a1 := HA6.out.cell 1
    have al := HA6.out.lt
    simp at a0 a1
    dsimp only [valS]
    go_wp2_with fail
    have S6a := Lib.hid (S6.out.ext (Ext.al _ (.cells #[.int .i64 (cutB b).lo, .int .i64 (cutB b).hi] 23)))
    clear x0 x1 x2 x3 x4 x5 y0 y1 y2 y3 y4 y5 xl yl a0 a1 al
    refine (ask_any b _ _ _ S6a.out.t S6a.out.b1 S6a.out.b2).mono ?_
    rintro e w7 ⟨rfl, hE7⟩
    have S7 := Lib.hid (S6a.out.ext hE7); clear S6 S6a hE7 HA6
    obtain ⟨⟨x0, x1, x2, x3, x4, x5⟩, ⟨y0, y1, y2, y3, y4, y5⟩, xl, yl⟩ := S7.out.cells
    dsimp only
    go_wp2_with fail
    clear x0 x1 x2 x3 x4 x5 y0 y1 y2 y3 y4 y5 xl yl
    refine (refAsk_any b _ _ _ S7.out.a1 S7.out.a2).mono ?_
    rintro e w8 ⟨rfl, hE8⟩
    rw [ask_eq]
    have S8 := Lib.hid (S7.out.ext hE8); clear S7 hE8
    obtain ⟨⟨x0, x1, x2, x3, x4, x5⟩, ⟨y0, y1, y2, y3, y4, y5⟩, xl, yl⟩ := S8.out.cells
    dsimp only
    go_wp2_with fail
    clear x0 x1 x2 x3 x4 x5 y0 y1 y2 y3 y4 y5 xl yl
    refine (decide_any b _ _ _ S8.out.t S8.out.b1 S8.out.b2).mono ?_
    rintro e w9 ⟨v1, rfl, hv1, hE9⟩
    have S9 := Lib.hid (S8.out.ext hE9); clear S8 hE9
    have HV1 := Lib.hid hv1; clear hv1
    obtain ⟨⟨x0, x1, x2, x3, x4, x5⟩, ⟨y0, y1, y2, y3, y4, y5⟩, xl, yl⟩ := S9.out.cells
    dsimp only
    go_wp2_with fail
    clear x0 x1 x2 x3 x4 x5 y0 y1 y2 y3 y4 y5 xl yl
    refine (refDecide_any b _ _ _ S9.out.a1 S9.out.a2).mono ?_
    rintro e w10 ⟨v2, rfl, hv2, hE10⟩
    rw [rdec_eq] at hv2
    have S10 := Lib.hid (S9.out.ext hE10); clear S9
    have HV2 := Lib.hid hv2
    have HV3 := Lib.hid (HV1.out.ext hE10); clear hv2 hE10 HV1
    dsimp only
    go_wp2_with fail
    refine (sameInts_any (decB b) _ _ _ HV3.out HV2.out).mono ?_
    rintro e w11 ⟨rfl, hE11⟩
    have S11 := Lib.hid (S10.out.ext hE11); clear S10 hE11
    obtain ⟨⟨x0, x1, x2, x3, x4, x5⟩, ⟨y0, y1, y2, y3, y4, y5⟩, xl, yl⟩ := S11.out.cells
    go_wp2_with fail
    refine (same_any b _ _ _ _ _ S11.out.b1 S11.out.b2 S11.out.a1 S11.out.a2).mono ?_
    rintro e w12 ⟨rfl, hE12⟩
    go_wp2
    go_ret
    exact ⟨rfl, (S11.out.ext hE12).e⟩
end Go.Proofs.YtcoiahjehlplfaaDoor
