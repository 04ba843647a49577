/- middlinglaw03.CoreWeighs: the walk. -/
import Derived.Test.YtcoiahjehlplfaaDoorCoreT
import Derived.Test.YtcoiahjehlplfaaDoorAsideLaw
import Derived.Test.YtcoiahjehlplfaaDoorKnown
namespace Go.Proofs.YtcoiahjehlplfaaDoor
open Go.RowKit Go.Shelf
set_option maxRecDepth 100000
set_option linter.unusedSimpArgs false

set_option maxHeartbeats 4000000 in
theorem weighs_any (b : Bale) (number damp : Int) (dv wv : Value) (w : World) (hT : Tab w) (hd : SlD w dv b.draws) (hw : SlW w wv b.weighs) :
    Calls Tryd.prog 4 #[valB b dv wv, .int .i64 number, .int .i64 damp] w fun e w' => e = .returned (.bool true) ∧ Ext w w' := by
  have HT := Lib.hid hT
  have HD := Lib.hid hd
  have HW := Lib.hid hw
  obtain ⟨A, n, cp, rfl, hn, hlc, hcm⟩ := hd.form
  obtain ⟨A2, n2, cp2, rfl, hn2, hlc2, hcm2⟩ := hw.form
  clear hd hw hT
  have nq := neq23
  go_enter Tryd.func4, Tryd.ntmps4
  go_wp2_with fail
  refine (great_any b _ _ _ (HD.out.ext (Ext.al _ _)) (HW.out.ext (Ext.al _ _))).mono ?_
  rintro e w1 ⟨rfl, hE⟩
  obtain ⟨hc, hf, hz, HE⟩ := hE.use
  have HE1 := Lib.hid ((Ext.al w _).trans HE.out)
  have hz0 : w.heap.size < w1.heap.size := by simp at hz; omega
  cases hg : greatB b with
  | true =>
    go_wp2
    go_ret
    exact ⟨rfl, HE1.out⟩
  | false =>
    have hlen : b.draws.length ≤ 20 ∧ b.weighs.length ≤ 16 := by
      unfold greatB at hg; simp at hg; omega
    clear hg
    have HLE := Lib.hid hlen; clear hlen
    have HB1 := Lib.hid (show Blk w1 w.heap.size 27 #[.int .i64 b.id, .int .i64 b.layers, .int .i64 b.dry.lo, .int .i64 b.dry.hi, .slice A n cp, .slice A2 n2 cp2] from (Blk.at_ rfl).ext HE.out)
    go_wp2_with fail
    refine (twin_any b _ _ _ (HD.out.ext HE1.out) (HW.out.ext HE1.out) (by have := HLE.out; omega) (by have := HLE.out; omega)).mono ?_
    rintro e w2 ⟨⟨v, rfl, tv⟩, hE2⟩
    obtain ⟨dv, wv, rfl, o1, o2⟩ := tv
    obtain ⟨Ad, nd, cd, rfl, -, -, -⟩ := (show SlD w2 dv b.draws from o1.sl (fun _ => rfl)).form
    obtain ⟨Aw, nw, cw, rfl, -, -, -⟩ := (show SlW w2 wv b.weighs from o2.sl (fun _ => rfl)).form
    have HTD := Lib.hid (show SlD w2 (.slice Ad nd cd) b.draws from o1.sl (fun _ => rfl))
    have HTW := Lib.hid (show SlW w2 (.slice Aw nw cw) b.weighs from o2.sl (fun _ => rfl))
    have HE2 := Lib.hid (HE1.out.trans hE2)
    have HBx := Lib.hid (HB1.out.ext hE2)
    clear o1 o2 hE2 hc hf
    have x0 := HBx.out.cell 0
    have x1 := HBx.out.cell 1
    have x2 := HBx.out.cell 2
    have x3 := HBx.out.cell 3
    have x4 := HBx.out.cell 4
    have x5 := HBx.out.cell 5
    have xl := HBx.out.lt
    simp at x0 x1 x2 x3 x4 x5
    dsimp only [valB]
    go_wp2_with fail
    have S := Lib.hid (show St b w w.heap.size w2.heap.size (.slice A n cp) (.slice A2 n2 cp2) (.slice Ad nd cd) (.slice Aw nw cw) _ from ⟨HE2.out.alloc (.cells #[.int .i64 b.id, .int .i64 b.layers, .int .i64 b.dry.lo, .int .i64 b.dry.hi, .slice Ad nd cd, .slice Aw nw cw] 27), HBx.out.alloc _, Blk.new _ _ _, (HT.out.ext HE2.out).ext (Ext.al _ _), (HD.out.ext HE2.out).ext (Ext.al _ _), (HW.out.ext HE2.out).ext (Ext.al _ _), HTD.out.ext (Ext.al _ _), HTW.out.ext (Ext.al _ _)⟩)
    clear x0 x1 x2 x3 x4 x5 xl HTD HTW HBx HE2
    refine (dry_any b _ _ _ S.out.t S.out.b1 S.out.b2).mono ?_
    rintro e w3 ⟨rfl, hE3⟩
    have S3 := Lib.hid (S.out.ext hE3); clear S hE3
    obtain ⟨⟨x0, x1, x2, x3, x4, x5⟩, ⟨y0, y1, y2, y3, y4, y5⟩, xl, yl⟩ := S3.out.cells
    have z3 : w.heap.size < w3.heap.size := xl
    have z3' : w2.heap.size < w3.heap.size := yl
    dsimp only [valS]
    go_wp2_with fail
    have S3a := Lib.hid (S3.out.ext (Ext.al _ (.cells #[.int .i64 (dryB b).lo, .int .i64 (dryB b).hi] 23)))
    have HA := Lib.hid (Blk.new w3 23 #[.int .i64 (dryB b).lo, .int .i64 (dryB b).hi])
    have E3a := Lib.hid (Ext.al w3 (.cells #[.int .i64 (dryB b).lo, .int .i64 (dryB b).hi] 23))
    clear x0 x1 x2 x3 x4 x5 y0 y1 y2 y3 y4 y5 xl yl
    refine (refDry_any b _ _ _ S3a.out.a1 S3a.out.a2).mono ?_
    rintro e w4 ⟨rfl, hE4⟩
    have E4 := Lib.hid (E3a.out.trans hE4)
    have HA4 := Lib.hid (HA.out.ext hE4)
    have S4 := Lib.hid (S3.out.ext E4.out)
    have z4 : w3.heap.size < w4.heap.size := HA4.out.lt
    clear S3a HA E3a hE4
    obtain ⟨⟨x0, x1, x2, x3, x4, x5⟩, ⟨y0, y1, y2, y3, y4, y5⟩, xl, yl⟩ := S4.out.cells
    dsimp only [valS]
    go_wp2_with fail
    have S4a := Lib.hid (S4.out.ext (Ext.al _ (.cells #[.int .i64 (dryB b).lo, .int .i64 (dryB b).hi] 23)))
    have HA4a := Lib.hid (HA4.out.alloc (.cells #[.int .i64 (dryB b).lo, .int .i64 (dryB b).hi] 23))
    have HB := Lib.hid (Blk.new w4 23 #[.int .i64 (dryB b).lo, .int .i64 (dryB b).hi])
    have E4a := Lib.hid (E4.out.trans (Ext.al w4 (.cells #[.int .i64 (dryB b).lo, .int .i64 (dryB b).hi] 23)))
    clear x0 x1 x2 x3 x4 x5 y0 y1 y2 y3 y4 y5 xl yl
    refine (wet_any b number _ _ _ S4a.out.t S4a.out.b1 S4a.out.b2 (by have := HLE.out; omega)).mono ?_
    rintro e w5 ⟨rfl, hE5⟩
    have E5 := Lib.hid (E4a.out.trans hE5)
    have HA5 := Lib.hid (HA4a.out.ext hE5)
    have HB5 := Lib.hid (HB.out.ext hE5)
    have S5 := Lib.hid (S3.out.ext E5.out)
    have z5 : w4.heap.size < w5.heap.size := HB5.out.lt
    clear S4 S4a HA4 HA4a HB E4 E4a hE5
    obtain ⟨⟨x0, x1, x2, x3, x4, x5⟩, ⟨y0, y1, y2, y3, y4, y5⟩, xl, yl⟩ := S5.out.cells
    dsimp only [valS]
    go_wp2_with fail
    have S5a := Lib.hid (S5.out.ext (Ext.al _ (.cells #[.int .i64 (wetB b number).lo, .int .i64 (wetB b number).hi] 23)))
    have HA5a := Lib.hid (HA5.out.alloc (.cells #[.int .i64 (wetB b number).lo, .int .i64 (wetB b number).hi] 23))
    have HB5a := Lib.hid (HB5.out.alloc (.cells #[.int .i64 (wetB b number).lo, .int .i64 (wetB b number).hi] 23))
    have HC := Lib.hid (Blk.new w5 23 #[.int .i64 (wetB b number).lo, .int .i64 (wetB b number).hi])
    have E5a := Lib.hid (E5.out.trans (Ext.al w5 (.cells #[.int .i64 (wetB b number).lo, .int .i64 (wetB b number).hi] 23)))
    clear x0 x1 x2 x3 x4 x5 y0 y1 y2 y3 y4 y5 xl yl
    refine (refWet_any b number _ _ _ S5a.out.a1 S5a.out.a2).mono ?_
    rintro e w6 ⟨rfl, hE6⟩
    rw [rwet_eq]
    have E6 := Lib.hid (E5a.out.trans hE6)
    have HA6 := Lib.hid (HA5a.out.ext hE6)
    have HB6 := Lib.hid (HB5a.out.ext hE6)
    have HC6 := Lib.hid (HC.out.ext hE6)
    have S6 := Lib.hid (S3.out.ext E6.out)
    have z6 : w5.heap.size < w6.heap.size := HC6.out.lt
    clear S5 S5a HA5 HA5a HB5 HB5a HC E5 E5a hE6
    obtain ⟨⟨x0, x1, x2, x3, x4, x5⟩, ⟨y0, y1, y2, y3, y4, y5⟩, xl, yl⟩ := S6.out.cells
    have a0 := HA6.out.cell 0
    have a1 := HA6.out.cell 1
    have al := HA6.out.lt
    have b0 := HB6.out.cell 0
    have b1 := HB6.out.cell 1
    have bl := HB6.out.lt
    have c0 := HC6.out.cell 0
    have c1 := HC6.out.cell 1
    have cl := HC6.out.lt
    simp at a0 a1 b0 b1 c0 c1
    dsimp only [valS]
    go_wp2_with fail
    have S6a := Lib.hid (S6.out.ext (Ext.al _ (.cells #[.int .i64 (wetB b number).lo, .int .i64 (wetB b number).hi] 23)))
    have HA6a := Lib.hid (HA6.out.alloc (.cells #[.int .i64 (wetB b number).lo, .int .i64 (wetB b number).hi] 23))
    have HB6a := Lib.hid (HB6.out.alloc (.cells #[.int .i64 (wetB b number).lo, .int .i64 (wetB b number).hi] 23))
    have E6a := Lib.hid (E6.out.trans (Ext.al w6 (.cells #[.int .i64 (wetB b number).lo, .int .i64 (wetB b number).hi] 23)))
    clear x0 x1 x2 x3 x4 x5 y0 y1 y2 y3 y4 y5 xl yl a0 a1 al b0 b1 bl c0 c1 cl
    refine (pays_any b damp _ _ _ S6a.out.t S6a.out.b1 S6a.out.b2).mono ?_
    rintro e w7 ⟨rfl, hE7⟩
    have E7 := Lib.hid (E6a.out.trans hE7)
    have HA7 := Lib.hid (HA6a.out.ext hE7)
    have HB7 := Lib.hid (HB6a.out.ext hE7)
    have S7 := Lib.hid (S3.out.ext E7.out)
    clear S6 S6a HA6 HA6a HB6 HB6a HC6 E6 E6a hE7
    obtain ⟨⟨x0, x1, x2, x3, x4, x5⟩, ⟨y0, y1, y2, y3, y4, y5⟩, xl, yl⟩ := S7.out.cells
    have a0 := HA7.out.cell 0
    have a1 := HA7.out.cell 1
    have al := HA7.out.lt
    have af := HA7.out.frozen
    simp at a0 a1
    have n1 : ¬ w.heap.size = w3.heap.size := by omega
    have n2' : ¬ w2.heap.size = w3.heap.size := by omega
    have n3 : ¬ w3.heap.size = w.heap.size := by omega
    have n4 : ¬ w3.heap.size = w2.heap.size := by omega
    have m1 : ¬ w.heap.size = w4.heap.size := by omega
    have m2 : ¬ w2.heap.size = w4.heap.size := by omega
    have m3 : ¬ w4.heap.size = w.heap.size := by omega
    have m4 : ¬ w4.heap.size = w2.heap.size := by omega
    have m5 : ¬ w3.heap.size = w4.heap.size := by omega
    have m6 : ¬ w4.heap.size = w3.heap.size := by omega
    dsimp only [valS]
    go_wp2_with fail
    have E7s := Lib.hid (show Ext w3 ((w7.setCell ⟨w3.heap.size, 0, none⟩ (.int .i64 (payB b damp).lo)).setCell ⟨w3.heap.size, 1, none⟩ (.int .i64 (payB b damp).hi)) from (E7.out.setCell (by dsimp only; omega) _).setCell (by dsimp only; omega) _)
    have HA7s := Lib.hid (show Blk ((w7.setCell ⟨w3.heap.size, 0, none⟩ (.int .i64 (payB b damp).lo)).setCell ⟨w3.heap.size, 1, none⟩ (.int .i64 (payB b damp).hi)) w3.heap.size 23 #[.int .i64 (payB b damp).lo, .int .i64 (payB b damp).hi] from (HA7.out.set_ 0 _).set_ 1 _)
    have HB7s := Lib.hid (show Blk ((w7.setCell ⟨w3.heap.size, 0, none⟩ (.int .i64 (payB b damp).lo)).setCell ⟨w3.heap.size, 1, none⟩ (.int .i64 (payB b damp).hi)) w4.heap.size 23 #[.int .i64 (dryB b).lo, .int .i64 (dryB b).hi] from (HB7.out.far (by dsimp only; omega) _).far (by dsimp only; omega) _)
    have S7s := Lib.hid (S3.out.ext E7s.out)
    clear S7 E7 HA7 HB7 x0 x1 x2 x3 x4 x5 y0 y1 y2 y3 y4 y5 xl yl a0 a1 al af
    refine (refPays_any b damp _ _ _ S7s.out.a1 S7s.out.a2).mono ?_
    rintro e w8 ⟨rfl, hE8⟩
    have E8 := Lib.hid (E7s.out.trans hE8)
    have HA8 := Lib.hid (HA7s.out.ext hE8)
    have HB8 := Lib.hid (HB7s.out.ext hE8)
    have S8 := Lib.hid (S3.out.ext E8.out)
    clear S7s E7s HA7s HB7s hE8
    obtain ⟨⟨x0, x1, x2, x3, x4, x5⟩, ⟨y0, y1, y2, y3, y4, y5⟩, xl, yl⟩ := S8.out.cells
    have a0 := HB8.out.cell 0
    have a1 := HB8.out.cell 1
    have al := HB8.out.lt
    have af := HB8.out.frozen
    simp at a0 a1
    dsimp only [valS]
    go_wp2_with fail
    have E8s := Lib.hid (show Ext w3 ((w8.setCell ⟨w4.heap.size, 0, none⟩ (.int .i64 (payB b damp).lo)).setCell ⟨w4.heap.size, 1, none⟩ (.int .i64 (payB b damp).hi)) from (E8.out.setCell (by dsimp only; omega) _).setCell (by dsimp only; omega) _)
    have HB8s := Lib.hid (show Blk ((w8.setCell ⟨w4.heap.size, 0, none⟩ (.int .i64 (payB b damp).lo)).setCell ⟨w4.heap.size, 1, none⟩ (.int .i64 (payB b damp).hi)) w4.heap.size 23 #[.int .i64 (payB b damp).lo, .int .i64 (payB b damp).hi] from (HB8.out.set_ 0 _).set_ 1 _)
    have HA8s := Lib.hid (show Blk ((w8.setCell ⟨w4.heap.size, 0, none⟩ (.int .i64 (payB b damp).lo)).setCell ⟨w4.heap.size, 1, none⟩ (.int .i64 (payB b damp).hi)) w3.heap.size 23 #[.int .i64 (payB b damp).lo, .int .i64 (payB b damp).hi] from (HA8.out.far (by dsimp only; omega) _).far (by dsimp only; omega) _)
    have S8s := Lib.hid (S3.out.ext E8s.out)
    clear S8 E8 HA8 HB8 x0 x1 x2 x3 x4 x5 y0 y1 y2 y3 y4 y5 xl yl a0 a1 al af n1 n2' n3 n4 m1 m2 m3 m4 m5 m6
    refine (known_any b number damp _ _ _ S8s.out.t S8s.out.b1 S8s.out.b2 (by have := HLE.out; omega)).mono ?_
    rintro e w9 ⟨rfl, hE9⟩
    have E9 := Lib.hid (E8s.out.trans hE9)
    have HA9 := Lib.hid (HA8s.out.ext hE9)
    have HB9 := Lib.hid (HB8s.out.ext hE9)
    have S9 := Lib.hid (S3.out.ext E9.out)
    clear S8s E8s HA8s HB8s hE9
    obtain ⟨⟨x0, x1, x2, x3, x4, x5⟩, ⟨y0, y1, y2, y3, y4, y5⟩, xl, yl⟩ := S9.out.cells
    dsimp only
    go_wp2_with fail
    clear x0 x1 x2 x3 x4 x5 y0 y1 y2 y3 y4 y5 xl yl
    refine (refKnown_any b number damp _ _ _ S9.out.a1 S9.out.a2).mono ?_
    rintro e w10 ⟨rfl, hE10⟩
    have E10 := Lib.hid (E9.out.trans hE10)
    have HA10 := Lib.hid (HA9.out.ext hE10)
    have HB10 := Lib.hid (HB9.out.ext hE10)
    have S10 := Lib.hid (S3.out.ext E10.out)
    clear S9 E9 HA9 HB9 hE10
    obtain ⟨⟨x0, x1, x2, x3, x4, x5⟩, ⟨y0, y1, y2, y3, y4, y5⟩, xl, yl⟩ := S10.out.cells
    dsimp only
    go_wp2_with fail
    clear x0 x1 x2 x3 x4 x5 y0 y1 y2 y3 y4 y5 xl yl
    refine (aside_any b damp _ _ _ S10.out.t S10.out.b1 S10.out.b2).mono ?_
    rintro e w11 ⟨rfl, hE11⟩
    have E11 := Lib.hid (E10.out.trans hE11)
    have HA11 := Lib.hid (HA10.out.ext hE11)
    have HB11 := Lib.hid (HB10.out.ext hE11)
    have S11 := Lib.hid (S3.out.ext E11.out)
    clear S10 E10 HA10 HB10 hE11
    obtain ⟨⟨x0, x1, x2, x3, x4, x5⟩, ⟨y0, y1, y2, y3, y4, y5⟩, xl, yl⟩ := S11.out.cells
    dsimp only
    go_wp2_with fail
    clear x0 x1 x2 x3 x4 x5 y0 y1 y2 y3 y4 y5 xl yl
    refine (refAside_any b damp _ _ _ S11.out.a1 S11.out.a2).mono ?_
    rintro e w12 ⟨rfl, hE12⟩
    rw [aside_eq]
    have E12 := Lib.hid (E11.out.trans hE12)
    have HA12 := Lib.hid (HA11.out.ext hE12)
    have HB12 := Lib.hid (HB11.out.ext hE12)
    have S12 := Lib.hid (S3.out.ext E12.out)
    clear S11 E11 HA11 HB11 hE12
    obtain ⟨⟨x0, x1, x2, x3, x4, x5⟩, ⟨y0, y1, y2, y3, y4, y5⟩, xl, yl⟩ := S12.out.cells
    have a0 := HA12.out.cell 0
    have a1 := HA12.out.cell 1
    have al := HA12.out.lt
    have b0 := HB12.out.cell 0
    have b1 := HB12.out.cell 1
    have bl := HB12.out.lt
    simp at a0 a1 b0 b1
    have eq := eql23s
    dsimp only [valS]
    go_wp2_with fail
    refine (same_any b _ _ _ _ _ S12.out.b1 S12.out.b2 S12.out.a1 S12.out.a2).mono ?_
    rintro e w13 ⟨rfl, hE13⟩
    go_wp2
    go_ret
    exact ⟨rfl, (S12.out.ext hE13).e⟩
end Go.Proofs.YtcoiahjehlplfaaDoor
