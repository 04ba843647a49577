/- The reference: Layer, Best, Worst. -/
import Derived.Test.YtcoiahjehlplfaaDoorCoreL
namespace Go.Proofs.YtcoiahjehlplfaaDoor
open Go.RowKit Go.Shelf
set_option maxRecDepth 100000

theorem askE_true {b : Bale} (hv : valid b = true) (e : Int) : askE b true e = askE b true 0 := by unfold askE; rw [hv]; rfl
set_option maxHeartbeats 1000000 in
theorem refLayer_any (b : Bale) (at' : Int) (dv wv : Value) (w : World) (hd : SlD w dv b.draws) (hw : SlW w wv b.weighs) :
    Calls Tryd.prog 12 #[valB b dv wv, .int .i64 at'] w fun e w' => e = .returned (.tuple #[valS (layerB b (inB 0 (b.layers - 1) at') at'), .int .i64 (askE b (inB 0 (b.layers - 1) at') 31)]) ∧ Ext w w' := by
  have HD := Lib.hid hd
  have HW := Lib.hid hw
  obtain ⟨A, n, cp, rfl, hn, hlc, hcm⟩ := hd.form
  obtain ⟨A2, n2, cp2, rfl, hn2, hlc2, hcm2⟩ := hw.form
  clear hd hw
  go_enter Tryd.func12, Tryd.ntmps12
  go_wp2_with fail
  refine (refBale_v b _ _ _ ((HD.out.ext (Ext.al _ _)).ext (Ext.al _ _)) ((HW.out.ext (Ext.al _ _)).ext (Ext.al _ _))).mono ?_
  rintro e w1 ⟨rfl, hE⟩
  obtain ⟨hc, hf, hz, HE⟩ := hE.use
  have HE1 := Lib.hid (((Ext.al w _).alloc _ : Ext w _).trans HE.out)
  have hz0 : w.heap.size + 1 < w1.heap.size := by simp at hz; omega
  have hz1 : w.heap.size < w1.heap.size := by omega
  have HBR := Lib.hid ((Blk.at_ (t := 23) (cs := #[.int .i64 0, .int .i64 0]) (w := w.alloc (.cells #[.int .i64 b.id, .int .i64 b.layers, .int .i64 b.dry.lo, .int .i64 b.dry.hi, .slice A n cp, .slice A2 n2 cp2] 27)) (g := w.heap.size + 1) (by simp)).ext HE.out)
  cases hv : valid b with
  | false =>
    have HV := Lib.hid hv; clear hv
    go_wp2
    refine ret_set2 HBR.out fun W ⟨b0, b1⟩ hW => ?_
    refine bodyPost_ret (v := .tuple #[valS ⟨0, 0⟩, .int .i64 30]) (by simp [results, Tryd.results12, go_sem, b0, b1]) rfl ?_
    have hE : askE b (inB 0 (b.layers - 1) at') 31 = 30 := by unfold askE; rw [HV.out]; rfl
    exact ⟨by unfold layerB; rw [hE]; rfl, ext_grown HE1.out hW (by omega)⟩
  | true =>
    have HV := Lib.hid hv; clear hv
    have HB := Lib.hid (valid_bds HV.out)
    have hl1 := HB.out.l1
    have hl5 := HB.out.l5
    generalize hi : inB 0 (b.layers - 1) at' = r
    have HI := Lib.hid hi; clear hi
    go_wp2_with fail
    refine (within_any at' 0 (b.layers - 1) _).mono ?_
    rintro e w' ⟨rfl, rfl⟩
    rw [HI.out]
    cases r with
    | false =>
      go_wp2
      refine ret_set2 HBR.out fun W ⟨b0, b1⟩ hW => ?_
      refine bodyPost_ret (v := .tuple #[valS ⟨0, 0⟩, .int .i64 31]) (by simp [results, Tryd.results12, go_sem, b0, b1]) rfl ?_
      have hE : askE b (inB 0 (b.layers - 1) at') 31 = 31 := by unfold askE; rw [HV.out, HI.out]; rfl
      exact ⟨by unfold layerB; rw [hE]; rfl, ext_grown HE1.out hW (by omega)⟩
    | true =>
      have HA := Lib.hid (askE_true HV.out 31)
      go_wp2_with fail
      refine (refAsked_any b _ _ _ (HD.out.ext HE1.out) (HW.out.ext HE1.out)).mono ?_
      rintro e w2 ⟨sv, lv, rfl, hs, hE2⟩
      have HE2 := Lib.hid (HE1.out.trans hE2)
      have HBR2 := Lib.hid (HBR.out.ext hE2)
      have t0 := HBR2.out.cell 0
      have t1 := HBR2.out.cell 1
      have tf := HBR2.out.frozen
      have tl := HBR2.out.lt
      simp at t0 t1
      clear hc hf hE2
      by_cases hz9 : askE b true 0 = 0
      · have hsl := hs hz9
        clear hs
        obtain ⟨hs, hl⟩ := hsl
        have HL := Lib.hid (show layerB b true at' = ((spans b)[at'.toNat]?).getD ⟨0, 0⟩ by unfold layerB; rw [HA.out, if_pos hz9])
        obtain ⟨As, ns, cs, rfl, hns, hsc, hsm⟩ := hs.form
        obtain ⟨Al, nl, cl, rfl, hnl, hlc', hlm⟩ := hl.form
        have hat : 0 ≤ at' ∧ at' ≤ b.layers - 1 := by have := HI.out; unfold inB at this; simpa using this
        have hns' : (ns : Int) = b.layers := by have := hns.out; rw [spans_len] at this; omega
        obtain ⟨k, rfl⟩ : ∃ k : Nat, at' = (k : Int) := ⟨at'.toNat, by omega⟩
        have hkn : k < ns := by omega
        have hknz : (k : Int) < (ns : Int) := by omega
        have hk0 : (0 : Int) ≤ (k : Int) := by omega
        obtain ⟨bb, off, x, rfl, hx, hbb, hcell⟩ := hs.at_ hkn
        obtain ⟨c0, c1⟩ := SlS.cells hcell (Ext.refl _)
        have HX := Lib.hid hx
        have HZ := Lib.hid hz9
        clear hx hs hl hcell hat hl1 hl5
        rw [hz9]
        clear hz9
        go_wp2
        refine ret_set2 HBR2.out fun W ⟨b0, b1⟩ hW => ?_
        refine bodyPost_ret (v := .tuple #[valS x, .int .i64 0]) (by simp [results, Tryd.results12, go_sem, b0, b1]) rfl ?_
        exact ⟨by rw [HI.out, HL.out, HA.out, HZ.out, Int.toNat_natCast, HX.out]; rfl, ext_grown HE2.out hW (by omega)⟩
      · have HL := Lib.hid (show layerB b true at' = ⟨0, 0⟩ by unfold layerB; rw [HA.out, if_neg hz9])
        clear hs
        generalize hE9 : askE b true 0 = E at hz9
        have HE9 := Lib.hid hE9; clear hE9
        go_wp2
        refine ret_set2 HBR2.out fun W ⟨b0, b1⟩ hW => ?_
        refine bodyPost_ret (v := .tuple #[valS ⟨0, 0⟩, .int .i64 E]) (by simp [results, Tryd.results12, go_sem, b0, b1]) rfl ?_
        exact ⟨by rw [HI.out, HL.out, HA.out, HE9.out], ext_grown HE2.out hW (by omega)⟩

set_option maxHeartbeats 1000000 in
theorem refBest_any (b : Bale) (dv wv : Value) (w : World) (hd : SlD w dv b.draws) (hw : SlW w wv b.weighs) :
    Calls Tryd.prog 16 #[valB b dv wv] w fun e w' => e = .returned (.tuple #[valS (endsB min b), .int .i64 (askE b true 0)]) ∧ Ext w w' := by
  have HD := Lib.hid hd
  have HW := Lib.hid hw
  obtain ⟨A, n, cp, rfl, hn, hlc, hcm⟩ := hd.form
  obtain ⟨A2, n2, cp2, rfl, hn2, hlc2, hcm2⟩ := hw.form
  clear hd hw
  go_enter Tryd.func16, Tryd.ntmps16
  go_wp2_with fail
  refine (refAsked_any b _ _ _ ((HD.out.ext (Ext.al _ _)).ext (Ext.al _ _)) ((HW.out.ext (Ext.al _ _)).ext (Ext.al _ _))).mono ?_
  rintro e w1 ⟨sv, lv, rfl, hsl, hE⟩
  have HE1 := Lib.hid (((Ext.al w _).alloc _ : Ext w _).trans hE)
  have HBR := Lib.hid ((Blk.at_ (t := 23) (cs := #[.int .i64 0, .int .i64 0]) (w := w.alloc (.cells #[.int .i64 b.id, .int .i64 b.layers, .int .i64 b.dry.lo, .int .i64 b.dry.hi, .slice A n cp, .slice A2 n2 cp2] 27)) (g := w.heap.size + 1) (by simp)).ext hE)
  have t0 := HBR.out.cell 0
  have t1 := HBR.out.cell 1
  have tf := HBR.out.frozen
  have tl := HBR.out.lt
  simp at t0 t1
  clear hE
  by_cases hz9 : askE b true 0 = 0
  · obtain ⟨hs, hl⟩ := hsl hz9
    clear hsl
    obtain ⟨h1, h3⟩ := askE_zero' hz9
    have HL := Lib.hid (show endsB min b = endsOf min (spans b) by unfold endsB; rw [if_pos hz9])
    obtain ⟨As, ns, cs, rfl, hns, hsc, hsm⟩ := hs.form
    obtain ⟨Al, nl, cl, rfl, hnl, hlc', hlm⟩ := hl.form
    have hb5 := valid_bds h1
    have hns' : (ns : Int) = b.layers := by have := hns.out; rw [spans_len] at this; have := hb5.l1; omega
    have hkn : 0 < ns := by have := hb5.l1; omega
    have hkn2 : (0 : Int) < (ns : Int) := by omega
    obtain ⟨bb, off, x, rfl, hx, hbb, hcell⟩ := hs.at_ hkn
    obtain ⟨c0, c1⟩ := SlS.cells hcell (Ext.refl _)
    simp at c0 c1
    have HX := Lib.hid hx
    have HZ := Lib.hid hz9
    have HS := Lib.hid hs
    clear hx h3 hs hl hcell hb5 h1
    rw [hz9]
    clear hz9
    go_wp2
    go_loopg [25] ns (fun gg s wr => ∃ (j : Nat) (lo hi : Int), j ≤ ns ∧ ns - j ≤ gg ∧ s = .int .i64 j ∧ Aside (((spans b).take j).foldl (endStep min) x = ⟨lo, hi⟩) ∧ Aside (Blk wr w1.heap.size 23 #[.int .i64 lo, .int .i64 hi]) ∧ Aside (Ext w1 wr))
    case atStart => exact ⟨0, x.lo, x.hi, by omega, by omega, rfl, rfl, Blk.at_ (by simp), Ext.al _ _⟩
    case round =>
      obtain ⟨j, lo, hi, hj, hgj, rfl, FO, BL, EX⟩ := hrel
      have s0 : wr.cell? ⟨w1.heap.size, 0, none⟩ = some (.int .i64 lo) := BL.out.cell 0
      have s1 : wr.cell? ⟨w1.heap.size, 1, none⟩ = some (.int .i64 hi) := BL.out.cell 1
      have sf := BL.out.frozen
      have hso : w1.heap.size < wr.heap.size := BL.out.lt
      by_cases hjn : j < ns
      · have hjz : (j : Int) < (ns : Int) := by omega
        obtain ⟨bb', off', y, e1, hy, hyb, hycell⟩ := HS.out.at_ hjn
        injection e1 with e1
        injection e1 with e1 e2
        subst e1 e2
        obtain ⟨d0, d1⟩ := SlS.cells hycell EX.out
        have HY := Lib.hid hy
        have HFO := Lib.hid (foldl_snoc (endStep min) x _ _ _ HY.out)
        clear hy hycell
        go_wp2
        go_roundg (ns - (j + 1))
        case measure => omega
        case rel => exact ⟨j + 1, min lo y.lo, min hi y.hi, by omega, by omega, rfl, by show _ = _; rw [HFO.out, FO.out]; rfl, ((BL.out.set_ 0 _).set_ 1 _).alloc _, ((EX.out.setCell (by dsimp only; omega) _).setCell (by dsimp only; omega) _).alloc _⟩
      · have HBR2 := Lib.hid (HBR.out.ext EX.out)
        have u0 := HBR2.out.cell 0
        have u1 := HBR2.out.cell 1
        have uf := HBR2.out.frozen
        have ul := HBR2.out.lt
        simp at u0 u1
        have HFE := Lib.hid (show endsOf min (spans b) = ⟨lo, hi⟩ by unfold endsOf; rw [HX.out, ← FO.out, List.take_of_length_le (by have := hns.out; omega)]; rfl)
        go_wp2
        refine ret_set2 HBR2.out fun W ⟨b0, b1⟩ hW => ?_
        refine bodyPost_ret (v := .tuple #[valS ⟨lo, hi⟩, .int .i64 0]) (by simp [results, Tryd.results16, go_sem, b0, b1]) rfl ?_
        exact ⟨by rw [HL.out, HZ.out, HFE.out], ext_grown (HE1.out.trans EX.out) hW (by omega)⟩
  · have HL := Lib.hid (show endsB min b = ⟨0, 0⟩ by unfold endsB; rw [if_neg hz9])
    clear hsl
    generalize hE9 : askE b true 0 = E at hz9
    have HE9 := Lib.hid hE9; clear hE9
    go_wp2
    refine ret_set2 HBR.out fun W ⟨b0, b1⟩ hW => ?_
    refine bodyPost_ret (v := .tuple #[valS ⟨0, 0⟩, .int .i64 E]) (by simp [results, Tryd.results16, go_sem, b0, b1]) rfl ?_
    exact ⟨by rw [HL.out, HE9.out], ext_grown HE1.out hW (by omega)⟩

set_option maxHeartbeats 1000000 in
theorem refWorst_any (b : Bale) (dv wv : Value) (w : World) (hd : SlD w dv b.draws) (hw : SlW w wv b.weighs) :
    Calls Tryd.prog 18 #[valB b dv wv] w fun e w' => e = .returned (.tuple #[valS (endsB max b), .int .i64 (askE b true 0)]) ∧ Ext w w' := by
  have HD := Lib.hid hd
  have HW := Lib.hid hw
  obtain ⟨A, n, cp, rfl, hn, hlc, hcm⟩ := hd.form
  obtain ⟨A2, n2, cp2, rfl, hn2, hlc2, hcm2⟩ := hw.form
  clear hd hw
  go_enter Tryd.func18, Tryd.ntmps18
  go_wp2_with fail
  refine (refAsked_any b _ _ _ ((HD.out.ext (Ext.al _ _)).ext (Ext.al _ _)) ((HW.out.ext (Ext.al _ _)).ext (Ext.al _ _))).mono ?_
  rintro e w1 ⟨sv, lv, rfl, hsl, hE⟩
  have HE1 := Lib.hid (((Ext.al w _).alloc _ : Ext w _).trans hE)
  have HBR := Lib.hid ((Blk.at_ (t := 23) (cs := #[.int .i64 0, .int .i64 0]) (w := w.alloc (.cells #[.int .i64 b.id, .int .i64 b.layers, .int .i64 b.dry.lo, .int .i64 b.dry.hi, .slice A n cp, .slice A2 n2 cp2] 27)) (g := w.heap.size + 1) (by simp)).ext hE)
  have t0 := HBR.out.cell 0
  have t1 := HBR.out.cell 1
  have tf := HBR.out.frozen
  have tl := HBR.out.lt
  simp at t0 t1
  clear hE
  by_cases hz9 : askE b true 0 = 0
  · obtain ⟨hs, hl⟩ := hsl hz9
    clear hsl
    obtain ⟨h1, h3⟩ := askE_zero' hz9
    have HL := Lib.hid (show endsB max b = endsOf max (spans b) by unfold endsB; rw [if_pos hz9])
    obtain ⟨As, ns, cs, rfl, hns, hsc, hsm⟩ := hs.form
    obtain ⟨Al, nl, cl, rfl, hnl, hlc', hlm⟩ := hl.form
    have hb5 := valid_bds h1
    have hns' : (ns : Int) = b.layers := by have := hns.out; rw [spans_len] at this; have := hb5.l1; omega
    have hkn : 0 < ns := by have := hb5.l1; omega
    have hkn2 : (0 : Int) < (ns : Int) := by omega
    obtain ⟨bb, off, x, rfl, hx, hbb, hcell⟩ := hs.at_ hkn
    obtain ⟨c0, c1⟩ := SlS.cells hcell (Ext.refl _)
    simp at c0 c1
    have HX := Lib.hid hx
    have HZ := Lib.hid hz9
    have HS := Lib.hid hs
    clear hx h3 hs hl hcell hb5 h1
    rw [hz9]
    clear hz9
    go_wp2
    go_loopg [25] ns (fun gg s wr => ∃ (j : Nat) (lo hi : Int), j ≤ ns ∧ ns - j ≤ gg ∧ s = .int .i64 j ∧ Aside (((spans b).take j).foldl (endStep max) x = ⟨lo, hi⟩) ∧ Aside (Blk wr w1.heap.size 23 #[.int .i64 lo, .int .i64 hi]) ∧ Aside (Ext w1 wr))
    case atStart => exact ⟨0, x.lo, x.hi, by omega, by omega, rfl, rfl, Blk.at_ (by simp), Ext.al _ _⟩
    case round =>
      obtain ⟨j, lo, hi, hj, hgj, rfl, FO, BL, EX⟩ := hrel
      have s0 : wr.cell? ⟨w1.heap.size, 0, none⟩ = some (.int .i64 lo) := BL.out.cell 0
      have s1 : wr.cell? ⟨w1.heap.size, 1, none⟩ = some (.int .i64 hi) := BL.out.cell 1
      have sf := BL.out.frozen
      have hso : w1.heap.size < wr.heap.size := BL.out.lt
      by_cases hjn : j < ns
      · have hjz : (j : Int) < (ns : Int) := by omega
        obtain ⟨bb', off', y, e1, hy, hyb, hycell⟩ := HS.out.at_ hjn
        injection e1 with e1
        injection e1 with e1 e2
        subst e1 e2
        obtain ⟨d0, d1⟩ := SlS.cells hycell EX.out
        have HY := Lib.hid hy
        have HFO := Lib.hid (foldl_snoc (endStep max) x _ _ _ HY.out)
        clear hy hycell
        go_wp2
        go_roundg (ns - (j + 1))
        case measure => omega
        case rel => exact ⟨j + 1, max lo y.lo, max hi y.hi, by omega, by omega, rfl, by show _ = _; rw [HFO.out, FO.out]; rfl, ((BL.out.set_ 0 _).set_ 1 _).alloc _, ((EX.out.setCell (by dsimp only; omega) _).setCell (by dsimp only; omega) _).alloc _⟩
      · have HBR2 := Lib.hid (HBR.out.ext EX.out)
        have u0 := HBR2.out.cell 0
        have u1 := HBR2.out.cell 1
        have uf := HBR2.out.frozen
        have ul := HBR2.out.lt
        simp at u0 u1
        have HFE := Lib.hid (show endsOf max (spans b) = ⟨lo, hi⟩ by unfold endsOf; rw [HX.out, ← FO.out, List.take_of_length_le (by have := hns.out; omega)]; rfl)
        go_wp2
        refine ret_set2 HBR2.out fun W ⟨b0, b1⟩ hW => ?_
        refine bodyPost_ret (v := .tuple #[valS ⟨lo, hi⟩, .int .i64 0]) (by simp [results, Tryd.results18, go_sem, b0, b1]) rfl ?_
        exact ⟨by rw [HL.out, HZ.out, HFE.out], ext_grown (HE1.out.trans EX.out) hW (by omega)⟩
  · have HL := Lib.hid (show endsB max b = ⟨0, 0⟩ by unfold endsB; rw [if_neg hz9])
    clear hsl
    generalize hE9 : askE b true 0 = E at hz9
    have HE9 := Lib.hid hE9; clear hE9
    go_wp2
    refine ret_set2 HBR.out fun W ⟨b0, b1⟩ hW => ?_
    refine bodyPost_ret (v := .tuple #[valS ⟨0, 0⟩, .int .i64 E]) (by simp [results, Tryd.results18, go_sem, b0, b1]) rfl ?_
    exact ⟨by rw [HL.out, HE9.out], ext_grown HE1.out hW (by omega)⟩
end Go.Proofs.YtcoiahjehlplfaaDoor
