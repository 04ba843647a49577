/- core.Can, Layer, ends, Best, Worst. -/
import Derived.Test.YtcoiahjehlplfaaDoorCoreI
import Derived.Handy
namespace Go.Proofs.YtcoiahjehlplfaaDoor
open Go.RowKit Go.Shelf
set_option maxRecDepth 100000

theorem ret_set2 {P : Program} {fn : Func} {R : Ending → World → Prop} {ex : Exit} {a : Act} {w1 : World} {g : Nat} {t : TypeId} {x0 x1 y0 y1 : Value} (hB : Blk w1 g t #[x0, x1])
    (h : ∀ W, (W.cell? ⟨g, 0, none⟩ = some y0 ∧ W.cell? ⟨g, 1, none⟩ = some y1) → w1.grownBy W (some g) → bodyPost P fn R ex a W) :
    bodyPost P fn R ex a ((w1.setCell ⟨g, 0, none⟩ y0).setCell ⟨g, 1, none⟩ y1) :=
  have H := (hB.set_ 0 y0).set_ 1 y1
  h _ ⟨H.cell 0, H.cell 1⟩ (grown_set (grown_set (World.grownBy.refl _ _) (p := ⟨g, 0, none⟩) (.inl rfl) y0) (p := ⟨g, 1, none⟩) (.inl rfl) y1)
theorem ret_set2a {P : Program} {fn : Func} {R : Ending → World → Prop} {ex : Exit} {a : Act} {w1 : World} {g : Nat} {t : TypeId} {x0 x1 y0 y1 : Value} {o : Obj} (hB : Blk w1 g t #[x0, x1])
    (h : ∀ W, (W.cell? ⟨g, 0, none⟩ = some y0 ∧ W.cell? ⟨g, 1, none⟩ = some y1) → w1.grownBy W (some g) → bodyPost P fn R ex a W) :
    bodyPost P fn R ex a (((w1.setCell ⟨g, 0, none⟩ y0).setCell ⟨g, 1, none⟩ y1).alloc o) :=
  have H := ((hB.set_ 0 y0).set_ 1 y1).alloc o
  h _ ⟨H.cell 0, H.cell 1⟩ (grown_ext (grown_set (grown_set (World.grownBy.refl _ _) (p := ⟨g, 0, none⟩) (.inl rfl) y0) (p := ⟨g, 1, none⟩) (.inl rfl) y1) (Ext.al _ _))
theorem can_any (b : Bale) (dv wv : Value) (w : World) (hT : Tab w) (hd : SlD w dv b.draws) (hw : SlW w wv b.weighs) :
    Calls Tryd.prog 9 #[valB b dv wv] w fun e w' => e = .returned (.tuple #[.bool (valid b && okB b), .int .i64 (errB (valid b) 30)]) ∧ Ext w w' := by
  have HT := Lib.hid hT
  have HD := Lib.hid hd
  have HW := Lib.hid hw
  obtain ⟨A, n, cp, rfl, hn, hlc, hcm⟩ := hd.form
  obtain ⟨A2, n2, cp2, rfl, hn2, hlc2, hcm2⟩ := hw.form
  clear hd hw hT
  go_enter Tryd.func9, Tryd.ntmps9
  go_wp2_with fail
  refine (check_any b _ _ _ (HT.out.ext (Ext.al _ _)) (HD.out.ext (Ext.al _ _)) (HW.out.ext (Ext.al _ _))).mono ?_
  rintro e w1 ⟨rfl, hb⟩
  obtain ⟨hc, hf, hz, HE⟩ := hb.use
  cases hv : valid b with
  | false =>
    have HV := Lib.hid hv; clear hv
    go_wp2
    refine bodyPost_ret (v := .tuple #[.bool false, .int .i64 30]) (by simp [results, Tryd.results9, go_sem, errB]) rfl ?_
    exact ⟨by rw [HV.out]; rfl, (Ext.al _ _).trans HE.out⟩
  | true =>
    have HV := Lib.hid hv; clear hv
    have HB := Lib.hid (valid_bds HV.out)
    have HDW := Lib.hid (show SlD w1 (.slice A n cp) b.draws ∧ SlW w1 (.slice A2 n2 cp2) b.weighs from ⟨(HD.out.ext (Ext.al _ _)).ext HE.out, (HW.out.ext (Ext.al _ _)).ext HE.out⟩)
    go_wp2_with fail
    refine (opened_any b _ _ _ HDW.out.1 HDW.out.2 HB.out.l1 HB.out.l5 HB.out.lo HB.out.lh HB.out.hi (fun x hx => by have := HB.out.w x hx; omega)).mono ?_
    rintro e w2 ⟨sv, lv, rfl, h1, h2, hE2⟩
    obtain ⟨As, ns, cs, rfl, hns, hsc, hsm⟩ := (show SlS w2 sv (spans b) from h1.sl (fun _ => rfl)).form
    obtain ⟨Al, nl, cl, rfl, hnl, hlc', hlm⟩ := (show SlI w2 lv (dries b) from h2.sl (fun _ => rfl)).form
    dsimp only [valP]
    have HE3 := Lib.hid (((Ext.al w _).trans HE.out).trans hE2)
    clear hE2 hc hf h1 h2
    go_wp2
    refine bodyPost_ret (v := .tuple #[.bool (okB b), .int .i64 0]) (by simp [results, Tryd.results9, go_sem]) rfl ?_
    exact ⟨by rw [HV.out]; rfl, HE3.out.alloc _⟩

theorem f52_any (at' layers : Int) (b1 b2 : Nat) (w : World) (h1 : w.cell? ⟨b1, 1, none⟩ = some (.int .i64 layers)) (h2 : w.cell? ⟨b2, 0, none⟩ = some (.int .i64 at')) (hl : 1 ≤ layers) (hl5 : layers ≤ 5) :
    Calls Tryd.prog 52 #[.pointer (some ⟨b1, 0, none⟩), .pointer (some ⟨b2, 0, none⟩)] w fun e w' => e = .returned (.bool (inB 0 (layers - 1) at')) ∧ Ext w w' := by
  go_enter Tryd.func52, Tryd.ntmps52
  go_wp2_with fail
  refine (in1_any 0 (layers - 1) at' _ _ (by simp) (by simp [go_sem])).mono ?_
  rintro e w1 ⟨rfl, hb⟩
  have HB := Lib.hid hb; clear hb
  go_wp2
  go_ret
  exact ⟨rfl, (Ext.al _ _).trans HB.out⟩

def layerB (b : Bale) (r : Bool) (at' : Int) : Span := if askE b r 31 = 0 then ((spans b)[at'.toNat]?).getD ⟨0, 0⟩ else ⟨0, 0⟩
theorem askE_zero {b : Bale} {r : Bool} {e : Int} (h : askE b r e = 0) (he : e ≠ 0) : valid b = true ∧ r = true ∧ okB b = true := by
  unfold askE at h
  split at h
  · split at h
    · split at h
      · exact ⟨‹_›, ‹_›, ‹_›⟩
      · cases h
    · exact absurd h he
  · cases h
theorem spans_len (b : Bale) : (spans b).length = b.layers.toNat := by unfold spans; exact spansTo_len _ _

set_option maxHeartbeats 1000000 in
theorem layer_any (b : Bale) (at' : Int) (dv wv : Value) (w : World) (hT : Tab w) (hd : SlD w dv b.draws) (hw : SlW w wv b.weighs) :
    Calls Tryd.prog 11 #[valB b dv wv, .int .i64 at'] w fun e w' => e = .returned (.tuple #[valS (layerB b (inB 0 (b.layers - 1) at') at'), .int .i64 (askE b (inB 0 (b.layers - 1) at') 31)]) ∧ Ext w w' := by
  have HT := Lib.hid hT
  have HD := Lib.hid hd
  have HW := Lib.hid hw
  obtain ⟨A, n, cp, rfl, hn, hlc, hcm⟩ := hd.form
  obtain ⟨A2, n2, cp2, rfl, hn2, hlc2, hcm2⟩ := hw.form
  clear hd hw hT
  go_enter Tryd.func11, Tryd.ntmps11
  go_wp2_with fail
  refine (asked_fn b _ _ _ 52 _ (enters_of Tryd.func52 (by kernel_rfl) rfl) (inB 0 (b.layers - 1) at') 31 (by decide) (fun hv W hW => ?_) (((HT.out.ext (Ext.al _ _)).ext (Ext.al _ _)).ext (Ext.al _ _)) (((HD.out.ext (Ext.al _ _)).ext (Ext.al _ _)).ext (Ext.al _ _)) (((HW.out.ext (Ext.al _ _)).ext (Ext.al _ _)).ext (Ext.al _ _))).mono ?_
  · have hB := valid_bds hv
    exact f52_any at' b.layers _ _ W ((hW.cell (p := ⟨w.heap.size, 1, none⟩) (by simp; omega)).trans (by simp [go_sem])) ((hW.cell (p := ⟨w.heap.size + 1, 0, none⟩) (by simp)).trans (by simp [go_sem])) hB.l1 hB.l5
  rintro e w1 ⟨pv, rfl, hpv, hpz, hE⟩
  obtain ⟨hc, hf, hz, HE⟩ := hE.use
  have HEW := Lib.hid (((((Ext.al w _).alloc _).alloc _ : Ext w _)).trans HE.out)
  have hz0 : w.heap.size + 2 < w1.heap.size := by simp at hz; omega
  have hz1 : w.heap.size + 1 < w1.heap.size := by omega
  have hz2 : w.heap.size < w1.heap.size := by omega
  by_cases hz9 : askE b (inB 0 (b.layers - 1) at') 31 = 0
  · obtain ⟨sv, lv, rfl, hs, hl⟩ := hpv hz9
    obtain ⟨h1, h2, h3⟩ := askE_zero hz9 (by decide)
    have HL := Lib.hid (show layerB b (inB 0 (b.layers - 1) at') at' = ((spans b)[at'.toNat]?).getD ⟨0, 0⟩ by unfold layerB; rw [if_pos hz9])
    obtain ⟨As, ns, cs, rfl, hns, hsc, hsm⟩ := hs.form
    obtain ⟨Al, nl, cl, rfl, hnl, hlc', hlm⟩ := hl.form
    have hat : 0 ≤ at' ∧ at' ≤ b.layers - 1 := by unfold inB at h2; simpa using h2
    have hb5 := valid_bds h1
    have hns' : (ns : Int) = b.layers := by have := hns.out; rw [spans_len] at this; have := hb5.l1; omega
    obtain ⟨k, rfl⟩ : ∃ k : Nat, at' = (k : Int) := ⟨at'.toNat, by omega⟩
    have hkn : k < ns := by omega
    have hknz : (k : Int) < (ns : Int) := by omega
    have hk0 : (0 : Int) ≤ (k : Int) := by omega
    obtain ⟨bb, off, x, rfl, hx, hbb, hcell⟩ := hs.at_ hkn
    obtain ⟨c0, c1⟩ := SlS.cells hcell (Ext.refl _)
    have HX := Lib.hid hx
    have HZ := Lib.hid hz9
    clear hx hpv hpz h2 h3 hs hl hcell hat hb5 h1
    rw [hz9]
    dsimp only [valP]
    clear hz9
    go_wp2
    refine ret_set2a ((Blk.at_ (by simp)).ext HE.out) fun W ⟨b0, b1⟩ hW => ?_
    refine bodyPost_ret (v := .tuple #[valS x, .int .i64 0]) (by simp [results, Tryd.results11, go_sem, b0, b1]) rfl ?_
    exact ⟨by rw [HL.out, HZ.out, Int.toNat_natCast, HX.out]; rfl, ext_grown HEW.out hW (by omega)⟩
  · have := hpz hz9
    subst this
    have HL := Lib.hid (show layerB b (inB 0 (b.layers - 1) at') at' = ⟨0, 0⟩ by unfold layerB; rw [if_neg hz9])
    clear hpz hpv
    generalize hE9 : askE b (inB 0 (b.layers - 1) at') 31 = E at hz9
    have HE9 := Lib.hid hE9; clear hE9
    go_wp2
    refine ret_set2a ((Blk.at_ (by simp)).ext HE.out) fun W ⟨b0, b1⟩ hW => ?_
    refine bodyPost_ret (v := .tuple #[valS ⟨0, 0⟩, .int .i64 E]) (by simp [results, Tryd.results11, go_sem, b0, b1]) rfl ?_
    exact ⟨by rw [HL.out, HE9.out], ext_grown HEW.out hW (by omega)⟩
end Go.Proofs.YtcoiahjehlplfaaDoor
