/- core.Can, Layer, ends, Best, Worst. -/
import Derived.Test.YtdlipbobfgdleaaDoorPkTruthCardC
import Derived.Handy
import Derived.Test.YtdlipbobfgdleaaDoorPkTruthCardB
namespace Go.Proofs.YtdlipbobfgdleaaDoor
open Go.RowKit Go.Shelf
set_option maxRecDepth 100000

theorem ret_set2 {P : Program} {fn : Func} {R : Ending → World → Prop} {ex : Exit} {a : Act} {w1 : World} {g : Nat} {t : TypeId} {x0 x1 y0 y1 : Value} (hB : Blk w1 g t #[x0, x1])
    (h : ∀ W, (W.cell? ⟨g, 0, none⟩ = some y0 ∧ W.cell? ⟨g, 1, none⟩ = some y1) → w1.grownBy W (some g) → bodyPost P fn R ex a W) :
    bodyPost P fn R ex a ((w1.setCell ⟨g, 0, none⟩ y0).setCell ⟨g, 1, none⟩ y1) :=
  have H := (hB.set_ 0 y0).set_ 1 y1
  h _ ⟨H.cell 0, H.cell 1⟩ (grown_set (grown_set (World.grownBy.refl _ _) (p := ⟨g, 0, none⟩) (.inl rfl) y0) (p := ⟨g, 1, none⟩) (.inl rfl) y1)
theorem ret_set2a {P : Program} {fn : Func} {R : Ending → World → Prop} {ex : Exit} {a : Act} {w1 : World} {g : Nat} {t : TypeId} {x0 x1 y0 y1 : Value} {o : Obj} (hB : Blk w1 g t #[x0, x1])
    (h : ∀ W, (W.cell? ⟨g, 0, none⟩ = some y0 ∧ W.cell? ⟨g, 1, none⟩ = some y1) → w1.grownBy W (some g) → bodyPost P fn R ex a W) :
    bodyPost P fn R ex a (((w1.setCell ⟨g, 0, none⟩ y0).setCell ⟨g, 1, none⟩ y1).alloc o) :=
  have H := ((hB.set_ 0 y0).set_ 1 y1).alloc o
  h _ ⟨H.cell 0, H.cell 1⟩ (grown_ext (grown_set (grown_set (World.grownBy.refl _ _) (p := ⟨g, 0, none⟩) (.inl rfl) y0) (p := ⟨g, 1, none⟩) (.inl rfl) y1) (Ext.al _ _))
theorem can_any (b : Bale) (dv wv : Value) (w : World) (hT : Tab w) (hd : SlD w dv b.draws) (hw : SlW w wv b.weighs) :
    Calls Tryd.prog 16 #[valB b dv wv] w fun e w' => e = .returned (.tuple #[.bool (valid b && okB b), .int .i64 (errB (valid b) 30)]) ∧ Ext w w' := by
  have HT := Lib.hid hT
  have HD := Lib.hid hd
  have HW := Lib.hid hw
  obtain ⟨A, n, cp, rfl, hn, hlc, hcm⟩ := hd.form
  obtain ⟨A2, n2, cp2, rfl, hn2, hlc2, hcm2⟩ := hw.form
  clear hd hw hT
  go_enter Tryd.func16, Tryd.ntmps16
  go_wp2_with fail
  refine (check_any b _ _ _ (HT.out.ext (Ext.al _ _)) (HD.out.ext (Ext.al _ _)) (HW.out.ext (Ext.al _ _))).mono ?_
  rintro e w1 ⟨rfl, hb⟩
  obtain ⟨hc, hf, hz, HE⟩ := hb.use
  cases hv : valid b with
  | false =>
    have HV := Lib.hid hv; clear hv
    go_wp2
    refine bodyPost_ret (v := .tuple #[.bool false, .int .i64 30]) (by simp [results, Tryd.results16, go_sem, errB]) rfl ?_
    exact ⟨by rw [HV.out]; rfl, (Ext.al _ _).trans HE.out⟩
  | true =>
    have HV := Lib.hid hv; clear hv
    have HB := Lib.hid (valid_bds HV.out)
    have HDW := Lib.hid (show SlD w1 (.slice A n cp) b.draws ∧ SlW w1 (.slice A2 n2 cp2) b.weighs from ⟨(HD.out.ext (Ext.al _ _)).ext HE.out, (HW.out.ext (Ext.al _ _)).ext HE.out⟩)
    go_wp2_with fail
    refine (opened_any b _ _ _ HDW.out.1 HDW.out.2 HB.out.l1 HB.out.l5 HB.out.lo HB.out.lh HB.out.hi (fun x hx => by have := HB.out.w x hx; omega)).mono ?_
    rintro e w2 ⟨sv, lv, rfl, h1, h2, hE2⟩
    obtain ⟨As, ns, cs, rfl, hns, hsc, hsm⟩ := (show SlS w2 sv (spans b) from h1.sl (fun _ => rfl)).form
    obtain ⟨Al, nl, cl, rfl, hnl, hlc', hlm⟩ := (show SlI w2 lv (dries b) from h2.sl (fun _ => rfl)).form
    dsimp only [valP]
    have HE3 := Lib.hid (((Ext.al w _).trans HE.out).trans hE2)
    clear hE2 hc hf h1 h2
    go_wp2
    refine bodyPost_ret (v := .tuple #[.bool (okB b), .int .i64 0]) (by simp [results, Tryd.results16, go_sem]) rfl ?_
    exact ⟨by rw [HV.out]; rfl, HE3.out.alloc _⟩

theorem f75_any (at' layers : Int) (b1 b2 : Nat) (w : World) (h1 : w.cell? ⟨b1, 1, none⟩ = some (.int .i64 layers)) (h2 : w.cell? ⟨b2, 0, none⟩ = some (.int .i64 at')) (hl : 1 ≤ layers) (hl5 : layers ≤ 5) :
    Calls Tryd.prog 75 #[.pointer (some ⟨b1, 0, none⟩), .pointer (some ⟨b2, 0, none⟩)] w fun e w' => e = .returned (.bool (inB 0 (layers - 1) at')) ∧ Ext w w' := by
  go_enter Tryd.func75, Tryd.ntmps75
  go_wp2_with fail
  refine (in1_any 0 (layers - 1) at' _ _ (by simp) (by simp [go_sem])).mono ?_
  rintro e w1 ⟨rfl, hb⟩
  have HB := Lib.hid hb; clear hb
  go_wp2
  go_ret
  exact ⟨rfl, (Ext.al _ _).trans HB.out⟩

def layerB (b : Bale) (r : Bool) (at' : Int) : Span := if askE b r 31 = 0 then ((spans b)[at'.toNat]?).getD ⟨0, 0⟩ else ⟨0, 0⟩
theorem askE_zero {b : Bale} {r : Bool} {e : Int} (h : askE b r e = 0) (he : e ≠ 0) : valid b = true ∧ r = true ∧ okB b = true := by
  unfold askE at h
  split at h
  · split at h
    · split at h
      · exact ⟨‹_›, ‹_›, ‹_›⟩
      · cases h
    · exact absurd h he
  · cases h
theorem spans_len (b : Bale) : (spans b).length = b.layers.toNat := by unfold spans; exact spansTo_len _ _

set_option maxHeartbeats 1000000 in
theorem layer_any (b : Bale) (at' : Int) (dv wv : Value) (w : World) (hT : Tab w) (hd : SlD w dv b.draws) (hw : SlW w wv b.weighs) :
    Calls Tryd.prog 18 #[valB b dv wv, .int .i64 at'] w fun e w' => e = .returned (.tuple #[valS (layerB b (inB 0 (b.layers - 1) at') at'), .int .i64 (askE b (inB 0 (b.layers - 1) at') 31)]) ∧ Ext w w' := by
  have HT := Lib.hid hT
  have HD := Lib.hid hd
  have HW := Lib.hid hw
  obtain ⟨A, n, cp, rfl, hn, hlc, hcm⟩ := hd.form
  obtain ⟨A2, n2, cp2, rfl, hn2, hlc2, hcm2⟩ := hw.form
  clear hd hw hT
  go_enter Tryd.func18, Tryd.ntmps18
  go_wp2_with fail
  refine (asked_fn b _ _ _ 75 _ (enters_of Tryd.func75 (by kernel_rfl) rfl) (inB 0 (b.layers - 1) at') 31 (by decide) (fun hv W hW => ?_) (((HT.out.ext (Ext.al _ _)).ext (Ext.al _ _)).ext (Ext.al _ _)) (((HD.out.ext (Ext.al _ _)).ext (Ext.al _ _)).ext (Ext.al _ _)) (((HW.out.ext (Ext.al _ _)).ext (Ext.al _ _)).ext (Ext.al _ _))).mono ?_
  · have hB := valid_bds hv
    exact f75_any at' b.layers _ _ W ((hW.cell (p := ⟨w.heap.size, 1, none⟩) (by simp; omega)).trans (by simp [go_sem])) ((hW.cell (p := ⟨w.heap.size + 1, 0, none⟩) (by simp)).trans (by simp [go_sem])) hB.l1 hB.l5
  rintro e w1 ⟨pv, rfl, hpv, hpz, hE⟩
  obtain ⟨hc, hf, hz, HE⟩ := hE.use
  have HEW := Lib.hid (((((Ext.al w _).alloc _).alloc _ : Ext w _)).trans HE.out)
  have hz0 : w.heap.size + 2 < w1.heap.size := by simp at hz; omega
  have hz1 : w.heap.size + 1 < w1.heap.size := by omega
  have hz2 : w.heap.size < w1.heap.size := by omega
  by_cases hz9 : askE b (inB 0 (b.layers - 1) at') 31 = 0
  · obtain ⟨sv, lv, rfl, hs, hl⟩ := hpv hz9
    obtain ⟨h1, h2, h3⟩ := askE_zero hz9 (by decide)
    have HL := Lib.hid (show layerB b (inB 0 (b.layers - 1) at') at' = ((spans b)[at'.toNat]?).getD ⟨0, 0⟩ by unfold layerB; rw [if_pos hz9])
    obtain ⟨As, ns, cs, rfl, hns, hsc, hsm⟩ := hs.form
    obtain ⟨Al, nl, cl, rfl, hnl, hlc', hlm⟩ := hl.form
    have hat : 0 ≤ at' ∧ at' ≤ b.layers - 1 := by unfold inB at h2; simpa using h2
    have hb5 := valid_bds h1
    have hns' : (ns : Int) = b.layers := by have := hns.out; rw [spans_len] at this; have := hb5.l1; omega
    obtain ⟨k, rfl⟩ : ∃ k : Nat, at' = (k : Int) := ⟨at'.toNat, by omega⟩
    have hkn : k < ns := by omega
    have hknz : (k : Int) < (ns : Int) := by omega
    have hk0 : (0 : Int) ≤ (k : Int) := by omega
    obtain ⟨bb, off, x, rfl, hx, hbb, hcell⟩ := hs.at_ hkn
    obtain ⟨c0, c1⟩ := SlS.cells hcell (Ext.refl _)
    have HX := Lib.hid hx
    have HZ := Lib.hid hz9
    clear hx hpv hpz h2 h3 hs hl hcell hat hb5 h1
    rw [hz9]
    dsimp only [valP]
    clear hz9
    go_wp2
    refine ret_set2a ((Blk.at_ (by simp)).ext HE.out) fun W ⟨b0, b1⟩ hW => ?_
    refine bodyPost_ret (v := .tuple #[valS x, .int .i64 0]) (by simp [results, Tryd.results18, go_sem, b0, b1]) rfl ?_
    exact ⟨by rw [HL.out, HZ.out, Int.toNat_natCast, HX.out]; rfl, ext_grown HEW.out hW (by omega)⟩
  · have := hpz hz9
    subst this
    have HL := Lib.hid (show layerB b (inB 0 (b.layers - 1) at') at' = ⟨0, 0⟩ by unfold layerB; rw [if_neg hz9])
    clear hpz hpv
    generalize hE9 : askE b (inB 0 (b.layers - 1) at') 31 = E at hz9
    have HE9 := Lib.hid hE9; clear hE9
    go_wp2
    refine ret_set2a ((Blk.at_ (by simp)).ext HE.out) fun W ⟨b0, b1⟩ hW => ?_
    refine bodyPost_ret (v := .tuple #[valS ⟨0, 0⟩, .int .i64 E]) (by simp [results, Tryd.results18, go_sem, b0, b1]) rfl ?_
    exact ⟨by rw [HL.out, HE9.out], ext_grown HEW.out hW (by omega)⟩
end Go.Proofs.YtdlipbobfgdleaaDoor
/- core.ends, Best, Worst. -/
namespace Go.Proofs.YtdlipbobfgdleaaDoor
open Go.RowKit Go.Shelf
set_option maxRecDepth 100000

theorem f80_any (a b : Int) (w : World) : Calls Tryd.prog 80 #[.int .i64 a, .int .i64 b] w fun e w' => e = .returned (.int .i64 (min a b)) ∧ Ext w w' := by
  go_enter Tryd.func80, Tryd.ntmps80
  go_wp2
  go_ret
  exact ⟨rfl, Ext.refl _⟩
theorem f81_any (a b : Int) (w : World) : Calls Tryd.prog 81 #[.int .i64 a, .int .i64 b] w fun e w' => e = .returned (.int .i64 (max a b)) ∧ Ext w w' := by
  go_enter Tryd.func81, Tryd.ntmps81
  go_wp2
  go_ret
  exact ⟨rfl, Ext.refl _⟩
def endStep (f : Int → Int → Int) (s x : Span) : Span := ⟨f s.lo x.lo, f s.hi x.hi⟩
def endsOf (f : Int → Int → Int) (l : List Span) : Span := l.foldl (endStep f) (l[0]?.getD ⟨0, 0⟩)
def endsB (f : Int → Int → Int) (b : Bale) : Span := if askE b true 0 = 0 then endsOf f (spans b) else ⟨0, 0⟩

theorem askE_zero' {b : Bale} (h : askE b true 0 = 0) : valid b = true ∧ okB b = true := by
  unfold askE at h
  split at h
  · simp only [if_true] at h
    split at h
    · exact ⟨‹_›, ‹_›⟩
    · cases h
  · cases h

set_option maxHeartbeats 1000000 in
theorem ends_any (b : Bale) (dv wv : Value) (w : World) (g : FuncId) (eg : ∀ args w, (callFunc g args).run Tryd.prog w = .ok (.enter g args) w) (f : Int → Int → Int) (hg : ∀ a b W, Calls Tryd.prog g #[.int .i64 a, .int .i64 b] W fun e w' => e = .returned (.int .i64 (f a b)) ∧ Ext W w') (hT : Tab w) (hd : SlD w dv b.draws) (hw : SlW w wv b.weighs) :
    Calls Tryd.prog 79 #[valB b dv wv, .func (.func g) #[] #[]] w fun e w' => e = .returned (.tuple #[valS (endsB f b), .int .i64 (askE b true 0)]) ∧ Ext w w' := by
  have HT := Lib.hid hT
  have HD := Lib.hid hd
  have HW := Lib.hid hw
  have HG := Lib.hid hg
  obtain ⟨A, n, cp, rfl, hn, hlc, hcm⟩ := hd.form
  obtain ⟨A2, n2, cp2, rfl, hn2, hlc2, hcm2⟩ := hw.form
  clear hd hw hT hg
  go_enter Tryd.func79, Tryd.ntmps79
  go_wp2_with fail
  refine (asked_nil b _ _ _ ((HT.out.ext (Ext.al _ _)).ext (Ext.al _ _)) ((HD.out.ext (Ext.al _ _)).ext (Ext.al _ _)) ((HW.out.ext (Ext.al _ _)).ext (Ext.al _ _))).mono ?_
  rintro e w1 ⟨pv, rfl, hpv, hpz, hE⟩
  obtain ⟨hc, hf, hz, HE⟩ := hE.use
  have HEW := Lib.hid (((Ext.al w _).alloc _ : Ext w _).trans HE.out)
  have hz0 : w.heap.size + 1 < w1.heap.size := by simp at hz; omega
  have hz1 : w.heap.size < w1.heap.size := by omega
  by_cases hz9 : askE b true 0 = 0
  · obtain ⟨sv, lv, rfl, hs, hl⟩ := hpv hz9
    obtain ⟨h1, h3⟩ := askE_zero' hz9
    have HL := Lib.hid (show endsB f b = endsOf f (spans b) by unfold endsB; rw [if_pos hz9])
    obtain ⟨As, ns, cs, rfl, hns, hsc, hsm⟩ := hs.form
    obtain ⟨Al, nl, cl, rfl, hnl, hlc', hlm⟩ := hl.form
    have hb5 := valid_bds h1
    have hns' : (ns : Int) = b.layers := by have := hns.out; rw [spans_len] at this; have := hb5.l1; omega
    have hkn : 0 < ns := by have := hb5.l1; omega
    have hkn2 : (0 : Int) < (ns : Int) := by omega
    obtain ⟨bb, off, x, rfl, hx, hbb, hcell⟩ := hs.at_ hkn
    obtain ⟨c0, c1⟩ := SlS.cells hcell (Ext.refl _)
    simp at c0 c1
    have HX := Lib.hid hx
    have HZ := Lib.hid hz9
    have HS := Lib.hid hs
    clear hx hpv hpz h3 hs hl hcell hb5 h1
    rw [hz9]
    dsimp only [valP]
    clear hz9
    go_wp2
    go_loopg [27] ns (fun gg s wr => ∃ (j : Nat) (lo hi : Int), j ≤ ns ∧ ns - j ≤ gg ∧ s = .int .i64 j ∧ Aside (((spans b).take j).foldl (endStep f) x = ⟨lo, hi⟩) ∧ Aside (Blk wr (w1.heap.size + 1) 23 #[.int .i64 lo, .int .i64 hi]) ∧ Aside (Ext w1 wr) ∧
      Aside (Blk wr w1.heap.size 106 #[.int .i64 b.id, .int .i64 b.layers, .int .i64 b.dry.lo, .int .i64 b.dry.hi, .slice A n cp, .slice A2 n2 cp2, .slice (some ⟨bb, off, none⟩) ns cs, .slice Al nl cl]))
    case atStart => exact ⟨0, x.lo, x.hi, by omega, by omega, rfl, rfl, Blk.at_ (by simp), (Ext.al _ _).alloc _, (Blk.at_ rfl).alloc _⟩
    case round =>
      obtain ⟨j, lo, hi, hj, hgj, rfl, FO, BL, EX, BP⟩ := hrel
      have s0 : wr.cell? ⟨w1.heap.size + 1, 0, none⟩ = some (.int .i64 lo) := BL.out.cell 0
      have s1 : wr.cell? ⟨w1.heap.size + 1, 1, none⟩ = some (.int .i64 hi) := BL.out.cell 1
      have hso : w1.heap.size + 1 < wr.heap.size := BL.out.lt
      by_cases hjn : j < ns
      · have hjz : (j : Int) < (ns : Int) := by omega
        obtain ⟨bb', off', y, e1, hy, hyb, hycell⟩ := HS.out.at_ hjn
        injection e1 with e1
        injection e1 with e1 e2
        subst e1 e2
        obtain ⟨d0, d1⟩ := SlS.cells hycell EX.out
        have HY := Lib.hid hy
        have HFO := Lib.hid (foldl_snoc (endStep f) x _ _ _ HY.out)
        clear hy hycell
        have m0 := fun W (h : Ext (wr.alloc (.cells #[.int .i64 y.lo, .int .i64 y.hi] 23)) W) => (h.cells.1 (w1.heap.size + 1) 0 (by simp; omega)).trans (show _ = some (.int .i64 lo) by simp [go_sem, hso, s0])
        have m1 := fun W (h : Ext (wr.alloc (.cells #[.int .i64 y.lo, .int .i64 y.hi] 23)) W) => (h.cells.1 (w1.heap.size + 1) 1 (by simp; omega)).trans (show _ = some (.int .i64 hi) by simp [go_sem, hso, s1])
        have m2 := fun W (h : Ext (wr.alloc (.cells #[.int .i64 y.lo, .int .i64 y.hi] 23)) W) => (h.cells.1 wr.heap.size 0 (by simp)).trans (show _ = some (.int .i64 y.lo) by simp [go_sem])
        have m3 := fun W (h : Ext (wr.alloc (.cells #[.int .i64 y.lo, .int .i64 y.hi] 23)) W) => (h.cells.1 wr.heap.size 1 (by simp)).trans (show _ = some (.int .i64 y.hi) by simp [go_sem])
        go_wp2
        refine wp_region_tame_cut (fun W => Ext (wr.alloc (.cells #[.int .i64 y.lo, .int .i64 y.hi] 23)) W) (fun W W' => Ext W W') (by kernel_rfl) 46 rfl _ rfl (by decide +kernel) (by decide +kernel) (by decide +kernel) rfl (Ext.refl _).drew ?_
        simp only [List.dropLast]
        repeat (apply tame_q rfl; (intro ρ W hC hr hD; (obtain ⟨hrc, hrg, hrf, hrs⟩ := hr); (simp [go_sem] at hD); go_simp; first | exact ⟨⟨hC, Ext.refl _⟩, rfl⟩ | exact ⟨⟨hC, RS.refl _⟩, rfl⟩ | exact rfl); simp only [List.nil_append, List.cons_append])
        apply tame_q rfl
        · intro ρ W hC hr hD
          obtain ⟨hrc, hrg, hrf, hrs⟩ := hr
          simp [go_sem] at hD
          go_simp
          refine (HG.out lo y.lo _).mono ?_
          rintro e w' ⟨rfl, hE⟩
          exact ⟨_, rfl, ⟨hC.trans hE, hE⟩, rfl⟩
        simp only [List.nil_append, List.cons_append]
        repeat (apply tame_q rfl; (intro ρ W hC hr hD; (obtain ⟨hrc, hrg, hrf, hrs⟩ := hr); (simp [go_sem] at hD); go_simp; first | exact ⟨⟨hC, Ext.refl _⟩, rfl⟩ | exact ⟨⟨hC, RS.refl _⟩, rfl⟩ | exact rfl); simp only [List.nil_append, List.cons_append])
        apply tame_q rfl
        · intro ρ W hC hr hD
          obtain ⟨hrc, hrg, hrf, hrs⟩ := hr
          simp [go_sem] at hD
          go_simp
          refine (HG.out hi y.hi _).mono ?_
          rintro e w' ⟨rfl, hE⟩
          exact ⟨_, rfl, ⟨hC.trans hE, hE⟩, rfl⟩
        simp only [List.nil_append, List.cons_append]
        repeat (apply tame_q rfl; (intro ρ W hC hr hD; (obtain ⟨hrc, hrg, hrf, hrs⟩ := hr); (simp [go_sem] at hD); go_simp; first | exact ⟨⟨hC, Ext.refl _⟩, rfl⟩ | exact ⟨⟨hC, RS.refl _⟩, rfl⟩ | exact rfl); simp only [List.nil_append, List.cons_append])
        refine tame_end 46 rfl rfl (fun ρ W hC hr hF => ?_)
        obtain ⟨hrc, hrg, hrf, hrs⟩ := hr
        simp [go_sem] at hF
        apply frame_to
        · go_simp
          exact rfl
        clear hF hrs hrc hrg hrf m0 m1 m2 m3
        have BLW := Lib.hid ((BL.out.alloc _).ext hC)
        have BPW := Lib.hid ((BP.out.alloc _).ext hC)
        have EXW := Lib.hid ((EX.out.trans (Ext.al _ _)).trans hC)
        have t0 := BLW.out.cell 0
        have t1 := BLW.out.cell 1
        have tf := BLW.out.frozen
        have tl := BLW.out.lt
        simp at t0 t1
        clear hC
        go_wp2
        go_roundg (ns - (j + 1))
        case measure => omega
        case rel => exact ⟨j + 1, f lo y.lo, f hi y.hi, by omega, by omega, rfl, by show _ = _; rw [HFO.out, FO.out]; rfl, (BLW.out.set_ 0 _).set_ 1 _, (EXW.out.setCell (by dsimp only; omega) _).setCell (by dsimp only; omega) _, (BPW.out.far (by dsimp only; omega) _).far (by dsimp only; omega) _⟩
      · have HBR := Lib.hid (((Blk.at_ (t := 23) (cs := #[.int .i64 0, .int .i64 0]) (w := w.alloc (.cells #[.int .i64 b.id, .int .i64 b.layers, .int .i64 b.dry.lo, .int .i64 b.dry.hi, .slice A n cp, .slice A2 n2 cp2] 27)) (g := w.heap.size + 1) (by simp)).ext HE.out).ext EX.out)
        have t0 := HBR.out.cell 0
        have t1 := HBR.out.cell 1
        have tf := HBR.out.frozen
        have tl := HBR.out.lt
        simp at t0 t1
        have HFE := Lib.hid (show endsOf f (spans b) = ⟨lo, hi⟩ by unfold endsOf; rw [HX.out, ← FO.out, List.take_of_length_le (by have := hns.out; omega)]; rfl)
        go_wp2
        refine ret_set2 HBR.out fun W ⟨b0, b1⟩ hW => ?_
        refine bodyPost_ret (v := .tuple #[valS ⟨lo, hi⟩, .int .i64 0]) (by simp [results, Tryd.results79, go_sem, b0, b1]) rfl ?_
        exact ⟨by rw [HL.out, HZ.out, HFE.out], ext_grown (HEW.out.trans EX.out) hW (by omega)⟩
  · have := hpz hz9
    subst this
    have HL := Lib.hid (show endsB f b = ⟨0, 0⟩ by unfold endsB; rw [if_neg hz9])
    clear hpz hpv
    generalize hE9 : askE b true 0 = E at hz9
    have HE9 := Lib.hid hE9; clear hE9
    go_wp2
    refine ret_set2a ((Blk.at_ (by simp)).ext HE.out) fun W ⟨b0, b1⟩ hW => ?_
    refine bodyPost_ret (v := .tuple #[valS ⟨0, 0⟩, .int .i64 E]) (by simp [results, Tryd.results79, go_sem, b0, b1]) rfl ?_
    exact ⟨by rw [HL.out, HE9.out], ext_grown HEW.out hW (by omega)⟩

theorem best_any (b : Bale) (dv wv : Value) (w : World) (hT : Tab w) (hd : SlD w dv b.draws) (hw : SlW w wv b.weighs) :
    Calls Tryd.prog 22 #[valB b dv wv] w fun e w' => e = .returned (.tuple #[valS (endsB min b), .int .i64 (askE b true 0)]) ∧ Ext w w' := by
  have HT := Lib.hid hT
  have HD := Lib.hid hd
  have HW := Lib.hid hw
  obtain ⟨A, n, cp, rfl, hn, hlc, hcm⟩ := hd.form
  obtain ⟨A2, n2, cp2, rfl, hn2, hlc2, hcm2⟩ := hw.form
  clear hd hw hT
  go_enter Tryd.func22, Tryd.ntmps22
  go_wp2_with fail
  refine (ends_any b _ _ _ 80 (enters_of Tryd.func80 (by kernel_rfl) rfl) min (fun a b W => f80_any a b W) ((HT.out.ext (Ext.al _ _)).ext (Ext.al _ _)) ((HD.out.ext (Ext.al _ _)).ext (Ext.al _ _)) ((HW.out.ext (Ext.al _ _)).ext (Ext.al _ _))).mono ?_
  rintro e w1 ⟨rfl, hE⟩
  obtain ⟨hc, hf, hz, HE⟩ := hE.use
  dsimp only [valS]
  have HEW := Lib.hid (((Ext.al w _).alloc _ : Ext w _).trans HE.out)
  have hz0 : w.heap.size + 1 < w1.heap.size := by simp at hz; omega
  go_wp2
  refine ret_set2 ((Blk.at_ (by simp)).ext HE.out) fun W ⟨b0, b1⟩ hW => ?_
  refine bodyPost_ret (v := .tuple #[valS (endsB min b), .int .i64 (askE b true 0)]) (by simp [results, Tryd.results22, go_sem, b0, b1]) rfl ?_
  exact ⟨rfl, ext_grown HEW.out hW (by omega)⟩

theorem worst_any (b : Bale) (dv wv : Value) (w : World) (hT : Tab w) (hd : SlD w dv b.draws) (hw : SlW w wv b.weighs) :
    Calls Tryd.prog 24 #[valB b dv wv] w fun e w' => e = .returned (.tuple #[valS (endsB max b), .int .i64 (askE b true 0)]) ∧ Ext w w' := by
  have HT := Lib.hid hT
  have HD := Lib.hid hd
  have HW := Lib.hid hw
  obtain ⟨A, n, cp, rfl, hn, hlc, hcm⟩ := hd.form
  obtain ⟨A2, n2, cp2, rfl, hn2, hlc2, hcm2⟩ := hw.form
  clear hd hw hT
  go_enter Tryd.func24, Tryd.ntmps24
  go_wp2_with fail
  refine (ends_any b _ _ _ 81 (enters_of Tryd.func81 (by kernel_rfl) rfl) max (fun a b W => f81_any a b W) ((HT.out.ext (Ext.al _ _)).ext (Ext.al _ _)) ((HD.out.ext (Ext.al _ _)).ext (Ext.al _ _)) ((HW.out.ext (Ext.al _ _)).ext (Ext.al _ _))).mono ?_
  rintro e w1 ⟨rfl, hE⟩
  obtain ⟨hc, hf, hz, HE⟩ := hE.use
  dsimp only [valS]
  have HEW := Lib.hid (((Ext.al w _).alloc _ : Ext w _).trans HE.out)
  have hz0 : w.heap.size + 1 < w1.heap.size := by simp at hz; omega
  go_wp2
  refine ret_set2 ((Blk.at_ (by simp)).ext HE.out) fun W ⟨b0, b1⟩ hW => ?_
  refine bodyPost_ret (v := .tuple #[valS (endsB max b), .int .i64 (askE b true 0)]) (by simp [results, Tryd.results24, go_sem, b0, b1]) rfl ?_
  exact ⟨rfl, ext_grown HEW.out hW (by omega)⟩
end Go.Proofs.YtdlipbobfgdleaaDoor
/- The reference: True, asked, Can, Layer, Best, Worst. -/
namespace Go.Proofs.YtdlipbobfgdleaaDoor
open Go.RowKit Go.Shelf
set_option maxRecDepth 100000

theorem okB_eq (b : Bale) : (grown (spans b) && decide (0 < (dries b).length)) = okB b := by
  unfold okB; cases dries b <;> simp
theorem true_any (b : Bale) (dv wv : Value) (w : World) (hv : valid b = true) (hd : SlD w dv b.draws) (hw : SlW w wv b.weighs) :
    Calls Tryd.prog 73 #[valB b dv wv] w fun e w' => e = .returned (.bool (okB b)) ∧ Ext w w' := by
  have HB := Lib.hid (valid_bds hv)
  have HD := Lib.hid hd
  have HW := Lib.hid hw
  obtain ⟨A, n, cp, rfl, hn, hlc, hcm⟩ := hd.form
  obtain ⟨A2, n2, cp2, rfl, hn2, hlc2, hcm2⟩ := hw.form
  clear hd hw hv
  go_enter Tryd.func73, Tryd.ntmps73
  go_wp2_with fail
  refine (layers_any b _ _ _ (HD.out.ext (Ext.al _ _)) (HW.out.ext (Ext.al _ _)) HB.out.l1 HB.out.l5).mono ?_
  rintro e w1 ⟨v, rfl, hs, hE⟩
  obtain ⟨hc, hf, hz, HE⟩ := hE.use
  have HE1 := Lib.hid ((Ext.al w _).trans HE.out)
  cases hg : grown (spans b) with
  | false =>
    have HG := Lib.hid hg; clear hg
    go_wp2
    go_ret
    exact ⟨ret_bool (by rw [← okB_eq, HG.out]; rfl), HE1.out⟩
  | true =>
    have HG := Lib.hid hg; clear hg
    have HDW := Lib.hid (show SlD w1 (.slice A n cp) b.draws ∧ SlW w1 (.slice A2 n2 cp2) b.weighs from ⟨HD.out.ext HE1.out, HW.out.ext HE1.out⟩)
    go_wp2_with fail
    refine (dries_any b _ _ _ HDW.out.1 HDW.out.2 HB.out.lo HB.out.lh HB.out.hi (fun x hx => by have := HB.out.w x hx; omega)).mono ?_
    rintro e w2 ⟨v2, rfl, hl, hE2⟩
    obtain ⟨Al, nl, cl, rfl, hnl, hlc', hlm⟩ := hl.form
    have HE2 := Lib.hid (HE1.out.trans hE2)
    clear hE2 hl hs
    go_wp2
    go_ret
    exact ⟨ret_bool (by rw [← okB_eq, HG.out, ← hnl.out]; simp), HE2.out⟩

theorem refCan_any (b : Bale) (dv wv : Value) (w : World) (hd : SlD w dv b.draws) (hw : SlW w wv b.weighs) :
    Calls Tryd.prog 17 #[valB b dv wv] w fun e w' => e = .returned (.tuple #[.bool (valid b && okB b), .int .i64 (errB (valid b) 30)]) ∧ Ext w w' := by
  have HD := Lib.hid hd
  have HW := Lib.hid hw
  obtain ⟨A, n, cp, rfl, hn, hlc, hcm⟩ := hd.form
  obtain ⟨A2, n2, cp2, rfl, hn2, hlc2, hcm2⟩ := hw.form
  clear hd hw
  go_enter Tryd.func17, Tryd.ntmps17
  go_wp2_with fail
  refine (refBale_v b _ _ _ (HD.out.ext (Ext.al _ _)) (HW.out.ext (Ext.al _ _))).mono ?_
  rintro e w1 ⟨rfl, hE⟩
  obtain ⟨hc, hf, hz, HE⟩ := hE.use
  have HE1 := Lib.hid ((Ext.al w _).trans HE.out)
  cases hv : valid b with
  | false =>
    have HV := Lib.hid hv; clear hv
    go_wp2
    refine bodyPost_ret (v := .tuple #[.bool false, .int .i64 30]) (by simp [results, Tryd.results17, go_sem]) rfl ?_
    exact ⟨by rw [HV.out]; rfl, HE1.out⟩
  | true =>
    have HV := Lib.hid hv; clear hv
    go_wp2_with fail
    refine (true_any b _ _ _ HV.out (HD.out.ext HE1.out) (HW.out.ext HE1.out)).mono ?_
    rintro e w2 ⟨rfl, hE2⟩
    have HE2 := Lib.hid (HE1.out.trans hE2)
    clear hE2
    go_wp2
    refine bodyPost_ret (v := .tuple #[.bool (okB b), .int .i64 0]) (by simp [results, Tryd.results17, go_sem]) rfl ?_
    exact ⟨by rw [HV.out]; rfl, HE2.out⟩

def RAsked (b : Bale) (w : World) (e : Ending) (w' : World) : Prop :=
  ∃ sv lv, e = .returned (.tuple #[sv, lv, .int .i64 (askE b true 0)]) ∧ (askE b true 0 = 0 → SlS w' sv (spans b) ∧ SlI w' lv (dries b)) ∧ Ext w w'
theorem RAsked.bad {b : Bale} {w w' : World} {E : Int} (hE : E = askE b true 0) (h0 : askE b true 0 ≠ 0) (h : Ext w w') : RAsked b w (.returned (.tuple #[.slice none 0 0, .slice none 0 0, .int .i64 E])) w' := by
  subst hE; exact ⟨_, _, rfl, fun h => absurd h h0, h⟩
theorem refAsked_any (b : Bale) (dv wv : Value) (w : World) (hd : SlD w dv b.draws) (hw : SlW w wv b.weighs) :
    Calls Tryd.prog 78 #[valB b dv wv] w (RAsked b w) := by
  have HD := Lib.hid hd
  have HW := Lib.hid hw
  obtain ⟨A, n, cp, rfl, hn, hlc, hcm⟩ := hd.form
  obtain ⟨A2, n2, cp2, rfl, hn2, hlc2, hcm2⟩ := hw.form
  clear hd hw
  go_enter Tryd.func78, Tryd.ntmps78
  go_wp2_with fail
  refine (refBale_v b _ _ _ (HD.out.ext (Ext.al _ _)) (HW.out.ext (Ext.al _ _))).mono ?_
  rintro e w1 ⟨rfl, hE⟩
  obtain ⟨hc, hf, hz, HE⟩ := hE.use
  have HE1 := Lib.hid ((Ext.al w _).trans HE.out)
  have hz0 : w.heap.size < w1.heap.size := by simp at hz; omega
  cases hv : valid b with
  | false =>
    have HV := Lib.hid hv; clear hv
    go_wp2
    refine bodyPost_ret (v := .tuple #[.slice none 0 0, .slice none 0 0, .int .i64 30]) (by simp [results, Tryd.results78, go_sem]) rfl ?_
    exact RAsked.bad (by unfold askE; rw [HV.out]; rfl) (by unfold askE; rw [HV.out]; simp) HE1.out
  | true =>
    have HV := Lib.hid hv; clear hv
    have HB := Lib.hid (valid_bds HV.out)
    go_wp2_with fail
    refine (layers_any b _ _ _ (HD.out.ext HE1.out) (HW.out.ext HE1.out) HB.out.l1 HB.out.l5).mono ?_
    rintro e w2 ⟨v, rfl, hs, hE2⟩
    obtain ⟨hc2, hf2, hz2, HE2⟩ := hE2.use
    have HE3 := Lib.hid (HE1.out.trans HE2.out)
    have HDW := Lib.hid (show SlD w2 (.slice A n cp) b.draws ∧ SlW w2 (.slice A2 n2 cp2) b.weighs from ⟨HD.out.ext HE3.out, HW.out.ext HE3.out⟩)
    have HS := Lib.hid hs; clear hs
    generalize hg : grown (spans b) = gr
    have HG := Lib.hid hg; clear hg
    go_wp2_with fail
    refine (dries_any b _ _ _ HDW.out.1 HDW.out.2 HB.out.lo HB.out.lh HB.out.hi (fun x hx => by have := HB.out.w x hx; omega)).mono ?_
    rintro e w3 ⟨v2, rfl, hl, hE4⟩
    obtain ⟨Al, nl, cl, rfl, hnl, hlc', hlm⟩ := hl.form
    have HL := Lib.hid hl
    have HE5 := Lib.hid (HE3.out.trans hE4)
    have HS2 := Lib.hid (show grown (spans b) = true → SlS w3 v (spans b) from fun h => (HS.out h).ext hE4)
    clear hE4 hl
    cases gr with
    | false =>
      go_wp2
      refine bodyPost_ret (v := .tuple #[.slice none 0 0, .slice none 0 0, .int .i64 8]) (by simp [results, Tryd.results78, go_sem]) rfl ?_
      have ho : okB b = false := by rw [← okB_eq, HG.out]; rfl
      exact RAsked.bad (by unfold askE; rw [HV.out, ho]; rfl) (by unfold askE; rw [HV.out, ho]; simp) HE5.out
    | true =>
      by_cases h0 : nl = 0
      · have hnz : (nl : Int) = 0 := by omega
        have ho : okB b = false := by rw [← okB_eq, ← hnl.out, h0]; simp
        have HO := Lib.hid ho; clear ho
        go_wp2
        refine bodyPost_ret (v := .tuple #[.slice none 0 0, .slice none 0 0, .int .i64 8]) (by simp [results, Tryd.results78, go_sem]) rfl ?_
        exact RAsked.bad (by unfold askE; rw [HV.out, HO.out]; rfl) (by unfold askE; rw [HV.out, HO.out]; simp) HE5.out
      · have hnz : ¬ (nl : Int) = 0 := by omega
        have ho : okB b = true := by rw [← okB_eq, ← hnl.out, HG.out]; simp; omega
        have HO := Lib.hid ho; clear ho
        go_wp2
        refine bodyPost_ret (v := .tuple #[v, .slice Al nl cl, .int .i64 0]) (by simp [results, Tryd.results78, go_sem]) rfl ?_
        exact ⟨_, _, by unfold askE; rw [HV.out, HO.out]; rfl, fun _ => ⟨HS2.out HG.out, HL.out⟩, HE5.out⟩
end Go.Proofs.YtdlipbobfgdleaaDoor
/- The reference: Layer, Best, Worst. -/
namespace Go.Proofs.YtdlipbobfgdleaaDoor
open Go.RowKit Go.Shelf
set_option maxRecDepth 100000

theorem askE_true {b : Bale} (hv : valid b = true) (e : Int) : askE b true e = askE b true 0 := by unfold askE; rw [hv]; rfl
set_option maxHeartbeats 1000000 in
theorem refLayer_any (b : Bale) (at' : Int) (dv wv : Value) (w : World) (hd : SlD w dv b.draws) (hw : SlW w wv b.weighs) :
    Calls Tryd.prog 19 #[valB b dv wv, .int .i64 at'] w fun e w' => e = .returned (.tuple #[valS (layerB b (inB 0 (b.layers - 1) at') at'), .int .i64 (askE b (inB 0 (b.layers - 1) at') 31)]) ∧ Ext w w' := by
  have HD := Lib.hid hd
  have HW := Lib.hid hw
  obtain ⟨A, n, cp, rfl, hn, hlc, hcm⟩ := hd.form
  obtain ⟨A2, n2, cp2, rfl, hn2, hlc2, hcm2⟩ := hw.form
  clear hd hw
  go_enter Tryd.func19, Tryd.ntmps19
  go_wp2_with fail
  refine (refBale_v b _ _ _ ((HD.out.ext (Ext.al _ _)).ext (Ext.al _ _)) ((HW.out.ext (Ext.al _ _)).ext (Ext.al _ _))).mono ?_
  rintro e w1 ⟨rfl, hE⟩
  obtain ⟨hc, hf, hz, HE⟩ := hE.use
  have HE1 := Lib.hid (((Ext.al w _).alloc _ : Ext w _).trans HE.out)
  have hz0 : w.heap.size + 1 < w1.heap.size := by simp at hz; omega
  have hz1 : w.heap.size < w1.heap.size := by omega
  have HBR := Lib.hid ((Blk.at_ (t := 23) (cs := #[.int .i64 0, .int .i64 0]) (w := w.alloc (.cells #[.int .i64 b.id, .int .i64 b.layers, .int .i64 b.dry.lo, .int .i64 b.dry.hi, .slice A n cp, .slice A2 n2 cp2] 27)) (g := w.heap.size + 1) (by simp)).ext HE.out)
  cases hv : valid b with
  | false =>
    have HV := Lib.hid hv; clear hv
    go_wp2
    refine ret_set2 HBR.out fun W ⟨b0, b1⟩ hW => ?_
    refine bodyPost_ret (v := .tuple #[valS ⟨0, 0⟩, .int .i64 30]) (by simp [results, Tryd.results19, go_sem, b0, b1]) rfl ?_
    have hE : askE b (inB 0 (b.layers - 1) at') 31 = 30 := by unfold askE; rw [HV.out]; rfl
    exact ⟨by unfold layerB; rw [hE]; rfl, ext_grown HE1.out hW (by omega)⟩
  | true =>
    have HV := Lib.hid hv; clear hv
    have HB := Lib.hid (valid_bds HV.out)
    have hl1 := HB.out.l1
    have hl5 := HB.out.l5
    generalize hi : inB 0 (b.layers - 1) at' = r
    have HI := Lib.hid hi; clear hi
    go_wp2_with fail
    refine (within_any at' 0 (b.layers - 1) _).mono ?_
    rintro e w' ⟨rfl, rfl⟩
    rw [HI.out]
    cases r with
    | false =>
      go_wp2
      refine ret_set2 HBR.out fun W ⟨b0, b1⟩ hW => ?_
      refine bodyPost_ret (v := .tuple #[valS ⟨0, 0⟩, .int .i64 31]) (by simp [results, Tryd.results19, go_sem, b0, b1]) rfl ?_
      have hE : askE b (inB 0 (b.layers - 1) at') 31 = 31 := by unfold askE; rw [HV.out, HI.out]; rfl
      exact ⟨by unfold layerB; rw [hE]; rfl, ext_grown HE1.out hW (by omega)⟩
    | true =>
      have HA := Lib.hid (askE_true HV.out 31)
      go_wp2_with fail
      refine (refAsked_any b _ _ _ (HD.out.ext HE1.out) (HW.out.ext HE1.out)).mono ?_
      rintro e w2 ⟨sv, lv, rfl, hs, hE2⟩
      have HE2 := Lib.hid (HE1.out.trans hE2)
      have HBR2 := Lib.hid (HBR.out.ext hE2)
      have t0 := HBR2.out.cell 0
      have t1 := HBR2.out.cell 1
      have tf := HBR2.out.frozen
      have tl := HBR2.out.lt
      simp at t0 t1
      clear hc hf hE2
      by_cases hz9 : askE b true 0 = 0
      · have hsl := hs hz9
        clear hs
        obtain ⟨hs, hl⟩ := hsl
        have HL := Lib.hid (show layerB b true at' = ((spans b)[at'.toNat]?).getD ⟨0, 0⟩ by unfold layerB; rw [HA.out, if_pos hz9])
        obtain ⟨As, ns, cs, rfl, hns, hsc, hsm⟩ := hs.form
        obtain ⟨Al, nl, cl, rfl, hnl, hlc', hlm⟩ := hl.form
        have hat : 0 ≤ at' ∧ at' ≤ b.layers - 1 := by have := HI.out; unfold inB at this; simpa using this
        have hns' : (ns : Int) = b.layers := by have := hns.out; rw [spans_len] at this; omega
        obtain ⟨k, rfl⟩ : ∃ k : Nat, at' = (k : Int) := ⟨at'.toNat, by omega⟩
        have hkn : k < ns := by omega
        have hknz : (k : Int) < (ns : Int) := by omega
        have hk0 : (0 : Int) ≤ (k : Int) := by omega
        obtain ⟨bb, off, x, rfl, hx, hbb, hcell⟩ := hs.at_ hkn
        obtain ⟨c0, c1⟩ := SlS.cells hcell (Ext.refl _)
        have HX := Lib.hid hx
        have HZ := Lib.hid hz9
        clear hx hs hl hcell hat hl1 hl5
        rw [hz9]
        clear hz9
        go_wp2
        refine ret_set2 HBR2.out fun W ⟨b0, b1⟩ hW => ?_
        refine bodyPost_ret (v := .tuple #[valS x, .int .i64 0]) (by simp [results, Tryd.results19, go_sem, b0, b1]) rfl ?_
        exact ⟨by rw [HI.out, HL.out, HA.out, HZ.out, Int.toNat_natCast, HX.out]; rfl, ext_grown HE2.out hW (by omega)⟩
      · have HL := Lib.hid (show layerB b true at' = ⟨0, 0⟩ by unfold layerB; rw [HA.out, if_neg hz9])
        clear hs
        generalize hE9 : askE b true 0 = E at hz9
        have HE9 := Lib.hid hE9; clear hE9
        go_wp2
        refine ret_set2 HBR2.out fun W ⟨b0, b1⟩ hW => ?_
        refine bodyPost_ret (v := .tuple #[valS ⟨0, 0⟩, .int .i64 E]) (by simp [results, Tryd.results19, go_sem, b0, b1]) rfl ?_
        exact ⟨by rw [HI.out, HL.out, HA.out, HE9.out], ext_grown HE2.out hW (by omega)⟩

set_option maxHeartbeats 1000000 in
theorem refBest_any (b : Bale) (dv wv : Value) (w : World) (hd : SlD w dv b.draws) (hw : SlW w wv b.weighs) :
    Calls Tryd.prog 23 #[valB b dv wv] w fun e w' => e = .returned (.tuple #[valS (endsB min b), .int .i64 (askE b true 0)]) ∧ Ext w w' := by
  have HD := Lib.hid hd
  have HW := Lib.hid hw
  obtain ⟨A, n, cp, rfl, hn, hlc, hcm⟩ := hd.form
  obtain ⟨A2, n2, cp2, rfl, hn2, hlc2, hcm2⟩ := hw.form
  clear hd hw
  go_enter Tryd.func23, Tryd.ntmps23
  go_wp2_with fail
  refine (refAsked_any b _ _ _ ((HD.out.ext (Ext.al _ _)).ext (Ext.al _ _)) ((HW.out.ext (Ext.al _ _)).ext (Ext.al _ _))).mono ?_
  rintro e w1 ⟨sv, lv, rfl, hsl, hE⟩
  have HE1 := Lib.hid (((Ext.al w _).alloc _ : Ext w _).trans hE)
  have HBR := Lib.hid ((Blk.at_ (t := 23) (cs := #[.int .i64 0, .int .i64 0]) (w := w.alloc (.cells #[.int .i64 b.id, .int .i64 b.layers, .int .i64 b.dry.lo, .int .i64 b.dry.hi, .slice A n cp, .slice A2 n2 cp2] 27)) (g := w.heap.size + 1) (by simp)).ext hE)
  have t0 := HBR.out.cell 0
  have t1 := HBR.out.cell 1
  have tf := HBR.out.frozen
  have tl := HBR.out.lt
  simp at t0 t1
  clear hE
  by_cases hz9 : askE b true 0 = 0
  · obtain ⟨hs, hl⟩ := hsl hz9
    clear hsl
    obtain ⟨h1, h3⟩ := askE_zero' hz9
    have HL := Lib.hid (show endsB min b = endsOf min (spans b) by unfold endsB; rw [if_pos hz9])
    obtain ⟨As, ns, cs, rfl, hns, hsc, hsm⟩ := hs.form
    obtain ⟨Al, nl, cl, rfl, hnl, hlc', hlm⟩ := hl.form
    have hb5 := valid_bds h1
    have hns' : (ns : Int) = b.layers := by have := hns.out; rw [spans_len] at this; have := hb5.l1; omega
    have hkn : 0 < ns := by have := hb5.l1; omega
    have hkn2 : (0 : Int) < (ns : Int) := by omega
    obtain ⟨bb, off, x, rfl, hx, hbb, hcell⟩ := hs.at_ hkn
    obtain ⟨c0, c1⟩ := SlS.cells hcell (Ext.refl _)
    simp at c0 c1
    have HX := Lib.hid hx
    have HZ := Lib.hid hz9
    have HS := Lib.hid hs
    clear hx h3 hs hl hcell hb5 h1
    rw [hz9]
    clear hz9
    go_wp2
    go_loopg [25] ns (fun gg s wr => ∃ (j : Nat) (lo hi : Int), j ≤ ns ∧ ns - j ≤ gg ∧ s = .int .i64 j ∧ Aside (((spans b).take j).foldl (endStep min) x = ⟨lo, hi⟩) ∧ Aside (Blk wr w1.heap.size 23 #[.int .i64 lo, .int .i64 hi]) ∧ Aside (Ext w1 wr))
    case atStart => exact ⟨0, x.lo, x.hi, by omega, by omega, rfl, rfl, Blk.at_ (by simp), Ext.al _ _⟩
    case round =>
      obtain ⟨j, lo, hi, hj, hgj, rfl, FO, BL, EX⟩ := hrel
      have s0 : wr.cell? ⟨w1.heap.size, 0, none⟩ = some (.int .i64 lo) := BL.out.cell 0
      have s1 : wr.cell? ⟨w1.heap.size, 1, none⟩ = some (.int .i64 hi) := BL.out.cell 1
      have sf := BL.out.frozen
      have hso : w1.heap.size < wr.heap.size := BL.out.lt
      by_cases hjn : j < ns
      · have hjz : (j : Int) < (ns : Int) := by omega
        obtain ⟨bb', off', y, e1, hy, hyb, hycell⟩ := HS.out.at_ hjn
        injection e1 with e1
        injection e1 with e1 e2
        subst e1 e2
        obtain ⟨d0, d1⟩ := SlS.cells hycell EX.out
        have HY := Lib.hid hy
        have HFO := Lib.hid (foldl_snoc (endStep min) x _ _ _ HY.out)
        clear hy hycell
        go_wp2
        go_roundg (ns - (j + 1))
        case measure => omega
        case rel => exact ⟨j + 1, min lo y.lo, min hi y.hi, by omega, by omega, rfl, by show _ = _; rw [HFO.out, FO.out]; rfl, ((BL.out.set_ 0 _).set_ 1 _).alloc _, ((EX.out.setCell (by dsimp only; omega) _).setCell (by dsimp only; omega) _).alloc _⟩
      · have HBR2 := Lib.hid (HBR.out.ext EX.out)
        have u0 := HBR2.out.cell 0
        have u1 := HBR2.out.cell 1
        have uf := HBR2.out.frozen
        have ul := HBR2.out.lt
        simp at u0 u1
        have HFE := Lib.hid (show endsOf min (spans b) = ⟨lo, hi⟩ by unfold endsOf; rw [HX.out, ← FO.out, List.take_of_length_le (by have := hns.out; omega)]; rfl)
        go_wp2
        refine ret_set2 HBR2.out fun W ⟨b0, b1⟩ hW => ?_
        refine bodyPost_ret (v := .tuple #[valS ⟨lo, hi⟩, .int .i64 0]) (by simp [results, Tryd.results23, go_sem, b0, b1]) rfl ?_
        exact ⟨by rw [HL.out, HZ.out, HFE.out], ext_grown (HE1.out.trans EX.out) hW (by omega)⟩
  · have HL := Lib.hid (show endsB min b = ⟨0, 0⟩ by unfold endsB; rw [if_neg hz9])
    clear hsl
    generalize hE9 : askE b true 0 = E at hz9
    have HE9 := Lib.hid hE9; clear hE9
    go_wp2
    refine ret_set2 HBR.out fun W ⟨b0, b1⟩ hW => ?_
    refine bodyPost_ret (v := .tuple #[valS ⟨0, 0⟩, .int .i64 E]) (by simp [results, Tryd.results23, go_sem, b0, b1]) rfl ?_
    exact ⟨by rw [HL.out, HE9.out], ext_grown HE1.out hW (by omega)⟩

set_option maxHeartbeats 1000000 in
theorem refWorst_any (b : Bale) (dv wv : Value) (w : World) (hd : SlD w dv b.draws) (hw : SlW w wv b.weighs) :
    Calls Tryd.prog 25 #[valB b dv wv] w fun e w' => e = .returned (.tuple #[valS (endsB max b), .int .i64 (askE b true 0)]) ∧ Ext w w' := by
  have HD := Lib.hid hd
  have HW := Lib.hid hw
  obtain ⟨A, n, cp, rfl, hn, hlc, hcm⟩ := hd.form
  obtain ⟨A2, n2, cp2, rfl, hn2, hlc2, hcm2⟩ := hw.form
  clear hd hw
  go_enter Tryd.func25, Tryd.ntmps25
  go_wp2_with fail
  refine (refAsked_any b _ _ _ ((HD.out.ext (Ext.al _ _)).ext (Ext.al _ _)) ((HW.out.ext (Ext.al _ _)).ext (Ext.al _ _))).mono ?_
  rintro e w1 ⟨sv, lv, rfl, hsl, hE⟩
  have HE1 := Lib.hid (((Ext.al w _).alloc _ : Ext w _).trans hE)
  have HBR := Lib.hid ((Blk.at_ (t := 23) (cs := #[.int .i64 0, .int .i64 0]) (w := w.alloc (.cells #[.int .i64 b.id, .int .i64 b.layers, .int .i64 b.dry.lo, .int .i64 b.dry.hi, .slice A n cp, .slice A2 n2 cp2] 27)) (g := w.heap.size + 1) (by simp)).ext hE)
  have t0 := HBR.out.cell 0
  have t1 := HBR.out.cell 1
  have tf := HBR.out.frozen
  have tl := HBR.out.lt
  simp at t0 t1
  clear hE
  by_cases hz9 : askE b true 0 = 0
  · obtain ⟨hs, hl⟩ := hsl hz9
    clear hsl
    obtain ⟨h1, h3⟩ := askE_zero' hz9
    have HL := Lib.hid (show endsB max b = endsOf max (spans b) by unfold endsB; rw [if_pos hz9])
    obtain ⟨As, ns, cs, rfl, hns, hsc, hsm⟩ := hs.form
    obtain ⟨Al, nl, cl, rfl, hnl, hlc', hlm⟩ := hl.form
    have hb5 := valid_bds h1
    have hns' : (ns : Int) = b.layers := by have := hns.out; rw [spans_len] at this; have := hb5.l1; omega
    have hkn : 0 < ns := by have := hb5.l1; omega
    have hkn2 : (0 : Int) < (ns : Int) := by omega
    obtain ⟨bb, off, x, rfl, hx, hbb, hcell⟩ := hs.at_ hkn
    obtain ⟨c0, c1⟩ := SlS.cells hcell (Ext.refl _)
    simp at c0 c1
    have HX := Lib.hid hx
    have HZ := Lib.hid hz9
    have HS := Lib.hid hs
    clear hx h3 hs hl hcell hb5 h1
    rw [hz9]
    clear hz9
    go_wp2
    go_loopg [25] ns (fun gg s wr => ∃ (j : Nat) (lo hi : Int), j ≤ ns ∧ ns - j ≤ gg ∧ s = .int .i64 j ∧ Aside (((spans b).take j).foldl (endStep max) x = ⟨lo, hi⟩) ∧ Aside (Blk wr w1.heap.size 23 #[.int .i64 lo, .int .i64 hi]) ∧ Aside (Ext w1 wr))
    case atStart => exact ⟨0, x.lo, x.hi, by omega, by omega, rfl, rfl, Blk.at_ (by simp), Ext.al _ _⟩
    case round =>
      obtain ⟨j, lo, hi, hj, hgj, rfl, FO, BL, EX⟩ := hrel
      have s0 : wr.cell? ⟨w1.heap.size, 0, none⟩ = some (.int .i64 lo) := BL.out.cell 0
      have s1 : wr.cell? ⟨w1.heap.size, 1, none⟩ = some (.int .i64 hi) := BL.out.cell 1
      have sf := BL.out.frozen
      have hso : w1.heap.size < wr.heap.size := BL.out.lt
      by_cases hjn : j < ns
      · have hjz : (j : Int) < (ns : Int) := by omega
        obtain ⟨bb', off', y, e1, hy, hyb, hycell⟩ := HS.out.at_ hjn
        injection e1 with e1
        injection e1 with e1 e2
        subst e1 e2
        obtain ⟨d0, d1⟩ := SlS.cells hycell EX.out
        have HY := Lib.hid hy
        have HFO := Lib.hid (foldl_snoc (endStep max) x _ _ _ HY.out)
        clear hy hycell
        go_wp2
        go_roundg (ns - (j + 1))
        case measure => omega
        case rel => exact ⟨j + 1, max lo y.lo, max hi y.hi, by omega, by omega, rfl, by show _ = _; rw [HFO.out, FO.out]; rfl, ((BL.out.set_ 0 _).set_ 1 _).alloc _, ((EX.out.setCell (by dsimp only; omega) _).setCell (by dsimp only; omega) _).alloc _⟩
      · have HBR2 := Lib.hid (HBR.out.ext EX.out)
        have u0 := HBR2.out.cell 0
        have u1 := HBR2.out.cell 1
        have uf := HBR2.out.frozen
        have ul := HBR2.out.lt
        simp at u0 u1
        have HFE := Lib.hid (show endsOf max (spans b) = ⟨lo, hi⟩ by unfold endsOf; rw [HX.out, ← FO.out, List.take_of_length_le (by have := hns.out; omega)]; rfl)
        go_wp2
        refine ret_set2 HBR2.out fun W ⟨b0, b1⟩ hW => ?_
        refine bodyPost_ret (v := .tuple #[valS ⟨lo, hi⟩, .int .i64 0]) (by simp [results, Tryd.results25, go_sem, b0, b1]) rfl ?_
        exact ⟨by rw [HL.out, HZ.out, HFE.out], ext_grown (HE1.out.trans EX.out) hW (by omega)⟩
  · have HL := Lib.hid (show endsB max b = ⟨0, 0⟩ by unfold endsB; rw [if_neg hz9])
    clear hsl
    generalize hE9 : askE b true 0 = E at hz9
    have HE9 := Lib.hid hE9; clear hE9
    go_wp2
    refine ret_set2 HBR.out fun W ⟨b0, b1⟩ hW => ?_
    refine bodyPost_ret (v := .tuple #[valS ⟨0, 0⟩, .int .i64 E]) (by simp [results, Tryd.results25, go_sem, b0, b1]) rfl ?_
    exact ⟨by rw [HL.out, HE9.out], ext_grown HE1.out hW (by omega)⟩
end Go.Proofs.YtdlipbobfgdleaaDoor
/- core.Dry and the reference's, Pays and the reference's. -/
namespace Go.Proofs.YtdlipbobfgdleaaDoor
open Go.RowKit Go.Shelf
set_option maxRecDepth 100000
set_option linter.unusedSimpArgs false

/-- The lightest and the heaviest dry weight that can be. -/
def dryOf (l : List Int) : Span := ⟨(l[0]?).getD 0, (l[l.length - 1]?).getD 0⟩
def dryB (b : Bale) : Span := if askE b true 0 = 0 then dryOf (dries b) else ⟨0, 0⟩
theorem dries_pos {b : Bale} (h : askE b true 0 = 0) : 0 < (dries b).length := by
  have := (askE_zero' h).2
  unfold okB at this
  cases hd : dries b with
  | nil => rw [hd] at this; simp at this
  | cons x l => simp
theorem Sl.int {w : World} {b off k : Nat} {x : Int} (h : ∀ W, Ext w W → ∀ j u, (encI x)[j]? = some u → W.cell? ⟨b, off + k * 1 + j, none⟩ = some u) (W : World) (hW : Ext w W) : W.cell? ⟨b, off + k, none⟩ = some (.int .i64 x) := by
  simpa using h W hW 0 _ rfl

set_option maxHeartbeats 1000000 in
theorem dry_any (b : Bale) (dv wv : Value) (w : World) (hT : Tab w) (hd : SlD w dv b.draws) (hw : SlW w wv b.weighs) :
    Calls Tryd.prog 27 #[valB b dv wv] w fun e w' => e = .returned (.tuple #[valS (dryB b), .int .i64 (askE b true 0)]) ∧ Ext w w' := by
  have HT := Lib.hid hT
  have HD := Lib.hid hd
  have HW := Lib.hid hw
  obtain ⟨A, n, cp, rfl, hn, hlc, hcm⟩ := hd.form
  obtain ⟨A2, n2, cp2, rfl, hn2, hlc2, hcm2⟩ := hw.form
  clear hd hw hT
  go_enter Tryd.func27, Tryd.ntmps27
  go_wp2_with fail
  refine (asked_nil b _ _ _ ((HT.out.ext (Ext.al _ _)).ext (Ext.al _ _)) ((HD.out.ext (Ext.al _ _)).ext (Ext.al _ _)) ((HW.out.ext (Ext.al _ _)).ext (Ext.al _ _))).mono ?_
  rintro e w1 ⟨pv, rfl, hpv, hpz, hE⟩
  have HEW := Lib.hid (((Ext.al w _).alloc _ : Ext w _).trans hE)
  have HBR := Lib.hid ((Blk.at_ (t := 23) (cs := #[.int .i64 0, .int .i64 0]) (w := w.alloc (.cells #[.int .i64 b.id, .int .i64 b.layers, .int .i64 b.dry.lo, .int .i64 b.dry.hi, .slice A n cp, .slice A2 n2 cp2] 27)) (g := w.heap.size + 1) (by simp)).ext hE)
  clear hE
  by_cases hz9 : askE b true 0 = 0
  · obtain ⟨sv, lv, rfl, hs, hl⟩ := hpv hz9
    have hpos := dries_pos hz9
    have HL := Lib.hid (show dryB b = dryOf (dries b) by unfold dryB; rw [if_pos hz9])
    obtain ⟨As, ns, cs, rfl, hns, hsc, hsm⟩ := hs.form
    obtain ⟨Al, nl, cl, rfl, hnl, hlc', hlm⟩ := hl.form
    obtain ⟨m, rfl⟩ : ∃ m, nl = m + 1 := ⟨nl - 1, by have := hnl.out; omega⟩
    have hnl0 : 0 < m + 1 := by omega
    obtain ⟨bb, off, x, rfl, hx, hbb, hcell⟩ := hl.at_ hnl0
    obtain ⟨bb', off', y, e1, hy, hbb', hcell'⟩ := hl.at_ (show m < m + 1 by omega)
    injection e1 with e1
    injection e1 with e1 e2
    subst e1 e2
    have c0 := fun W h => Sl.int hcell W h
    have c1 := fun W h => Sl.int hcell' W h
    have HX := Lib.hid (show dryOf (dries b) = ⟨x, y⟩ by unfold dryOf; rw [hx, show (dries b).length - 1 = m by have := hnl.out; omega, hy]; rfl)
    have HZ := Lib.hid hz9
    have hnz : (0 : Int) < (m : Int) + 1 := by omega
    have hm0 : (0 : Int) ≤ (m : Int) := by omega
    have hm1 : (m : Int) < (m : Int) + 1 := by omega
    have hwr : IntKind.i64.wrap (m : Int) = (m : Int) := by simp [IntKind.wrap, IntKind.signed, IntKind.bits]; omega
    clear hx hy hpv hpz hs hl hcell hcell' hpos
    rw [hz9]
    dsimp only [valP]
    clear hz9
    have m7 := fun W (h : Ext (w1.alloc (.cells #[.int .i64 b.id, .int .i64 b.layers, .int .i64 b.dry.lo, .int .i64 b.dry.hi, .slice A n cp, .slice A2 n2 cp2, .slice As ns cs, .slice (some ⟨bb, off, none⟩) (m + 1) cl] 106)) W) => (h.cells.1 w1.heap.size 7 (by simp)).trans (show _ = some (.slice (some ⟨bb, off, none⟩) (m + 1) cl) by simp [go_sem])
    have k0 := fun W (h : Ext (w1.alloc (.cells #[.int .i64 b.id, .int .i64 b.layers, .int .i64 b.dry.lo, .int .i64 b.dry.hi, .slice A n cp, .slice A2 n2 cp2, .slice As ns cs, .slice (some ⟨bb, off, none⟩) (m + 1) cl] 106)) W) => c0 W ((Ext.al _ _).trans h)
    have k1 := fun W (h : Ext (w1.alloc (.cells #[.int .i64 b.id, .int .i64 b.layers, .int .i64 b.dry.lo, .int .i64 b.dry.hi, .slice A n cp, .slice A2 n2 cp2, .slice As ns cs, .slice (some ⟨bb, off, none⟩) (m + 1) cl] 106)) W) => c1 W ((Ext.al _ _).trans h)
    simp only [Nat.add_zero] at k0
    clear c0 c1
    go_wp2
    refine wp_region_tame_cut2 (fun W => Ext (w1.alloc (.cells #[.int .i64 b.id, .int .i64 b.layers, .int .i64 b.dry.lo, .int .i64 b.dry.hi, .slice A n cp, .slice A2 n2 cp2, .slice As ns cs, .slice (some ⟨bb, off, none⟩) (m + 1) cl] 106)) W) (fun W W' => Ext W W') (by kernel_rfl) 28 rfl _ _ rfl rfl (by decide +kernel) (by decide +kernel) (by decide +kernel) (by decide +kernel) (by decide +kernel) rfl rfl (Ext.refl _).drew ?_
    simp only [List.dropLast]
    repeat (apply tame_q rfl; (intro ρ W hC hr hD; (obtain ⟨hrc, hrg, hrf, hrs⟩ := hr); (simp [go_sem] at hD); go_simp; first | exact ⟨⟨hC, Ext.refl _⟩, rfl⟩ | exact ⟨⟨hC, RS.refl _⟩, rfl⟩ | exact rfl); simp only [List.nil_append, List.cons_append])
    refine tame_end 28 rfl rfl (fun ρ W hC hr hF => ?_)
    obtain ⟨hrc, hrg, hrf, hrs⟩ := hr
    simp [go_sem] at hF
    apply frame_to
    · go_simp
      exact rfl
    clear hF hrs hrc hrg hrf m7 k0 k1
    have HBW := Lib.hid ((HBR.out.alloc _).ext hC)
    have HEC := Lib.hid ((HEW.out.alloc _).trans hC)
    have t0 := HBW.out.cell 0
    have t1 := HBW.out.cell 1
    have tf := HBW.out.frozen
    have tl := HBW.out.lt
    simp at t0 t1
    clear hC
    go_wp2
    refine ret_set2 HBW.out fun W ⟨b0, b1⟩ hW => ?_
    refine bodyPost_ret (v := .tuple #[valS ⟨x, y⟩, .int .i64 0]) (by simp [results, Tryd.results27, go_sem, b0, b1]) rfl ?_
    exact ⟨by rw [HL.out, HX.out, HZ.out], ext_grown HEC.out hW (by omega)⟩
  · have := hpz hz9
    subst this
    have HL := Lib.hid (show dryB b = ⟨0, 0⟩ by unfold dryB; rw [if_neg hz9])
    clear hpz hpv
    generalize hE9 : askE b true 0 = E at hz9
    have HE9 := Lib.hid hE9; clear hE9
    have t0 := HBR.out.cell 0
    have t1 := HBR.out.cell 1
    have tf := HBR.out.frozen
    have tl := HBR.out.lt
    simp at t0 t1
    go_wp2
    refine ret_set2a HBR.out fun W ⟨b0, b1⟩ hW => ?_
    refine bodyPost_ret (v := .tuple #[valS ⟨0, 0⟩, .int .i64 E]) (by simp [results, Tryd.results27, go_sem, b0, b1]) rfl ?_
    exact ⟨by rw [HL.out, HE9.out], ext_grown HEW.out hW (by omega)⟩

set_option maxHeartbeats 1000000 in
theorem refDry_any (b : Bale) (dv wv : Value) (w : World) (hd : SlD w dv b.draws) (hw : SlW w wv b.weighs) :
    Calls Tryd.prog 28 #[valB b dv wv] w fun e w' => e = .returned (.tuple #[valS (dryB b), .int .i64 (askE b true 0)]) ∧ Ext w w' := by
  have HD := Lib.hid hd
  have HW := Lib.hid hw
  obtain ⟨A, n, cp, rfl, hn, hlc, hcm⟩ := hd.form
  obtain ⟨A2, n2, cp2, rfl, hn2, hlc2, hcm2⟩ := hw.form
  clear hd hw
  go_enter Tryd.func28, Tryd.ntmps28
  go_wp2_with fail
  refine (refAsked_any b _ _ _ ((HD.out.ext (Ext.al _ _)).ext (Ext.al _ _)) ((HW.out.ext (Ext.al _ _)).ext (Ext.al _ _))).mono ?_
  rintro e w1 ⟨sv, lv, rfl, hsl, hE⟩
  have HEW := Lib.hid (((Ext.al w _).alloc _ : Ext w _).trans hE)
  have HBR := Lib.hid ((Blk.at_ (t := 23) (cs := #[.int .i64 0, .int .i64 0]) (w := w.alloc (.cells #[.int .i64 b.id, .int .i64 b.layers, .int .i64 b.dry.lo, .int .i64 b.dry.hi, .slice A n cp, .slice A2 n2 cp2] 27)) (g := w.heap.size + 1) (by simp)).ext hE)
  clear hE
  by_cases hz9 : askE b true 0 = 0
  · obtain ⟨hs, hl⟩ := hsl hz9
    have hpos := dries_pos hz9
    have HL := Lib.hid (show dryB b = dryOf (dries b) by unfold dryB; rw [if_pos hz9])
    obtain ⟨As, ns, cs, rfl, hns, hsc, hsm⟩ := hs.form
    obtain ⟨Al, nl, cl, rfl, hnl, hlc', hlm⟩ := hl.form
    obtain ⟨m, rfl⟩ : ∃ m, nl = m + 1 := ⟨nl - 1, by have := hnl.out; omega⟩
    have hnl0 : 0 < m + 1 := by omega
    obtain ⟨bb, off, x, rfl, hx, hbb, hcell⟩ := hl.at_ hnl0
    obtain ⟨bb', off', y, e1, hy, hbb', hcell'⟩ := hl.at_ (show m < m + 1 by omega)
    injection e1 with e1
    injection e1 with e1 e2
    subst e1 e2
    have k0 := fun W h => Sl.int hcell W h
    have k1 := fun W h => Sl.int hcell' W h
    have HX := Lib.hid (show dryOf (dries b) = ⟨x, y⟩ by unfold dryOf; rw [hx, show (dries b).length - 1 = m by have := hnl.out; omega, hy]; rfl)
    have HZ := Lib.hid hz9
    have hnz : (0 : Int) < (m : Int) + 1 := by omega
    have hm0 : (0 : Int) ≤ (m : Int) := by omega
    have hm1 : (m : Int) < (m : Int) + 1 := by omega
    have hwr : IntKind.i64.wrap (m : Int) = (m : Int) := by simp [IntKind.wrap, IntKind.signed, IntKind.bits]; omega
    clear hx hy hsl hs hl hcell hcell' hpos
    rw [hz9]
    clear hz9
    simp only [Nat.add_zero] at k0
    go_wp2
    refine wp_region_tame_cut2 (fun W => Ext w1 W) (fun W W' => Ext W W') (by kernel_rfl) 27 rfl _ _ rfl rfl (by decide +kernel) (by decide +kernel) (by decide +kernel) (by decide +kernel) (by decide +kernel) rfl rfl (Ext.refl _).drew ?_
    simp only [List.dropLast]
    repeat (apply tame_q rfl; (intro ρ W hC hr hD; (obtain ⟨hrc, hrg, hrf, hrs⟩ := hr); (simp [go_sem] at hD); go_simp; first | exact ⟨⟨hC, Ext.refl _⟩, rfl⟩ | exact ⟨⟨hC, RS.refl _⟩, rfl⟩ | exact rfl); simp only [List.nil_append, List.cons_append])
    refine tame_end 27 rfl rfl (fun ρ W hC hr hF => ?_)
    obtain ⟨hrc, hrg, hrf, hrs⟩ := hr
    simp [go_sem] at hF
    apply frame_to
    · go_simp
      exact rfl
    clear hF hrs hrc hrg hrf k0 k1
    have HBW := Lib.hid (HBR.out.ext hC)
    have HEC := Lib.hid (HEW.out.trans hC)
    have t0 := HBW.out.cell 0
    have t1 := HBW.out.cell 1
    have tf := HBW.out.frozen
    have tl := HBW.out.lt
    simp at t0 t1
    clear hC
    go_wp2
    refine ret_set2 HBW.out fun W ⟨b0, b1⟩ hW => ?_
    refine bodyPost_ret (v := .tuple #[valS ⟨x, y⟩, .int .i64 0]) (by simp [results, Tryd.results28, go_sem, b0, b1]) rfl ?_
    exact ⟨by rw [HL.out, HX.out, HZ.out], ext_grown HEC.out hW (by omega)⟩
  · have HL := Lib.hid (show dryB b = ⟨0, 0⟩ by unfold dryB; rw [if_neg hz9])
    clear hsl
    generalize hE9 : askE b true 0 = E at hz9
    have HE9 := Lib.hid hE9; clear hE9
    have t0 := HBR.out.cell 0
    have t1 := HBR.out.cell 1
    have tf := HBR.out.frozen
    have tl := HBR.out.lt
    simp at t0 t1
    go_wp2
    refine ret_set2 HBR.out fun W ⟨b0, b1⟩ hW => ?_
    refine bodyPost_ret (v := .tuple #[valS ⟨0, 0⟩, .int .i64 E]) (by simp [results, Tryd.results28, go_sem, b0, b1]) rfl ?_
    exact ⟨by rw [HL.out, HE9.out], ext_grown HEW.out hW (by omega)⟩
end Go.Proofs.YtdlipbobfgdleaaDoor
/- core.Pays and the reference's. -/
namespace Go.Proofs.YtdlipbobfgdleaaDoor
open Go.RowKit Go.Shelf
set_option maxRecDepth 100000
set_option linter.unusedSimpArgs false

def payOf (l : List Int) (r : Int) : Span := ⟨weight (dryOf l).lo r, weight (dryOf l).hi r⟩
def payB (b : Bale) (r : Int) : Span := if askE b (inB 0 200 r) 35 = 0 then payOf (dries b) r else ⟨0, 0⟩
theorem ok_pos {b : Bale} (h : okB b = true) : 0 < (dries b).length := by
  unfold okB at h
  cases hd : dries b with
  | nil => rw [hd] at h; simp at h
  | cons x l => simp
theorem dries_bd {b : Bale} {x : Int} (h : x ∈ dries b) : b.dry.lo ≤ x ∧ x ≤ b.dry.hi := by
  unfold dries driesTo at h
  simp only [List.mem_filter, List.mem_map, List.mem_range] at h
  obtain ⟨⟨i, hi, rfl⟩, _⟩ := h
  omega
theorem f87_any (r : Int) (g : Nat) (w : World) (h1 : w.cell? ⟨g, 0, none⟩ = some (.int .i64 r)) :
    Calls Tryd.prog 87 #[.pointer (some ⟨g, 0, none⟩)] w fun e w' => e = .returned (.bool (inB 0 200 r)) ∧ Ext w w' := by
  go_enter Tryd.func87, Tryd.ntmps87
  go_wp2_with fail
  refine (in1_any 0 200 r _ _ (by simp) (by simp [go_sem])).mono ?_
  rintro e w1 ⟨rfl, hb⟩
  have HB := Lib.hid hb; clear hb
  go_wp2
  go_ret
  exact ⟨rfl, (Ext.al _ _).trans HB.out⟩

set_option maxHeartbeats 1000000 in
theorem pays_any (b : Bale) (r : Int) (dv wv : Value) (w : World) (hT : Tab w) (hd : SlD w dv b.draws) (hw : SlW w wv b.weighs) :
    Calls Tryd.prog 31 #[valB b dv wv, .int .i64 r] w fun e w' => e = .returned (.tuple #[valS (payB b r), .int .i64 (askE b (inB 0 200 r) 35)]) ∧ Ext w w' := by
  have HT := Lib.hid hT
  have HD := Lib.hid hd
  have HW := Lib.hid hw
  obtain ⟨A, n, cp, rfl, hn, hlc, hcm⟩ := hd.form
  obtain ⟨A2, n2, cp2, rfl, hn2, hlc2, hcm2⟩ := hw.form
  clear hd hw hT
  go_enter Tryd.func31, Tryd.ntmps31
  go_wp2_with fail
  refine (asked_fn b _ _ _ 87 _ (enters_of Tryd.func87 (by kernel_rfl) rfl) (inB 0 200 r) 35 (by decide) (fun hv W hW => f87_any r _ W ((hW.cell (p := ⟨w.heap.size + 1, 0, none⟩) (by simp)).trans (by simp [go_sem]))) (((HT.out.ext (Ext.al _ _)).ext (Ext.al _ _)).ext (Ext.al _ _)) (((HD.out.ext (Ext.al _ _)).ext (Ext.al _ _)).ext (Ext.al _ _)) (((HW.out.ext (Ext.al _ _)).ext (Ext.al _ _)).ext (Ext.al _ _))).mono ?_
  rintro e w1 ⟨pv, rfl, hpv, hpz, hE⟩
  have HEW := Lib.hid ((((Ext.al w _).alloc _).alloc _ : Ext w _).trans hE)
  have HBR := Lib.hid ((Blk.at_ (t := 23) (cs := #[.int .i64 0, .int .i64 0]) (w := (w.alloc (.cells #[.int .i64 b.id, .int .i64 b.layers, .int .i64 b.dry.lo, .int .i64 b.dry.hi, .slice A n cp, .slice A2 n2 cp2] 27)).alloc (.cells #[.int .i64 r] 3)) (g := w.heap.size + 2) (by simp)).ext hE)
  have HBD := Lib.hid (((Blk.at_ (t := 3) (cs := #[.int .i64 r]) (w := w.alloc (.cells #[.int .i64 b.id, .int .i64 b.layers, .int .i64 b.dry.lo, .int .i64 b.dry.hi, .slice A n cp, .slice A2 n2 cp2] 27)) (g := w.heap.size + 1) (by simp)).alloc _).ext hE)
  clear hE
  have d0 := HBD.out.cell 0
  have dl := HBD.out.lt
  simp at d0
  by_cases hz9 : askE b (inB 0 200 r) 35 = 0
  · obtain ⟨sv, lv, rfl, hs, hl⟩ := hpv hz9
    obtain ⟨h1, h2, h3⟩ := askE_zero hz9 (by decide)
    have hpos := ok_pos h3
    have hb5 := valid_bds h1
    have hrb : 0 ≤ r ∧ r ≤ 200 := by unfold inB at h2; simpa using h2
    have HL := Lib.hid (show payB b r = payOf (dries b) r by unfold payB; rw [if_pos hz9])
    obtain ⟨As, ns, cs, rfl, hns, hsc, hsm⟩ := hs.form
    obtain ⟨Al, nl, cl, rfl, hnl, hlc', hlm⟩ := hl.form
    obtain ⟨m, rfl⟩ : ∃ m, nl = m + 1 := ⟨nl - 1, by have := hnl.out; omega⟩
    have hnl0 : 0 < m + 1 := by omega
    obtain ⟨bb, off, x, rfl, hx, hbb, hcell⟩ := hl.at_ hnl0
    obtain ⟨bb', off', y, e1, hy, hbb', hcell'⟩ := hl.at_ (show m < m + 1 by omega)
    injection e1 with e1
    injection e1 with e1 e2
    subst e1 e2
    have bx := dries_bd (List.mem_of_getElem? hx)
    have by' := dries_bd (List.mem_of_getElem? hy)
    have x0 : 0 ≤ x ∧ x ≤ 1000000 := by have := hb5.lo; have := hb5.hi; omega
    have y0 : 0 ≤ y ∧ y ≤ 1000000 := by have := hb5.lo; have := hb5.hi; omega
    have c0 := fun W h => Sl.int hcell W h
    have c1 := fun W h => Sl.int hcell' W h
    have HX := Lib.hid (show payOf (dries b) r = ⟨weight x r, weight y r⟩ by unfold payOf dryOf; rw [hx, show (dries b).length - 1 = m by have := hnl.out; omega, hy]; rfl)
    have HZ := Lib.hid hz9
    have HR := Lib.hid (show 0 ≤ r ∧ r ≤ 200 from hrb)
    have HXB := Lib.hid x0
    have HYB := Lib.hid y0
    have hnz : (0 : Int) < (m : Int) + 1 := by omega
    have hm0 : (0 : Int) ≤ (m : Int) := by omega
    have hm1 : (m : Int) < (m : Int) + 1 := by omega
    have hwr : IntKind.i64.wrap (m : Int) = (m : Int) := by simp [IntKind.wrap, IntKind.signed, IntKind.bits]; omega
    clear hx hy hpv hpz hs hl hcell hcell' hpos h1 h2 h3 hb5 hrb bx by' x0 y0
    rw [hz9]
    dsimp only [valP]
    clear hz9
    have m7 := fun W (h : Ext (w1.alloc (.cells #[.int .i64 b.id, .int .i64 b.layers, .int .i64 b.dry.lo, .int .i64 b.dry.hi, .slice A n cp, .slice A2 n2 cp2, .slice As ns cs, .slice (some ⟨bb, off, none⟩) (m + 1) cl] 106)) W) => (h.cells.1 w1.heap.size 7 (by simp)).trans (show _ = some (.slice (some ⟨bb, off, none⟩) (m + 1) cl) by simp [go_sem])
    have k0 := fun W (h : Ext (w1.alloc (.cells #[.int .i64 b.id, .int .i64 b.layers, .int .i64 b.dry.lo, .int .i64 b.dry.hi, .slice A n cp, .slice A2 n2 cp2, .slice As ns cs, .slice (some ⟨bb, off, none⟩) (m + 1) cl] 106)) W) => c0 W ((Ext.al _ _).trans h)
    have k1 := fun W (h : Ext (w1.alloc (.cells #[.int .i64 b.id, .int .i64 b.layers, .int .i64 b.dry.lo, .int .i64 b.dry.hi, .slice A n cp, .slice A2 n2 cp2, .slice As ns cs, .slice (some ⟨bb, off, none⟩) (m + 1) cl] 106)) W) => c1 W ((Ext.al _ _).trans h)
    have kd := fun W (h : Ext (w1.alloc (.cells #[.int .i64 b.id, .int .i64 b.layers, .int .i64 b.dry.lo, .int .i64 b.dry.hi, .slice A n cp, .slice A2 n2 cp2, .slice As ns cs, .slice (some ⟨bb, off, none⟩) (m + 1) cl] 106)) W) => (h.cells.1 (w.heap.size + 1) 0 (by simp; omega)).trans (show _ = some (.int .i64 r) by simp [go_sem, dl, d0])
    simp only [Nat.add_zero] at k0
    clear c0 c1 d0
    go_wp2
    refine wp_region_tame_cut2 (fun W => Ext (w1.alloc (.cells #[.int .i64 b.id, .int .i64 b.layers, .int .i64 b.dry.lo, .int .i64 b.dry.hi, .slice A n cp, .slice A2 n2 cp2, .slice As ns cs, .slice (some ⟨bb, off, none⟩) (m + 1) cl] 106)) W) (fun W W' => Ext W W') (by kernel_rfl) 35 rfl _ _ rfl rfl (by decide +kernel) (by decide +kernel) (by decide +kernel) (by decide +kernel) (by decide +kernel) rfl rfl (Ext.refl _).drew ?_
    simp only [List.dropLast]
    repeat (apply tame_q rfl; (intro ρ W hC hr hD; (obtain ⟨hrc, hrg, hrf, hrs⟩ := hr); (simp [go_sem] at hD); go_simp; first | exact ⟨⟨hC, Ext.refl _⟩, rfl⟩ | exact ⟨⟨hC, RS.refl _⟩, rfl⟩ | exact rfl); simp only [List.nil_append, List.cons_append])
    apply tame_q rfl
    · intro ρ W hC hr hD
      obtain ⟨hrc, hrg, hrf, hrs⟩ := hr
      simp [go_sem] at hD
      go_simp
      refine (f88_any x r _ HXB.out.1 HXB.out.2 HR.out.1 (by have := HR.out; omega)).mono ?_
      rintro e w' ⟨rfl, rfl⟩
      exact ⟨_, rfl, ⟨hC, Ext.refl _⟩, rfl⟩
    simp only [List.nil_append, List.cons_append]
    repeat (apply tame_q rfl; (intro ρ W hC hr hD; (obtain ⟨hrc, hrg, hrf, hrs⟩ := hr); (simp [go_sem] at hD); go_simp; first | exact ⟨⟨hC, Ext.refl _⟩, rfl⟩ | exact ⟨⟨hC, RS.refl _⟩, rfl⟩ | exact rfl); simp only [List.nil_append, List.cons_append])
    apply tame_q rfl
    · intro ρ W hC hr hD
      obtain ⟨hrc, hrg, hrf, hrs⟩ := hr
      simp [go_sem] at hD
      go_simp
      refine (f88_any y r _ HYB.out.1 HYB.out.2 HR.out.1 (by have := HR.out; omega)).mono ?_
      rintro e w' ⟨rfl, rfl⟩
      exact ⟨_, rfl, ⟨hC, Ext.refl _⟩, rfl⟩
    simp only [List.nil_append, List.cons_append]
    repeat (apply tame_q rfl; (intro ρ W hC hr hD; (obtain ⟨hrc, hrg, hrf, hrs⟩ := hr); (simp [go_sem] at hD); go_simp; first | exact ⟨⟨hC, Ext.refl _⟩, rfl⟩ | exact ⟨⟨hC, RS.refl _⟩, rfl⟩ | exact rfl); simp only [List.nil_append, List.cons_append])
    refine tame_end 35 rfl rfl (fun ρ W hC hr hF => ?_)
    obtain ⟨hrc, hrg, hrf, hrs⟩ := hr
    simp [go_sem] at hF
    apply frame_to
    · go_simp
      exact rfl
    clear hF hrs hrc hrg hrf m7 k0 k1 kd
    have HBW := Lib.hid ((HBR.out.alloc _).ext hC)
    have HEC := Lib.hid ((HEW.out.alloc _).trans hC)
    have t0 := HBW.out.cell 0
    have t1 := HBW.out.cell 1
    have tf := HBW.out.frozen
    have tl := HBW.out.lt
    simp at t0 t1
    clear hC
    go_wp2
    refine ret_set2 HBW.out fun W ⟨b0, b1⟩ hW => ?_
    refine bodyPost_ret (v := .tuple #[valS ⟨weight x r, weight y r⟩, .int .i64 0]) (by simp [results, Tryd.results31, go_sem, b0, b1]) rfl ?_
    exact ⟨by rw [HL.out, HX.out, HZ.out], ext_grown HEC.out hW (by omega)⟩
  · have := hpz hz9
    subst this
    have HL := Lib.hid (show payB b r = ⟨0, 0⟩ by unfold payB; rw [if_neg hz9])
    clear hpz hpv
    generalize hE9 : askE b (inB 0 200 r) 35 = E at hz9
    have HE9 := Lib.hid hE9; clear hE9
    have t0 := HBR.out.cell 0
    have t1 := HBR.out.cell 1
    have tf := HBR.out.frozen
    have tl := HBR.out.lt
    simp at t0 t1
    go_wp2
    refine ret_set2a HBR.out fun W ⟨b0, b1⟩ hW => ?_
    refine bodyPost_ret (v := .tuple #[valS ⟨0, 0⟩, .int .i64 E]) (by simp [results, Tryd.results31, go_sem, b0, b1]) rfl ?_
    exact ⟨by rw [HL.out, HE9.out], ext_grown HEW.out hW (by omega)⟩

set_option maxHeartbeats 1000000 in
theorem refPays_any (b : Bale) (r : Int) (dv wv : Value) (w : World) (hd : SlD w dv b.draws) (hw : SlW w wv b.weighs) :
    Calls Tryd.prog 32 #[valB b dv wv, .int .i64 r] w fun e w' => e = .returned (.tuple #[valS (payB b r), .int .i64 (askE b (inB 0 200 r) 35)]) ∧ Ext w w' := by
  have HD := Lib.hid hd
  have HW := Lib.hid hw
  obtain ⟨A, n, cp, rfl, hn, hlc, hcm⟩ := hd.form
  obtain ⟨A2, n2, cp2, rfl, hn2, hlc2, hcm2⟩ := hw.form
  clear hd hw
  go_enter Tryd.func32, Tryd.ntmps32
  go_wp2_with fail
  refine (refBale_v b _ _ _ ((HD.out.ext (Ext.al _ _)).ext (Ext.al _ _)) ((HW.out.ext (Ext.al _ _)).ext (Ext.al _ _))).mono ?_
  rintro e w1 ⟨rfl, hE⟩
  obtain ⟨hc, hf, hz, HE⟩ := hE.use
  have HE1 := Lib.hid (((Ext.al w _).alloc _ : Ext w _).trans HE.out)
  have hz0 : w.heap.size + 1 < w1.heap.size := by simp at hz; omega
  have hz1 : w.heap.size < w1.heap.size := by omega
  have HBR := Lib.hid ((Blk.at_ (t := 23) (cs := #[.int .i64 0, .int .i64 0]) (w := w.alloc (.cells #[.int .i64 b.id, .int .i64 b.layers, .int .i64 b.dry.lo, .int .i64 b.dry.hi, .slice A n cp, .slice A2 n2 cp2] 27)) (g := w.heap.size + 1) (by simp)).ext HE.out)
  cases hv : valid b with
  | false =>
    have HV := Lib.hid hv; clear hv
    go_wp2
    refine ret_set2 HBR.out fun W ⟨b0, b1⟩ hW => ?_
    refine bodyPost_ret (v := .tuple #[valS ⟨0, 0⟩, .int .i64 30]) (by simp [results, Tryd.results32, go_sem, b0, b1]) rfl ?_
    have hE : askE b (inB 0 200 r) 35 = 30 := by unfold askE; rw [HV.out]; rfl
    exact ⟨by unfold payB; rw [hE]; rfl, ext_grown HE1.out hW (by omega)⟩
  | true =>
    have HV := Lib.hid hv; clear hv
    generalize hi : inB 0 200 r = q
    have HI := Lib.hid hi; clear hi
    go_wp2_with fail
    refine (within_any r 0 200 _).mono ?_
    rintro e w' ⟨rfl, rfl⟩
    rw [HI.out]
    cases q with
    | false =>
      go_wp2
      refine ret_set2 HBR.out fun W ⟨b0, b1⟩ hW => ?_
      refine bodyPost_ret (v := .tuple #[valS ⟨0, 0⟩, .int .i64 35]) (by simp [results, Tryd.results32, go_sem, b0, b1]) rfl ?_
      have hE : askE b (inB 0 200 r) 35 = 35 := by unfold askE; rw [HV.out, HI.out]; rfl
      exact ⟨by unfold payB; rw [hE]; rfl, ext_grown HE1.out hW (by omega)⟩
    | true =>
      have HA := Lib.hid (askE_true HV.out 35)
      go_wp2_with fail
      refine (refDry_any b _ _ _ (HD.out.ext HE1.out) (HW.out.ext HE1.out)).mono ?_
      rintro e w2 ⟨rfl, hE2⟩
      have HE2 := Lib.hid (HE1.out.trans hE2)
      have HBR2 := Lib.hid (HBR.out.ext hE2)
      have t0 := HBR2.out.cell 0
      have t1 := HBR2.out.cell 1
      have tf := HBR2.out.frozen
      have tl := HBR2.out.lt
      simp at t0 t1
      clear hc hf hE2
      dsimp only [valS]
      by_cases hz9 : askE b true 0 = 0
      · have HZ := Lib.hid hz9
        have hb5 := valid_bds HV.out
        have hrb : 0 ≤ r ∧ r ≤ 200 := by have := HI.out; unfold inB at this; simpa using this
        have hpos := dries_pos hz9
        obtain ⟨x, hx⟩ : ∃ x, (dries b)[0]? = some x := ⟨_, List.getElem?_eq_getElem hpos⟩
        obtain ⟨y, hy⟩ : ∃ y, (dries b)[(dries b).length - 1]? = some y := ⟨_, List.getElem?_eq_getElem (by omega)⟩
        have bx := dries_bd (List.mem_of_getElem? hx)
        have by' := dries_bd (List.mem_of_getElem? hy)
        have HXB := Lib.hid (show 0 ≤ x ∧ x ≤ 1000000 by have := hb5.lo; have := hb5.hi; omega)
        have HYB := Lib.hid (show 0 ≤ y ∧ y ≤ 1000000 by have := hb5.lo; have := hb5.hi; omega)
        have HR := Lib.hid hrb
        have hdo : dryOf (dries b) = ⟨x, y⟩ := by unfold dryOf; rw [hx, hy]; rfl
        have hdb : dryB b = ⟨x, y⟩ := by unfold dryB; rw [if_pos hz9, hdo]
        have HP := Lib.hid (show payB b r = ⟨weight x r, weight y r⟩ by unfold payB payOf; rw [HI.out, HA.out, if_pos hz9, hdo])
        rw [hdb, hz9]
        clear hx hy bx by' hpos hz9 hdo hdb hb5 hrb
        have k0 := fun W (h : Ext (w2.alloc (.cells #[.int .i64 x, .int .i64 y] 23)) W) => (h.cells.1 w2.heap.size 0 (by simp)).trans (show _ = some (.int .i64 x) by simp [go_sem])
        have k1 := fun W (h : Ext (w2.alloc (.cells #[.int .i64 x, .int .i64 y] 23)) W) => (h.cells.1 w2.heap.size 1 (by simp)).trans (show _ = some (.int .i64 y) by simp [go_sem])
        go_wp2
        refine wp_region_tame_cut2 (fun W => Ext (w2.alloc (.cells #[.int .i64 x, .int .i64 y] 23)) W) (fun W W' => Ext W W') (by kernel_rfl) 34 rfl _ _ rfl rfl (by decide +kernel) (by decide +kernel) (by decide +kernel) (by decide +kernel) (by decide +kernel) rfl rfl (Ext.refl _).drew ?_
        simp only [List.dropLast]
        repeat (apply tame_q rfl; (intro ρ W hC hr hD; (obtain ⟨hrc, hrg, hrf, hrs⟩ := hr); (simp [go_sem] at hD); go_simp; first | exact ⟨⟨hC, Ext.refl _⟩, rfl⟩ | exact ⟨⟨hC, RS.refl _⟩, rfl⟩ | exact rfl); simp only [List.nil_append, List.cons_append])
        apply tame_q rfl
        · intro ρ W hC hr hD
          obtain ⟨hrc, hrg, hrf, hrs⟩ := hr
          simp [go_sem] at hD
          go_simp
          refine (f60_any x r _ HXB.out.1 HXB.out.2 HR.out.1 (by have := HR.out; omega)).mono ?_
          rintro e w' ⟨rfl, rfl⟩
          exact ⟨_, rfl, ⟨hC, Ext.refl _⟩, rfl⟩
        simp only [List.nil_append, List.cons_append]
        repeat (apply tame_q rfl; (intro ρ W hC hr hD; (obtain ⟨hrc, hrg, hrf, hrs⟩ := hr); (simp [go_sem] at hD); go_simp; first | exact ⟨⟨hC, Ext.refl _⟩, rfl⟩ | exact ⟨⟨hC, RS.refl _⟩, rfl⟩ | exact rfl); simp only [List.nil_append, List.cons_append])
        apply tame_q rfl
        · intro ρ W hC hr hD
          obtain ⟨hrc, hrg, hrf, hrs⟩ := hr
          simp [go_sem] at hD
          go_simp
          refine (f60_any y r _ HYB.out.1 HYB.out.2 HR.out.1 (by have := HR.out; omega)).mono ?_
          rintro e w' ⟨rfl, rfl⟩
          exact ⟨_, rfl, ⟨hC, Ext.refl _⟩, rfl⟩
        simp only [List.nil_append, List.cons_append]
        repeat (apply tame_q rfl; (intro ρ W hC hr hD; (obtain ⟨hrc, hrg, hrf, hrs⟩ := hr); (simp [go_sem] at hD); go_simp; first | exact ⟨⟨hC, Ext.refl _⟩, rfl⟩ | exact ⟨⟨hC, RS.refl _⟩, rfl⟩ | exact rfl); simp only [List.nil_append, List.cons_append])
        refine tame_end 34 rfl rfl (fun ρ W hC hr hF => ?_)
        obtain ⟨hrc, hrg, hrf, hrs⟩ := hr
        simp [go_sem] at hF
        apply frame_to
        · go_simp
          exact rfl
        clear hF hrs hrc hrg hrf k0 k1 t0 t1 tf tl
        have HBW := Lib.hid ((HBR2.out.alloc _).ext hC)
        have HEC := Lib.hid ((HE2.out.alloc _).trans hC)
        have t0 := HBW.out.cell 0
        have t1 := HBW.out.cell 1
        have tf := HBW.out.frozen
        have tl := HBW.out.lt
        simp at t0 t1
        clear hC
        go_wp2
        refine ret_set2 HBW.out fun W ⟨b0, b1⟩ hW => ?_
        refine bodyPost_ret (v := .tuple #[valS ⟨weight x r, weight y r⟩, .int .i64 0]) (by simp [results, Tryd.results32, go_sem, b0, b1]) rfl ?_
        exact ⟨by rw [HI.out, HP.out, HA.out, HZ.out], ext_grown HEC.out hW (by omega)⟩
      · have HL := Lib.hid (show payB b r = ⟨0, 0⟩ by unfold payB; rw [HI.out, HA.out, if_neg hz9])
        have hdb : dryB b = ⟨0, 0⟩ := by unfold dryB; rw [if_neg hz9]
        rw [hdb]
        generalize hE9 : askE b true 0 = E at hz9
        have HE9 := Lib.hid hE9; clear hE9
        go_wp2
        refine ret_set2a HBR2.out fun W ⟨b0, b1⟩ hW => ?_
        refine bodyPost_ret (v := .tuple #[valS ⟨0, 0⟩, .int .i64 E]) (by simp [results, Tryd.results32, go_sem, b0, b1]) rfl ?_
        exact ⟨by rw [HI.out, HL.out, HA.out, HE9.out], ext_grown HE2.out hW (by omega)⟩
end Go.Proofs.YtdlipbobfgdleaaDoor
/- How damp a bale was: slices.Index at numbers, the place of a weighing, core.damp. -/
namespace Go.Proofs.YtdlipbobfgdleaaDoor
open Go.RowKit Go.Shelf
set_option maxRecDepth 100000
set_option linter.unusedSimpArgs false

set_option maxHeartbeats 400000 in
theorem f82_any (l : List Int) (x : Int) (v : Value) (w : World) (hs : SlI w v l) :
    Calls Tryd.prog 82 #[v, .int .i64 x] w fun e w' => e = .returned (.int .i64 (idxF (fun y => decide (x = y)) l)) ∧ Ext w w' := by
  obtain ⟨A, n, c, rfl, hn, hlc, hcm⟩ := hs.form
  go_enter Tryd.func82, Tryd.ntmps82
  go_wp2
  go_loopg [5, 8] n (fun gg _ s8 wr => ∃ kk : Nat, kk ≤ n ∧ n - kk ≤ gg ∧ s8 = .int .i64 kk ∧ Aside (Ext w wr) ∧ Aside (∀ j y, j < kk → l[j]? = some y → decide (x = y) = false))
  case atStart => exact ⟨0, Nat.zero_le _, by omega, rfl, Ext.refl w, fun j y hj => absurd hj (Nat.not_lt_zero _)⟩
  case round =>
    obtain ⟨kk, hkk, hg, rfl, BW, FA⟩ := hrel
    by_cases hlt : kk < n
    · have hltz : (kk : Int) < (n : Int) := by omega
      obtain ⟨b, off, y, rfl, hx, hb, hcell⟩ := hs.at_ hlt
      have c0 := SlI.cell hcell BW.out
      have HX := Lib.hid hx; clear hx hcell hs
      by_cases hq : x = y
      · have HQ := Lib.hid (show decide (x = y) = true by simp [hq])
        go_wp2
        go_ret
        exact ⟨by rw [idxF_some _ l kk y HX.out HQ.out FA.out]; rfl, BW.out⟩
      · have HQ := Lib.hid (show decide (x = y) = false by simp [hq])
        go_wp2
        go_roundg (n - (kk + 1))
        case measure => omega
        case rel => exact ⟨kk + 1, by omega, by omega, rfl, BW.out, fun j z hj hz => by
          rcases Nat.lt_succ_iff_lt_or_eq.1 hj with h | rfl
          · exact FA.out j z h hz
          · rw [HX.out] at hz; cases hz; exact HQ.out⟩
    · have HE := Lib.hid (show kk = n by omega); clear hs
      go_wp2
      go_ret
      exact ⟨by rw [idxF_none _ l (fun x hx => by obtain ⟨j, hj⟩ := List.getElem?_of_mem hx; exact FA.out j x (by have := (List.getElem?_eq_some_iff.1 hj).1; have := HE.out; have := hn.out; omega) hj)]; rfl, BW.out⟩

/-- The place of a weighing. -/
def wIdx (b : Bale) (number : Int) : Int := idxF (fun x : Weigh => decide (x.number = number)) b.weighs
theorem wIdx_eq (b : Bale) (number : Int) : idxF (fun y => decide (number = y)) (b.weighs.map (·.number)) = wIdx b number := by
  unfold wIdx idxF
  rw [List.findIdx?_map]
  congr 1
  congr 1
  funext x
  simp [Function.comp, eq_comm]

set_option maxHeartbeats 400000 in
theorem f86_any (b : Bale) (number : Int) (dv wv : Value) (w : World) (hd : SlD w dv b.draws) (hw : SlW w wv b.weighs) :
    Calls Tryd.prog 86 #[valB b dv wv, .int .i64 number] w fun e w' => e = .returned (.int .i64 (wIdx b number)) ∧ Ext w w' := by
  obtain ⟨A, n, cp, rfl, hn, hlc, hcm⟩ := hd.form
  obtain ⟨A2, n2, cp2, rfl, hn2, hlc2, hcm2⟩ := hw.form
  go_enter Tryd.func86, Tryd.ntmps86
  go_wp2
  go_loopg [5] n2 (fun gg s wr => ∃ kk : Nat, kk ≤ n2 ∧ n2 - kk ≤ gg ∧ s = .int .i64 kk ∧ Aside (Ext (w.alloc (.cells #[.int .i64 b.id, .int .i64 b.layers, .int .i64 b.dry.lo, .int .i64 b.dry.hi, .slice A n cp, .slice A2 n2 cp2] 27)) wr) ∧ Aside (∀ j y, j < kk → b.weighs[j]? = some y → decide (y.number = number) = false))
  case atStart => exact ⟨0, Nat.zero_le _, by omega, rfl, Ext.refl _, fun j y hj => absurd hj (Nat.not_lt_zero _)⟩
  case round =>
    obtain ⟨kk, hkk, hg, rfl, BW, FA⟩ := hrel
    have q5 := (BW.out.cells.1 w.heap.size 5 (by simp)).trans (show _ = some (.slice A2 n2 cp2) by simp [go_sem])
    by_cases hlt : kk < n2
    · have hltz : (kk : Int) < (n2 : Int) := by omega
      obtain ⟨bb, off, y, rfl, hx, hb, hcell⟩ := hw.at_ hlt
      obtain ⟨c0, c1, c2, c3⟩ := SlW.cells hcell ((Ext.al _ _).trans BW.out)
      have HX := Lib.hid hx; clear hx hcell hw hd
      by_cases hq : y.number = number
      · have HQ := Lib.hid (show decide (y.number = number) = true by simp [hq])
        go_wp2
        go_ret
        exact ⟨by unfold wIdx; rw [idxF_some _ b.weighs kk y HX.out HQ.out FA.out]; rfl, (Ext.al _ _).trans BW.out⟩
      · have HQ := Lib.hid (show decide (y.number = number) = false by simp [hq])
        go_wp2
        go_roundg (n2 - (kk + 1))
        case measure => omega
        case rel => exact ⟨kk + 1, by omega, by omega, rfl, BW.out, fun j z hj hz => by
          rcases Nat.lt_succ_iff_lt_or_eq.1 hj with h | rfl
          · exact FA.out j z h hz
          · rw [HX.out] at hz; cases hz; exact HQ.out⟩
    · have HE := Lib.hid (show kk = n2 by omega); clear hw hd
      go_wp2
      go_ret
      exact ⟨by unfold wIdx; rw [idxF_none _ b.weighs (fun x hx => by obtain ⟨j, hj⟩ := List.getElem?_of_mem hx; exact FA.out j x (by have := (List.getElem?_eq_some_iff.1 hj).1; have := HE.out; have := hn2.out; omega) hj)]; rfl, (Ext.al _ _).trans BW.out⟩

theorem f84_any (i : Int) (g : Nat) (w : World) (h1 : w.cell? ⟨g, 0, none⟩ = some (.int .i64 i)) :
    Calls Tryd.prog 84 #[.pointer (some ⟨g, 0, none⟩)] w fun e w' => e = .returned (.bool (decide (0 ≤ i))) ∧ Ext w w' := by
  go_enter Tryd.func84, Tryd.ntmps84
  by_cases h : 0 ≤ i
  · go_wp2
    go_ret
    exact ⟨by simp [h], Ext.refl _⟩
  · go_wp2
    go_ret
    exact ⟨by simp [h], Ext.refl _⟩

/-! How damp a bale of a dry weight was. -/
def rsOf (x : Weigh) : List Int := (List.range (x.damp.hi - x.damp.lo + 1).toNat).map fun (i : Nat) => x.damp.lo + (i : Int)
def dLo (d : Int) (x : Weigh) : Int := ((rsOf x).find? fun r => decide (x.pounds ≤ weight d r)).getD 0
def dHi (d : Int) (x : Weigh) : Int := (((List.range (x.damp.hi - x.damp.lo + 1).toNat).map fun (i : Nat) => x.damp.hi - (i : Int)).find? fun r => decide (weight d r ≤ x.pounds)).getD 0
theorem mem_rs {x : Weigh} {r : Int} : r ∈ rsOf x ↔ x.damp.lo ≤ r ∧ r ≤ x.damp.hi := by
  unfold rsOf
  simp only [List.mem_map, List.mem_range]
  constructor
  · rintro ⟨i, hi, rfl⟩; omega
  · rintro ⟨h1, h2⟩; exact ⟨(r - x.damp.lo).toNat, by omega, by omega⟩
theorem find_at {n : Nat} {f : Nat → Int} {p : Int → Bool} {k : Nat} (hk : k < n) (h1 : p (f k) = true) (h2 : ∀ j, j < k → p (f j) = false) : ((List.range n).map f).find? p = some (f k) := by
  rw [List.find?_map, Option.map_eq_some_iff]
  refine ⟨k, ?_, rfl⟩
  rw [List.find?_range_eq_some]
  exact ⟨h1, by simpa using hk, fun j hj => by simp only [Function.comp]; rw [h2 j hj]; rfl⟩
/-- Found from below. -/
theorem dLo_of {d lo : Int} {x : Weigh} (h1 : x.damp.lo ≤ lo) (h2 : lo ≤ x.damp.hi) (h3 : x.pounds ≤ weight d lo) (h4 : ∀ r, x.damp.lo ≤ r → r < lo → weight d r < x.pounds) : dLo d x = lo := by
  unfold dLo rsOf
  have e : x.damp.lo + ((lo - x.damp.lo).toNat : Int) = lo := by omega
  rw [find_at (k := (lo - x.damp.lo).toNat) (by omega) (by rw [e]; simpa using h3) (fun j hj => by
    have := h4 (x.damp.lo + j) (by omega) (by omega)
    simp only [decide_eq_false_iff_not]
    omega), e]
  rfl
/-- Found from above. -/
theorem dHi_of {d hi : Int} {x : Weigh} (h1 : x.damp.lo ≤ hi) (h2 : hi ≤ x.damp.hi) (h3 : weight d hi ≤ x.pounds) (h4 : ∀ r, hi < r → r ≤ x.damp.hi → x.pounds < weight d r) : dHi d x = hi := by
  unfold dHi
  have e : x.damp.hi - ((x.damp.hi - hi).toNat : Int) = hi := by omega
  rw [find_at (k := (x.damp.hi - hi).toNat) (by omega) (by rw [e]; simpa using h3) (fun j hj => by
    have := h4 (x.damp.hi - j) (by omega) (by omega)
    simp only [decide_eq_false_iff_not]
    omega), e]
  rfl
end Go.Proofs.YtdlipbobfgdleaaDoor
/- core.damp. -/
namespace Go.Proofs.YtdlipbobfgdleaaDoor
open Go.RowKit Go.Shelf
set_option maxRecDepth 100000
set_option linter.unusedSimpArgs false

theorem ret_set2v {P : Program} {fn : Func} {R : Ending → World → Prop} {ex : Exit} {a : Act} {w1 : World} {g : Nat} {t : TypeId} {x0 x1 y0 y1 : Value} (hB : Blk w1 g t #[x0, x1])
    (h : ∀ W, (W.cell? ⟨g, 0, none⟩ = some y0 ∧ W.cell? ⟨g, 1, none⟩ = some y1) → w1.grownBy W (some g) → bodyPost P fn R ex a W) :
    bodyPost P fn R ex a ((w1.setCell ⟨g, 0, none⟩ y0).setCell ⟨g, 1, none⟩ y1) := ret_set2 hB h

set_option maxHeartbeats 2000000 in
theorem damp_any (d : Int) (x : Weigh) (w : World) (hd0 : 0 ≤ d) (hd1 : d ≤ 1000000) (hx0 : 0 ≤ x.damp.lo) (hx1 : x.damp.hi ≤ 1000) (hx2 : x.damp.lo ≤ x.damp.hi) (hc : could d x = true) :
    Calls Tryd.prog 85 #[.int .i64 d, valW x] w fun e w' => e = .returned (valS ⟨dLo d x, dHi d x⟩) ∧ Ext w w' := by
  have HC := Lib.hid (show weight d x.damp.lo ≤ x.pounds ∧ x.pounds ≤ weight d x.damp.hi by unfold could inB at hc; simpa using hc)
  clear hc
  go_enter Tryd.func85, Tryd.ntmps85
  dsimp only [valW]
  go_wp2
  go_loopg [] (x.damp.hi - x.damp.lo).toNat (fun gg wr => ∃ lo : Int, x.damp.lo ≤ lo ∧ lo ≤ x.damp.hi ∧ (x.damp.hi - lo).toNat ≤ gg ∧ Aside (∀ r, x.damp.lo ≤ r → r < lo → weight d r < x.pounds) ∧ Aside (Ext w wr) ∧
    Aside (Blk wr w.heap.size 65 #[.int .i64 x.number, .int .i64 x.pounds, .int .i64 x.damp.lo, .int .i64 x.damp.hi]) ∧ Aside (Blk wr (w.heap.size + 1) 23 #[.int .i64 0, .int .i64 0]) ∧ Aside (Blk wr (w.heap.size + 2) 23 #[.int .i64 lo, .int .i64 x.damp.hi]))
  case atStart => exact ⟨x.damp.lo, by omega, by omega, by omega, fun r h1 h2 => absurd h2 (by omega), ((Ext.al _ _).trans (Ext.al _ _)).trans (Ext.al _ _), ((Blk.at_ rfl).alloc _).alloc _, (Blk.at_ (by simp)).alloc _, Blk.at_ (by simp)⟩
  case round =>
    obtain ⟨lo, h1, h2, hgg, FA, EX, BX, BR, BL⟩ := hrel
    have m0 := fun W (h : Ext wr W) => (show W.cell? ⟨w.heap.size + 2, 0, none⟩ = some (.int .i64 lo) from (BL.out.ext h).cell 0)
    have m1 := fun W (h : Ext wr W) => (show W.cell? ⟨w.heap.size, 1, none⟩ = some (.int .i64 x.pounds) from (BX.out.ext h).cell 1)
    go_wp2
    refine wp_region_tame (fun W => Ext wr W) (fun W W' => Ext W W') (by kernel_rfl) 31 rfl (by decide +kernel) (Ext.refl _).drew ?_
    repeat (apply tame_q rfl; (intro ρ W hC hr hD; (obtain ⟨hrc, hrg, hrf, hrs⟩ := hr); (simp [go_sem] at hD); go_simp; first | exact ⟨⟨hC, Ext.refl _⟩, rfl⟩ | exact ⟨⟨hC, RS.refl _⟩, rfl⟩ | exact rfl); simp only [List.nil_append, List.cons_append])
    apply tame_q rfl
    · intro ρ W hC hr hD
      obtain ⟨hrc, hrg, hrf, hrs⟩ := hr
      simp [go_sem] at hD
      go_simp
      refine (f88_any d lo _ (by omega) (by omega) (by omega) (by omega)).mono ?_
      rintro e w' ⟨rfl, rfl⟩
      exact ⟨_, rfl, ⟨hC, Ext.refl _⟩, rfl⟩
    simp only [List.nil_append, List.cons_append]
    repeat (apply tame_q rfl; (intro ρ W hC hr hD; (obtain ⟨hrc, hrg, hrf, hrs⟩ := hr); (simp [go_sem] at hD); go_simp; first | exact ⟨⟨hC, Ext.refl _⟩, rfl⟩ | exact ⟨⟨hC, RS.refl _⟩, rfl⟩ | exact rfl); simp only [List.nil_append, List.cons_append])
    refine tame_end 31 rfl rfl (fun ρ W hC hr hF => ?_)
    obtain ⟨hrc, hrg, hrf, hrs⟩ := hr
    simp [go_sem] at hF
    apply frame_to
    · go_simp
      exact rfl
    clear hF hrs hrc hrg hrf m0 m1
    have BXW := Lib.hid (BX.out.ext hC)
    have BRW := Lib.hid (BR.out.ext hC)
    have BLW := Lib.hid (BL.out.ext hC)
    have EXW := Lib.hid (EX.out.trans hC)
    have t0 := BLW.out.cell 0
    have t1 := BLW.out.cell 1
    have tf := BLW.out.frozen
    have tl := BLW.out.lt
    simp at t0 t1
    clear hC
    by_cases hlt : weight d lo < x.pounds
    · have hlh : lo < x.damp.hi := by
        rcases Int.lt_or_le lo x.damp.hi with h | h
        · exact h
        · have : lo = x.damp.hi := by omega
          rw [this] at hlt; have := HC.out; omega
      go_wp2
      go_roundg (x.damp.hi - (lo + 1)).toNat
      case measure => omega
      case rel =>
        refine ⟨lo + 1, by omega, by omega, by omega, fun r h3 h4 => ?_, EXW.out.setCell (by dsimp only; omega) _, BXW.out.far (by dsimp only; omega) _, BRW.out.far (by dsimp only; omega) _, BLW.out.set_ 0 _⟩
        by_cases hrl : r = lo
        · rw [hrl]; exact hlt
        · exact FA.out r h3 (by omega)
    · have HLO := Lib.hid (dLo_of h1 h2 (Int.not_lt.1 hlt) FA.out)
      go_wp2
      go_loopg [] (x.damp.hi - x.damp.lo).toNat (fun gg wq => ∃ hi : Int, x.damp.lo ≤ hi ∧ hi ≤ x.damp.hi ∧ (hi - x.damp.lo).toNat ≤ gg ∧ Aside (∀ r, hi < r → r ≤ x.damp.hi → x.pounds < weight d r) ∧ Aside (Ext w wq) ∧
        Aside (Blk wq w.heap.size 65 #[.int .i64 x.number, .int .i64 x.pounds, .int .i64 x.damp.lo, .int .i64 x.damp.hi]) ∧ Aside (Blk wq (w.heap.size + 1) 23 #[.int .i64 0, .int .i64 0]) ∧ Aside (Blk wq (w.heap.size + 2) 23 #[.int .i64 lo, .int .i64 hi]))
      case atStart => exact ⟨x.damp.hi, by omega, by omega, by omega, fun r h1 h2 => absurd h2 (by omega), EXW.out, BXW.out, BRW.out, BLW.out⟩
      case round =>
        clear t0 t1 tf tl
        obtain ⟨hi, g1, g2, hgg2, FB, EX2, BX2, BR2, BL2⟩ := hrel
        have m0 := fun W (h : Ext wr W) => (show W.cell? ⟨w.heap.size + 2, 1, none⟩ = some (.int .i64 hi) from (BL2.out.ext h).cell 1)
        have m1 := fun W (h : Ext wr W) => (show W.cell? ⟨w.heap.size, 1, none⟩ = some (.int .i64 x.pounds) from (BX2.out.ext h).cell 1)
        go_wp2
        refine wp_region_tame (fun W => Ext wr W) (fun W W' => Ext W W') (by kernel_rfl) 31 rfl (by decide +kernel) (Ext.refl _).drew ?_
        repeat (apply tame_q rfl; (intro ρ W hC hr hD; (obtain ⟨hrc, hrg, hrf, hrs⟩ := hr); (simp [go_sem] at hD); go_simp; first | exact ⟨⟨hC, Ext.refl _⟩, rfl⟩ | exact ⟨⟨hC, RS.refl _⟩, rfl⟩ | exact rfl); simp only [List.nil_append, List.cons_append])
        apply tame_q rfl
        · intro ρ W hC hr hD
          obtain ⟨hrc, hrg, hrf, hrs⟩ := hr
          simp [go_sem] at hD
          go_simp
          refine (f88_any d hi _ (by omega) (by omega) (by omega) (by omega)).mono ?_
          rintro e w' ⟨rfl, rfl⟩
          exact ⟨_, rfl, ⟨hC, Ext.refl _⟩, rfl⟩
        simp only [List.nil_append, List.cons_append]
        repeat (apply tame_q rfl; (intro ρ W hC hr hD; (obtain ⟨hrc, hrg, hrf, hrs⟩ := hr); (simp [go_sem] at hD); go_simp; first | exact ⟨⟨hC, Ext.refl _⟩, rfl⟩ | exact ⟨⟨hC, RS.refl _⟩, rfl⟩ | exact rfl); simp only [List.nil_append, List.cons_append])
        refine tame_end 31 rfl rfl (fun ρ W hC hr hF => ?_)
        obtain ⟨hrc, hrg, hrf, hrs⟩ := hr
        simp [go_sem] at hF
        apply frame_to
        · go_simp
          exact rfl
        clear hF hrs hrc hrg hrf m0 m1
        have BXW2 := Lib.hid (BX2.out.ext hC)
        have BRW2 := Lib.hid (BR2.out.ext hC)
        have BLW2 := Lib.hid (BL2.out.ext hC)
        have EXW2 := Lib.hid (EX2.out.trans hC)
        have t0 := BLW2.out.cell 0
        have t1 := BLW2.out.cell 1
        have tf := BLW2.out.frozen
        have tl := BLW2.out.lt
        simp at t0 t1
        clear hC
        by_cases hgt : x.pounds < weight d hi
        · have hlh : x.damp.lo < hi := by
            rcases Int.lt_or_le x.damp.lo hi with h | h
            · exact h
            · have : hi = x.damp.lo := by omega
              rw [this] at hgt; have := HC.out; omega
          go_wp2
          go_roundg (hi - 1 - x.damp.lo).toNat
          case measure => omega
          case rel =>
            refine ⟨hi - 1, by omega, by omega, by omega, fun r h3 h4 => ?_, EXW2.out.setCell (by dsimp only; omega) _, BXW2.out.far (by dsimp only; omega) _, BRW2.out.far (by dsimp only; omega) _, BLW2.out.set_ 1 _⟩
            by_cases hrl : r = hi
            · rw [hrl]; exact hgt
            · exact FB.out r (by omega) h4
        · have HHI := Lib.hid (dHi_of g1 g2 (Int.not_lt.1 hgt) FB.out)
          have r0 := BRW2.out.cell 0
          have r1 := BRW2.out.cell 1
          have rf := BRW2.out.frozen
          have rl := BRW2.out.lt
          simp at r0 r1
          go_wp2
          refine ret_set2 BRW2.out fun W ⟨b0, b1⟩ hW => ?_
          refine bodyPost_ret (v := valS ⟨lo, hi⟩) (by simp [results, Tryd.results85, go_sem, b0, b1]) rfl ?_
          exact ⟨by rw [HLO.out, HHI.out], ext_grown EXW2.out hW (by omega)⟩
end Go.Proofs.YtdlipbobfgdleaaDoor
