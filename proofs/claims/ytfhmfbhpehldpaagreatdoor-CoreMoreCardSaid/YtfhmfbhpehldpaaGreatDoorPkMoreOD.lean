/- core.Can, Layer, ends, Best, Worst. -/
import Derived.Test.YtfhmfbhpehldpaaGreatDoorPkMoreOC
import Derived.Handy
import Derived.Test.YtfhmfbhpehldpaaGreatDoorPkMoreOB
namespace Go.Proofs.YtfhmfbhpehldpaaGreatDoor
open Go.RowKit Go.Shelf
set_option maxRecDepth 100000

theorem ret_set2 {P : Program} {fn : Func} {R : Ending → World → Prop} {ex : Exit} {a : Act} {w1 : World} {g : Nat} {t : TypeId} {x0 x1 y0 y1 : Value} (hB : Blk w1 g t #[x0, x1])
    (h : ∀ W, (W.cell? ⟨g, 0, none⟩ = some y0 ∧ W.cell? ⟨g, 1, none⟩ = some y1) → w1.grownBy W (some g) → bodyPost P fn R ex a W) :
    bodyPost P fn R ex a ((w1.setCell ⟨g, 0, none⟩ y0).setCell ⟨g, 1, none⟩ y1) :=
  have H := (hB.set_ 0 y0).set_ 1 y1
  h _ ⟨H.cell 0, H.cell 1⟩ (grown_set (grown_set (World.grownBy.refl _ _) (p := ⟨g, 0, none⟩) (.inl rfl) y0) (p := ⟨g, 1, none⟩) (.inl rfl) y1)
theorem ret_set2a {P : Program} {fn : Func} {R : Ending → World → Prop} {ex : Exit} {a : Act} {w1 : World} {g : Nat} {t : TypeId} {x0 x1 y0 y1 : Value} {o : Obj} (hB : Blk w1 g t #[x0, x1])
    (h : ∀ W, (W.cell? ⟨g, 0, none⟩ = some y0 ∧ W.cell? ⟨g, 1, none⟩ = some y1) → w1.grownBy W (some g) → bodyPost P fn R ex a W) :
    bodyPost P fn R ex a (((w1.setCell ⟨g, 0, none⟩ y0).setCell ⟨g, 1, none⟩ y1).alloc o) :=
  have H := ((hB.set_ 0 y0).set_ 1 y1).alloc o
  h _ ⟨H.cell 0, H.cell 1⟩ (grown_ext (grown_set (grown_set (World.grownBy.refl _ _) (p := ⟨g, 0, none⟩) (.inl rfl) y0) (p := ⟨g, 1, none⟩) (.inl rfl) y1) (Ext.al _ _))
theorem can_any (b : Bale) (dv wv : Value) (w : World) (hT : Tab w) (hd : SlD w dv b.draws) (hw : SlW w wv b.weighs) :
    Calls Tryz.prog 11 #[valB b dv wv] w fun e w' => e = .returned (.tuple #[.bool (valid b && okB b), .int .i64 (errB (valid b) 30)]) ∧ Ext w w' := by
  have HT := Lib.hid hT
  have HD := Lib.hid hd
  have HW := Lib.hid hw
  obtain ⟨A, n, cp, rfl, hn, hlc, hcm⟩ := hd.form
  obtain ⟨A2, n2, cp2, rfl, hn2, hlc2, hcm2⟩ := hw.form
  clear hd hw hT
  go_enter Tryz.func11, Tryz.ntmps11
  go_wp2_with fail
  refine (check_any b _ _ _ (HT.out.ext (Ext.al _ _)) (HD.out.ext (Ext.al _ _)) (HW.out.ext (Ext.al _ _))).mono ?_
  rintro e w1 ⟨rfl, hb⟩
  obtain ⟨hc, hf, hz, HE⟩ := hb.use
  cases hv : valid b with
  | false =>
    have HV := Lib.hid hv; clear hv
    go_wp2
    refine bodyPost_ret (v := .tuple #[.bool false, .int .i64 30]) (by simp [results, Tryz.results11, go_sem, errB]) rfl ?_
    exact ⟨by rw [HV.out]; rfl, (Ext.al _ _).trans HE.out⟩
  | true =>
    have HV := Lib.hid hv; clear hv
    have HB := Lib.hid (valid_bds HV.out)
    have HDW := Lib.hid (show SlD w1 (.slice A n cp) b.draws ∧ SlW w1 (.slice A2 n2 cp2) b.weighs from ⟨(HD.out.ext (Ext.al _ _)).ext HE.out, (HW.out.ext (Ext.al _ _)).ext HE.out⟩)
    go_wp2_with fail
    refine (opened_any b _ _ _ HDW.out.1 HDW.out.2 HB.out.l1 HB.out.l5 HB.out.lo HB.out.lh HB.out.hi (fun x hx => by have := HB.out.w x hx; omega)).mono ?_
    rintro e w2 ⟨sv, lv, rfl, h1, h2, hE2⟩
    obtain ⟨As, ns, cs, rfl, hns, hsc, hsm⟩ := (show SlS w2 sv (spans b) from h1.sl (fun _ => rfl)).form
    obtain ⟨Al, nl, cl, rfl, hnl, hlc', hlm⟩ := (show SlI w2 lv (dries b) from h2.sl (fun _ => rfl)).form
    dsimp only [valP]
    have HE3 := Lib.hid (((Ext.al w _).trans HE.out).trans hE2)
    clear hE2 hc hf h1 h2
    go_wp2
    refine bodyPost_ret (v := .tuple #[.bool (okB b), .int .i64 0]) (by simp [results, Tryz.results11, go_sem]) rfl ?_
    exact ⟨by rw [HV.out]; rfl, HE3.out.alloc _⟩

theorem f42_any (at' layers : Int) (b1 b2 : Nat) (w : World) (h1 : w.cell? ⟨b1, 1, none⟩ = some (.int .i64 layers)) (h2 : w.cell? ⟨b2, 0, none⟩ = some (.int .i64 at')) (hl : 1 ≤ layers) (hl5 : layers ≤ 5) :
    Calls Tryz.prog 42 #[.pointer (some ⟨b1, 0, none⟩), .pointer (some ⟨b2, 0, none⟩)] w fun e w' => e = .returned (.bool (inB 0 (layers - 1) at')) ∧ Ext w w' := by
  go_enter Tryz.func42, Tryz.ntmps42
  go_wp2_with fail
  refine (in1_any 0 (layers - 1) at' _ _ (by simp) (by simp [go_sem])).mono ?_
  rintro e w1 ⟨rfl, hb⟩
  have HB := Lib.hid hb; clear hb
  go_wp2
  go_ret
  exact ⟨rfl, (Ext.al _ _).trans HB.out⟩

def layerB (b : Bale) (r : Bool) (at' : Int) : Span := if askE b r 31 = 0 then ((spans b)[at'.toNat]?).getD ⟨0, 0⟩ else ⟨0, 0⟩
theorem askE_zero {b : Bale} {r : Bool} {e : Int} (h : askE b r e = 0) (he : e ≠ 0) : valid b = true ∧ r = true ∧ okB b = true := by
  unfold askE at h
  split at h
  · split at h
    · split at h
      · exact ⟨‹_›, ‹_›, ‹_›⟩
      · cases h
    · exact absurd h he
  · cases h
theorem spans_len (b : Bale) : (spans b).length = b.layers.toNat := by unfold spans; exact spansTo_len _ _

set_option maxHeartbeats 1000000 in
theorem layer_any (b : Bale) (at' : Int) (dv wv : Value) (w : World) (hT : Tab w) (hd : SlD w dv b.draws) (hw : SlW w wv b.weighs) :
    Calls Tryz.prog 12 #[valB b dv wv, .int .i64 at'] w fun e w' => e = .returned (.tuple #[valS (layerB b (inB 0 (b.layers - 1) at') at'), .int .i64 (askE b (inB 0 (b.layers - 1) at') 31)]) ∧ Ext w w' := by
  have HT := Lib.hid hT
  have HD := Lib.hid hd
  have HW := Lib.hid hw
  obtain ⟨A, n, cp, rfl, hn, hlc, hcm⟩ := hd.form
  obtain ⟨A2, n2, cp2, rfl, hn2, hlc2, hcm2⟩ := hw.form
  clear hd hw hT
  go_enter Tryz.func12, Tryz.ntmps12
  go_wp2_with fail
  refine (asked_fn b _ _ _ 42 _ (enters_of Tryz.func42 (by kernel_rfl) rfl) (inB 0 (b.layers - 1) at') 31 (by decide) (fun hv W hW => ?_) (((HT.out.ext (Ext.al _ _)).ext (Ext.al _ _)).ext (Ext.al _ _)) (((HD.out.ext (Ext.al _ _)).ext (Ext.al _ _)).ext (Ext.al _ _)) (((HW.out.ext (Ext.al _ _)).ext (Ext.al _ _)).ext (Ext.al _ _))).mono ?_
  · have hB := valid_bds hv
    exact f42_any at' b.layers _ _ W ((hW.cell (p := ⟨w.heap.size, 1, none⟩) (by simp; omega)).trans (by simp [go_sem])) ((hW.cell (p := ⟨w.heap.size + 1, 0, none⟩) (by simp)).trans (by simp [go_sem])) hB.l1 hB.l5
  rintro e w1 ⟨pv, rfl, hpv, hpz, hE⟩
  obtain ⟨hc, hf, hz, HE⟩ := hE.use
  have HEW := Lib.hid (((((Ext.al w _).alloc _).alloc _ : Ext w _)).trans HE.out)
  have hz0 : w.heap.size + 2 < w1.heap.size := by simp at hz; omega
  have hz1 : w.heap.size + 1 < w1.heap.size := by omega
  have hz2 : w.heap.size < w1.heap.size := by omega
  by_cases hz9 : askE b (inB 0 (b.layers - 1) at') 31 = 0
  · obtain ⟨sv, lv, rfl, hs, hl⟩ := hpv hz9
    obtain ⟨h1, h2, h3⟩ := askE_zero hz9 (by decide)
    have HL := Lib.hid (show layerB b (inB 0 (b.layers - 1) at') at' = ((spans b)[at'.toNat]?).getD ⟨0, 0⟩ by unfold layerB; rw [if_pos hz9])
    obtain ⟨As, ns, cs, rfl, hns, hsc, hsm⟩ := hs.form
    obtain ⟨Al, nl, cl, rfl, hnl, hlc', hlm⟩ := hl.form
    have hat : 0 ≤ at' ∧ at' ≤ b.layers - 1 := by unfold inB at h2; simpa using h2
    have hb5 := valid_bds h1
    have hns' : (ns : Int) = b.layers := by have := hns.out; rw [spans_len] at this; have := hb5.l1; omega
    obtain ⟨k, rfl⟩ : ∃ k : Nat, at' = (k : Int) := ⟨at'.toNat, by omega⟩
    have hkn : k < ns := by omega
    have hknz : (k : Int) < (ns : Int) := by omega
    have hk0 : (0 : Int) ≤ (k : Int) := by omega
    obtain ⟨bb, off, x, rfl, hx, hbb, hcell⟩ := hs.at_ hkn
    obtain ⟨c0, c1⟩ := SlS.cells hcell (Ext.refl _)
    have HX := Lib.hid hx
    have HZ := Lib.hid hz9
    clear hx hpv hpz h2 h3 hs hl hcell hat hb5 h1
    rw [hz9]
    dsimp only [valP]
    clear hz9
    go_wp2
    refine ret_set2a ((Blk.at_ (by simp)).ext HE.out) fun W ⟨b0, b1⟩ hW => ?_
    refine bodyPost_ret (v := .tuple #[valS x, .int .i64 0]) (by simp [results, Tryz.results12, go_sem, b0, b1]) rfl ?_
    exact ⟨by rw [HL.out, HZ.out, Int.toNat_natCast, HX.out]; rfl, ext_grown HEW.out hW (by omega)⟩
  · have := hpz hz9
    subst this
    have HL := Lib.hid (show layerB b (inB 0 (b.layers - 1) at') at' = ⟨0, 0⟩ by unfold layerB; rw [if_neg hz9])
    clear hpz hpv
    generalize hE9 : askE b (inB 0 (b.layers - 1) at') 31 = E at hz9
    have HE9 := Lib.hid hE9; clear hE9
    go_wp2
    refine ret_set2a ((Blk.at_ (by simp)).ext HE.out) fun W ⟨b0, b1⟩ hW => ?_
    refine bodyPost_ret (v := .tuple #[valS ⟨0, 0⟩, .int .i64 E]) (by simp [results, Tryz.results12, go_sem, b0, b1]) rfl ?_
    exact ⟨by rw [HL.out, HE9.out], ext_grown HEW.out hW (by omega)⟩
end Go.Proofs.YtfhmfbhpehldpaaGreatDoor
/- core.ends, Best, Worst. -/
namespace Go.Proofs.YtfhmfbhpehldpaaGreatDoor
open Go.RowKit Go.Shelf
set_option maxRecDepth 100000

theorem f55_any (a b : Int) (w : World) : Calls Tryz.prog 55 #[.int .i64 a, .int .i64 b] w fun e w' => e = .returned (.int .i64 (min a b)) ∧ Ext w w' := by
  go_enter Tryz.func55, Tryz.ntmps55
  go_wp2
  go_ret
  exact ⟨rfl, Ext.refl _⟩
theorem f56_any (a b : Int) (w : World) : Calls Tryz.prog 56 #[.int .i64 a, .int .i64 b] w fun e w' => e = .returned (.int .i64 (max a b)) ∧ Ext w w' := by
  go_enter Tryz.func56, Tryz.ntmps56
  go_wp2
  go_ret
  exact ⟨rfl, Ext.refl _⟩
def endStep (f : Int → Int → Int) (s x : Span) : Span := ⟨f s.lo x.lo, f s.hi x.hi⟩
def endsOf (f : Int → Int → Int) (l : List Span) : Span := l.foldl (endStep f) (l[0]?.getD ⟨0, 0⟩)
def endsB (f : Int → Int → Int) (b : Bale) : Span := if askE b true 0 = 0 then endsOf f (spans b) else ⟨0, 0⟩

theorem askE_zero' {b : Bale} (h : askE b true 0 = 0) : valid b = true ∧ okB b = true := by
  unfold askE at h
  split at h
  · simp only [if_true] at h
    split at h
    · exact ⟨‹_›, ‹_›⟩
    · cases h
  · cases h

set_option maxHeartbeats 1000000 in
theorem ends_any (b : Bale) (dv wv : Value) (w : World) (g : FuncId) (eg : ∀ args w, (callFunc g args).run Tryz.prog w = .ok (.enter g args) w) (f : Int → Int → Int) (hg : ∀ a b W, Calls Tryz.prog g #[.int .i64 a, .int .i64 b] W fun e w' => e = .returned (.int .i64 (f a b)) ∧ Ext W w') (hT : Tab w) (hd : SlD w dv b.draws) (hw : SlW w wv b.weighs) :
    Calls Tryz.prog 54 #[valB b dv wv, .func (.func g) #[] #[]] w fun e w' => e = .returned (.tuple #[valS (endsB f b), .int .i64 (askE b true 0)]) ∧ Ext w w' := by
  have HT := Lib.hid hT
  have HD := Lib.hid hd
  have HW := Lib.hid hw
  have HG := Lib.hid hg
  obtain ⟨A, n, cp, rfl, hn, hlc, hcm⟩ := hd.form
  obtain ⟨A2, n2, cp2, rfl, hn2, hlc2, hcm2⟩ := hw.form
  clear hd hw hT hg
  go_enter Tryz.func54, Tryz.ntmps54
  go_wp2_with fail
  refine (asked_nil b _ _ _ ((HT.out.ext (Ext.al _ _)).ext (Ext.al _ _)) ((HD.out.ext (Ext.al _ _)).ext (Ext.al _ _)) ((HW.out.ext (Ext.al _ _)).ext (Ext.al _ _))).mono ?_
  rintro e w1 ⟨pv, rfl, hpv, hpz, hE⟩
  obtain ⟨hc, hf, hz, HE⟩ := hE.use
  have HEW := Lib.hid (((Ext.al w _).alloc _ : Ext w _).trans HE.out)
  have hz0 : w.heap.size + 1 < w1.heap.size := by simp at hz; omega
  have hz1 : w.heap.size < w1.heap.size := by omega
  by_cases hz9 : askE b true 0 = 0
  · obtain ⟨sv, lv, rfl, hs, hl⟩ := hpv hz9
    obtain ⟨h1, h3⟩ := askE_zero' hz9
    have HL := Lib.hid (show endsB f b = endsOf f (spans b) by unfold endsB; rw [if_pos hz9])
    obtain ⟨As, ns, cs, rfl, hns, hsc, hsm⟩ := hs.form
    obtain ⟨Al, nl, cl, rfl, hnl, hlc', hlm⟩ := hl.form
    have hb5 := valid_bds h1
    have hns' : (ns : Int) = b.layers := by have := hns.out; rw [spans_len] at this; have := hb5.l1; omega
    have hkn : 0 < ns := by have := hb5.l1; omega
    have hkn2 : (0 : Int) < (ns : Int) := by omega
    obtain ⟨bb, off, x, rfl, hx, hbb, hcell⟩ := hs.at_ hkn
    obtain ⟨c0, c1⟩ := SlS.cells hcell (Ext.refl _)
    simp at c0 c1
    have HX := Lib.hid hx
    have HZ := Lib.hid hz9
    have HS := Lib.hid hs
    clear hx hpv hpz h3 hs hl hcell hb5 h1
    rw [hz9]
    dsimp only [valP]
    clear hz9
    go_wp2
    go_loopg [27] ns (fun gg s wr => ∃ (j : Nat) (lo hi : Int), j ≤ ns ∧ ns - j ≤ gg ∧ s = .int .i64 j ∧ Aside (((spans b).take j).foldl (endStep f) x = ⟨lo, hi⟩) ∧ Aside (Blk wr (w1.heap.size + 1) 23 #[.int .i64 lo, .int .i64 hi]) ∧ Aside (Ext w1 wr) ∧
      Aside (Blk wr w1.heap.size 73 #[.int .i64 b.id, .int .i64 b.layers, .int .i64 b.dry.lo, .int .i64 b.dry.hi, .slice A n cp, .slice A2 n2 cp2, .slice (some ⟨bb, off, none⟩) ns cs, .slice Al nl cl]))
    case atStart => exact ⟨0, x.lo, x.hi, by omega, by omega, rfl, rfl, Blk.at_ (by simp), (Ext.al _ _).alloc _, (Blk.at_ rfl).alloc _⟩
    case round =>
      obtain ⟨j, lo, hi, hj, hgj, rfl, FO, BL, EX, BP⟩ := hrel
      have s0 : wr.cell? ⟨w1.heap.size + 1, 0, none⟩ = some (.int .i64 lo) := BL.out.cell 0
      have s1 : wr.cell? ⟨w1.heap.size + 1, 1, none⟩ = some (.int .i64 hi) := BL.out.cell 1
      have hso : w1.heap.size + 1 < wr.heap.size := BL.out.lt
      by_cases hjn : j < ns
      · have hjz : (j : Int) < (ns : Int) := by omega
        obtain ⟨bb', off', y, e1, hy, hyb, hycell⟩ := HS.out.at_ hjn
        injection e1 with e1
        injection e1 with e1 e2
        subst e1 e2
        obtain ⟨d0, d1⟩ := SlS.cells hycell EX.out
        have HY := Lib.hid hy
        have HFO := Lib.hid (foldl_snoc (endStep f) x _ _ _ HY.out)
        clear hy hycell
        have m0 := fun W (h : Ext (wr.alloc (.cells #[.int .i64 y.lo, .int .i64 y.hi] 23)) W) => (h.cells.1 (w1.heap.size + 1) 0 (by simp; omega)).trans (show _ = some (.int .i64 lo) by simp [go_sem, hso, s0])
        have m1 := fun W (h : Ext (wr.alloc (.cells #[.int .i64 y.lo, .int .i64 y.hi] 23)) W) => (h.cells.1 (w1.heap.size + 1) 1 (by simp; omega)).trans (show _ = some (.int .i64 hi) by simp [go_sem, hso, s1])
        have m2 := fun W (h : Ext (wr.alloc (.cells #[.int .i64 y.lo, .int .i64 y.hi] 23)) W) => (h.cells.1 wr.heap.size 0 (by simp)).trans (show _ = some (.int .i64 y.lo) by simp [go_sem])
        have m3 := fun W (h : Ext (wr.alloc (.cells #[.int .i64 y.lo, .int .i64 y.hi] 23)) W) => (h.cells.1 wr.heap.size 1 (by simp)).trans (show _ = some (.int .i64 y.hi) by simp [go_sem])
        go_wp2
        refine wp_region_tame_cut (fun W => Ext (wr.alloc (.cells #[.int .i64 y.lo, .int .i64 y.hi] 23)) W) (fun W W' => Ext W W') (by kernel_rfl) 46 rfl _ rfl (by decide +kernel) (by decide +kernel) (by decide +kernel) rfl (Ext.refl _).drew ?_
        simp only [List.dropLast]
        repeat (apply tame_q rfl; (intro ρ W hC hr hD; (obtain ⟨hrc, hrg, hrf, hrs⟩ := hr); (simp [go_sem] at hD); go_simp; first | exact ⟨⟨hC, Ext.refl _⟩, rfl⟩ | exact ⟨⟨hC, RS.refl _⟩, rfl⟩ | exact rfl); simp only [List.nil_append, List.cons_append])
        apply tame_q rfl
        · intro ρ W hC hr hD
          obtain ⟨hrc, hrg, hrf, hrs⟩ := hr
          simp [go_sem] at hD
          go_simp
          refine (HG.out lo y.lo _).mono ?_
          rintro e w' ⟨rfl, hE⟩
          exact ⟨_, rfl, ⟨hC.trans hE, hE⟩, rfl⟩
        simp only [List.nil_append, List.cons_append]
        repeat (apply tame_q rfl; (intro ρ W hC hr hD; (obtain ⟨hrc, hrg, hrf, hrs⟩ := hr); (simp [go_sem] at hD); go_simp; first | exact ⟨⟨hC, Ext.refl _⟩, rfl⟩ | exact ⟨⟨hC, RS.refl _⟩, rfl⟩ | exact rfl); simp only [List.nil_append, List.cons_append])
        apply tame_q rfl
        · intro ρ W hC hr hD
          obtain ⟨hrc, hrg, hrf, hrs⟩ := hr
          simp [go_sem] at hD
          go_simp
          refine (HG.out hi y.hi _).mono ?_
          rintro e w' ⟨rfl, hE⟩
          exact ⟨_, rfl, ⟨hC.trans hE, hE⟩, rfl⟩
        simp only [List.nil_append, List.cons_append]
        repeat (apply tame_q rfl; (intro ρ W hC hr hD; (obtain ⟨hrc, hrg, hrf, hrs⟩ := hr); (simp [go_sem] at hD); go_simp; first | exact ⟨⟨hC, Ext.refl _⟩, rfl⟩ | exact ⟨⟨hC, RS.refl _⟩, rfl⟩ | exact rfl); simp only [List.nil_append, List.cons_append])
        refine tame_end 46 rfl rfl (fun ρ W hC hr hF => ?_)
        obtain ⟨hrc, hrg, hrf, hrs⟩ := hr
        simp [go_sem] at hF
        apply frame_to
        · go_simp
          exact rfl
        clear hF hrs hrc hrg hrf m0 m1 m2 m3
        have BLW := Lib.hid ((BL.out.alloc _).ext hC)
        have BPW := Lib.hid ((BP.out.alloc _).ext hC)
        have EXW := Lib.hid ((EX.out.trans (Ext.al _ _)).trans hC)
        have t0 := BLW.out.cell 0
        have t1 := BLW.out.cell 1
        have tf := BLW.out.frozen
        have tl := BLW.out.lt
        simp at t0 t1
        clear hC
        go_wp2
        go_roundg (ns - (j + 1))
        case measure => omega
        case rel => exact ⟨j + 1, f lo y.lo, f hi y.hi, by omega, by omega, rfl, by show _ = _; rw [HFO.out, FO.out]; rfl, (BLW.out.set_ 0 _).set_ 1 _, (EXW.out.setCell (by dsimp only; omega) _).setCell (by dsimp only; omega) _, (BPW.out.far (by dsimp only; omega) _).far (by dsimp only; omega) _⟩
      · have HBR := Lib.hid (((Blk.at_ (t := 23) (cs := #[.int .i64 0, .int .i64 0]) (w := w.alloc (.cells #[.int .i64 b.id, .int .i64 b.layers, .int .i64 b.dry.lo, .int .i64 b.dry.hi, .slice A n cp, .slice A2 n2 cp2] 27)) (g := w.heap.size + 1) (by simp)).ext HE.out).ext EX.out)
        have t0 := HBR.out.cell 0
        have t1 := HBR.out.cell 1
        have tf := HBR.out.frozen
        have tl := HBR.out.lt
        simp at t0 t1
        have HFE := Lib.hid (show endsOf f (spans b) = ⟨lo, hi⟩ by unfold endsOf; rw [HX.out, ← FO.out, List.take_of_length_le (by have := hns.out; omega)]; rfl)
        go_wp2
        refine ret_set2 HBR.out fun W ⟨b0, b1⟩ hW => ?_
        refine bodyPost_ret (v := .tuple #[valS ⟨lo, hi⟩, .int .i64 0]) (by simp [results, Tryz.results54, go_sem, b0, b1]) rfl ?_
        exact ⟨by rw [HL.out, HZ.out, HFE.out], ext_grown (HEW.out.trans EX.out) hW (by omega)⟩
  · have := hpz hz9
    subst this
    have HL := Lib.hid (show endsB f b = ⟨0, 0⟩ by unfold endsB; rw [if_neg hz9])
    clear hpz hpv
    generalize hE9 : askE b true 0 = E at hz9
    have HE9 := Lib.hid hE9; clear hE9
    go_wp2
    refine ret_set2a ((Blk.at_ (by simp)).ext HE.out) fun W ⟨b0, b1⟩ hW => ?_
    refine bodyPost_ret (v := .tuple #[valS ⟨0, 0⟩, .int .i64 E]) (by simp [results, Tryz.results54, go_sem, b0, b1]) rfl ?_
    exact ⟨by rw [HL.out, HE9.out], ext_grown HEW.out hW (by omega)⟩

theorem best_any (b : Bale) (dv wv : Value) (w : World) (hT : Tab w) (hd : SlD w dv b.draws) (hw : SlW w wv b.weighs) :
    Calls Tryz.prog 19 #[valB b dv wv] w fun e w' => e = .returned (.tuple #[valS (endsB min b), .int .i64 (askE b true 0)]) ∧ Ext w w' := by
  have HT := Lib.hid hT
  have HD := Lib.hid hd
  have HW := Lib.hid hw
  obtain ⟨A, n, cp, rfl, hn, hlc, hcm⟩ := hd.form
  obtain ⟨A2, n2, cp2, rfl, hn2, hlc2, hcm2⟩ := hw.form
  clear hd hw hT
  go_enter Tryz.func19, Tryz.ntmps19
  go_wp2_with fail
  refine (ends_any b _ _ _ 55 (enters_of Tryz.func55 (by kernel_rfl) rfl) min (fun a b W => f55_any a b W) ((HT.out.ext (Ext.al _ _)).ext (Ext.al _ _)) ((HD.out.ext (Ext.al _ _)).ext (Ext.al _ _)) ((HW.out.ext (Ext.al _ _)).ext (Ext.al _ _))).mono ?_
  rintro e w1 ⟨rfl, hE⟩
  obtain ⟨hc, hf, hz, HE⟩ := hE.use
  dsimp only [valS]
  have HEW := Lib.hid (((Ext.al w _).alloc _ : Ext w _).trans HE.out)
  have hz0 : w.heap.size + 1 < w1.heap.size := by simp at hz; omega
  go_wp2
  refine ret_set2 ((Blk.at_ (by simp)).ext HE.out) fun W ⟨b0, b1⟩ hW => ?_
  refine bodyPost_ret (v := .tuple #[valS (endsB min b), .int .i64 (askE b true 0)]) (by simp [results, Tryz.results19, go_sem, b0, b1]) rfl ?_
  exact ⟨rfl, ext_grown HEW.out hW (by omega)⟩

theorem worst_any (b : Bale) (dv wv : Value) (w : World) (hT : Tab w) (hd : SlD w dv b.draws) (hw : SlW w wv b.weighs) :
    Calls Tryz.prog 20 #[valB b dv wv] w fun e w' => e = .returned (.tuple #[valS (endsB max b), .int .i64 (askE b true 0)]) ∧ Ext w w' := by
  have HT := Lib.hid hT
  have HD := Lib.hid hd
  have HW := Lib.hid hw
  obtain ⟨A, n, cp, rfl, hn, hlc, hcm⟩ := hd.form
  obtain ⟨A2, n2, cp2, rfl, hn2, hlc2, hcm2⟩ := hw.form
  clear hd hw hT
  go_enter Tryz.func20, Tryz.ntmps20
  go_wp2_with fail
  refine (ends_any b _ _ _ 56 (enters_of Tryz.func56 (by kernel_rfl) rfl) max (fun a b W => f56_any a b W) ((HT.out.ext (Ext.al _ _)).ext (Ext.al _ _)) ((HD.out.ext (Ext.al _ _)).ext (Ext.al _ _)) ((HW.out.ext (Ext.al _ _)).ext (Ext.al _ _))).mono ?_
  rintro e w1 ⟨rfl, hE⟩
  obtain ⟨hc, hf, hz, HE⟩ := hE.use
  dsimp only [valS]
  have HEW := Lib.hid (((Ext.al w _).alloc _ : Ext w _).trans HE.out)
  have hz0 : w.heap.size + 1 < w1.heap.size := by simp at hz; omega
  go_wp2
  refine ret_set2 ((Blk.at_ (by simp)).ext HE.out) fun W ⟨b0, b1⟩ hW => ?_
  refine bodyPost_ret (v := .tuple #[valS (endsB max b), .int .i64 (askE b true 0)]) (by simp [results, Tryz.results20, go_sem, b0, b1]) rfl ?_
  exact ⟨rfl, ext_grown HEW.out hW (by omega)⟩
end Go.Proofs.YtfhmfbhpehldpaaGreatDoor
/- The reference: True, asked, Can, Layer, Best, Worst. -/
namespace Go.Proofs.YtfhmfbhpehldpaaGreatDoor
open Go.RowKit Go.Shelf
set_option maxRecDepth 100000

theorem okB_eq (b : Bale) : (grown (spans b) && decide (0 < (dries b).length)) = okB b := by
  unfold okB; cases dries b <;> simp
theorem true_any (b : Bale) (dv wv : Value) (w : World) (hv : valid b = true) (hd : SlD w dv b.draws) (hw : SlW w wv b.weighs) :
    Calls Tryz.prog 32 #[valB b dv wv] w fun e w' => e = .returned (.bool (okB b)) ∧ Ext w w' := by
  have HB := Lib.hid (valid_bds hv)
  have HD := Lib.hid hd
  have HW := Lib.hid hw
  obtain ⟨A, n, cp, rfl, hn, hlc, hcm⟩ := hd.form
  obtain ⟨A2, n2, cp2, rfl, hn2, hlc2, hcm2⟩ := hw.form
  clear hd hw hv
  go_enter Tryz.func32, Tryz.ntmps32
  go_wp2_with fail
  refine (layers_any b _ _ _ (HD.out.ext (Ext.al _ _)) (HW.out.ext (Ext.al _ _)) HB.out.l1 HB.out.l5).mono ?_
  rintro e w1 ⟨v, rfl, hs, hE⟩
  obtain ⟨hc, hf, hz, HE⟩ := hE.use
  have HE1 := Lib.hid ((Ext.al w _).trans HE.out)
  cases hg : grown (spans b) with
  | false =>
    have HG := Lib.hid hg; clear hg
    go_wp2
    go_ret
    exact ⟨ret_bool (by rw [← okB_eq, HG.out]; rfl), HE1.out⟩
  | true =>
    have HG := Lib.hid hg; clear hg
    have HDW := Lib.hid (show SlD w1 (.slice A n cp) b.draws ∧ SlW w1 (.slice A2 n2 cp2) b.weighs from ⟨HD.out.ext HE1.out, HW.out.ext HE1.out⟩)
    go_wp2_with fail
    refine (dries_any b _ _ _ HDW.out.1 HDW.out.2 HB.out.lo HB.out.lh HB.out.hi (fun x hx => by have := HB.out.w x hx; omega)).mono ?_
    rintro e w2 ⟨v2, rfl, hl, hE2⟩
    obtain ⟨Al, nl, cl, rfl, hnl, hlc', hlm⟩ := hl.form
    have HE2 := Lib.hid (HE1.out.trans hE2)
    clear hE2 hl hs
    go_wp2
    go_ret
    exact ⟨ret_bool (by rw [← okB_eq, HG.out, ← hnl.out]; simp), HE2.out⟩

def RAsked (b : Bale) (w : World) (e : Ending) (w' : World) : Prop :=
  ∃ sv lv, e = .returned (.tuple #[sv, lv, .int .i64 (askE b true 0)]) ∧ (askE b true 0 = 0 → SlS w' sv (spans b) ∧ SlI w' lv (dries b)) ∧ Ext w w'
theorem RAsked.bad {b : Bale} {w w' : World} {E : Int} (hE : E = askE b true 0) (h0 : askE b true 0 ≠ 0) (h : Ext w w') : RAsked b w (.returned (.tuple #[.slice none 0 0, .slice none 0 0, .int .i64 E])) w' := by
  subst hE; exact ⟨_, _, rfl, fun h => absurd h h0, h⟩
end Go.Proofs.YtfhmfbhpehldpaaGreatDoor
/- The reference: Layer, Best, Worst. -/
namespace Go.Proofs.YtfhmfbhpehldpaaGreatDoor
open Go.RowKit Go.Shelf
set_option maxRecDepth 100000

theorem askE_true {b : Bale} (hv : valid b = true) (e : Int) : askE b true e = askE b true 0 := by unfold askE; rw [hv]; rfl
end Go.Proofs.YtfhmfbhpehldpaaGreatDoor
/- core.Dry and the reference's, Pays and the reference's. -/
namespace Go.Proofs.YtfhmfbhpehldpaaGreatDoor
open Go.RowKit Go.Shelf
set_option maxRecDepth 100000
set_option linter.unusedSimpArgs false

/-- The lightest and the heaviest dry weight that can be. -/
def dryOf (l : List Int) : Span := ⟨(l[0]?).getD 0, (l[l.length - 1]?).getD 0⟩
def dryB (b : Bale) : Span := if askE b true 0 = 0 then dryOf (dries b) else ⟨0, 0⟩
theorem dries_pos {b : Bale} (h : askE b true 0 = 0) : 0 < (dries b).length := by
  have := (askE_zero' h).2
  unfold okB at this
  cases hd : dries b with
  | nil => rw [hd] at this; simp at this
  | cons x l => simp
theorem Sl.int {w : World} {b off k : Nat} {x : Int} (h : ∀ W, Ext w W → ∀ j u, (encI x)[j]? = some u → W.cell? ⟨b, off + k * 1 + j, none⟩ = some u) (W : World) (hW : Ext w W) : W.cell? ⟨b, off + k, none⟩ = some (.int .i64 x) := by
  simpa using h W hW 0 _ rfl

set_option maxHeartbeats 1000000 in
theorem dry_any (b : Bale) (dv wv : Value) (w : World) (hT : Tab w) (hd : SlD w dv b.draws) (hw : SlW w wv b.weighs) :
    Calls Tryz.prog 15 #[valB b dv wv] w fun e w' => e = .returned (.tuple #[valS (dryB b), .int .i64 (askE b true 0)]) ∧ Ext w w' := by
  have HT := Lib.hid hT
  have HD := Lib.hid hd
  have HW := Lib.hid hw
  obtain ⟨A, n, cp, rfl, hn, hlc, hcm⟩ := hd.form
  obtain ⟨A2, n2, cp2, rfl, hn2, hlc2, hcm2⟩ := hw.form
  clear hd hw hT
  go_enter Tryz.func15, Tryz.ntmps15
  go_wp2_with fail
  refine (asked_nil b _ _ _ ((HT.out.ext (Ext.al _ _)).ext (Ext.al _ _)) ((HD.out.ext (Ext.al _ _)).ext (Ext.al _ _)) ((HW.out.ext (Ext.al _ _)).ext (Ext.al _ _))).mono ?_
  rintro e w1 ⟨pv, rfl, hpv, hpz, hE⟩
  have HEW := Lib.hid (((Ext.al w _).alloc _ : Ext w _).trans hE)
  have HBR := Lib.hid ((Blk.at_ (t := 23) (cs := #[.int .i64 0, .int .i64 0]) (w := w.alloc (.cells #[.int .i64 b.id, .int .i64 b.layers, .int .i64 b.dry.lo, .int .i64 b.dry.hi, .slice A n cp, .slice A2 n2 cp2] 27)) (g := w.heap.size + 1) (by simp)).ext hE)
  clear hE
  by_cases hz9 : askE b true 0 = 0
  · obtain ⟨sv, lv, rfl, hs, hl⟩ := hpv hz9
    have hpos := dries_pos hz9
    have HL := Lib.hid (show dryB b = dryOf (dries b) by unfold dryB; rw [if_pos hz9])
    obtain ⟨As, ns, cs, rfl, hns, hsc, hsm⟩ := hs.form
    obtain ⟨Al, nl, cl, rfl, hnl, hlc', hlm⟩ := hl.form
    obtain ⟨m, rfl⟩ : ∃ m, nl = m + 1 := ⟨nl - 1, by have := hnl.out; omega⟩
    have hnl0 : 0 < m + 1 := by omega
    obtain ⟨bb, off, x, rfl, hx, hbb, hcell⟩ := hl.at_ hnl0
    obtain ⟨bb', off', y, e1, hy, hbb', hcell'⟩ := hl.at_ (show m < m + 1 by omega)
    injection e1 with e1
    injection e1 with e1 e2
    subst e1 e2
    have c0 := fun W h => Sl.int hcell W h
    have c1 := fun W h => Sl.int hcell' W h
    have HX := Lib.hid (show dryOf (dries b) = ⟨x, y⟩ by unfold dryOf; rw [hx, show (dries b).length - 1 = m by have := hnl.out; omega, hy]; rfl)
    have HZ := Lib.hid hz9
    have hnz : (0 : Int) < (m : Int) + 1 := by omega
    have hm0 : (0 : Int) ≤ (m : Int) := by omega
    have hm1 : (m : Int) < (m : Int) + 1 := by omega
    have hwr : IntKind.i64.wrap (m : Int) = (m : Int) := by simp [IntKind.wrap, IntKind.signed, IntKind.bits]; omega
    clear hx hy hpv hpz hs hl hcell hcell' hpos
    rw [hz9]
    dsimp only [valP]
    clear hz9
    have m7 := fun W (h : Ext (w1.alloc (.cells #[.int .i64 b.id, .int .i64 b.layers, .int .i64 b.dry.lo, .int .i64 b.dry.hi, .slice A n cp, .slice A2 n2 cp2, .slice As ns cs, .slice (some ⟨bb, off, none⟩) (m + 1) cl] 73)) W) => (h.cells.1 w1.heap.size 7 (by simp)).trans (show _ = some (.slice (some ⟨bb, off, none⟩) (m + 1) cl) by simp [go_sem])
    have k0 := fun W (h : Ext (w1.alloc (.cells #[.int .i64 b.id, .int .i64 b.layers, .int .i64 b.dry.lo, .int .i64 b.dry.hi, .slice A n cp, .slice A2 n2 cp2, .slice As ns cs, .slice (some ⟨bb, off, none⟩) (m + 1) cl] 73)) W) => c0 W ((Ext.al _ _).trans h)
    have k1 := fun W (h : Ext (w1.alloc (.cells #[.int .i64 b.id, .int .i64 b.layers, .int .i64 b.dry.lo, .int .i64 b.dry.hi, .slice A n cp, .slice A2 n2 cp2, .slice As ns cs, .slice (some ⟨bb, off, none⟩) (m + 1) cl] 73)) W) => c1 W ((Ext.al _ _).trans h)
    simp only [Nat.add_zero] at k0
    clear c0 c1
    go_wp2
    refine wp_region_tame_cut2 (fun W => Ext (w1.alloc (.cells #[.int .i64 b.id, .int .i64 b.layers, .int .i64 b.dry.lo, .int .i64 b.dry.hi, .slice A n cp, .slice A2 n2 cp2, .slice As ns cs, .slice (some ⟨bb, off, none⟩) (m + 1) cl] 73)) W) (fun W W' => Ext W W') (by kernel_rfl) 28 rfl _ _ rfl rfl (by decide +kernel) (by decide +kernel) (by decide +kernel) (by decide +kernel) (by decide +kernel) rfl rfl (Ext.refl _).drew ?_
    simp only [List.dropLast]
    repeat (apply tame_q rfl; (intro ρ W hC hr hD; (obtain ⟨hrc, hrg, hrf, hrs⟩ := hr); (simp [go_sem] at hD); go_simp; first | exact ⟨⟨hC, Ext.refl _⟩, rfl⟩ | exact ⟨⟨hC, RS.refl _⟩, rfl⟩ | exact rfl); simp only [List.nil_append, List.cons_append])
    refine tame_end 28 rfl rfl (fun ρ W hC hr hF => ?_)
    obtain ⟨hrc, hrg, hrf, hrs⟩ := hr
    simp [go_sem] at hF
    apply frame_to
    · go_simp
      exact rfl
    clear hF hrs hrc hrg hrf m7 k0 k1
    have HBW := Lib.hid ((HBR.out.alloc _).ext hC)
    have HEC := Lib.hid ((HEW.out.alloc _).trans hC)
    have t0 := HBW.out.cell 0
    have t1 := HBW.out.cell 1
    have tf := HBW.out.frozen
    have tl := HBW.out.lt
    simp at t0 t1
    clear hC
    go_wp2
    refine ret_set2 HBW.out fun W ⟨b0, b1⟩ hW => ?_
    refine bodyPost_ret (v := .tuple #[valS ⟨x, y⟩, .int .i64 0]) (by simp [results, Tryz.results15, go_sem, b0, b1]) rfl ?_
    exact ⟨by rw [HL.out, HX.out, HZ.out], ext_grown HEC.out hW (by omega)⟩
  · have := hpz hz9
    subst this
    have HL := Lib.hid (show dryB b = ⟨0, 0⟩ by unfold dryB; rw [if_neg hz9])
    clear hpz hpv
    generalize hE9 : askE b true 0 = E at hz9
    have HE9 := Lib.hid hE9; clear hE9
    have t0 := HBR.out.cell 0
    have t1 := HBR.out.cell 1
    have tf := HBR.out.frozen
    have tl := HBR.out.lt
    simp at t0 t1
    go_wp2
    refine ret_set2a HBR.out fun W ⟨b0, b1⟩ hW => ?_
    refine bodyPost_ret (v := .tuple #[valS ⟨0, 0⟩, .int .i64 E]) (by simp [results, Tryz.results15, go_sem, b0, b1]) rfl ?_
    exact ⟨by rw [HL.out, HE9.out], ext_grown HEW.out hW (by omega)⟩

end Go.Proofs.YtfhmfbhpehldpaaGreatDoor
/- core.Pays and the reference's. -/
namespace Go.Proofs.YtfhmfbhpehldpaaGreatDoor
open Go.RowKit Go.Shelf
set_option maxRecDepth 100000
set_option linter.unusedSimpArgs false

def payOf (l : List Int) (r : Int) : Span := ⟨weight (dryOf l).lo r, weight (dryOf l).hi r⟩
def payB (b : Bale) (r : Int) : Span := if askE b (inB 0 200 r) 35 = 0 then payOf (dries b) r else ⟨0, 0⟩
theorem ok_pos {b : Bale} (h : okB b = true) : 0 < (dries b).length := by
  unfold okB at h
  cases hd : dries b with
  | nil => rw [hd] at h; simp at h
  | cons x l => simp
theorem dries_bd {b : Bale} {x : Int} (h : x ∈ dries b) : b.dry.lo ≤ x ∧ x ≤ b.dry.hi := by
  unfold dries driesTo at h
  simp only [List.mem_filter, List.mem_map, List.mem_range] at h
  obtain ⟨⟨i, hi, rfl⟩, _⟩ := h
  omega
theorem f63_any (r : Int) (g : Nat) (w : World) (h1 : w.cell? ⟨g, 0, none⟩ = some (.int .i64 r)) :
    Calls Tryz.prog 63 #[.pointer (some ⟨g, 0, none⟩)] w fun e w' => e = .returned (.bool (inB 0 200 r)) ∧ Ext w w' := by
  go_enter Tryz.func63, Tryz.ntmps63
  go_wp2_with fail
  refine (in1_any 0 200 r _ _ (by simp) (by simp [go_sem])).mono ?_
  rintro e w1 ⟨rfl, hb⟩
  have HB := Lib.hid hb; clear hb
  go_wp2
  go_ret
  exact ⟨rfl, (Ext.al _ _).trans HB.out⟩

set_option maxHeartbeats 1000000 in
theorem pays_any (b : Bale) (r : Int) (dv wv : Value) (w : World) (hT : Tab w) (hd : SlD w dv b.draws) (hw : SlW w wv b.weighs) :
    Calls Tryz.prog 27 #[valB b dv wv, .int .i64 r] w fun e w' => e = .returned (.tuple #[valS (payB b r), .int .i64 (askE b (inB 0 200 r) 35)]) ∧ Ext w w' := by
  have HT := Lib.hid hT
  have HD := Lib.hid hd
  have HW := Lib.hid hw
  obtain ⟨A, n, cp, rfl, hn, hlc, hcm⟩ := hd.form
  obtain ⟨A2, n2, cp2, rfl, hn2, hlc2, hcm2⟩ := hw.form
  clear hd hw hT
  go_enter Tryz.func27, Tryz.ntmps27
  go_wp2_with fail
  refine (asked_fn b _ _ _ 63 _ (enters_of Tryz.func63 (by kernel_rfl) rfl) (inB 0 200 r) 35 (by decide) (fun hv W hW => f63_any r _ W ((hW.cell (p := ⟨w.heap.size + 1, 0, none⟩) (by simp)).trans (by simp [go_sem]))) (((HT.out.ext (Ext.al _ _)).ext (Ext.al _ _)).ext (Ext.al _ _)) (((HD.out.ext (Ext.al _ _)).ext (Ext.al _ _)).ext (Ext.al _ _)) (((HW.out.ext (Ext.al _ _)).ext (Ext.al _ _)).ext (Ext.al _ _))).mono ?_
  rintro e w1 ⟨pv, rfl, hpv, hpz, hE⟩
  have HEW := Lib.hid ((((Ext.al w _).alloc _).alloc _ : Ext w _).trans hE)
  have HBR := Lib.hid ((Blk.at_ (t := 23) (cs := #[.int .i64 0, .int .i64 0]) (w := (w.alloc (.cells #[.int .i64 b.id, .int .i64 b.layers, .int .i64 b.dry.lo, .int .i64 b.dry.hi, .slice A n cp, .slice A2 n2 cp2] 27)).alloc (.cells #[.int .i64 r] 3)) (g := w.heap.size + 2) (by simp)).ext hE)
  have HBD := Lib.hid (((Blk.at_ (t := 3) (cs := #[.int .i64 r]) (w := w.alloc (.cells #[.int .i64 b.id, .int .i64 b.layers, .int .i64 b.dry.lo, .int .i64 b.dry.hi, .slice A n cp, .slice A2 n2 cp2] 27)) (g := w.heap.size + 1) (by simp)).alloc _).ext hE)
  clear hE
  have d0 := HBD.out.cell 0
  have dl := HBD.out.lt
  simp at d0
  by_cases hz9 : askE b (inB 0 200 r) 35 = 0
  · obtain ⟨sv, lv, rfl, hs, hl⟩ := hpv hz9
    obtain ⟨h1, h2, h3⟩ := askE_zero hz9 (by decide)
    have hpos := ok_pos h3
    have hb5 := valid_bds h1
    have hrb : 0 ≤ r ∧ r ≤ 200 := by unfold inB at h2; simpa using h2
    have HL := Lib.hid (show payB b r = payOf (dries b) r by unfold payB; rw [if_pos hz9])
    obtain ⟨As, ns, cs, rfl, hns, hsc, hsm⟩ := hs.form
    obtain ⟨Al, nl, cl, rfl, hnl, hlc', hlm⟩ := hl.form
    obtain ⟨m, rfl⟩ : ∃ m, nl = m + 1 := ⟨nl - 1, by have := hnl.out; omega⟩
    have hnl0 : 0 < m + 1 := by omega
    obtain ⟨bb, off, x, rfl, hx, hbb, hcell⟩ := hl.at_ hnl0
    obtain ⟨bb', off', y, e1, hy, hbb', hcell'⟩ := hl.at_ (show m < m + 1 by omega)
    injection e1 with e1
    injection e1 with e1 e2
    subst e1 e2
    have bx := dries_bd (List.mem_of_getElem? hx)
    have by' := dries_bd (List.mem_of_getElem? hy)
    have x0 : 0 ≤ x ∧ x ≤ 1000000 := by have := hb5.lo; have := hb5.hi; omega
    have y0 : 0 ≤ y ∧ y ≤ 1000000 := by have := hb5.lo; have := hb5.hi; omega
    have c0 := fun W h => Sl.int hcell W h
    have c1 := fun W h => Sl.int hcell' W h
    have HX := Lib.hid (show payOf (dries b) r = ⟨weight x r, weight y r⟩ by unfold payOf dryOf; rw [hx, show (dries b).length - 1 = m by have := hnl.out; omega, hy]; rfl)
    have HZ := Lib.hid hz9
    have HR := Lib.hid (show 0 ≤ r ∧ r ≤ 200 from hrb)
    have HXB := Lib.hid x0
    have HYB := Lib.hid y0
    have hnz : (0 : Int) < (m : Int) + 1 := by omega
    have hm0 : (0 : Int) ≤ (m : Int) := by omega
    have hm1 : (m : Int) < (m : Int) + 1 := by omega
    have hwr : IntKind.i64.wrap (m : Int) = (m : Int) := by simp [IntKind.wrap, IntKind.signed, IntKind.bits]; omega
    clear hx hy hpv hpz hs hl hcell hcell' hpos h1 h2 h3 hb5 hrb bx by' x0 y0
    rw [hz9]
    dsimp only [valP]
    clear hz9
    have m7 := fun W (h : Ext (w1.alloc (.cells #[.int .i64 b.id, .int .i64 b.layers, .int .i64 b.dry.lo, .int .i64 b.dry.hi, .slice A n cp, .slice A2 n2 cp2, .slice As ns cs, .slice (some ⟨bb, off, none⟩) (m + 1) cl] 73)) W) => (h.cells.1 w1.heap.size 7 (by simp)).trans (show _ = some (.slice (some ⟨bb, off, none⟩) (m + 1) cl) by simp [go_sem])
    have k0 := fun W (h : Ext (w1.alloc (.cells #[.int .i64 b.id, .int .i64 b.layers, .int .i64 b.dry.lo, .int .i64 b.dry.hi, .slice A n cp, .slice A2 n2 cp2, .slice As ns cs, .slice (some ⟨bb, off, none⟩) (m + 1) cl] 73)) W) => c0 W ((Ext.al _ _).trans h)
    have k1 := fun W (h : Ext (w1.alloc (.cells #[.int .i64 b.id, .int .i64 b.layers, .int .i64 b.dry.lo, .int .i64 b.dry.hi, .slice A n cp, .slice A2 n2 cp2, .slice As ns cs, .slice (some ⟨bb, off, none⟩) (m + 1) cl] 73)) W) => c1 W ((Ext.al _ _).trans h)
    have kd := fun W (h : Ext (w1.alloc (.cells #[.int .i64 b.id, .int .i64 b.layers, .int .i64 b.dry.lo, .int .i64 b.dry.hi, .slice A n cp, .slice A2 n2 cp2, .slice As ns cs, .slice (some ⟨bb, off, none⟩) (m + 1) cl] 73)) W) => (h.cells.1 (w.heap.size + 1) 0 (by simp; omega)).trans (show _ = some (.int .i64 r) by simp [go_sem, dl, d0])
    simp only [Nat.add_zero] at k0
    clear c0 c1 d0
    go_wp2
    refine wp_region_tame_cut2 (fun W => Ext (w1.alloc (.cells #[.int .i64 b.id, .int .i64 b.layers, .int .i64 b.dry.lo, .int .i64 b.dry.hi, .slice A n cp, .slice A2 n2 cp2, .slice As ns cs, .slice (some ⟨bb, off, none⟩) (m + 1) cl] 73)) W) (fun W W' => Ext W W') (by kernel_rfl) 35 rfl _ _ rfl rfl (by decide +kernel) (by decide +kernel) (by decide +kernel) (by decide +kernel) (by decide +kernel) rfl rfl (Ext.refl _).drew ?_
    simp only [List.dropLast]
    repeat (apply tame_q rfl; (intro ρ W hC hr hD; (obtain ⟨hrc, hrg, hrf, hrs⟩ := hr); (simp [go_sem] at hD); go_simp; first | exact ⟨⟨hC, Ext.refl _⟩, rfl⟩ | exact ⟨⟨hC, RS.refl _⟩, rfl⟩ | exact rfl); simp only [List.nil_append, List.cons_append])
    apply tame_q rfl
    · intro ρ W hC hr hD
      obtain ⟨hrc, hrg, hrf, hrs⟩ := hr
      simp [go_sem] at hD
      go_simp
      refine (f64_any x r _ HXB.out.1 HXB.out.2 HR.out.1 (by have := HR.out; omega)).mono ?_
      rintro e w' ⟨rfl, rfl⟩
      exact ⟨_, rfl, ⟨hC, Ext.refl _⟩, rfl⟩
    simp only [List.nil_append, List.cons_append]
    repeat (apply tame_q rfl; (intro ρ W hC hr hD; (obtain ⟨hrc, hrg, hrf, hrs⟩ := hr); (simp [go_sem] at hD); go_simp; first | exact ⟨⟨hC, Ext.refl _⟩, rfl⟩ | exact ⟨⟨hC, RS.refl _⟩, rfl⟩ | exact rfl); simp only [List.nil_append, List.cons_append])
    apply tame_q rfl
    · intro ρ W hC hr hD
      obtain ⟨hrc, hrg, hrf, hrs⟩ := hr
      simp [go_sem] at hD
      go_simp
      refine (f64_any y r _ HYB.out.1 HYB.out.2 HR.out.1 (by have := HR.out; omega)).mono ?_
      rintro e w' ⟨rfl, rfl⟩
      exact ⟨_, rfl, ⟨hC, Ext.refl _⟩, rfl⟩
    simp only [List.nil_append, List.cons_append]
    repeat (apply tame_q rfl; (intro ρ W hC hr hD; (obtain ⟨hrc, hrg, hrf, hrs⟩ := hr); (simp [go_sem] at hD); go_simp; first | exact ⟨⟨hC, Ext.refl _⟩, rfl⟩ | exact ⟨⟨hC, RS.refl _⟩, rfl⟩ | exact rfl); simp only [List.nil_append, List.cons_append])
    refine tame_end 35 rfl rfl (fun ρ W hC hr hF => ?_)
    obtain ⟨hrc, hrg, hrf, hrs⟩ := hr
    simp [go_sem] at hF
    apply frame_to
    · go_simp
      exact rfl
    clear hF hrs hrc hrg hrf m7 k0 k1 kd
    have HBW := Lib.hid ((HBR.out.alloc _).ext hC)
    have HEC := Lib.hid ((HEW.out.alloc _).trans hC)
    have t0 := HBW.out.cell 0
    have t1 := HBW.out.cell 1
    have tf := HBW.out.frozen
    have tl := HBW.out.lt
    simp at t0 t1
    clear hC
    go_wp2
    refine ret_set2 HBW.out fun W ⟨b0, b1⟩ hW => ?_
    refine bodyPost_ret (v := .tuple #[valS ⟨weight x r, weight y r⟩, .int .i64 0]) (by simp [results, Tryz.results27, go_sem, b0, b1]) rfl ?_
    exact ⟨by rw [HL.out, HX.out, HZ.out], ext_grown HEC.out hW (by omega)⟩
  · have := hpz hz9
    subst this
    have HL := Lib.hid (show payB b r = ⟨0, 0⟩ by unfold payB; rw [if_neg hz9])
    clear hpz hpv
    generalize hE9 : askE b (inB 0 200 r) 35 = E at hz9
    have HE9 := Lib.hid hE9; clear hE9
    have t0 := HBR.out.cell 0
    have t1 := HBR.out.cell 1
    have tf := HBR.out.frozen
    have tl := HBR.out.lt
    simp at t0 t1
    go_wp2
    refine ret_set2a HBR.out fun W ⟨b0, b1⟩ hW => ?_
    refine bodyPost_ret (v := .tuple #[valS ⟨0, 0⟩, .int .i64 E]) (by simp [results, Tryz.results27, go_sem, b0, b1]) rfl ?_
    exact ⟨by rw [HL.out, HE9.out], ext_grown HEW.out hW (by omega)⟩

end Go.Proofs.YtfhmfbhpehldpaaGreatDoor
/- How damp a bale was: slices.Index at numbers, the place of a weighing, core.damp. -/
namespace Go.Proofs.YtfhmfbhpehldpaaGreatDoor
open Go.RowKit Go.Shelf
set_option maxRecDepth 100000
set_option linter.unusedSimpArgs false

set_option maxHeartbeats 400000 in
theorem f46_any (l : List Int) (x : Int) (v : Value) (w : World) (hs : SlI w v l) :
    Calls Tryz.prog 46 #[v, .int .i64 x] w fun e w' => e = .returned (.int .i64 (idxF (fun y => decide (x = y)) l)) ∧ Ext w w' := by
  obtain ⟨A, n, c, rfl, hn, hlc, hcm⟩ := hs.form
  go_enter Tryz.func46, Tryz.ntmps46
  go_wp2
  go_loopg [5, 8] n (fun gg _ s8 wr => ∃ kk : Nat, kk ≤ n ∧ n - kk ≤ gg ∧ s8 = .int .i64 kk ∧ Aside (Ext w wr) ∧ Aside (∀ j y, j < kk → l[j]? = some y → decide (x = y) = false))
  case atStart => exact ⟨0, Nat.zero_le _, by omega, rfl, Ext.refl w, fun j y hj => absurd hj (Nat.not_lt_zero _)⟩
  case round =>
    obtain ⟨kk, hkk, hg, rfl, BW, FA⟩ := hrel
    by_cases hlt : kk < n
    · have hltz : (kk : Int) < (n : Int) := by omega
      obtain ⟨b, off, y, rfl, hx, hb, hcell⟩ := hs.at_ hlt
      have c0 := SlI.cell hcell BW.out
      have HX := Lib.hid hx; clear hx hcell hs
      by_cases hq : x = y
      · have HQ := Lib.hid (show decide (x = y) = true by simp [hq])
        go_wp2
        go_ret
        exact ⟨by rw [idxF_some _ l kk y HX.out HQ.out FA.out]; rfl, BW.out⟩
      · have HQ := Lib.hid (show decide (x = y) = false by simp [hq])
        go_wp2
        go_roundg (n - (kk + 1))
        case measure => omega
        case rel => exact ⟨kk + 1, by omega, by omega, rfl, BW.out, fun j z hj hz => by
          rcases Nat.lt_succ_iff_lt_or_eq.1 hj with h | rfl
          · exact FA.out j z h hz
          · rw [HX.out] at hz; cases hz; exact HQ.out⟩
    · have HE := Lib.hid (show kk = n by omega); clear hs
      go_wp2
      go_ret
      exact ⟨by rw [idxF_none _ l (fun x hx => by obtain ⟨j, hj⟩ := List.getElem?_of_mem hx; exact FA.out j x (by have := (List.getElem?_eq_some_iff.1 hj).1; have := HE.out; have := hn.out; omega) hj)]; rfl, BW.out⟩

/-- The place of a weighing. -/
def wIdx (b : Bale) (number : Int) : Int := idxF (fun x : Weigh => decide (x.number = number)) b.weighs
theorem wIdx_eq (b : Bale) (number : Int) : idxF (fun y => decide (number = y)) (b.weighs.map (·.number)) = wIdx b number := by
  unfold wIdx idxF
  rw [List.findIdx?_map]
  congr 1
  congr 1
  funext x
  simp [Function.comp, eq_comm]

theorem f48_any (i : Int) (g : Nat) (w : World) (h1 : w.cell? ⟨g, 0, none⟩ = some (.int .i64 i)) :
    Calls Tryz.prog 48 #[.pointer (some ⟨g, 0, none⟩)] w fun e w' => e = .returned (.bool (decide (0 ≤ i))) ∧ Ext w w' := by
  go_enter Tryz.func48, Tryz.ntmps48
  by_cases h : 0 ≤ i
  · go_wp2
    go_ret
    exact ⟨by simp [h], Ext.refl _⟩
  · go_wp2
    go_ret
    exact ⟨by simp [h], Ext.refl _⟩

/-! How damp a bale of a dry weight was. -/
def rsOf (x : Weigh) : List Int := (List.range (x.damp.hi - x.damp.lo + 1).toNat).map fun (i : Nat) => x.damp.lo + (i : Int)
def dLo (d : Int) (x : Weigh) : Int := ((rsOf x).find? fun r => decide (x.pounds ≤ weight d r)).getD 0
def dHi (d : Int) (x : Weigh) : Int := (((List.range (x.damp.hi - x.damp.lo + 1).toNat).map fun (i : Nat) => x.damp.hi - (i : Int)).find? fun r => decide (weight d r ≤ x.pounds)).getD 0
theorem mem_rs {x : Weigh} {r : Int} : r ∈ rsOf x ↔ x.damp.lo ≤ r ∧ r ≤ x.damp.hi := by
  unfold rsOf
  simp only [List.mem_map, List.mem_range]
  constructor
  · rintro ⟨i, hi, rfl⟩; omega
  · rintro ⟨h1, h2⟩; exact ⟨(r - x.damp.lo).toNat, by omega, by omega⟩
theorem find_at {n : Nat} {f : Nat → Int} {p : Int → Bool} {k : Nat} (hk : k < n) (h1 : p (f k) = true) (h2 : ∀ j, j < k → p (f j) = false) : ((List.range n).map f).find? p = some (f k) := by
  rw [List.find?_map, Option.map_eq_some_iff]
  refine ⟨k, ?_, rfl⟩
  rw [List.find?_range_eq_some]
  exact ⟨h1, by simpa using hk, fun j hj => by simp only [Function.comp]; rw [h2 j hj]; rfl⟩
/-- Found from below. -/
theorem dLo_of {d lo : Int} {x : Weigh} (h1 : x.damp.lo ≤ lo) (h2 : lo ≤ x.damp.hi) (h3 : x.pounds ≤ weight d lo) (h4 : ∀ r, x.damp.lo ≤ r → r < lo → weight d r < x.pounds) : dLo d x = lo := by
  unfold dLo rsOf
  have e : x.damp.lo + ((lo - x.damp.lo).toNat : Int) = lo := by omega
  rw [find_at (k := (lo - x.damp.lo).toNat) (by omega) (by rw [e]; simpa using h3) (fun j hj => by
    have := h4 (x.damp.lo + j) (by omega) (by omega)
    simp only [decide_eq_false_iff_not]
    omega), e]
  rfl
/-- Found from above. -/
theorem dHi_of {d hi : Int} {x : Weigh} (h1 : x.damp.lo ≤ hi) (h2 : hi ≤ x.damp.hi) (h3 : weight d hi ≤ x.pounds) (h4 : ∀ r, hi < r → r ≤ x.damp.hi → x.pounds < weight d r) : dHi d x = hi := by
  unfold dHi
  have e : x.damp.hi - ((x.damp.hi - hi).toNat : Int) = hi := by omega
  rw [find_at (k := (x.damp.hi - hi).toNat) (by omega) (by rw [e]; simpa using h3) (fun j hj => by
    have := h4 (x.damp.hi - j) (by omega) (by omega)
    simp only [decide_eq_false_iff_not]
    omega), e]
  rfl
end Go.Proofs.YtfhmfbhpehldpaaGreatDoor
/- core.damp. -/
namespace Go.Proofs.YtfhmfbhpehldpaaGreatDoor
open Go.RowKit Go.Shelf
set_option maxRecDepth 100000
set_option linter.unusedSimpArgs false

theorem ret_set2v {P : Program} {fn : Func} {R : Ending → World → Prop} {ex : Exit} {a : Act} {w1 : World} {g : Nat} {t : TypeId} {x0 x1 y0 y1 : Value} (hB : Blk w1 g t #[x0, x1])
    (h : ∀ W, (W.cell? ⟨g, 0, none⟩ = some y0 ∧ W.cell? ⟨g, 1, none⟩ = some y1) → w1.grownBy W (some g) → bodyPost P fn R ex a W) :
    bodyPost P fn R ex a ((w1.setCell ⟨g, 0, none⟩ y0).setCell ⟨g, 1, none⟩ y1) := ret_set2 hB h

set_option maxHeartbeats 2000000 in
theorem damp_any (d : Int) (x : Weigh) (w : World) (hd0 : 0 ≤ d) (hd1 : d ≤ 1000000) (hx0 : 0 ≤ x.damp.lo) (hx1 : x.damp.hi ≤ 1000) (hx2 : x.damp.lo ≤ x.damp.hi) (hc : could d x = true) :
    Calls Tryz.prog 49 #[.int .i64 d, valW x] w fun e w' => e = .returned (valS ⟨dLo d x, dHi d x⟩) ∧ Ext w w' := by
  have HC := Lib.hid (show weight d x.damp.lo ≤ x.pounds ∧ x.pounds ≤ weight d x.damp.hi by unfold could inB at hc; simpa using hc)
  clear hc
  go_enter Tryz.func49, Tryz.ntmps49
  dsimp only [valW]
  go_wp2
  go_loopg [] (x.damp.hi - x.damp.lo).toNat (fun gg wr => ∃ lo : Int, x.damp.lo ≤ lo ∧ lo ≤ x.damp.hi ∧ (x.damp.hi - lo).toNat ≤ gg ∧ Aside (∀ r, x.damp.lo ≤ r → r < lo → weight d r < x.pounds) ∧ Aside (Ext w wr) ∧
    Aside (Blk wr w.heap.size 41 #[.int .i64 x.number, .int .i64 x.pounds, .int .i64 x.damp.lo, .int .i64 x.damp.hi]) ∧ Aside (Blk wr (w.heap.size + 1) 23 #[.int .i64 0, .int .i64 0]) ∧ Aside (Blk wr (w.heap.size + 2) 23 #[.int .i64 lo, .int .i64 x.damp.hi]))
  case atStart => exact ⟨x.damp.lo, by omega, by omega, by omega, fun r h1 h2 => absurd h2 (by omega), ((Ext.al _ _).trans (Ext.al _ _)).trans (Ext.al _ _), ((Blk.at_ rfl).alloc _).alloc _, (Blk.at_ (by simp)).alloc _, Blk.at_ (by simp)⟩
  case round =>
    obtain ⟨lo, h1, h2, hgg, FA, EX, BX, BR, BL⟩ := hrel
    have m0 := fun W (h : Ext wr W) => (show W.cell? ⟨w.heap.size + 2, 0, none⟩ = some (.int .i64 lo) from (BL.out.ext h).cell 0)
    have m1 := fun W (h : Ext wr W) => (show W.cell? ⟨w.heap.size, 1, none⟩ = some (.int .i64 x.pounds) from (BX.out.ext h).cell 1)
    go_wp2
    refine wp_region_tame (fun W => Ext wr W) (fun W W' => Ext W W') (by kernel_rfl) 31 rfl (by decide +kernel) (Ext.refl _).drew ?_
    repeat (apply tame_q rfl; (intro ρ W hC hr hD; (obtain ⟨hrc, hrg, hrf, hrs⟩ := hr); (simp [go_sem] at hD); go_simp; first | exact ⟨⟨hC, Ext.refl _⟩, rfl⟩ | exact ⟨⟨hC, RS.refl _⟩, rfl⟩ | exact rfl); simp only [List.nil_append, List.cons_append])
    apply tame_q rfl
    · intro ρ W hC hr hD
      obtain ⟨hrc, hrg, hrf, hrs⟩ := hr
      simp [go_sem] at hD
      go_simp
      refine (f64_any d lo _ (by omega) (by omega) (by omega) (by omega)).mono ?_
      rintro e w' ⟨rfl, rfl⟩
      exact ⟨_, rfl, ⟨hC, Ext.refl _⟩, rfl⟩
    simp only [List.nil_append, List.cons_append]
    repeat (apply tame_q rfl; (intro ρ W hC hr hD; (obtain ⟨hrc, hrg, hrf, hrs⟩ := hr); (simp [go_sem] at hD); go_simp; first | exact ⟨⟨hC, Ext.refl _⟩, rfl⟩ | exact ⟨⟨hC, RS.refl _⟩, rfl⟩ | exact rfl); simp only [List.nil_append, List.cons_append])
    refine tame_end 31 rfl rfl (fun ρ W hC hr hF => ?_)
    obtain ⟨hrc, hrg, hrf, hrs⟩ := hr
    simp [go_sem] at hF
    apply frame_to
    · go_simp
      exact rfl
    clear hF hrs hrc hrg hrf m0 m1
    have BXW := Lib.hid (BX.out.ext hC)
    have BRW := Lib.hid (BR.out.ext hC)
    have BLW := Lib.hid (BL.out.ext hC)
    have EXW := Lib.hid (EX.out.trans hC)
    have t0 := BLW.out.cell 0
    have t1 := BLW.out.cell 1
    have tf := BLW.out.frozen
    have tl := BLW.out.lt
    simp at t0 t1
    clear hC
    by_cases hlt : weight d lo < x.pounds
    · have hlh : lo < x.damp.hi := by
        rcases Int.lt_or_le lo x.damp.hi with h | h
        · exact h
        · have : lo = x.damp.hi := by omega
          rw [this] at hlt; have := HC.out; omega
      go_wp2
      go_roundg (x.damp.hi - (lo + 1)).toNat
      case measure => omega
      case rel =>
        refine ⟨lo + 1, by omega, by omega, by omega, fun r h3 h4 => ?_, EXW.out.setCell (by dsimp only; omega) _, BXW.out.far (by dsimp only; omega) _, BRW.out.far (by dsimp only; omega) _, BLW.out.set_ 0 _⟩
        by_cases hrl : r = lo
        · rw [hrl]; exact hlt
        · exact FA.out r h3 (by omega)
    · have HLO := Lib.hid (dLo_of h1 h2 (Int.not_lt.1 hlt) FA.out)
      go_wp2
      go_loopg [] (x.damp.hi - x.damp.lo).toNat (fun gg wq => ∃ hi : Int, x.damp.lo ≤ hi ∧ hi ≤ x.damp.hi ∧ (hi - x.damp.lo).toNat ≤ gg ∧ Aside (∀ r, hi < r → r ≤ x.damp.hi → x.pounds < weight d r) ∧ Aside (Ext w wq) ∧
        Aside (Blk wq w.heap.size 41 #[.int .i64 x.number, .int .i64 x.pounds, .int .i64 x.damp.lo, .int .i64 x.damp.hi]) ∧ Aside (Blk wq (w.heap.size + 1) 23 #[.int .i64 0, .int .i64 0]) ∧ Aside (Blk wq (w.heap.size + 2) 23 #[.int .i64 lo, .int .i64 hi]))
      case atStart => exact ⟨x.damp.hi, by omega, by omega, by omega, fun r h1 h2 => absurd h2 (by omega), EXW.out, BXW.out, BRW.out, BLW.out⟩
      case round =>
        clear t0 t1 tf tl
        obtain ⟨hi, g1, g2, hgg2, FB, EX2, BX2, BR2, BL2⟩ := hrel
        have m0 := fun W (h : Ext wr W) => (show W.cell? ⟨w.heap.size + 2, 1, none⟩ = some (.int .i64 hi) from (BL2.out.ext h).cell 1)
        have m1 := fun W (h : Ext wr W) => (show W.cell? ⟨w.heap.size, 1, none⟩ = some (.int .i64 x.pounds) from (BX2.out.ext h).cell 1)
        go_wp2
        refine wp_region_tame (fun W => Ext wr W) (fun W W' => Ext W W') (by kernel_rfl) 31 rfl (by decide +kernel) (Ext.refl _).drew ?_
        repeat (apply tame_q rfl; (intro ρ W hC hr hD; (obtain ⟨hrc, hrg, hrf, hrs⟩ := hr); (simp [go_sem] at hD); go_simp; first | exact ⟨⟨hC, Ext.refl _⟩, rfl⟩ | exact ⟨⟨hC, RS.refl _⟩, rfl⟩ | exact rfl); simp only [List.nil_append, List.cons_append])
        apply tame_q rfl
        · intro ρ W hC hr hD
          obtain ⟨hrc, hrg, hrf, hrs⟩ := hr
          simp [go_sem] at hD
          go_simp
          refine (f64_any d hi _ (by omega) (by omega) (by omega) (by omega)).mono ?_
          rintro e w' ⟨rfl, rfl⟩
          exact ⟨_, rfl, ⟨hC, Ext.refl _⟩, rfl⟩
        simp only [List.nil_append, List.cons_append]
        repeat (apply tame_q rfl; (intro ρ W hC hr hD; (obtain ⟨hrc, hrg, hrf, hrs⟩ := hr); (simp [go_sem] at hD); go_simp; first | exact ⟨⟨hC, Ext.refl _⟩, rfl⟩ | exact ⟨⟨hC, RS.refl _⟩, rfl⟩ | exact rfl); simp only [List.nil_append, List.cons_append])
        refine tame_end 31 rfl rfl (fun ρ W hC hr hF => ?_)
        obtain ⟨hrc, hrg, hrf, hrs⟩ := hr
        simp [go_sem] at hF
        apply frame_to
        · go_simp
          exact rfl
        clear hF hrs hrc hrg hrf m0 m1
        have BXW2 := Lib.hid (BX2.out.ext hC)
        have BRW2 := Lib.hid (BR2.out.ext hC)
        have BLW2 := Lib.hid (BL2.out.ext hC)
        have EXW2 := Lib.hid (EX2.out.trans hC)
        have t0 := BLW2.out.cell 0
        have t1 := BLW2.out.cell 1
        have tf := BLW2.out.frozen
        have tl := BLW2.out.lt
        simp at t0 t1
        clear hC
        by_cases hgt : x.pounds < weight d hi
        · have hlh : x.damp.lo < hi := by
            rcases Int.lt_or_le x.damp.lo hi with h | h
            · exact h
            · have : hi = x.damp.lo := by omega
              rw [this] at hgt; have := HC.out; omega
          go_wp2
          go_roundg (hi - 1 - x.damp.lo).toNat
          case measure => omega
          case rel =>
            refine ⟨hi - 1, by omega, by omega, by omega, fun r h3 h4 => ?_, EXW2.out.setCell (by dsimp only; omega) _, BXW2.out.far (by dsimp only; omega) _, BRW2.out.far (by dsimp only; omega) _, BLW2.out.set_ 1 _⟩
            by_cases hrl : r = hi
            · rw [hrl]; exact hgt
            · exact FB.out r (by omega) h4
        · have HHI := Lib.hid (dHi_of g1 g2 (Int.not_lt.1 hgt) FB.out)
          have r0 := BRW2.out.cell 0
          have r1 := BRW2.out.cell 1
          have rf := BRW2.out.frozen
          have rl := BRW2.out.lt
          simp at r0 r1
          go_wp2
          refine ret_set2 BRW2.out fun W ⟨b0, b1⟩ hW => ?_
          refine bodyPost_ret (v := valS ⟨lo, hi⟩) (by simp [results, Tryz.results49, go_sem, b0, b1]) rfl ?_
          exact ⟨by rw [HLO.out, HHI.out], ext_grown EXW2.out hW (by omega)⟩
end Go.Proofs.YtfhmfbhpehldpaaGreatDoor
/- core.Wet. -/
namespace Go.Proofs.YtfhmfbhpehldpaaGreatDoor
open Go.RowKit Go.Shelf
set_option maxRecDepth 100000
set_option linter.unusedSimpArgs false

theorem idxF_pos {α : Type} {p : α → Bool} {l : List α} (h : 0 ≤ idxF p l) : ∃ (k : Nat) (x : α), idxF p l = (k : Int) ∧ l[k]? = some x ∧ p x = true := by
  unfold idxF at h ⊢
  cases hf : l.findIdx? p with
  | none => rw [hf] at h; simp at h
  | some k =>
    rw [List.findIdx?_eq_some_iff_getElem] at hf
    obtain ⟨hk, hp, _⟩ := hf
    exact ⟨k, l[k], rfl, List.getElem?_eq_getElem hk, hp⟩
theorem dries_could {b : Bale} {d : Int} {x : Weigh} (h : d ∈ dries b) (hx : x ∈ b.weighs) : could d x = true := by
  unfold dries driesTo at h
  simp only [List.mem_filter] at h
  exact List.all_eq_true.1 h.2 x hx
def wetOf (b : Bale) (i : Int) : Span := match b.weighs[i.toNat]? with | some x => ⟨dLo (dryOf (dries b)).hi x, dHi (dryOf (dries b)).lo x⟩ | none => ⟨0, 0⟩
def wetB (b : Bale) (number : Int) : Span := if askE b (decide (0 ≤ wIdx b number)) 6 = 0 then wetOf b (wIdx b number) else ⟨0, 0⟩

set_option maxHeartbeats 2000000 in
theorem wet_any (b : Bale) (number : Int) (dv wv : Value) (w : World) (hT : Tab w) (hd : SlD w dv b.draws) (hw : SlW w wv b.weighs) (hlen : b.weighs.length < 1000000) :
    Calls Tryz.prog 16 #[valB b dv wv, .int .i64 number] w fun e w' => e = .returned (.tuple #[valS (wetB b number), .int .i64 (askE b (decide (0 ≤ wIdx b number)) 6)]) ∧ Ext w w' := by
  have HT := Lib.hid hT
  have HD := Lib.hid hd
  have HW := Lib.hid hw
  obtain ⟨A, n, cp, rfl, hn, hlc, hcm⟩ := hd.form
  obtain ⟨A2, n2, cp2, rfl, hn2, hlc2, hcm2⟩ := hw.form
  clear hd hw hT
  go_enter Tryz.func16, Tryz.ntmps16
  go_wp2_with fail
  refine (f47_any b _ _ _ ((HD.out.ext (Ext.al _ _)).ext (Ext.al _ _)) ((HW.out.ext (Ext.al _ _)).ext (Ext.al _ _)) hlen).mono ?_
  rintro e w1 ⟨v, rfl, hv, hE1⟩
  obtain ⟨Av, nv, cv, rfl, hnv, hlv, hcv⟩ := hv.form
  have HV := Lib.hid hv; clear hv
  have HE1 := Lib.hid (((Ext.al w _).alloc _ : Ext w _).trans hE1)
  have HBR1 := Lib.hid ((Blk.at_ (t := 23) (cs := #[.int .i64 0, .int .i64 0]) (w := w.alloc (.cells #[.int .i64 b.id, .int .i64 b.layers, .int .i64 b.dry.lo, .int .i64 b.dry.hi, .slice A n cp, .slice A2 n2 cp2] 27)) (g := w.heap.size + 1) (by simp)).ext hE1)
  have HBX1 := Lib.hid (((Blk.at_ (t := 27) (cs := #[.int .i64 b.id, .int .i64 b.layers, .int .i64 b.dry.lo, .int .i64 b.dry.hi, .slice A n cp, .slice A2 n2 cp2]) (w := w) (g := w.heap.size) rfl).alloc _).ext hE1)
  clear hE1 hlen
  go_wp2_with fail
  refine (f46_any _ number _ _ HV.out).mono ?_
  rintro e w2 ⟨rfl, hE2⟩
  rw [wIdx_eq]
  have HE2 := Lib.hid (HE1.out.trans hE2)
  have HBR2 := Lib.hid (HBR1.out.ext hE2)
  have HBX2 := Lib.hid (HBX1.out.ext hE2)
  clear hE2 HE1 HBR1 HBX1 HV
  generalize hi : wIdx b number = i
  have HI := Lib.hid hi; clear hi
  have x0 := HBX2.out.cell 0
  have x1 := HBX2.out.cell 1
  have x2 := HBX2.out.cell 2
  have x3 := HBX2.out.cell 3
  have x4 := HBX2.out.cell 4
  have x5 := HBX2.out.cell 5
  have xl := HBX2.out.lt
  simp at x0 x1 x2 x3 x4 x5
  go_wp2_with fail
  clear x0 x1 x2 x3 x4 x5
  refine (asked_fn b _ _ _ 48 _ (enters_of Tryz.func48 (by kernel_rfl) rfl) (decide (0 ≤ i)) 6 (by decide) (fun hv W hW => f48_any i _ W ((hW.cell (p := ⟨w2.heap.size, 0, none⟩) (by simp)).trans (by simp [go_sem]))) ((HT.out.ext HE2.out).ext (Ext.al _ _)) ((HD.out.ext HE2.out).ext (Ext.al _ _)) ((HW.out.ext HE2.out).ext (Ext.al _ _))).mono ?_
  rintro e w3 ⟨pv, rfl, hpv, hpz, hE⟩
  have HEW := Lib.hid ((HE2.out.alloc _).trans hE)
  have HBR := Lib.hid ((HBR2.out.alloc (.cells #[.int .i64 i] 3)).ext hE)
  have HBX := Lib.hid ((HBX2.out.alloc (.cells #[.int .i64 i] 3)).ext hE)
  have HBI := Lib.hid ((Blk.new w2 3 #[.int .i64 i]).ext hE)
  clear hE HBR2 HBX2 xl HE2
  by_cases hz9 : askE b (decide (0 ≤ i)) 6 = 0
  · obtain ⟨sv, lv, rfl, hs, hl⟩ := hpv hz9
    obtain ⟨h1, h2, h3⟩ := askE_zero hz9 (by decide)
    have hpos := ok_pos h3
    have hb5 := valid_bds h1
    have hi0 : 0 ≤ wIdx b number := by rw [HI.out]; simpa using h2
    obtain ⟨k, z, hik, hkz, _⟩ := idxF_pos hi0
    have hiki : i = (k : Int) := HI.out.symm.trans hik
    subst hiki
    have hkn : k < n2 := by have := (List.getElem?_eq_some_iff.1 hkz).1; have := hn2.out; omega
    have hknz : (k : Int) < (n2 : Int) := by omega
    have hk0 : (0 : Int) ≤ (k : Int) := by omega
    obtain ⟨bw, ow, z', rfl, hz', hbw, hzc⟩ := HW.out.at_ hkn
    obtain rfl : z' = z := by rw [hkz] at hz'; injection hz' with h; exact h.symm
    obtain ⟨As, ns, cs, rfl, hns, hsc, hsm⟩ := hs.form
    obtain ⟨Al, nl, cl, rfl, hnl, hlc', hlm⟩ := hl.form
    obtain ⟨m, rfl⟩ : ∃ m, nl = m + 1 := ⟨nl - 1, by have := hnl.out; omega⟩
    have hnl0 : 0 < m + 1 := by omega
    obtain ⟨bb, off, x, rfl, hx, hbb, hcell⟩ := hl.at_ hnl0
    obtain ⟨bb', off', y, e1, hy, hbb', hcell'⟩ := hl.at_ (show m < m + 1 by omega)
    injection e1 with e1
    injection e1 with e1 e2
    subst e1 e2
    have bx := dries_bd (List.mem_of_getElem? hx)
    have by' := dries_bd (List.mem_of_getElem? hy)
    have HXB := Lib.hid (show (0 ≤ x ∧ x ≤ 1000000) ∧ could x z' = true by have := hb5.lo; have := hb5.hi; exact ⟨by omega, dries_could (List.mem_of_getElem? hx) (List.mem_of_getElem? hkz)⟩)
    have HYB := Lib.hid (show (0 ≤ y ∧ y ≤ 1000000) ∧ could y z' = true by have := hb5.lo; have := hb5.hi; exact ⟨by omega, dries_could (List.mem_of_getElem? hy) (List.mem_of_getElem? hkz)⟩)
    have HZB := Lib.hid (show 0 ≤ z'.damp.lo ∧ z'.damp.hi ≤ 1000 ∧ z'.damp.lo ≤ z'.damp.hi by have := hb5.w z' (List.mem_of_getElem? hkz); omega)
    have HL := Lib.hid (show wetB b number = ⟨dLo y z', dHi x z'⟩ by
      unfold wetB; rw [HI.out, if_pos hz9]; unfold wetOf; rw [Int.toNat_natCast, hkz]; unfold dryOf; rw [hx, show (dries b).length - 1 = m by have := hnl.out; omega, hy]; rfl)
    have HZ := Lib.hid hz9
    have hnz : (0 : Int) < (m : Int) + 1 := by omega
    have hm0 : (0 : Int) ≤ (m : Int) := by omega
    have hm1 : (m : Int) < (m : Int) + 1 := by omega
    have hwr : IntKind.i64.wrap (m : Int) = (m : Int) := by simp [IntKind.wrap, IntKind.signed, IntKind.bits]; omega
    have c0 := fun W h => Sl.int hcell W h
    have c1 := fun W h => Sl.int hcell' W h
    have m7 := fun W (h : Ext (w3.alloc (.cells #[.int .i64 b.id, .int .i64 b.layers, .int .i64 b.dry.lo, .int .i64 b.dry.hi, .slice A n cp, .slice (some ⟨bw, ow, none⟩) n2 cp2, .slice As ns cs, .slice (some ⟨bb, off, none⟩) (m + 1) cl] 73)) W) => (h.cells.1 w3.heap.size 7 (by simp)).trans (show _ = some (.slice (some ⟨bb, off, none⟩) (m + 1) cl) by simp [go_sem])
    have k0 := fun W (h : Ext (w3.alloc (.cells #[.int .i64 b.id, .int .i64 b.layers, .int .i64 b.dry.lo, .int .i64 b.dry.hi, .slice A n cp, .slice (some ⟨bw, ow, none⟩) n2 cp2, .slice As ns cs, .slice (some ⟨bb, off, none⟩) (m + 1) cl] 73)) W) => c0 W ((Ext.al _ _).trans h)
    have k1 := fun W (h : Ext (w3.alloc (.cells #[.int .i64 b.id, .int .i64 b.layers, .int .i64 b.dry.lo, .int .i64 b.dry.hi, .slice A n cp, .slice (some ⟨bw, ow, none⟩) n2 cp2, .slice As ns cs, .slice (some ⟨bb, off, none⟩) (m + 1) cl] 73)) W) => c1 W ((Ext.al _ _).trans h)
    have kb := fun W (h : Ext (w3.alloc (.cells #[.int .i64 b.id, .int .i64 b.layers, .int .i64 b.dry.lo, .int .i64 b.dry.hi, .slice A n cp, .slice (some ⟨bw, ow, none⟩) n2 cp2, .slice As ns cs, .slice (some ⟨bb, off, none⟩) (m + 1) cl] 73)) W) => (show W.cell? ⟨w.heap.size, 5, none⟩ = some (.slice (some ⟨bw, ow, none⟩) n2 cp2) from ((HBX.out.alloc _).ext h).cell 5)
    have ki := fun W (h : Ext (w3.alloc (.cells #[.int .i64 b.id, .int .i64 b.layers, .int .i64 b.dry.lo, .int .i64 b.dry.hi, .slice A n cp, .slice (some ⟨bw, ow, none⟩) n2 cp2, .slice As ns cs, .slice (some ⟨bb, off, none⟩) (m + 1) cl] 73)) W) => (show W.cell? ⟨w2.heap.size, 0, none⟩ = some (.int .i64 (k : Int)) from ((HBI.out.alloc _).ext h).cell 0)
    have kz := fun W (h : Ext (w3.alloc (.cells #[.int .i64 b.id, .int .i64 b.layers, .int .i64 b.dry.lo, .int .i64 b.dry.hi, .slice A n cp, .slice (some ⟨bw, ow, none⟩) n2 cp2, .slice As ns cs, .slice (some ⟨bb, off, none⟩) (m + 1) cl] 73)) W) => SlW.cells hzc ((HEW.out.alloc _).trans h)
    have kz0 := fun W h => (kz W h).1
    have kz1 := fun W h => (kz W h).2.1
    have kz2 := fun W h => (kz W h).2.2.1
    have kz3 := fun W h => (kz W h).2.2.2
    simp only [Nat.add_zero] at k0
    clear hx hy hpv hpz hs hl hcell hcell' hpos h1 h2 h3 hb5 bx by' c0 c1 kz hkz hz' hzc hik hi0
    rw [hz9]
    dsimp only [valP]
    clear hz9
    go_wp2
    refine wp_region_tame_cut2 (fun W => Ext (w3.alloc (.cells #[.int .i64 b.id, .int .i64 b.layers, .int .i64 b.dry.lo, .int .i64 b.dry.hi, .slice A n cp, .slice (some ⟨bw, ow, none⟩) n2 cp2, .slice As ns cs, .slice (some ⟨bb, off, none⟩) (m + 1) cl] 73)) W) (fun W W' => Ext W W') (by kernel_rfl) 50 rfl _ _ rfl rfl (by decide +kernel) (by decide +kernel) (by decide +kernel) (by decide +kernel) (by decide +kernel) rfl rfl (Ext.refl _).drew ?_
    simp only [List.dropLast]
    repeat (apply tame_q rfl; (intro ρ W hC hr hD; (obtain ⟨hrc, hrg, hrf, hrs⟩ := hr); (simp [go_sem] at hD); go_simp; first | exact ⟨⟨hC, Ext.refl _⟩, rfl⟩ | exact ⟨⟨hC, RS.refl _⟩, rfl⟩ | exact rfl); simp only [List.nil_append, List.cons_append])
    apply tame_q rfl
    · intro ρ W hC hr hD
      obtain ⟨hrc, hrg, hrf, hrs⟩ := hr
      simp [go_sem] at hD
      go_simp
      refine (damp_any y z' _ HYB.out.1.1 HYB.out.1.2 HZB.out.1 HZB.out.2.1 HZB.out.2.2 HYB.out.2).mono ?_
      rintro e w' ⟨rfl, hE⟩
      exact ⟨_, rfl, ⟨hC.trans hE, hE⟩, rfl⟩
    simp only [List.nil_append, List.cons_append]
    repeat (apply tame_q rfl; (intro ρ W hC hr hD; (obtain ⟨hrc, hrg, hrf, hrs⟩ := hr); (simp [go_sem] at hD); go_simp; first | exact ⟨⟨hC, Ext.refl _⟩, rfl⟩ | exact ⟨⟨hC, RS.refl _⟩, rfl⟩ | exact rfl); simp only [List.nil_append, List.cons_append])
    apply tame_q rfl
    · intro ρ W hC hr hD
      obtain ⟨hrc, hrg, hrf, hrs⟩ := hr
      simp [go_sem] at hD
      go_simp
      refine (damp_any x z' _ HXB.out.1.1 HXB.out.1.2 HZB.out.1 HZB.out.2.1 HZB.out.2.2 HXB.out.2).mono ?_
      rintro e w' ⟨rfl, hE⟩
      exact ⟨_, rfl, ⟨hC.trans hE, hE⟩, rfl⟩
    simp only [List.nil_append, List.cons_append]
    repeat (apply tame_q rfl; (intro ρ W hC hr hD; (obtain ⟨hrc, hrg, hrf, hrs⟩ := hr); (simp [go_sem] at hD); go_simp; first | exact ⟨⟨hC, Ext.refl _⟩, rfl⟩ | exact ⟨⟨hC, RS.refl _⟩, rfl⟩ | exact rfl); simp only [List.nil_append, List.cons_append])
    refine tame_end 50 rfl rfl (fun ρ W hC hr hF => ?_)
    obtain ⟨hrc, hrg, hrf, hrs⟩ := hr
    simp [go_sem] at hF
    apply frame_to
    · go_simp
      exact rfl
    clear hF hrs hrc hrg hrf m7 k0 k1 kb ki kz0 kz1 kz2 kz3
    have HBW := Lib.hid ((HBR.out.alloc _).ext hC)
    have HEC := Lib.hid ((HEW.out.alloc _).trans hC)
    have t0 := HBW.out.cell 0
    have t1 := HBW.out.cell 1
    have tf := HBW.out.frozen
    have tl := HBW.out.lt
    simp at t0 t1
    clear hC
    go_wp2
    refine ret_set2 HBW.out fun W ⟨b0, b1⟩ hW => ?_
    refine bodyPost_ret (v := .tuple #[valS ⟨dLo y z', dHi x z'⟩, .int .i64 0]) (by simp [results, Tryz.results16, go_sem, b0, b1]) rfl ?_
    exact ⟨by rw [HL.out, HI.out, HZ.out], ext_grown HEC.out hW (by omega)⟩
  · have := hpz hz9
    subst this
    have HL := Lib.hid (show wetB b number = ⟨0, 0⟩ by unfold wetB; rw [HI.out, if_neg hz9])
    clear hpz hpv
    generalize hE9 : askE b (decide (0 ≤ i)) 6 = E at hz9
    have HE9 := Lib.hid hE9; clear hE9
    have t0 := HBR.out.cell 0
    have t1 := HBR.out.cell 1
    have tf := HBR.out.frozen
    have tl := HBR.out.lt
    simp at t0 t1
    go_wp2
    refine ret_set2a HBR.out fun W ⟨b0, b1⟩ hW => ?_
    refine bodyPost_ret (v := .tuple #[valS ⟨0, 0⟩, .int .i64 E]) (by simp [results, Tryz.results16, go_sem, b0, b1]) rfl ?_
    exact ⟨by rw [HL.out, HI.out, HE9.out], ext_grown HEW.out hW (by omega)⟩
end Go.Proofs.YtfhmfbhpehldpaaGreatDoor
/- The reference's Wet. -/
namespace Go.Proofs.YtfhmfbhpehldpaaGreatDoor
open Go.RowKit Go.Shelf
set_option maxRecDepth 100000
set_option linter.unusedSimpArgs false

def hitStep (d : Int) (x : Weigh) (s : Span) (r : Int) : Span := if weight d r = x.pounds then ⟨min s.lo r, max s.hi r⟩ else s
def hitsTo (d : Int) (x : Weigh) (s : Span) : Nat → Span
  | 0 => s
  | k + 1 => hitStep d x (hitsTo d x s k) (x.damp.lo + (k : Int))
def wetFold (x : Weigh) (l : List Int) : Span := l.foldl (fun s d => hitsTo d x s (x.damp.hi - x.damp.lo + 1).toNat) ⟨x.damp.hi, x.damp.lo⟩
/-- What the reference tells of a weighing. -/
def rwetB (b : Bale) (number : Int) : Span := if askE b (decide (0 ≤ wIdx b number)) 6 = 0 then (match b.weighs[(wIdx b number).toNat]? with | some x => wetFold x (dries b) | none => ⟨0, 0⟩) else ⟨0, 0⟩

end Go.Proofs.YtfhmfbhpehldpaaGreatDoor
/- The plain law of dampness: what the program tells by the lightest and the heaviest dry weight is what the reference finds by trying all. -/
namespace Go.Proofs.YtfhmfbhpehldpaaGreatDoor
open Go.RowKit Go.Shelf
set_option linter.unusedSimpArgs false

theorem weight_step {d : Int} (r : Int) (h0 : 0 ≤ d) (h1 : d ≤ 1000) : weight d r ≤ weight d (r + 1) ∧ weight d (r + 1) ≤ weight d r + 1 := by
  unfold weight
  rw [show d * (1000 + (r + 1)) = d * (1000 + r) + d by rw [← Int.add_assoc, Int.mul_add d (1000 + r) 1]; omega]
  generalize d * (1000 + r) = p
  omega
theorem weight_le_d {d d' : Int} (r : Int) (h : d ≤ d') (hr : 0 ≤ r) : weight d r ≤ weight d' r := by
  unfold weight
  have := Int.mul_le_mul_of_nonneg_right h (show 0 ≤ 1000 + r by omega)
  omega
theorem weight_mono {d : Int} (h0 : 0 ≤ d) (h1 : d ≤ 1000) (r : Int) (k : Nat) : weight d r ≤ weight d (r + k) := by
  induction k with
  | zero => simp
  | succ k ih =>
    have := (weight_step (d := d) (r + k) h0 h1).1
    rw [show r + ((k + 1 : Nat) : Int) = r + k + 1 by omega]
    omega
theorem weight_mono' {d : Int} (h0 : 0 ≤ d) (h1 : d ≤ 1000) {r r' : Int} (h : r ≤ r') : weight d r ≤ weight d r' := by
  have := weight_mono h0 h1 r (r' - r).toNat
  rwa [show r + ((r' - r).toNat : Int) = r' by omega] at this

/-- A weighing, and a dry weight that can weigh so. -/
structure Fit (d : Int) (x : Weigh) : Prop where
  d0 : 0 ≤ d
  d1 : d ≤ 1000
  r0 : 0 ≤ x.damp.lo
  r1 : x.damp.lo ≤ x.damp.hi
  c : could d x = true
theorem Fit.lo {d : Int} {x : Weigh} (h : Fit d x) : weight d x.damp.lo ≤ x.pounds ∧ x.pounds ≤ weight d x.damp.hi := by
  have := h.c
  unfold could inB at this
  simpa using this
theorem lo_ex (d : Int) (x : Weigh) : ∀ k : Nat, x.damp.lo + k ≤ x.damp.hi → (∃ lo, x.damp.lo ≤ lo ∧ lo ≤ x.damp.lo + k ∧ x.pounds ≤ weight d lo ∧ ∀ r, x.damp.lo ≤ r → r < lo → weight d r < x.pounds) ∨ ∀ r, x.damp.lo ≤ r → r ≤ x.damp.lo + k → weight d r < x.pounds := by
  intro k
  induction k with
  | zero =>
    intro hk
    by_cases hp : x.pounds ≤ weight d x.damp.lo
    · exact .inl ⟨x.damp.lo, by omega, by omega, hp, fun r h1 h2 => by omega⟩
    · refine .inr fun r h1 h2 => ?_
      have : r = x.damp.lo := by simp at h2; omega
      rw [this]; omega
  | succ k ih =>
    intro hk
    rcases ih (by omega) with ⟨lo, h1, h2, h3, h4⟩ | hall
    · exact .inl ⟨lo, h1, by omega, h3, h4⟩
    · by_cases hp : x.pounds ≤ weight d (x.damp.lo + (k + 1 : Nat))
      · exact .inl ⟨_, by omega, by omega, hp, fun r h1 h2 => hall r h1 (by omega)⟩
      · refine .inr fun r h1 h2 => ?_
        by_cases hr : r = x.damp.lo + (k + 1 : Nat)
        · rw [hr]; omega
        · exact hall r h1 (by omega)
theorem dLo_spec {d : Int} {x : Weigh} (h : Fit d x) : x.damp.lo ≤ dLo d x ∧ dLo d x ≤ x.damp.hi ∧ weight d (dLo d x) = x.pounds ∧ ∀ r, x.damp.lo ≤ r → r < dLo d x → weight d r < x.pounds := by
  have hlo := h.lo
  have hr := h.r1
  rcases lo_ex d x (x.damp.hi - x.damp.lo).toNat (by omega) with ⟨lo, h1, h2, h3, h4⟩ | hall
  · have e := dLo_of (d := d) h1 (show lo ≤ x.damp.hi by omega) h3 h4
    rw [e]
    refine ⟨h1, by omega, ?_, h4⟩
    by_cases hl : lo = x.damp.lo
    · rw [hl] at h3 ⊢; omega
    · have h5 := h4 (lo - 1) (by omega) (by omega)
      have h6 := (weight_step (d := d) (lo - 1) h.d0 h.d1).2
      rw [show lo - 1 + 1 = lo by omega] at h6
      omega
  · have := hall x.damp.hi hr (by omega)
    omega
theorem hi_ex (d : Int) (x : Weigh) : ∀ k : Nat, x.damp.lo ≤ x.damp.hi - k → (∃ hi, x.damp.hi - k ≤ hi ∧ hi ≤ x.damp.hi ∧ weight d hi ≤ x.pounds ∧ ∀ r, hi < r → r ≤ x.damp.hi → x.pounds < weight d r) ∨ ∀ r, x.damp.hi - k ≤ r → r ≤ x.damp.hi → x.pounds < weight d r := by
  intro k
  induction k with
  | zero =>
    intro hk
    by_cases hp : weight d x.damp.hi ≤ x.pounds
    · exact .inl ⟨x.damp.hi, by omega, by omega, hp, fun r h1 h2 => by omega⟩
    · refine .inr fun r h1 h2 => ?_
      have : r = x.damp.hi := by simp at h1; omega
      rw [this]; omega
  | succ k ih =>
    intro hk
    rcases ih (by omega) with ⟨hi, h1, h2, h3, h4⟩ | hall
    · exact .inl ⟨hi, by omega, h2, h3, h4⟩
    · by_cases hp : weight d (x.damp.hi - (k + 1 : Nat)) ≤ x.pounds
      · exact .inl ⟨_, by omega, by omega, hp, fun r h1 h2 => hall r (by omega) h2⟩
      · refine .inr fun r h1 h2 => ?_
        by_cases hr : r = x.damp.hi - (k + 1 : Nat)
        · rw [hr]; omega
        · exact hall r (by omega) h2
theorem dHi_spec {d : Int} {x : Weigh} (h : Fit d x) : x.damp.lo ≤ dHi d x ∧ dHi d x ≤ x.damp.hi ∧ weight d (dHi d x) = x.pounds ∧ ∀ r, dHi d x < r → r ≤ x.damp.hi → x.pounds < weight d r := by
  have hlo := h.lo
  have hr := h.r1
  rcases hi_ex d x (x.damp.hi - x.damp.lo).toNat (by omega) with ⟨hi, h1, h2, h3, h4⟩ | hall
  · have e := dHi_of (d := d) (show x.damp.lo ≤ hi by omega) h2 h3 h4
    rw [e]
    refine ⟨by omega, h2, ?_, h4⟩
    by_cases hl : hi = x.damp.hi
    · rw [hl] at h3 ⊢; omega
    · have h5 := h4 (hi + 1) (by omega) (by omega)
      have h6 := (weight_step (d := d) hi h.d0 h.d1).2
      omega
  · have := hall x.damp.lo (by omega) hr
    omega
/-- Trying all of the dampness: the least and the most that fit. -/
theorem hitsTo_full {d : Int} {x : Weigh} (h : Fit d x) (s : Span) : hitsTo d x s (x.damp.hi - x.damp.lo + 1).toNat = ⟨min s.lo (dLo d x), max s.hi (dHi d x)⟩ := by
  obtain ⟨l1, l2, l3, l4⟩ := dLo_spec h
  obtain ⟨g1, g2, g3, g4⟩ := dHi_spec h
  have hLH : dLo d x ≤ dHi d x := by
    rcases Int.lt_or_le (dHi d x) (dLo d x) with hl | hl
    · have := g4 _ hl l2; omega
    · exact hl
  have key : ∀ k : Nat, x.damp.lo + k ≤ x.damp.hi + 1 → hitsTo d x s k = ⟨if x.damp.lo + k ≤ dLo d x then s.lo else min s.lo (dLo d x), if x.damp.lo + k ≤ dLo d x then s.hi else max s.hi (min (x.damp.lo + k - 1) (dHi d x))⟩ := by
    intro k
    induction k with
    | zero => intro _; simp [hitsTo, l1]
    | succ k ih =>
      intro hk
      rw [hitsTo, ih (by omega), hitStep]
      by_cases hb : x.damp.lo + k < dLo d x
      · have hw := l4 (x.damp.lo + k) (by omega) hb
        rw [if_neg (by omega), if_pos (by omega), if_pos (by omega), if_pos (by omega), if_pos (by omega)]
      · by_cases ha : dHi d x < x.damp.lo + k
        · have hw : weight d (x.damp.lo + k) ≠ x.pounds := by
            have := g4 _ ha (by omega)
            omega
          rw [if_neg hw]
          simp only [Span.mk.injEq, Int.min_def, Int.max_def]
          refine ⟨?_, ?_⟩ <;> (repeat' split) <;> omega
        · have hw : weight d (x.damp.lo + k) = x.pounds := by
            have h5 := weight_mono' h.d0 h.d1 (show dLo d x ≤ x.damp.lo + k by omega)
            have h6 := weight_mono' h.d0 h.d1 (show x.damp.lo + k ≤ dHi d x by omega)
            omega
          rw [if_pos hw]
          simp only [Span.mk.injEq]
          refine ⟨?_, ?_⟩ <;> (repeat' split) <;> omega
  rw [key _ (by omega)]
  rw [if_neg (by omega), if_neg (by omega)]
  congr 1
  omega
theorem dLo_anti {d d' : Int} {x : Weigh} (h : Fit d x) (h' : Fit d' x) (hd : d ≤ d') : dLo d' x ≤ dLo d x := by
  obtain ⟨l1, l2, l3, l4⟩ := dLo_spec h
  obtain ⟨g1, g2, g3, g4⟩ := dLo_spec h'
  rcases Int.lt_or_le (dLo d x) (dLo d' x) with hl | hl
  · have h5 := g4 _ l1 hl
    have h6 := weight_le_d (dLo d x) hd (by have := h.r0; omega)
    omega
  · exact hl
theorem dHi_anti {d d' : Int} {x : Weigh} (h : Fit d x) (h' : Fit d' x) (hd : d ≤ d') : dHi d' x ≤ dHi d x := by
  obtain ⟨l1, l2, l3, l4⟩ := dHi_spec h
  obtain ⟨g1, g2, g3, g4⟩ := dHi_spec h'
  rcases Int.lt_or_le (dHi d x) (dHi d' x) with hl | hl
  · have h5 := l4 _ hl g2
    have h6 := weight_le_d (dHi d' x) hd (by have := h.r0; omega)
    omega
  · exact hl
theorem wetFold_gen {x : Weigh} : ∀ (l : List Int) (s : Span), (∀ d ∈ l, Fit d x) → l.Pairwise (· ≤ ·) → l ≠ [] →
    l.foldl (fun s d => hitsTo d x s (x.damp.hi - x.damp.lo + 1).toNat) s = ⟨min s.lo (dLo (dryOf l).hi x), max s.hi (dHi (dryOf l).lo x)⟩
  | [], _, _, _, h => absurd rfl h
  | [d], s, hf, _, _ => by
    rw [List.foldl_cons, List.foldl_nil, hitsTo_full (hf d (by simp))]
    rfl
  | d :: e :: l, s, hf, hp, _ => by
    have hp' := List.pairwise_cons.1 hp
    rw [List.foldl_cons, wetFold_gen (e :: l) _ (fun c hc => hf c (List.mem_cons_of_mem _ hc)) hp'.2 (by simp), hitsTo_full (hf d (by simp))]
    have e1 : (dryOf (d :: e :: l)).hi = (dryOf (e :: l)).hi := by simp [dryOf]
    have e2 : (dryOf (d :: e :: l)).lo = d := by simp [dryOf]
    have e3 : (dryOf (e :: l)).lo = e := by simp [dryOf]
    have hm : (dryOf (e :: l)).hi ∈ (e :: l) := by
      unfold dryOf
      have : (e :: l).length - 1 < (e :: l).length := by simp
      rw [List.getElem?_eq_getElem this]
      exact List.getElem_mem _
    have h1 := dLo_anti (hf d (by simp)) (hf _ (List.mem_cons_of_mem _ hm)) (hp'.1 _ hm)
    have h2 := dHi_anti (hf d (by simp)) (hf e (by simp)) (hp'.1 e (by simp))
    rw [e1, e2, e3]
    simp only [Span.mk.injEq]
    omega
theorem dries_sorted (b : Bale) : (dries b).Pairwise (· ≤ ·) := by
  unfold dries driesTo
  refine List.Pairwise.filter _ ?_
  rw [List.pairwise_map]
  exact List.pairwise_lt_range.imp fun h => by omega
theorem bds_fit {b : Bale} (hb : Bds b) {d : Int} {x : Weigh} (hd : d ∈ dries b) (hx : x ∈ b.weighs) : Fit d x := by
  have h1 := dries_bd hd
  have h2 := hb.w x hx
  exact ⟨by have := hb.lo; omega, by have := hb.hi; omega, by omega, by omega, dries_could hd hx⟩
theorem rwet_eq (b : Bale) (number : Int) : rwetB b number = wetB b number := by
  unfold rwetB wetB
  split
  · rename_i hz
    obtain ⟨h1, h2, h3⟩ := askE_zero hz (by decide)
    unfold wetOf
    cases hx : b.weighs[(wIdx b number).toNat]? with
    | none => rfl
    | some x =>
      have hb := valid_bds h1
      have hm := List.mem_of_getElem? hx
      have hpos := ok_pos h3
      have hne : dries b ≠ [] := by intro h; rw [h] at hpos; simp at hpos
      show wetFold x (dries b) = ⟨dLo (dryOf (dries b)).hi x, dHi (dryOf (dries b)).lo x⟩
      unfold wetFold
      rw [wetFold_gen (dries b) _ (fun d hd => bds_fit hb hd hm) (dries_sorted b) hne]
      have m1 : (dryOf (dries b)).hi ∈ dries b := by
        unfold dryOf
        rw [List.getElem?_eq_getElem (show (dries b).length - 1 < (dries b).length by omega)]
        exact List.getElem_mem _
      have m2 : (dryOf (dries b)).lo ∈ dries b := by
        unfold dryOf
        rw [List.getElem?_eq_getElem hpos]
        exact List.getElem_mem _
      have h5 := dLo_spec (bds_fit hb m1 hm)
      have h6 := dHi_spec (bds_fit hb m2 hm)
      simp only [Span.mk.injEq]
      omega
  · rfl
end Go.Proofs.YtfhmfbhpehldpaaGreatDoor
/- core.Known and the reference's. -/
namespace Go.Proofs.YtfhmfbhpehldpaaGreatDoor
open Go.RowKit Go.Shelf
set_option maxRecDepth 100000
set_option linter.unusedSimpArgs false

def knownOf (s : Span) (E damp : Int) : Int := if E = 0 then (if damp < s.lo then 2 else if damp < s.hi then 1 else 0) else 0

set_option maxHeartbeats 1000000 in
theorem known_any (b : Bale) (number damp : Int) (dv wv : Value) (w : World) (hT : Tab w) (hd : SlD w dv b.draws) (hw : SlW w wv b.weighs) (hlen : b.weighs.length < 1000000) :
    Calls Tryz.prog 26 #[valB b dv wv, .int .i64 number, .int .i64 damp] w fun e w' => e = .returned (.tuple #[.int .u8 (knownOf (wetB b number) (askE b (decide (0 ≤ wIdx b number)) 6) damp), .int .i64 (askE b (decide (0 ≤ wIdx b number)) 6)]) ∧ Ext w w' := by
  have HT := Lib.hid hT
  have HD := Lib.hid hd
  have HW := Lib.hid hw
  obtain ⟨A, n, cp, rfl, hn, hlc, hcm⟩ := hd.form
  obtain ⟨A2, n2, cp2, rfl, hn2, hlc2, hcm2⟩ := hw.form
  clear hd hw hT
  go_enter Tryz.func26, Tryz.ntmps26
  go_wp2_with fail
  refine (wet_any b number _ _ _ (HT.out.ext (Ext.al _ _)) (HD.out.ext (Ext.al _ _)) (HW.out.ext (Ext.al _ _)) hlen).mono ?_
  rintro e w1 ⟨rfl, hE⟩
  have HE := Lib.hid ((Ext.al w _).trans hE)
  clear hE
  show _
  generalize hs : wetB b number = s
  generalize hq : askE b (decide (0 ≤ wIdx b number)) 6 = E
  have HS := Lib.hid hs; have HQ := Lib.hid hq; clear hs hq
  obtain ⟨lo, hi⟩ := s
  dsimp only [valS]
  by_cases h0 : E = 0
  · subst h0
    by_cases h1 : damp < lo
    · have HK := Lib.hid (show knownOf ⟨lo, hi⟩ 0 damp = 2 by unfold knownOf; rw [if_pos rfl, if_pos h1])
      go_wp2
      refine bodyPost_ret (v := .tuple #[.int .u8 2, .int .i64 0]) (by simp [results, Tryz.results26, go_sem]) rfl ?_
      exact ⟨by rw [HS.out, HQ.out, HK.out], HE.out.alloc _⟩
    · by_cases h2 : damp < hi
      · have HK := Lib.hid (show knownOf ⟨lo, hi⟩ 0 damp = 1 by unfold knownOf; rw [if_pos rfl, if_neg h1, if_pos h2])
        go_wp2
        refine bodyPost_ret (v := .tuple #[.int .u8 1, .int .i64 0]) (by simp [results, Tryz.results26, go_sem]) rfl ?_
        exact ⟨by rw [HS.out, HQ.out, HK.out], HE.out.alloc _⟩
      · have HK := Lib.hid (show knownOf ⟨lo, hi⟩ 0 damp = 0 by unfold knownOf; rw [if_pos rfl, if_neg h1, if_neg h2])
        go_wp2
        refine bodyPost_ret (v := .tuple #[.int .u8 0, .int .i64 0]) (by simp [results, Tryz.results26, go_sem]) rfl ?_
        exact ⟨by rw [HS.out, HQ.out, HK.out], HE.out.alloc _⟩
  · have HK := Lib.hid (show knownOf ⟨lo, hi⟩ E damp = 0 by unfold knownOf; rw [if_neg h0])
    go_wp2
    refine bodyPost_ret (v := .tuple #[.int .u8 0, .int .i64 E]) (by simp [results, Tryz.results26, go_sem]) rfl ?_
    exact ⟨by rw [HS.out, HQ.out, HK.out], HE.out.alloc _⟩

end Go.Proofs.YtfhmfbhpehldpaaGreatDoor
