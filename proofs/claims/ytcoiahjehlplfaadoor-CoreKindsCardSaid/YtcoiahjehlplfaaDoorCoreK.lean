/- core.ends, Best, Worst. -/
import Derived.Test.YtcoiahjehlplfaaDoorCoreJ
import Derived.Test.YtcoiahjehlplfaaDoorTameL
namespace Go.Proofs.YtcoiahjehlplfaaDoor
open Go.RowKit Go.Shelf
set_option maxRecDepth 100000

theorem f57_any (a b : Int) (w : World) : Calls Tryd.prog 57 #[.int .i64 a, .int .i64 b] w fun e w' => e = .returned (.int .i64 (min a b)) ∧ Ext w w' := by
  go_enter Tryd.func57, Tryd.ntmps57
  go_wp2
  go_ret
  exact ⟨rfl, Ext.refl _⟩
theorem f58_any (a b : Int) (w : World) : Calls Tryd.prog 58 #[.int .i64 a, .int .i64 b] w fun e w' => e = .returned (.int .i64 (max a b)) ∧ Ext w w' := by
  go_enter Tryd.func58, Tryd.ntmps58
  go_wp2
  go_ret
  exact ⟨rfl, Ext.refl _⟩
def endStep (f : Int → Int → Int) (s x : Span) : Span := ⟨f s.lo x.lo, f s.hi x.hi⟩
def endsOf (f : Int → Int → Int) (l : List Span) : Span := l.foldl (endStep f) (l[0]?.getD ⟨0, 0⟩)
def endsB (f : Int → Int → Int) (b : Bale) : Span := if askE b true 0 = 0 then endsOf f (spans b) else ⟨0, 0⟩

theorem askE_zero' {b : Bale} (h : askE b true 0 = 0) : valid b = true ∧ okB b = true := by
  unfold askE at h
  split at h
  · simp only [if_true] at h
    split at h
    · exact ⟨‹_›, ‹_›⟩
    · cases h
  · cases h

set_option maxHeartbeats 1000000 in
theorem ends_any (b : Bale) (dv wv : Value) (w : World) (g : FuncId) (eg : ∀ args w, (callFunc g args).run Tryd.prog w = .ok (.enter g args) w) (f : Int → Int → Int) (hg : ∀ a b W, Calls Tryd.prog g #[.int .i64 a, .int .i64 b] W fun e w' => e = .returned (.int .i64 (f a b)) ∧ Ext W w') (hT : Tab w) (hd : SlD w dv b.draws) (hw : SlW w wv b.weighs) :
    Calls Tryd.prog 56 #[valB b dv wv, .func (.func g) #[] #[]] w fun e w' => e = .returned (.tuple #[valS (endsB f b), .int .i64 (askE b true 0)]) ∧ Ext w w' := by
  have HT := Lib.hid hT
  have HD := Lib.hid hd
  have HW := Lib.hid hw
  have HG := Lib.hid hg
  obtain ⟨A, n, cp, rfl, hn, hlc, hcm⟩ := hd.form
  obtain ⟨A2, n2, cp2, rfl, hn2, hlc2, hcm2⟩ := hw.form
  clear hd hw hT hg
  go_enter Tryd.func56, Tryd.ntmps56
  go_wp2_with fail
  refine (asked_nil b _ _ _ ((HT.out.ext (Ext.al _ _)).ext (Ext.al _ _)) ((HD.out.ext (Ext.al _ _)).ext (Ext.al _ _)) ((HW.out.ext (Ext.al _ _)).ext (Ext.al _ _))).mono ?_
  rintro e w1 ⟨pv, rfl, hpv, hpz, hE⟩
  obtain ⟨hc, hf, hz, HE⟩ := hE.use
  have HEW := Lib.hid (((Ext.al w _).alloc _ : Ext w _).trans HE.out)
  have hz0 : w.heap.size + 1 < w1.heap.size := by simp at hz; omega
  have hz1 : w.heap.size < w1.heap.size := by omega
  by_cases hz9 : askE b true 0 = 0
  · obtain ⟨sv, lv, rfl, hs, hl⟩ := hpv hz9
    obtain ⟨h1, h3⟩ := askE_zero' hz9
    have HL := Lib.hid (show endsB f b = endsOf f (spans b) by unfold endsB; rw [if_pos hz9])
    obtain ⟨As, ns, cs, rfl, hns, hsc, hsm⟩ := hs.form
    obtain ⟨Al, nl, cl, rfl, hnl, hlc', hlm⟩ := hl.form
    have hb5 := valid_bds h1
    have hns' : (ns : Int) = b.layers := by have := hns.out; rw [spans_len] at this; have := hb5.l1; omega
    have hkn : 0 < ns := by have := hb5.l1; omega
    have hkn2 : (0 : Int) < (ns : Int) := by omega
    obtain ⟨bb, off, x, rfl, hx, hbb, hcell⟩ := hs.at_ hkn
    obtain ⟨c0, c1⟩ := SlS.cells hcell (Ext.refl _)
    simp at c0 c1
    have HX := Lib.hid hx
    have HZ := Lib.hid hz9
    have HS := Lib.hid hs
    clear hx hpv hpz h3 hs hl hcell hb5 h1
    rw [hz9]
    dsimp only [valP]
    clear hz9
    go_wp2
    go_loopg [27] ns (fun gg s wr => ∃ (j : Nat) (lo hi : Int), j ≤ ns ∧ ns - j ≤ gg ∧ s = .int .i64 j ∧ Aside (((spans b).take j).foldl (endStep f) x = ⟨lo, hi⟩) ∧ Aside (Blk wr (w1.heap.size + 1) 23 #[.int .i64 lo, .int .i64 hi]) ∧ Aside (Ext w1 wr) ∧
      Aside (Blk wr w1.heap.size 82 #[.int .i64 b.id, .int .i64 b.layers, .int .i64 b.dry.lo, .int .i64 b.dry.hi, .slice A n cp, .slice A2 n2 cp2, .slice (some ⟨bb, off, none⟩) ns cs, .slice Al nl cl]))
    case atStart => exact ⟨0, x.lo, x.hi, by omega, by omega, rfl, rfl, Blk.at_ (by simp), (Ext.al _ _).alloc _, (Blk.at_ rfl).alloc _⟩
    case round =>
      obtain ⟨j, lo, hi, hj, hgj, rfl, FO, BL, EX, BP⟩ := hrel
      have s0 : wr.cell? ⟨w1.heap.size + 1, 0, none⟩ = some (.int .i64 lo) := BL.out.cell 0
      have s1 : wr.cell? ⟨w1.heap.size + 1, 1, none⟩ = some (.int .i64 hi) := BL.out.cell 1
      have hso : w1.heap.size + 1 < wr.heap.size := BL.out.lt
      by_cases hjn : j < ns
      · have hjz : (j : Int) < (ns : Int) := by omega
        obtain ⟨bb', off', y, e1, hy, hyb, hycell⟩ := HS.out.at_ hjn
        injection e1 with e1
        injection e1 with e1 e2
        subst e1 e2
        obtain ⟨d0, d1⟩ := SlS.cells hycell EX.out
        have HY := Lib.hid hy
        have HFO := Lib.hid (foldl_snoc (endStep f) x _ _ _ HY.out)
        clear hy hycell
        have m0 := fun W (h : Ext (wr.alloc (.cells #[.int .i64 y.lo, .int .i64 y.hi] 23)) W) => (h.cells.1 (w1.heap.size + 1) 0 (by simp; omega)).trans (show _ = some (.int .i64 lo) by simp [go_sem, hso, s0])
        have m1 := fun W (h : Ext (wr.alloc (.cells #[.int .i64 y.lo, .int .i64 y.hi] 23)) W) => (h.cells.1 (w1.heap.size + 1) 1 (by simp; omega)).trans (show _ = some (.int .i64 hi) by simp [go_sem, hso, s1])
        have m2 := fun W (h : Ext (wr.alloc (.cells #[.int .i64 y.lo, .int .i64 y.hi] 23)) W) => (h.cells.1 wr.heap.size 0 (by simp)).trans (show _ = some (.int .i64 y.lo) by simp [go_sem])
        have m3 := fun W (h : Ext (wr.alloc (.cells #[.int .i64 y.lo, .int .i64 y.hi] 23)) W) => (h.cells.1 wr.heap.size 1 (by simp)).trans (show _ = some (.int .i64 y.hi) by simp [go_sem])
        go_wp2
        refine wp_region_tame_cut (fun W => Ext (wr.alloc (.cells #[.int .i64 y.lo, .int .i64 y.hi] 23)) W) (fun W W' => Ext W W') (by kernel_rfl) 46 rfl _ rfl (by decide +kernel) (by decide +kernel) (by decide +kernel) rfl (Ext.refl _).drew ?_
        simp only [List.dropLast]
        repeat (apply tame_q rfl; (intro ρ W hC hr hD; (obtain ⟨hrc, hrg, hrf, hrs⟩ := hr); (simp [go_sem] at hD); go_simp; first | exact ⟨⟨hC, Ext.refl _⟩, rfl⟩ | exact ⟨⟨hC, RS.refl _⟩, rfl⟩ | exact rfl); simp only [List.nil_append, List.cons_append])
        apply tame_q rfl
        · intro ρ W hC hr hD
          obtain ⟨hrc, hrg, hrf, hrs⟩ := hr
          simp [go_sem] at hD
          go_simp
          refine (HG.out lo y.lo _).mono ?_
          rintro e w' ⟨rfl, hE⟩
          exact ⟨_, rfl, ⟨hC.trans hE, hE⟩, rfl⟩
        simp only [List.nil_append, List.cons_append]
        repeat (apply tame_q rfl; (intro ρ W hC hr hD; (obtain ⟨hrc, hrg, hrf, hrs⟩ := hr); (simp [go_sem] at hD); go_simp; first | exact ⟨⟨hC, Ext.refl _⟩, rfl⟩ | exact ⟨⟨hC, RS.refl _⟩, rfl⟩ | exact rfl); simp only [List.nil_append, List.cons_append])
        apply tame_q rfl
        · intro ρ W hC hr hD
          obtain ⟨hrc, hrg, hrf, hrs⟩ := hr
          simp [go_sem] at hD
          go_simp
          refine (HG.out hi y.hi _).mono ?_
          rintro e w' ⟨rfl, hE⟩
          exact ⟨_, rfl, ⟨hC.trans hE, hE⟩, rfl⟩
        simp only [List.nil_append, List.cons_append]
        repeat (apply tame_q rfl; (intro ρ W hC hr hD; (obtain ⟨hrc, hrg, hrf, hrs⟩ := hr); (simp [go_sem] at hD); go_simp; first | exact ⟨⟨hC, Ext.refl _⟩, rfl⟩ | exact ⟨⟨hC, RS.refl _⟩, rfl⟩ | exact rfl); simp only [List.nil_append, List.cons_append])
        refine tame_end 46 rfl rfl (fun ρ W hC hr hF => ?_)
        obtain ⟨hrc, hrg, hrf, hrs⟩ := hr
        simp [go_sem] at hF
        apply frame_to
        · go_simp
          exact rfl
        clear hF hrs hrc hrg hrf m0 m1 m2 m3
        have BLW := Lib.hid ((BL.out.alloc _).ext hC)
        have BPW := Lib.hid ((BP.out.alloc _).ext hC)
        have EXW := Lib.hid ((EX.out.trans (Ext.al _ _)).trans hC)
        have t0 := BLW.out.cell 0
        have t1 := BLW.out.cell 1
        have tf := BLW.out.frozen
        have tl := BLW.out.lt
        simp at t0 t1
        clear hC
        go_wp2
        go_roundg (ns - (j + 1))
        case measure => omega
        case rel => exact ⟨j + 1, f lo y.lo, f hi y.hi, by omega, by omega, rfl, by show _ = _; rw [HFO.out, FO.out]; rfl, (BLW.out.set_ 0 _).set_ 1 _, (EXW.out.setCell (by dsimp only; omega) _).setCell (by dsimp only; omega) _, (BPW.out.far (by dsimp only; omega) _).far (by dsimp only; omega) _⟩
      · have HBR := Lib.hid (((Blk.at_ (t := 23) (cs := #[.int .i64 0, .int .i64 0]) (w := w.alloc (.cells #[.int .i64 b.id, .int .i64 b.layers, .int .i64 b.dry.lo, .int .i64 b.dry.hi, .slice A n cp, .slice A2 n2 cp2] 27)) (g := w.heap.size + 1) (by simp)).ext HE.out).ext EX.out)
        have t0 := HBR.out.cell 0
        have t1 := HBR.out.cell 1
        have tf := HBR.out.frozen
        have tl := HBR.out.lt
        simp at t0 t1
        have HFE := Lib.hid (show endsOf f (spans b) = ⟨lo, hi⟩ by unfold endsOf; rw [HX.out, ← FO.out, List.take_of_length_le (by have := hns.out; omega)]; rfl)
        go_wp2
        refine ret_set2 HBR.out fun W ⟨b0, b1⟩ hW => ?_
        refine bodyPost_ret (v := .tuple #[valS ⟨lo, hi⟩, .int .i64 0]) (by simp [results, Tryd.results56, go_sem, b0, b1]) rfl ?_
        exact ⟨by rw [HL.out, HZ.out, HFE.out], ext_grown (HEW.out.trans EX.out) hW (by omega)⟩
  · have := hpz hz9
    subst this
    have HL := Lib.hid (show endsB f b = ⟨0, 0⟩ by unfold endsB; rw [if_neg hz9])
    clear hpz hpv
    generalize hE9 : askE b true 0 = E at hz9
    have HE9 := Lib.hid hE9; clear hE9
    go_wp2
    refine ret_set2a ((Blk.at_ (by simp)).ext HE.out) fun W ⟨b0, b1⟩ hW => ?_
    refine bodyPost_ret (v := .tuple #[valS ⟨0, 0⟩, .int .i64 E]) (by simp [results, Tryd.results56, go_sem, b0, b1]) rfl ?_
    exact ⟨by rw [HL.out, HE9.out], ext_grown HEW.out hW (by omega)⟩

theorem best_any (b : Bale) (dv wv : Value) (w : World) (hT : Tab w) (hd : SlD w dv b.draws) (hw : SlW w wv b.weighs) :
    Calls Tryd.prog 15 #[valB b dv wv] w fun e w' => e = .returned (.tuple #[valS (endsB min b), .int .i64 (askE b true 0)]) ∧ Ext w w' := by
  have HT := Lib.hid hT
  have HD := Lib.hid hd
  have HW := Lib.hid hw
  obtain ⟨A, n, cp, rfl, hn, hlc, hcm⟩ := hd.form
  obtain ⟨A2, n2, cp2, rfl, hn2, hlc2, hcm2⟩ := hw.form
  clear hd hw hT
  go_enter Tryd.func15, Tryd.ntmps15
  go_wp2_with fail
  refine (ends_any b _ _ _ 57 (enters_of Tryd.func57 (by kernel_rfl) rfl) min (fun a b W => f57_any a b W) ((HT.out.ext (Ext.al _ _)).ext (Ext.al _ _)) ((HD.out.ext (Ext.al _ _)).ext (Ext.al _ _)) ((HW.out.ext (Ext.al _ _)).ext (Ext.al _ _))).mono ?_
  rintro e w1 ⟨rfl, hE⟩
  obtain ⟨hc, hf, hz, HE⟩ := hE.use
  dsimp only [valS]
  have HEW := Lib.hid (((Ext.al w _).alloc _ : Ext w _).trans HE.out)
  have hz0 : w.heap.size + 1 < w1.heap.size := by simp at hz; omega
  go_wp2
  refine ret_set2 ((Blk.at_ (by simp)).ext HE.out) fun W ⟨b0, b1⟩ hW => ?_
  refine bodyPost_ret (v := .tuple #[valS (endsB min b), .int .i64 (askE b true 0)]) (by simp [results, Tryd.results15, go_sem, b0, b1]) rfl ?_
  exact ⟨rfl, ext_grown HEW.out hW (by omega)⟩

theorem worst_any (b : Bale) (dv wv : Value) (w : World) (hT : Tab w) (hd : SlD w dv b.draws) (hw : SlW w wv b.weighs) :
    Calls Tryd.prog 17 #[valB b dv wv] w fun e w' => e = .returned (.tuple #[valS (endsB max b), .int .i64 (askE b true 0)]) ∧ Ext w w' := by
  have HT := Lib.hid hT
  have HD := Lib.hid hd
  have HW := Lib.hid hw
  obtain ⟨A, n, cp, rfl, hn, hlc, hcm⟩ := hd.form
  obtain ⟨A2, n2, cp2, rfl, hn2, hlc2, hcm2⟩ := hw.form
  clear hd hw hT
  go_enter Tryd.func17, Tryd.ntmps17
  go_wp2_with fail
  refine (ends_any b _ _ _ 58 (enters_of Tryd.func58 (by kernel_rfl) rfl) max (fun a b W => f58_any a b W) ((HT.out.ext (Ext.al _ _)).ext (Ext.al _ _)) ((HD.out.ext (Ext.al _ _)).ext (Ext.al _ _)) ((HW.out.ext (Ext.al _ _)).ext (Ext.al _ _))).mono ?_
  rintro e w1 ⟨rfl, hE⟩
  obtain ⟨hc, hf, hz, HE⟩ := hE.use
  dsimp only [valS]
  have HEW := Lib.hid (((Ext.al w _).alloc _ : Ext w _).trans HE.out)
  have hz0 : w.heap.size + 1 < w1.heap.size := by simp at hz; omega
  go_wp2
  refine ret_set2 ((Blk.at_ (by simp)).ext HE.out) fun W ⟨b0, b1⟩ hW => ?_
  refine bodyPost_ret (v := .tuple #[valS (endsB max b), .int .i64 (askE b true 0)]) (by simp [results, Tryd.results17, go_sem, b0, b1]) rfl ?_
  exact ⟨rfl, ext_grown HEW.out hW (by omega)⟩
end Go.Proofs.YtcoiahjehlplfaaDoor
