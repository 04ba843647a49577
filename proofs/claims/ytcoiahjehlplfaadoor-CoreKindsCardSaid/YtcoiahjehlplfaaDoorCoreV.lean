/- core.Pays and the reference's. -/
import Derived.Test.YtcoiahjehlplfaaDoorCoreU
namespace Go.Proofs.YtcoiahjehlplfaaDoor
open Go.RowKit Go.Shelf
set_option maxRecDepth 100000
set_option linter.unusedSimpArgs false

def payOf (l : List Int) (r : Int) : Span := ⟨weight (dryOf l).lo r, weight (dryOf l).hi r⟩
def payB (b : Bale) (r : Int) : Span := if askE b (inB 0 200 r) 35 = 0 then payOf (dries b) r else ⟨0, 0⟩
theorem ok_pos {b : Bale} (h : okB b = true) : 0 < (dries b).length := by
  unfold okB at h
  cases hd : dries b with
  | nil => rw [hd] at h; simp at h
  | cons x l => simp
theorem dries_bd {b : Bale} {x : Int} (h : x ∈ dries b) : b.dry.lo ≤ x ∧ x ≤ b.dry.hi := by
  unfold dries driesTo at h
  simp only [List.mem_filter, List.mem_map, List.mem_range] at h
  obtain ⟨⟨i, hi, rfl⟩, _⟩ := h
  omega
theorem f65_any (r : Int) (g : Nat) (w : World) (h1 : w.cell? ⟨g, 0, none⟩ = some (.int .i64 r)) :
    Calls Tryd.prog 65 #[.pointer (some ⟨g, 0, none⟩)] w fun e w' => e = .returned (.bool (inB 0 200 r)) ∧ Ext w w' := by
  go_enter Tryd.func65, Tryd.ntmps65
  go_wp2_with fail
  refine (in1_any 0 200 r _ _ (by simp) (by simp [go_sem])).mono ?_
  rintro e w1 ⟨rfl, hb⟩
  have HB := Lib.hid hb; clear hb
  go_wp2
  go_ret
  exact ⟨rfl, (Ext.al _ _).trans HB.out⟩

set_option maxHeartbeats 1000000 in
theorem pays_any (b : Bale) (r : Int) (dv wv : Value) (w : World) (hT : Tab w) (hd : SlD w dv b.draws) (hw : SlW w wv b.weighs) :
    Calls Tryd.prog 24 #[valB b dv wv, .int .i64 r] w fun e w' => e = .returned (.tuple #[valS (payB b r), .int .i64 (askE b (inB 0 200 r) 35)]) ∧ Ext w w' := by
  have HT := Lib.hid hT
  have HD := Lib.hid hd
  have HW := Lib.hid hw
  obtain ⟨A, n, cp, rfl, hn, hlc, hcm⟩ := hd.form
  obtain ⟨A2, n2, cp2, rfl, hn2, hlc2, hcm2⟩ := hw.form
  clear hd hw hT
  go_enter Tryd.func24, Tryd.ntmps24
  go_wp2_with fail
  refine (asked_fn b _ _ _ 65 _ (enters_of Tryd.func65 (by kernel_rfl) rfl) (inB 0 200 r) 35 (by decide) (fun hv W hW => f65_any r _ W ((hW.cell (p := ⟨w.heap.size + 1, 0, none⟩) (by simp)).trans (by simp [go_sem]))) (((HT.out.ext (Ext.al _ _)).ext (Ext.al _ _)).ext (Ext.al _ _)) (((HD.out.ext (Ext.al _ _)).ext (Ext.al _ _)).ext (Ext.al _ _)) (((HW.out.ext (Ext.al _ _)).ext (Ext.al _ _)).ext (Ext.al _ _))).mono ?_
  rintro e w1 ⟨pv, rfl, hpv, hpz, hE⟩
  have HEW := Lib.hid ((((Ext.al w _).alloc _).alloc _ : Ext w _).trans hE)
  have HBR := Lib.hid ((Blk.at_ (t := 23) (cs := #[.int .i64 0, .int .i64 0]) (w := (w.alloc (.cells #[.int .i64 b.id, .int .i64 b.layers, .int .i64 b.dry.lo, .int .i64 b.dry.hi, .slice A n cp, .slice A2 n2 cp2] 27)).alloc (.cells #[.int .i64 r] 3)) (g := w.heap.size + 2) (by simp)).ext hE)
  have HBD := Lib.hid (((Blk.at_ (t := 3) (cs := #[.int .i64 r]) (w := w.alloc (.cells #[.int .i64 b.id, .int .i64 b.layers, .int .i64 b.dry.lo, .int .i64 b.dry.hi, .slice A n cp, .slice A2 n2 cp2] 27)) (g := w.heap.size + 1) (by simp)).alloc _).ext hE)
  clear hE
  have d0 := HBD.out.cell 0
  have dl := HBD.out.lt
  simp at d0
  by_cases hz9 : askE b (inB 0 200 r) 35 = 0
  · obtain ⟨sv, lv, rfl, hs, hl⟩ := hpv hz9
    obtain ⟨h1, h2, h3⟩ := askE_zero hz9 (by decide)
    have hpos := ok_pos h3
    have hb5 := valid_bds h1
    have hrb : 0 ≤ r ∧ r ≤ 200 := by unfold inB at h2; simpa using h2
    have HL := Lib.hid (show payB b r = payOf (dries b) r by unfold payB; rw [if_pos hz9])
    obtain ⟨As, ns, cs, rfl, hns, hsc, hsm⟩ := hs.form
    obtain ⟨Al, nl, cl, rfl, hnl, hlc', hlm⟩ := hl.form
    obtain ⟨m, rfl⟩ : ∃ m, nl = m + 1 := ⟨nl - 1, by have := hnl.out; omega⟩
    have hnl0 : 0 < m + 1 := by omega
    obtain ⟨bb, off, x, rfl, hx, hbb, hcell⟩ := hl.at_ hnl0
    obtain ⟨bb', off', y, e1, hy, hbb', hcell'⟩ := hl.at_ (show m < m + 1 by omega)
    injection e1 with e1
    injection e1 with e1 e2
    subst e1 e2
    have bx := dries_bd (List.mem_of_getElem? hx)
    have by' := dries_bd (List.mem_of_getElem? hy)
    have x0 : 0 ≤ x ∧ x ≤ 1000000 := by have := hb5.lo; have := hb5.hi; omega
    have y0 : 0 ≤ y ∧ y ≤ 1000000 := by have := hb5.lo; have := hb5.hi; omega
    have c0 := fun W h => Sl.int hcell W h
    have c1 := fun W h => Sl.int hcell' W h
    have HX := Lib.hid (show payOf (dries b) r = ⟨weight x r, weight y r⟩ by unfold payOf dryOf; rw [hx, show (dries b).length - 1 = m by have := hnl.out; omega, hy]; rfl)
    have HZ := Lib.hid hz9
    have HR := Lib.hid (show 0 ≤ r ∧ r ≤ 200 from hrb)
    have HXB := Lib.hid x0
    have HYB := Lib.hid y0
    have hnz : (0 : Int) < (m : Int) + 1 := by omega
    have hm0 : (0 : Int) ≤ (m : Int) := by omega
    have hm1 : (m : Int) < (m : Int) + 1 := by omega
    have hwr : IntKind.i64.wrap (m : Int) = (m : Int) := by simp [IntKind.wrap, IntKind.signed, IntKind.bits]; omega
    clear hx hy hpv hpz hs hl hcell hcell' hpos h1 h2 h3 hb5 hrb bx by' x0 y0
    rw [hz9]
    dsimp only [valP]
    clear hz9
    have m7 := fun W (h : Ext (w1.alloc (.cells #[.int .i64 b.id, .int .i64 b.layers, .int .i64 b.dry.lo, .int .i64 b.dry.hi, .slice A n cp, .slice A2 n2 cp2, .slice As ns cs, .slice (some ⟨bb, off, none⟩) (m + 1) cl] 82)) W) => (h.cells.1 w1.heap.size 7 (by simp)).trans (show _ = some (.slice (some ⟨bb, off, none⟩) (m + 1) cl) by simp [go_sem])
    have k0 := fun W (h : Ext (w1.alloc (.cells #[.int .i64 b.id, .int .i64 b.layers, .int .i64 b.dry.lo, .int .i64 b.dry.hi, .slice A n cp, .slice A2 n2 cp2, .slice As ns cs, .slice (some ⟨bb, off, none⟩) (m + 1) cl] 82)) W) => c0 W ((Ext.al _ _).trans h)
    have k1 := fun W (h : Ext (w1.alloc (.cells #[.int .i64 b.id, .int .i64 b.layers, .int .i64 b.dry.lo, .int .i64 b.dry.hi, .slice A n cp, .slice A2 n2 cp2, .slice As ns cs, .slice (some ⟨bb, off, none⟩) (m + 1) cl] 82)) W) => c1 W ((Ext.al _ _).trans h)
    have kd := fun W (h : Ext (w1.alloc (.cells #[.int .i64 b.id, .int .i64 b.layers, .int .i64 b.dry.lo, .int .i64 b.dry.hi, .slice A n cp, .slice A2 n2 cp2, .slice As ns cs, .slice (some ⟨bb, off, none⟩) (m + 1) cl] 82)) W) => (h.cells.1 (w.heap.size + 1) 0 (by simp; omega)).trans (show _ = some (.int .i64 r) by simp [go_sem, dl, d0])
    simp only [Nat.add_zero] at k0
    clear c0 c1 d0
    go_wp2
    refine wp_region_tame_cut2 (fun W => Ext (w1.alloc (.cells #[.int .i64 b.id, .int .i64 b.layers, .int .i64 b.dry.lo, .int .i64 b.dry.hi, .slice A n cp, .slice A2 n2 cp2, .slice As ns cs, .slice (some ⟨bb, off, none⟩) (m + 1) cl] 82)) W) (fun W W' => Ext W W') (by kernel_rfl) 35 rfl _ _ rfl rfl (by decide +kernel) (by decide +kernel) (by decide +kernel) (by decide +kernel) (by decide +kernel) rfl rfl (Ext.refl _).drew ?_
    simp only [List.dropLast]
    repeat (apply tame_q rfl; (intro ρ W hC hr hD; (obtain ⟨hrc, hrg, hrf, hrs⟩ := hr); (simp [go_sem] at hD); go_simp; first | exact ⟨⟨hC, Ext.refl _⟩, rfl⟩ | exact ⟨⟨hC, RS.refl _⟩, rfl⟩ | exact rfl); simp only [List.nil_append, List.cons_append])
    apply tame_q rfl
    · intro ρ W hC hr hD
      obtain ⟨hrc, hrg, hrf, hrs⟩ := hr
      simp [go_sem] at hD
      go_simp
      refine (f66_any x r _ HXB.out.1 HXB.out.2 HR.out.1 (by have := HR.out; omega)).mono ?_
      rintro e w' ⟨rfl, rfl⟩
      exact ⟨_, rfl, ⟨hC, Ext.refl _⟩, rfl⟩
    simp only [List.nil_append, List.cons_append]
    repeat (apply tame_q rfl; (intro ρ W hC hr hD; (obtain ⟨hrc, hrg, hrf, hrs⟩ := hr); (simp [go_sem] at hD); go_simp; first | exact ⟨⟨hC, Ext.refl _⟩, rfl⟩ | exact ⟨⟨hC, RS.refl _⟩, rfl⟩ | exact rfl); simp only [List.nil_append, List.cons_append])
    apply tame_q rfl
    · intro ρ W hC hr hD
      obtain ⟨hrc, hrg, hrf, hrs⟩ := hr
      simp [go_sem] at hD
      go_simp
      refine (f66_any y r _ HYB.out.1 HYB.out.2 HR.out.1 (by have := HR.out; omega)).mono ?_
      rintro e w' ⟨rfl, rfl⟩
      exact ⟨_, rfl, ⟨hC, Ext.refl _⟩, rfl⟩
    simp only [List.nil_append, List.cons_append]
    repeat (apply tame_q rfl; (intro ρ W hC hr hD; (obtain ⟨hrc, hrg, hrf, hrs⟩ := hr); (simp [go_sem] at hD); go_simp; first | exact ⟨⟨hC, Ext.refl _⟩, rfl⟩ | exact ⟨⟨hC, RS.refl _⟩, rfl⟩ | exact rfl); simp only [List.nil_append, List.cons_append])
    refine tame_end 35 rfl rfl (fun ρ W hC hr hF => ?_)
    obtain ⟨hrc, hrg, hrf, hrs⟩ := hr
    simp [go_sem] at hF
    apply frame_to
    · go_simp
      exact rfl
    clear hF hrs hrc hrg hrf m7 k0 k1 kd
    have HBW := Lib.hid ((HBR.out.alloc _).ext hC)
    have HEC := Lib.hid ((HEW.out.alloc _).trans hC)
    have t0 := HBW.out.cell 0
    have t1 := HBW.out.cell 1
    have tf := HBW.out.frozen
    have tl := HBW.out.lt
    simp at t0 t1
    clear hC
    go_wp2
    refine ret_set2 HBW.out fun W ⟨b0, b1⟩ hW => ?_
    refine bodyPost_ret (v := .tuple #[valS ⟨weight x r, weight y r⟩, .int .i64 0]) (by simp [results, Tryd.results24, go_sem, b0, b1]) rfl ?_
    exact ⟨by rw [HL.out, HX.out, HZ.out], ext_grown HEC.out hW (by omega)⟩
  · have := hpz hz9
    subst this
    have HL := Lib.hid (show payB b r = ⟨0, 0⟩ by unfold payB; rw [if_neg hz9])
    clear hpz hpv
    generalize hE9 : askE b (inB 0 200 r) 35 = E at hz9
    have HE9 := Lib.hid hE9; clear hE9
    have t0 := HBR.out.cell 0
    have t1 := HBR.out.cell 1
    have tf := HBR.out.frozen
    have tl := HBR.out.lt
    simp at t0 t1
    go_wp2
    refine ret_set2a HBR.out fun W ⟨b0, b1⟩ hW => ?_
    refine bodyPost_ret (v := .tuple #[valS ⟨0, 0⟩, .int .i64 E]) (by simp [results, Tryd.results24, go_sem, b0, b1]) rfl ?_
    exact ⟨by rw [HL.out, HE9.out], ext_grown HEW.out hW (by omega)⟩

set_option maxHeartbeats 1000000 in
theorem refPays_any (b : Bale) (r : Int) (dv wv : Value) (w : World) (hd : SlD w dv b.draws) (hw : SlW w wv b.weighs) :
    Calls Tryd.prog 25 #[valB b dv wv, .int .i64 r] w fun e w' => e = .returned (.tuple #[valS (payB b r), .int .i64 (askE b (inB 0 200 r) 35)]) ∧ Ext w w' := by
  have HD := Lib.hid hd
  have HW := Lib.hid hw
  obtain ⟨A, n, cp, rfl, hn, hlc, hcm⟩ := hd.form
  obtain ⟨A2, n2, cp2, rfl, hn2, hlc2, hcm2⟩ := hw.form
  clear hd hw
  go_enter Tryd.func25, Tryd.ntmps25
  go_wp2_with fail
  refine (refBale_v b _ _ _ ((HD.out.ext (Ext.al _ _)).ext (Ext.al _ _)) ((HW.out.ext (Ext.al _ _)).ext (Ext.al _ _))).mono ?_
  rintro e w1 ⟨rfl, hE⟩
  obtain ⟨hc, hf, hz, HE⟩ := hE.use
  have HE1 := Lib.hid (((Ext.al w _).alloc _ : Ext w _).trans HE.out)
  have hz0 : w.heap.size + 1 < w1.heap.size := by simp at hz; omega
  have hz1 : w.heap.size < w1.heap.size := by omega
  have HBR := Lib.hid ((Blk.at_ (t := 23) (cs := #[.int .i64 0, .int .i64 0]) (w := w.alloc (.cells #[.int .i64 b.id, .int .i64 b.layers, .int .i64 b.dry.lo, .int .i64 b.dry.hi, .slice A n cp, .slice A2 n2 cp2] 27)) (g := w.heap.size + 1) (by simp)).ext HE.out)
  cases hv : valid b with
  | false =>
    have HV := Lib.hid hv; clear hv
    go_wp2
    refine ret_set2 HBR.out fun W ⟨b0, b1⟩ hW => ?_
    refine bodyPost_ret (v := .tuple #[valS ⟨0, 0⟩, .int .i64 30]) (by simp [results, Tryd.results25, go_sem, b0, b1]) rfl ?_
    have hE : askE b (inB 0 200 r) 35 = 30 := by unfold askE; rw [HV.out]; rfl
    exact ⟨by unfold payB; rw [hE]; rfl, ext_grown HE1.out hW (by omega)⟩
  | true =>
    have HV := Lib.hid hv; clear hv
    generalize hi : inB 0 200 r = q
    have HI := Lib.hid hi; clear hi
    go_wp2_with fail
    refine (within_any r 0 200 _).mono ?_
    rintro e w' ⟨rfl, rfl⟩
    rw [HI.out]
    cases q with
    | false =>
      go_wp2
      refine ret_set2 HBR.out fun W ⟨b0, b1⟩ hW => ?_
      refine bodyPost_ret (v := .tuple #[valS ⟨0, 0⟩, .int .i64 35]) (by simp [results, Tryd.results25, go_sem, b0, b1]) rfl ?_
      have hE : askE b (inB 0 200 r) 35 = 35 := by unfold askE; rw [HV.out, HI.out]; rfl
      exact ⟨by unfold payB; rw [hE]; rfl, ext_grown HE1.out hW (by omega)⟩
    | true =>
      have HA := Lib.hid (askE_true HV.out 35)
      go_wp2_with fail
      refine (refDry_any b _ _ _ (HD.out.ext HE1.out) (HW.out.ext HE1.out)).mono ?_
      rintro e w2 ⟨rfl, hE2⟩
      have HE2 := Lib.hid (HE1.out.trans hE2)
      have HBR2 := Lib.hid (HBR.out.ext hE2)
      have t0 := HBR2.out.cell 0
      have t1 := HBR2.out.cell 1
      have tf := HBR2.out.frozen
      have tl := HBR2.out.lt
      simp at t0 t1
      clear hc hf hE2
      dsimp only [valS]
      by_cases hz9 : askE b true 0 = 0
      · have HZ := Lib.hid hz9
        have hb5 := valid_bds HV.out
        have hrb : 0 ≤ r ∧ r ≤ 200 := by have := HI.out; unfold inB at this; simpa using this
        have hpos := dries_pos hz9
        obtain ⟨x, hx⟩ : ∃ x, (dries b)[0]? = some x := ⟨_, List.getElem?_eq_getElem hpos⟩
        obtain ⟨y, hy⟩ : ∃ y, (dries b)[(dries b).length - 1]? = some y := ⟨_, List.getElem?_eq_getElem (by omega)⟩
        have bx := dries_bd (List.mem_of_getElem? hx)
        have by' := dries_bd (List.mem_of_getElem? hy)
        have HXB := Lib.hid (show 0 ≤ x ∧ x ≤ 1000000 by have := hb5.lo; have := hb5.hi; omega)
        have HYB := Lib.hid (show 0 ≤ y ∧ y ≤ 1000000 by have := hb5.lo; have := hb5.hi; omega)
        have HR := Lib.hid hrb
        have hdo : dryOf (dries b) = ⟨x, y⟩ := by unfold dryOf; rw [hx, hy]; rfl
        have hdb : dryB b = ⟨x, y⟩ := by unfold dryB; rw [if_pos hz9, hdo]
        have HP := Lib.hid (show payB b r = ⟨weight x r, weight y r⟩ by unfold payB payOf; rw [HI.out, HA.out, if_pos hz9, hdo])
        rw [hdb, hz9]
        clear hx hy bx by' hpos hz9 hdo hdb hb5 hrb
        have k0 := fun W (h : Ext (w2.alloc (.cells #[.int .i64 x, .int .i64 y] 23)) W) => (h.cells.1 w2.heap.size 0 (by simp)).trans (show _ = some (.int .i64 x) by simp [go_sem])
        have k1 := fun W (h : Ext (w2.alloc (.cells #[.int .i64 x, .int .i64 y] 23)) W) => (h.cells.1 w2.heap.size 1 (by simp)).trans (show _ = some (.int .i64 y) by simp [go_sem])
        go_wp2
        refine wp_region_tame_cut2 (fun W => Ext (w2.alloc (.cells #[.int .i64 x, .int .i64 y] 23)) W) (fun W W' => Ext W W') (by kernel_rfl) 34 rfl _ _ rfl rfl (by decide +kernel) (by decide +kernel) (by decide +kernel) (by decide +kernel) (by decide +kernel) rfl rfl (Ext.refl _).drew ?_
        simp only [List.dropLast]
        repeat (apply tame_q rfl; (intro ρ W hC hr hD; (obtain ⟨hrc, hrg, hrf, hrs⟩ := hr); (simp [go_sem] at hD); go_simp; first | exact ⟨⟨hC, Ext.refl _⟩, rfl⟩ | exact ⟨⟨hC, RS.refl _⟩, rfl⟩ | exact rfl); simp only [List.nil_append, List.cons_append])
        apply tame_q rfl
        · intro ρ W hC hr hD
          obtain ⟨hrc, hrg, hrf, hrs⟩ := hr
          simp [go_sem] at hD
          go_simp
          refine (f64_any x r _ HXB.out.1 HXB.out.2 HR.out.1 (by have := HR.out; omega)).mono ?_
          rintro e w' ⟨rfl, rfl⟩
          exact ⟨_, rfl, ⟨hC, Ext.refl _⟩, rfl⟩
        simp only [List.nil_append, List.cons_append]
        repeat (apply tame_q rfl; (intro ρ W hC hr hD; (obtain ⟨hrc, hrg, hrf, hrs⟩ := hr); (simp [go_sem] at hD); go_simp; first | exact ⟨⟨hC, Ext.refl _⟩, rfl⟩ | exact ⟨⟨hC, RS.refl _⟩, rfl⟩ | exact rfl); simp only [List.nil_append, List.cons_append])
        apply tame_q rfl
        · intro ρ W hC hr hD
          obtain ⟨hrc, hrg, hrf, hrs⟩ := hr
          simp [go_sem] at hD
          go_simp
          refine (f64_any y r _ HYB.out.1 HYB.out.2 HR.out.1 (by have := HR.out; omega)).mono ?_
          rintro e w' ⟨rfl, rfl⟩
          exact ⟨_, rfl, ⟨hC, Ext.refl _⟩, rfl⟩
        simp only [List.nil_append, List.cons_append]
        repeat (apply tame_q rfl; (intro ρ W hC hr hD; (obtain ⟨hrc, hrg, hrf, hrs⟩ := hr); (simp [go_sem] at hD); go_simp; first | exact ⟨⟨hC, Ext.refl _⟩, rfl⟩ | exact ⟨⟨hC, RS.refl _⟩, rfl⟩ | exact rfl); simp only [List.nil_append, List.cons_append])
        refine tame_end 34 rfl rfl (fun ρ W hC hr hF => ?_)
        obtain ⟨hrc, hrg, hrf, hrs⟩ := hr
        simp [go_sem] at hF
        apply frame_to
        · go_simp
          exact rfl
        clear hF hrs hrc hrg hrf k0 k1 t0 t1 tf tl
        have HBW := Lib.hid ((HBR2.out.alloc _).ext hC)
        have HEC := Lib.hid ((HE2.out.alloc _).trans hC)
        have t0 := HBW.out.cell 0
        have t1 := HBW.out.cell 1
        have tf := HBW.out.frozen
        have tl := HBW.out.lt
        simp at t0 t1
        clear hC
        go_wp2
        refine ret_set2 HBW.out fun W ⟨b0, b1⟩ hW => ?_
        refine bodyPost_ret (v := .tuple #[valS ⟨weight x r, weight y r⟩, .int .i64 0]) (by simp [results, Tryd.results25, go_sem, b0, b1]) rfl ?_
        exact ⟨by rw [HI.out, HP.out, HA.out, HZ.out], ext_grown HEC.out hW (by omega)⟩
      · have HL := Lib.hid (show payB b r = ⟨0, 0⟩ by unfold payB; rw [HI.out, HA.out, if_neg hz9])
        have hdb : dryB b = ⟨0, 0⟩ := by unfold dryB; rw [if_neg hz9]
        rw [hdb]
        generalize hE9 : askE b true 0 = E at hz9
        have HE9 := Lib.hid hE9; clear hE9
        go_wp2
        refine ret_set2a HBR2.out fun W ⟨b0, b1⟩ hW => ?_
        refine bodyPost_ret (v := .tuple #[valS ⟨0, 0⟩, .int .i64 E]) (by simp [results, Tryd.results25, go_sem, b0, b1]) rfl ?_
        exact ⟨by rw [HI.out, HL.out, HA.out, HE9.out], ext_grown HE2.out hW (by omega)⟩
end Go.Proofs.YtcoiahjehlplfaaDoor
