/- core.Dry and the reference's, Pays and the reference's. -/
import Derived.Test.YtcoiahjehlplfaaDoorCoreO
import Derived.Test.YtcoiahjehlplfaaDoorTameM
namespace Go.Proofs.YtcoiahjehlplfaaDoor
open Go.RowKit Go.Shelf
set_option maxRecDepth 100000
set_option linter.unusedSimpArgs false

/-- The lightest and the heaviest dry weight that can be. -/
def dryOf (l : List Int) : Span := ⟨(l[0]?).getD 0, (l[l.length - 1]?).getD 0⟩
def dryB (b : Bale) : Span := if askE b true 0 = 0 then dryOf (dries b) else ⟨0, 0⟩
theorem dries_pos {b : Bale} (h : askE b true 0 = 0) : 0 < (dries b).length := by
  have := (askE_zero' h).2
  unfold okB at this
  cases hd : dries b with
  | nil => rw [hd] at this; simp at this
  | cons x l => simp
theorem Sl.int {w : World} {b off k : Nat} {x : Int} (h : ∀ W, Ext w W → ∀ j u, (encI x)[j]? = some u → W.cell? ⟨b, off + k * 1 + j, none⟩ = some u) (W : World) (hW : Ext w W) : W.cell? ⟨b, off + k, none⟩ = some (.int .i64 x) := by
  simpa using h W hW 0 _ rfl

set_option maxHeartbeats 1000000 in
theorem dry_any (b : Bale) (dv wv : Value) (w : World) (hT : Tab w) (hd : SlD w dv b.draws) (hw : SlW w wv b.weighs) :
    Calls Tryd.prog 20 #[valB b dv wv] w fun e w' => e = .returned (.tuple #[valS (dryB b), .int .i64 (askE b true 0)]) ∧ Ext w w' := by
  have HT := Lib.hid hT
  have HD := Lib.hid hd
  have HW := Lib.hid hw
  obtain ⟨A, n, cp, rfl, hn, hlc, hcm⟩ := hd.form
  obtain ⟨A2, n2, cp2, rfl, hn2, hlc2, hcm2⟩ := hw.form
  clear hd hw hT
  go_enter Tryd.func20, Tryd.ntmps20
  go_wp2_with fail
  refine (asked_nil b _ _ _ ((HT.out.ext (Ext.al _ _)).ext (Ext.al _ _)) ((HD.out.ext (Ext.al _ _)).ext (Ext.al _ _)) ((HW.out.ext (Ext.al _ _)).ext (Ext.al _ _))).mono ?_
  rintro e w1 ⟨pv, rfl, hpv, hpz, hE⟩
  have HEW := Lib.hid (((Ext.al w _).alloc _ : Ext w _).trans hE)
  have HBR := Lib.hid ((Blk.at_ (t := 23) (cs := #[.int .i64 0, .int .i64 0]) (w := w.alloc (.cells #[.int .i64 b.id, .int .i64 b.layers, .int .i64 b.dry.lo, .int .i64 b.dry.hi, .slice A n cp, .slice A2 n2 cp2] 27)) (g := w.heap.size + 1) (by simp)).ext hE)
  clear hE
  by_cases hz9 : askE b true 0 = 0
  · obtain ⟨sv, lv, rfl, hs, hl⟩ := hpv hz9
    have hpos := dries_pos hz9
    have HL := Lib.hid (show dryB b = dryOf (dries b) by unfold dryB; rw [if_pos hz9])
    obtain ⟨As, ns, cs, rfl, hns, hsc, hsm⟩ := hs.form
    obtain ⟨Al, nl, cl, rfl, hnl, hlc', hlm⟩ := hl.form
    obtain ⟨m, rfl⟩ : ∃ m, nl = m + 1 := ⟨nl - 1, by have := hnl.out; omega⟩
    have hnl0 : 0 < m + 1 := by omega
    obtain ⟨bb, off, x, rfl, hx, hbb, hcell⟩ := hl.at_ hnl0
    obtain ⟨bb', off', y, e1, hy, hbb', hcell'⟩ := hl.at_ (show m < m + 1 by omega)
    injection e1 with e1
    injection e1 with e1 e2
    subst e1 e2
    have c0 := fun W h => Sl.int hcell W h
    have c1 := fun W h => Sl.int hcell' W h
    have HX := Lib.hid (show dryOf (dries b) = ⟨x, y⟩ by unfold dryOf; rw [hx, show (dries b).length - 1 = m by have := hnl.out; omega, hy]; rfl)
    have HZ := Lib.hid hz9
    have hnz : (0 : Int) < (m : Int) + 1 := by omega
    have hm0 : (0 : Int) ≤ (m : Int) := by omega
    have hm1 : (m : Int) < (m : Int) + 1 := by omega
    have hwr : IntKind.i64.wrap (m : Int) = (m : Int) := by simp [IntKind.wrap, IntKind.signed, IntKind.bits]; omega
    clear hx hy hpv hpz hs hl hcell hcell' hpos
    rw [hz9]
    dsimp only [valP]
    clear hz9
    have m7 := fun W (h : Ext (w1.alloc (.cells #[.int .i64 b.id, .int .i64 b.layers, .int .i64 b.dry.lo, .int .i64 b.dry.hi, .slice A n cp, .slice A2 n2 cp2, .slice As ns cs, .slice (some ⟨bb, off, none⟩) (m + 1) cl] 82)) W) => (h.cells.1 w1.heap.size 7 (by simp)).trans (show _ = some (.slice (some ⟨bb, off, none⟩) (m + 1) cl) by simp [go_sem])
    have k0 := fun W (h : Ext (w1.alloc (.cells #[.int .i64 b.id, .int .i64 b.layers, .int .i64 b.dry.lo, .int .i64 b.dry.hi, .slice A n cp, .slice A2 n2 cp2, .slice As ns cs, .slice (some ⟨bb, off, none⟩) (m + 1) cl] 82)) W) => c0 W ((Ext.al _ _).trans h)
    have k1 := fun W (h : Ext (w1.alloc (.cells #[.int .i64 b.id, .int .i64 b.layers, .int .i64 b.dry.lo, .int .i64 b.dry.hi, .slice A n cp, .slice A2 n2 cp2, .slice As ns cs, .slice (some ⟨bb, off, none⟩) (m + 1) cl] 82)) W) => c1 W ((Ext.al _ _).trans h)
    simp only [Nat.add_zero] at k0
    clear c0 c1
    go_wp2
    refine wp_region_tame_cut2 (fun W => Ext (w1.alloc (.cells #[.int .i64 b.id, .int .i64 b.layers, .int .i64 b.dry.lo, .int .i64 b.dry.hi, .slice A n cp, .slice A2 n2 cp2, .slice As ns cs, .slice (some ⟨bb, off, none⟩) (m + 1) cl] 82)) W) (fun W W' => Ext W W') (by kernel_rfl) 28 rfl _ _ rfl rfl (by decide +kernel) (by decide +kernel) (by decide +kernel) (by decide +kernel) (by decide +kernel) rfl rfl (Ext.refl _).drew ?_
    simp only [List.dropLast]
    repeat (apply tame_q rfl; (intro ρ W hC hr hD; (obtain ⟨hrc, hrg, hrf, hrs⟩ := hr); (simp [go_sem] at hD); go_simp; first | exact ⟨⟨hC, Ext.refl _⟩, rfl⟩ | exact ⟨⟨hC, RS.refl _⟩, rfl⟩ | exact rfl); simp only [List.nil_append, List.cons_append])
    refine tame_end 28 rfl rfl (fun ρ W hC hr hF => ?_)
    obtain ⟨hrc, hrg, hrf, hrs⟩ := hr
    simp [go_sem] at hF
    apply frame_to
    · go_simp
      exact rfl
    clear hF hrs hrc hrg hrf m7 k0 k1
    have HBW := Lib.hid ((HBR.out.alloc _).ext hC)
    have HEC := Lib.hid ((HEW.out.alloc _).trans hC)
    have t0 := HBW.out.cell 0
    have t1 := HBW.out.cell 1
    have tf := HBW.out.frozen
    have tl := HBW.out.lt
    simp at t0 t1
    clear hC
    go_wp2
    refine ret_set2 HBW.out fun W ⟨b0, b1⟩ hW => ?_
    refine bodyPost_ret (v := .tuple #[valS ⟨x, y⟩, .int .i64 0]) (by simp [results, Tryd.results20, go_sem, b0, b1]) rfl ?_
    exact ⟨by rw [HL.out, HX.out, HZ.out], ext_grown HEC.out hW (by omega)⟩
  · have := hpz hz9
    subst this
    have HL := Lib.hid (show dryB b = ⟨0, 0⟩ by unfold dryB; rw [if_neg hz9])
    clear hpz hpv
    generalize hE9 : askE b true 0 = E at hz9
    have HE9 := Lib.hid hE9; clear hE9
    have t0 := HBR.out.cell 0
    have t1 := HBR.out.cell 1
    have tf := HBR.out.frozen
    have tl := HBR.out.lt
    simp at t0 t1
    go_wp2
    refine ret_set2a HBR.out fun W ⟨b0, b1⟩ hW => ?_
    refine bodyPost_ret (v := .tuple #[valS ⟨0, 0⟩, .int .i64 E]) (by simp [results, Tryd.results20, go_sem, b0, b1]) rfl ?_
    exact ⟨by rw [HL.out, HE9.out], ext_grown HEW.out hW (by omega)⟩

set_option maxHeartbeats 1000000 in
theorem refDry_any (b : Bale) (dv wv : Value) (w : World) (hd : SlD w dv b.draws) (hw : SlW w wv b.weighs) :
    Calls Tryd.prog 21 #[valB b dv wv] w fun e w' => e = .returned (.tuple #[valS (dryB b), .int .i64 (askE b true 0)]) ∧ Ext w w' := by
  have HD := Lib.hid hd
  have HW := Lib.hid hw
  obtain ⟨A, n, cp, rfl, hn, hlc, hcm⟩ := hd.form
  obtain ⟨A2, n2, cp2, rfl, hn2, hlc2, hcm2⟩ := hw.form
  clear hd hw
  go_enter Tryd.func21, Tryd.ntmps21
  go_wp2_with fail
  refine (refAsked_any b _ _ _ ((HD.out.ext (Ext.al _ _)).ext (Ext.al _ _)) ((HW.out.ext (Ext.al _ _)).ext (Ext.al _ _))).mono ?_
  rintro e w1 ⟨sv, lv, rfl, hsl, hE⟩
  have HEW := Lib.hid (((Ext.al w _).alloc _ : Ext w _).trans hE)
  have HBR := Lib.hid ((Blk.at_ (t := 23) (cs := #[.int .i64 0, .int .i64 0]) (w := w.alloc (.cells #[.int .i64 b.id, .int .i64 b.layers, .int .i64 b.dry.lo, .int .i64 b.dry.hi, .slice A n cp, .slice A2 n2 cp2] 27)) (g := w.heap.size + 1) (by simp)).ext hE)
  clear hE
  by_cases hz9 : askE b true 0 = 0
  · obtain ⟨hs, hl⟩ := hsl hz9
    have hpos := dries_pos hz9
    have HL := Lib.hid (show dryB b = dryOf (dries b) by unfold dryB; rw [if_pos hz9])
    obtain ⟨As, ns, cs, rfl, hns, hsc, hsm⟩ := hs.form
    obtain ⟨Al, nl, cl, rfl, hnl, hlc', hlm⟩ := hl.form
    obtain ⟨m, rfl⟩ : ∃ m, nl = m + 1 := ⟨nl - 1, by have := hnl.out; omega⟩
    have hnl0 : 0 < m + 1 := by omega
    obtain ⟨bb, off, x, rfl, hx, hbb, hcell⟩ := hl.at_ hnl0
    obtain ⟨bb', off', y, e1, hy, hbb', hcell'⟩ := hl.at_ (show m < m + 1 by omega)
    injection e1 with e1
    injection e1 with e1 e2
    subst e1 e2
    have k0 := fun W h => Sl.int hcell W h
    have k1 := fun W h => Sl.int hcell' W h
    have HX := Lib.hid (show dryOf (dries b) = ⟨x, y⟩ by unfold dryOf; rw [hx, show (dries b).length - 1 = m by have := hnl.out; omega, hy]; rfl)
    have HZ := Lib.hid hz9
    have hnz : (0 : Int) < (m : Int) + 1 := by omega
    have hm0 : (0 : Int) ≤ (m : Int) := by omega
    have hm1 : (m : Int) < (m : Int) + 1 := by omega
    have hwr : IntKind.i64.wrap (m : Int) = (m : Int) := by simp [IntKind.wrap, IntKind.signed, IntKind.bits]; omega
    clear hx hy hsl hs hl hcell hcell' hpos
    rw [hz9]
    clear hz9
    simp only [Nat.add_zero] at k0
    go_wp2
    refine wp_region_tame_cut2 (fun W => Ext w1 W) (fun W W' => Ext W W') (by kernel_rfl) 27 rfl _ _ rfl rfl (by decide +kernel) (by decide +kernel) (by decide +kernel) (by decide +kernel) (by decide +kernel) rfl rfl (Ext.refl _).drew ?_
    simp only [List.dropLast]
    repeat (apply tame_q rfl; (intro ρ W hC hr hD; (obtain ⟨hrc, hrg, hrf, hrs⟩ := hr); (simp [go_sem] at hD); go_simp; first | exact ⟨⟨hC, Ext.refl _⟩, rfl⟩ | exact ⟨⟨hC, RS.refl _⟩, rfl⟩ | exact rfl); simp only [List.nil_append, List.cons_append])
    refine tame_end 27 rfl rfl (fun ρ W hC hr hF => ?_)
    obtain ⟨hrc, hrg, hrf, hrs⟩ := hr
    simp [go_sem] at hF
    apply frame_to
    · go_simp
      exact rfl
    clear hF hrs hrc hrg hrf k0 k1
    have HBW := Lib.hid (HBR.out.ext hC)
    have HEC := Lib.hid (HEW.out.trans hC)
    have t0 := HBW.out.cell 0
    have t1 := HBW.out.cell 1
    have tf := HBW.out.frozen
    have tl := HBW.out.lt
    simp at t0 t1
    clear hC
    go_wp2
    refine ret_set2 HBW.out fun W ⟨b0, b1⟩ hW => ?_
    refine bodyPost_ret (v := .tuple #[valS ⟨x, y⟩, .int .i64 0]) (by simp [results, Tryd.results21, go_sem, b0, b1]) rfl ?_
    exact ⟨by rw [HL.out, HX.out, HZ.out], ext_grown HEC.out hW (by omega)⟩
  · have HL := Lib.hid (show dryB b = ⟨0, 0⟩ by unfold dryB; rw [if_neg hz9])
    clear hsl
    generalize hE9 : askE b true 0 = E at hz9
    have HE9 := Lib.hid hE9; clear hE9
    have t0 := HBR.out.cell 0
    have t1 := HBR.out.cell 1
    have tf := HBR.out.frozen
    have tl := HBR.out.lt
    simp at t0 t1
    go_wp2
    refine ret_set2 HBR.out fun W ⟨b0, b1⟩ hW => ?_
    refine bodyPost_ret (v := .tuple #[valS ⟨0, 0⟩, .int .i64 E]) (by simp [results, Tryd.results21, go_sem, b0, b1]) rfl ?_
    exact ⟨by rw [HL.out, HE9.out], ext_grown HEW.out hW (by omega)⟩
end Go.Proofs.YtcoiahjehlplfaaDoor
