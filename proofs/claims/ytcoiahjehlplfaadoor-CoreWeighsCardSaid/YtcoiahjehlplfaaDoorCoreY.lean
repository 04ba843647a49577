/- core.Wet. -/
import Derived.Test.YtcoiahjehlplfaaDoorCoreX
namespace Go.Proofs.YtcoiahjehlplfaaDoor
open Go.RowKit Go.Shelf
set_option maxRecDepth 100000
set_option linter.unusedSimpArgs false

theorem idxF_pos {α : Type} {p : α → Bool} {l : List α} (h : 0 ≤ idxF p l) : ∃ (k : Nat) (x : α), idxF p l = (k : Int) ∧ l[k]? = some x ∧ p x = true := by
  unfold idxF at h ⊢
  cases hf : l.findIdx? p with
  | none => rw [hf] at h; simp at h
  | some k =>
    rw [List.findIdx?_eq_some_iff_getElem] at hf
    obtain ⟨hk, hp, _⟩ := hf
    exact ⟨k, l[k], rfl, List.getElem?_eq_getElem hk, hp⟩
theorem dries_could {b : Bale} {d : Int} {x : Weigh} (h : d ∈ dries b) (hx : x ∈ b.weighs) : could d x = true := by
  unfold dries driesTo at h
  simp only [List.mem_filter] at h
  exact List.all_eq_true.1 h.2 x hx
def wetOf (b : Bale) (i : Int) : Span := match b.weighs[i.toNat]? with | some x => ⟨dLo (dryOf (dries b)).hi x, dHi (dryOf (dries b)).lo x⟩ | none => ⟨0, 0⟩
def wetB (b : Bale) (number : Int) : Span := if askE b (decide (0 ≤ wIdx b number)) 6 = 0 then wetOf b (wIdx b number) else ⟨0, 0⟩

set_option maxHeartbeats 2000000 in
theorem wet_any (b : Bale) (number : Int) (dv wv : Value) (w : World) (hT : Tab w) (hd : SlD w dv b.draws) (hw : SlW w wv b.weighs) (hlen : b.weighs.length < 1000000) :
    Calls Tryd.prog 22 #[valB b dv wv, .int .i64 number] w fun e w' => e = .returned (.tuple #[valS (wetB b number), .int .i64 (askE b (decide (0 ≤ wIdx b number)) 6)]) ∧ Ext w w' := by
  have HT := Lib.hid hT
  have HD := Lib.hid hd
  have HW := Lib.hid hw
  obtain ⟨A, n, cp, rfl, hn, hlc, hcm⟩ := hd.form
  obtain ⟨A2, n2, cp2, rfl, hn2, hlc2, hcm2⟩ := hw.form
  clear hd hw hT
  go_enter Tryd.func22, Tryd.ntmps22
  go_wp2_with fail
  refine (f60_any b _ _ _ ((HD.out.ext (Ext.al _ _)).ext (Ext.al _ _)) ((HW.out.ext (Ext.al _ _)).ext (Ext.al _ _)) hlen).mono ?_
  rintro e w1 ⟨v, rfl, hv, hE1⟩
  obtain ⟨Av, nv, cv, rfl, hnv, hlv, hcv⟩ := hv.form
  have HV := Lib.hid hv; clear hv
  have HE1 := Lib.hid (((Ext.al w _).alloc _ : Ext w _).trans hE1)
  have HBR1 := Lib.hid ((Blk.at_ (t := 23) (cs := #[.int .i64 0, .int .i64 0]) (w := w.alloc (.cells #[.int .i64 b.id, .int .i64 b.layers, .int .i64 b.dry.lo, .int .i64 b.dry.hi, .slice A n cp, .slice A2 n2 cp2] 27)) (g := w.heap.size + 1) (by simp)).ext hE1)
  have HBX1 := Lib.hid (((Blk.at_ (t := 27) (cs := #[.int .i64 b.id, .int .i64 b.layers, .int .i64 b.dry.lo, .int .i64 b.dry.hi, .slice A n cp, .slice A2 n2 cp2]) (w := w) (g := w.heap.size) rfl).alloc _).ext hE1)
  clear hE1 hlen
  go_wp2_with fail
  refine (f59_any _ number _ _ HV.out).mono ?_
  rintro e w2 ⟨rfl, hE2⟩
  rw [wIdx_eq]
  have HE2 := Lib.hid (HE1.out.trans hE2)
  have HBR2 := Lib.hid (HBR1.out.ext hE2)
  have HBX2 := Lib.hid (HBX1.out.ext hE2)
  clear hE2 HE1 HBR1 HBX1 HV
  generalize hi : wIdx b number = i
  have HI := Lib.hid hi; clear hi
  have x0 := HBX2.out.cell 0
  have x1 := HBX2.out.cell 1
  have x2 := HBX2.out.cell 2
  have x3 := HBX2.out.cell 3
  have x4 := HBX2.out.cell 4
  have x5 := HBX2.out.cell 5
  have xl := HBX2.out.lt
  simp at x0 x1 x2 x3 x4 x5
  go_wp2_with fail
  clear x0 x1 x2 x3 x4 x5
  refine (asked_fn b _ _ _ 61 _ (enters_of Tryd.func61 (by kernel_rfl) rfl) (decide (0 ≤ i)) 6 (by decide) (fun hv W hW => f61_any i _ W ((hW.cell (p := ⟨w2.heap.size, 0, none⟩) (by simp)).trans (by simp [go_sem]))) ((HT.out.ext HE2.out).ext (Ext.al _ _)) ((HD.out.ext HE2.out).ext (Ext.al _ _)) ((HW.out.ext HE2.out).ext (Ext.al _ _))).mono ?_
  rintro e w3 ⟨pv, rfl, hpv, hpz, hE⟩
  have HEW := Lib.hid ((HE2.out.alloc _).trans hE)
  have HBR := Lib.hid ((HBR2.out.alloc (.cells #[.int .i64 i] 3)).ext hE)
  have HBX := Lib.hid ((HBX2.out.alloc (.cells #[.int .i64 i] 3)).ext hE)
  have HBI := Lib.hid ((Blk.new w2 3 #[.int .i64 i]).ext hE)
  clear hE HBR2 HBX2 xl HE2
  by_cases hz9 : askE b (decide (0 ≤ i)) 6 = 0
  · obtain ⟨sv, lv, rfl, hs, hl⟩ := hpv hz9
    obtain ⟨h1, h2, h3⟩ := askE_zero hz9 (by decide)
    have hpos := ok_pos h3
    have hb5 := valid_bds h1
    have hi0 : 0 ≤ wIdx b number := by rw [HI.out]; simpa using h2
    obtain ⟨k, z, hik, hkz, _⟩ := idxF_pos hi0
    have hiki : i = (k : Int) := HI.out.symm.trans hik
    subst hiki
    have hkn : k < n2 := by have := (List.getElem?_eq_some_iff.1 hkz).1; have := hn2.out; omega
    have hknz : (k : Int) < (n2 : Int) := by omega
    have hk0 : (0 : Int) ≤ (k : Int) := by omega
    obtain ⟨bw, ow, z', rfl, hz', hbw, hzc⟩ := HW.out.at_ hkn
    obtain rfl : z' = z := by rw [hkz] at hz'; injection hz' with h; exact h.symm
    obtain ⟨As, ns, cs, rfl, hns, hsc, hsm⟩ := hs.form
    obtain ⟨Al, nl, cl, rfl, hnl, hlc', hlm⟩ := hl.form
    obtain ⟨m, rfl⟩ : ∃ m, nl = m + 1 := ⟨nl - 1, by have := hnl.out; omega⟩
    have hnl0 : 0 < m + 1 := by omega
    obtain ⟨bb, off, x, rfl, hx, hbb, hcell⟩ := hl.at_ hnl0
    obtain ⟨bb', off', y, e1, hy, hbb', hcell'⟩ := hl.at_ (show m < m + 1 by omega)
    injection e1 with e1
    injection e1 with e1 e2
    subst e1 e2
    have bx := dries_bd (List.mem_of_getElem? hx)
    have by' := dries_bd (List.mem_of_getElem? hy)
    have HXB := Lib.hid (show (0 ≤ x ∧ x ≤ 1000000) ∧ could x z' = true by have := hb5.lo; have := hb5.hi; exact ⟨by omega, dries_could (List.mem_of_getElem? hx) (List.mem_of_getElem? hkz)⟩)
    have HYB := Lib.hid (show (0 ≤ y ∧ y ≤ 1000000) ∧ could y z' = true by have := hb5.lo; have := hb5.hi; exact ⟨by omega, dries_could (List.mem_of_getElem? hy) (List.mem_of_getElem? hkz)⟩)
    have HZB := Lib.hid (show 0 ≤ z'.damp.lo ∧ z'.damp.hi ≤ 1000 ∧ z'.damp.lo ≤ z'.damp.hi by have := hb5.w z' (List.mem_of_getElem? hkz); omega)
    have HL := Lib.hid (show wetB b number = ⟨dLo y z', dHi x z'⟩ by
      unfold wetB; rw [HI.out, if_pos hz9]; unfold wetOf; rw [Int.toNat_natCast, hkz]; unfold dryOf; rw [hx, show (dries b).length - 1 = m by have := hnl.out; omega, hy]; rfl)
    have HZ := Lib.hid hz9
    have hnz : (0 : Int) < (m : Int) + 1 := by omega
    have hm0 : (0 : Int) ≤ (m : Int) := by omega
    have hm1 : (m : Int) < (m : Int) + 1 := by omega
    have hwr : IntKind.i64.wrap (m : Int) = (m : Int) := by simp [IntKind.wrap, IntKind.signed, IntKind.bits]; omega
    have c0 := fun W h => Sl.int hcell W h
    have c1 := fun W h => Sl.int hcell' W h
    have m7 := fun W (h : Ext (w3.alloc (.cells #[.int .i64 b.id, .int .i64 b.layers, .int .i64 b.dry.lo, .int .i64 b.dry.hi, .slice A n cp, .slice (some ⟨bw, ow, none⟩) n2 cp2, .slice As ns cs, .slice (some ⟨bb, off, none⟩) (m + 1) cl] 82)) W) => (h.cells.1 w3.heap.size 7 (by simp)).trans (show _ = some (.slice (some ⟨bb, off, none⟩) (m + 1) cl) by simp [go_sem])
    have k0 := fun W (h : Ext (w3.alloc (.cells #[.int .i64 b.id, .int .i64 b.layers, .int .i64 b.dry.lo, .int .i64 b.dry.hi, .slice A n cp, .slice (some ⟨bw, ow, none⟩) n2 cp2, .slice As ns cs, .slice (some ⟨bb, off, none⟩) (m + 1) cl] 82)) W) => c0 W ((Ext.al _ _).trans h)
    have k1 := fun W (h : Ext (w3.alloc (.cells #[.int .i64 b.id, .int .i64 b.layers, .int .i64 b.dry.lo, .int .i64 b.dry.hi, .slice A n cp, .slice (some ⟨bw, ow, none⟩) n2 cp2, .slice As ns cs, .slice (some ⟨bb, off, none⟩) (m + 1) cl] 82)) W) => c1 W ((Ext.al _ _).trans h)
    have kb := fun W (h : Ext (w3.alloc (.cells #[.int .i64 b.id, .int .i64 b.layers, .int .i64 b.dry.lo, .int .i64 b.dry.hi, .slice A n cp, .slice (some ⟨bw, ow, none⟩) n2 cp2, .slice As ns cs, .slice (some ⟨bb, off, none⟩) (m + 1) cl] 82)) W) => (show W.cell? ⟨w.heap.size, 5, none⟩ = some (.slice (some ⟨bw, ow, none⟩) n2 cp2) from ((HBX.out.alloc _).ext h).cell 5)
    have ki := fun W (h : Ext (w3.alloc (.cells #[.int .i64 b.id, .int .i64 b.layers, .int .i64 b.dry.lo, .int .i64 b.dry.hi, .slice A n cp, .slice (some ⟨bw, ow, none⟩) n2 cp2, .slice As ns cs, .slice (some ⟨bb, off, none⟩) (m + 1) cl] 82)) W) => (show W.cell? ⟨w2.heap.size, 0, none⟩ = some (.int .i64 (k : Int)) from ((HBI.out.alloc _).ext h).cell 0)
    have kz := fun W (h : Ext (w3.alloc (.cells #[.int .i64 b.id, .int .i64 b.layers, .int .i64 b.dry.lo, .int .i64 b.dry.hi, .slice A n cp, .slice (some ⟨bw, ow, none⟩) n2 cp2, .slice As ns cs, .slice (some ⟨bb, off, none⟩) (m + 1) cl] 82)) W) => SlW.cells hzc ((HEW.out.alloc _).trans h)
    have kz0 := fun W h => (kz W h).1
    have kz1 := fun W h => (kz W h).2.1
    have kz2 := fun W h => (kz W h).2.2.1
    have kz3 := fun W h => (kz W h).2.2.2
    simp only [Nat.add_zero] at k0
    clear hx hy hpv hpz hs hl hcell hcell' hpos h1 h2 h3 hb5 bx by' c0 c1 kz hkz hz' hzc hik hi0
    rw [hz9]
    dsimp only [valP]
    clear hz9
    go_wp2
    refine wp_region_tame_cut2 (fun W => Ext (w3.alloc (.cells #[.int .i64 b.id, .int .i64 b.layers, .int .i64 b.dry.lo, .int .i64 b.dry.hi, .slice A n cp, .slice (some ⟨bw, ow, none⟩) n2 cp2, .slice As ns cs, .slice (some ⟨bb, off, none⟩) (m + 1) cl] 82)) W) (fun W W' => Ext W W') (by kernel_rfl) 50 rfl _ _ rfl rfl (by decide +kernel) (by decide +kernel) (by decide +kernel) (by decide +kernel) (by decide +kernel) rfl rfl (Ext.refl _).drew ?_
    simp only [List.dropLast]
    repeat (apply tame_q rfl; (intro ρ W hC hr hD; (obtain ⟨hrc, hrg, hrf, hrs⟩ := hr); (simp [go_sem] at hD); go_simp; first | exact ⟨⟨hC, Ext.refl _⟩, rfl⟩ | exact ⟨⟨hC, RS.refl _⟩, rfl⟩ | exact rfl); simp only [List.nil_append, List.cons_append])
    apply tame_q rfl
    · intro ρ W hC hr hD
      obtain ⟨hrc, hrg, hrf, hrs⟩ := hr
      simp [go_sem] at hD
      go_simp
      refine (damp_any y z' _ HYB.out.1.1 HYB.out.1.2 HZB.out.1 HZB.out.2.1 HZB.out.2.2 HYB.out.2).mono ?_
      rintro e w' ⟨rfl, hE⟩
      exact ⟨_, rfl, ⟨hC.trans hE, hE⟩, rfl⟩
    simp only [List.nil_append, List.cons_append]
    repeat (apply tame_q rfl; (intro ρ W hC hr hD; (obtain ⟨hrc, hrg, hrf, hrs⟩ := hr); (simp [go_sem] at hD); go_simp; first | exact ⟨⟨hC, Ext.refl _⟩, rfl⟩ | exact ⟨⟨hC, RS.refl _⟩, rfl⟩ | exact rfl); simp only [List.nil_append, List.cons_append])
    apply tame_q rfl
    · intro ρ W hC hr hD
      obtain ⟨hrc, hrg, hrf, hrs⟩ := hr
      simp [go_sem] at hD
      go_simp
      refine (damp_any x z' _ HXB.out.1.1 HXB.out.1.2 HZB.out.1 HZB.out.2.1 HZB.out.2.2 HXB.out.2).mono ?_
      rintro e w' ⟨rfl, hE⟩
      exact ⟨_, rfl, ⟨hC.trans hE, hE⟩, rfl⟩
    simp only [List.nil_append, List.cons_append]
    repeat (apply tame_q rfl; (intro ρ W hC hr hD; (obtain ⟨hrc, hrg, hrf, hrs⟩ := hr); (simp [go_sem] at hD); go_simp; first | exact ⟨⟨hC, Ext.refl _⟩, rfl⟩ | exact ⟨⟨hC, RS.refl _⟩, rfl⟩ | exact rfl); simp only [List.nil_append, List.cons_append])
    refine tame_end 50 rfl rfl (fun ρ W hC hr hF => ?_)
    obtain ⟨hrc, hrg, hrf, hrs⟩ := hr
    simp [go_sem] at hF
    apply frame_to
    · go_simp
      exact rfl
    clear hF hrs hrc hrg hrf m7 k0 k1 kb ki kz0 kz1 kz2 kz3
    have HBW := Lib.hid ((HBR.out.alloc _).ext hC)
    have HEC := Lib.hid ((HEW.out.alloc _).trans hC)
    have t0 := HBW.out.cell 0
    have t1 := HBW.out.cell 1
    have tf := HBW.out.frozen
    have tl := HBW.out.lt
    simp at t0 t1
    clear hC
    go_wp2
    refine ret_set2 HBW.out fun W ⟨b0, b1⟩ hW => ?_
    refine bodyPost_ret (v := .tuple #[valS ⟨dLo y z', dHi x z'⟩, .int .i64 0]) (by simp [results, Tryd.results22, go_sem, b0, b1]) rfl ?_
    exact ⟨by rw [HL.out, HI.out, HZ.out], ext_grown HEC.out hW (by omega)⟩
  · have := hpz hz9
    subst this
    have HL := Lib.hid (show wetB b number = ⟨0, 0⟩ by unfold wetB; rw [HI.out, if_neg hz9])
    clear hpz hpv
    generalize hE9 : askE b (decide (0 ≤ i)) 6 = E at hz9
    have HE9 := Lib.hid hE9; clear hE9
    have t0 := HBR.out.cell 0
    have t1 := HBR.out.cell 1
    have tf := HBR.out.frozen
    have tl := HBR.out.lt
    simp at t0 t1
    go_wp2
    refine ret_set2a HBR.out fun W ⟨b0, b1⟩ hW => ?_
    refine bodyPost_ret (v := .tuple #[valS ⟨0, 0⟩, .int .i64 E]) (by simp [results, Tryd.results22, go_sem, b0, b1]) rfl ?_
    exact ⟨by rw [HL.out, HI.out, HE9.out], ext_grown HEW.out hW (by omega)⟩
end Go.Proofs.YtcoiahjehlplfaaDoor
