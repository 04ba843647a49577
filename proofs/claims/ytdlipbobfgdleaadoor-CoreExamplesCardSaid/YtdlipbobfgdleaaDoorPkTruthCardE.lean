/- core.Wet. -/
import Derived.Test.YtdlipbobfgdleaaDoorPkTruthCardD
namespace Go.Proofs.YtdlipbobfgdleaaDoor
open Go.RowKit Go.Shelf
set_option maxRecDepth 100000
set_option linter.unusedSimpArgs false

theorem idxF_pos {α : Type} {p : α → Bool} {l : List α} (h : 0 ≤ idxF p l) : ∃ (k : Nat) (x : α), idxF p l = (k : Int) ∧ l[k]? = some x ∧ p x = true := by
  unfold idxF at h ⊢
  cases hf : l.findIdx? p with
  | none => rw [hf] at h; simp at h
  | some k =>
    rw [List.findIdx?_eq_some_iff_getElem] at hf
    obtain ⟨hk, hp, _⟩ := hf
    exact ⟨k, l[k], rfl, List.getElem?_eq_getElem hk, hp⟩
theorem dries_could {b : Bale} {d : Int} {x : Weigh} (h : d ∈ dries b) (hx : x ∈ b.weighs) : could d x = true := by
  unfold dries driesTo at h
  simp only [List.mem_filter] at h
  exact List.all_eq_true.1 h.2 x hx
def wetOf (b : Bale) (i : Int) : Span := match b.weighs[i.toNat]? with | some x => ⟨dLo (dryOf (dries b)).hi x, dHi (dryOf (dries b)).lo x⟩ | none => ⟨0, 0⟩
def wetB (b : Bale) (number : Int) : Span := if askE b (decide (0 ≤ wIdx b number)) 6 = 0 then wetOf b (wIdx b number) else ⟨0, 0⟩

set_option maxHeartbeats 2000000 in
theorem wet_any (b : Bale) (number : Int) (dv wv : Value) (w : World) (hT : Tab w) (hd : SlD w dv b.draws) (hw : SlW w wv b.weighs) (hlen : b.weighs.length < 1000000) :
    Calls Tryd.prog 29 #[valB b dv wv, .int .i64 number] w fun e w' => e = .returned (.tuple #[valS (wetB b number), .int .i64 (askE b (decide (0 ≤ wIdx b number)) 6)]) ∧ Ext w w' := by
  have HT := Lib.hid hT
  have HD := Lib.hid hd
  have HW := Lib.hid hw
  obtain ⟨A, n, cp, rfl, hn, hlc, hcm⟩ := hd.form
  obtain ⟨A2, n2, cp2, rfl, hn2, hlc2, hcm2⟩ := hw.form
  clear hd hw hT
  go_enter Tryd.func29, Tryd.ntmps29
  go_wp2_with fail
  refine (f83_any b _ _ _ ((HD.out.ext (Ext.al _ _)).ext (Ext.al _ _)) ((HW.out.ext (Ext.al _ _)).ext (Ext.al _ _)) hlen).mono ?_
  rintro e w1 ⟨v, rfl, hv, hE1⟩
  obtain ⟨Av, nv, cv, rfl, hnv, hlv, hcv⟩ := hv.form
  have HV := Lib.hid hv; clear hv
  have HE1 := Lib.hid (((Ext.al w _).alloc _ : Ext w _).trans hE1)
  have HBR1 := Lib.hid ((Blk.at_ (t := 23) (cs := #[.int .i64 0, .int .i64 0]) (w := w.alloc (.cells #[.int .i64 b.id, .int .i64 b.layers, .int .i64 b.dry.lo, .int .i64 b.dry.hi, .slice A n cp, .slice A2 n2 cp2] 27)) (g := w.heap.size + 1) (by simp)).ext hE1)
  have HBX1 := Lib.hid (((Blk.at_ (t := 27) (cs := #[.int .i64 b.id, .int .i64 b.layers, .int .i64 b.dry.lo, .int .i64 b.dry.hi, .slice A n cp, .slice A2 n2 cp2]) (w := w) (g := w.heap.size) rfl).alloc _).ext hE1)
  clear hE1 hlen
  go_wp2_with fail
  refine (f82_any _ number _ _ HV.out).mono ?_
  rintro e w2 ⟨rfl, hE2⟩
  rw [wIdx_eq]
  have HE2 := Lib.hid (HE1.out.trans hE2)
  have HBR2 := Lib.hid (HBR1.out.ext hE2)
  have HBX2 := Lib.hid (HBX1.out.ext hE2)
  clear hE2 HE1 HBR1 HBX1 HV
  generalize hi : wIdx b number = i
  have HI := Lib.hid hi; clear hi
  have x0 := HBX2.out.cell 0
  have x1 := HBX2.out.cell 1
  have x2 := HBX2.out.cell 2
  have x3 := HBX2.out.cell 3
  have x4 := HBX2.out.cell 4
  have x5 := HBX2.out.cell 5
  have xl := HBX2.out.lt
  simp at x0 x1 x2 x3 x4 x5
  go_wp2_with fail
  clear x0 x1 x2 x3 x4 x5
  refine (asked_fn b _ _ _ 84 _ (enters_of Tryd.func84 (by kernel_rfl) rfl) (decide (0 ≤ i)) 6 (by decide) (fun hv W hW => f84_any i _ W ((hW.cell (p := ⟨w2.heap.size, 0, none⟩) (by simp)).trans (by simp [go_sem]))) ((HT.out.ext HE2.out).ext (Ext.al _ _)) ((HD.out.ext HE2.out).ext (Ext.al _ _)) ((HW.out.ext HE2.out).ext (Ext.al _ _))).mono ?_
  rintro e w3 ⟨pv, rfl, hpv, hpz, hE⟩
  have HEW := Lib.hid ((HE2.out.alloc _).trans hE)
  have HBR := Lib.hid ((HBR2.out.alloc (.cells #[.int .i64 i] 3)).ext hE)
  have HBX := Lib.hid ((HBX2.out.alloc (.cells #[.int .i64 i] 3)).ext hE)
  have HBI := Lib.hid ((Blk.new w2 3 #[.int .i64 i]).ext hE)
  clear hE HBR2 HBX2 xl HE2
  by_cases hz9 : askE b (decide (0 ≤ i)) 6 = 0
  · obtain ⟨sv, lv, rfl, hs, hl⟩ := hpv hz9
    obtain ⟨h1, h2, h3⟩ := askE_zero hz9 (by decide)
    have hpos := ok_pos h3
    have hb5 := valid_bds h1
    have hi0 : 0 ≤ wIdx b number := by rw [HI.out]; simpa using h2
    obtain ⟨k, z, hik, hkz, _⟩ := idxF_pos hi0
    have hiki : i = (k : Int) := HI.out.symm.trans hik
    subst hiki
    have hkn : k < n2 := by have := (List.getElem?_eq_some_iff.1 hkz).1; have := hn2.out; omega
    have hknz : (k : Int) < (n2 : Int) := by omega
    have hk0 : (0 : Int) ≤ (k : Int) := by omega
    obtain ⟨bw, ow, z', rfl, hz', hbw, hzc⟩ := HW.out.at_ hkn
    obtain rfl : z' = z := by rw [hkz] at hz'; injection hz' with h; exact h.symm
    obtain ⟨As, ns, cs, rfl, hns, hsc, hsm⟩ := hs.form
    obtain ⟨Al, nl, cl, rfl, hnl, hlc', hlm⟩ := hl.form
    obtain ⟨m, rfl⟩ : ∃ m, nl = m + 1 := ⟨nl - 1, by have := hnl.out; omega⟩
    have hnl0 : 0 < m + 1 := by omega
    obtain ⟨bb, off, x, rfl, hx, hbb, hcell⟩ := hl.at_ hnl0
    obtain ⟨bb', off', y, e1, hy, hbb', hcell'⟩ := hl.at_ (show m < m + 1 by omega)
    injection e1 with e1
    injection e1 with e1 e2
    subst e1 e2
    have bx := dries_bd (List.mem_of_getElem? hx)
    have by' := dries_bd (List.mem_of_getElem? hy)
    have HXB := Lib.hid (show (0 ≤ x ∧ x ≤ 1000000) ∧ could x z' = true by have := hb5.lo; have := hb5.hi; exact ⟨by omega, dries_could (List.mem_of_getElem? hx) (List.mem_of_getElem? hkz)⟩)
    have HYB := Lib.hid (show (0 ≤ y ∧ y ≤ 1000000) ∧ could y z' = true by have := hb5.lo; have := hb5.hi; exact ⟨by omega, dries_could (List.mem_of_getElem? hy) (List.mem_of_getElem? hkz)⟩)
    have HZB := Lib.hid (show 0 ≤ z'.damp.lo ∧ z'.damp.hi ≤ 1000 ∧ z'.damp.lo ≤ z'.damp.hi by have := hb5.w z' (List.mem_of_getElem? hkz); omega)
    have HL := Lib.hid (show wetB b number = ⟨dLo y z', dHi x z'⟩ by
      unfold wetB; rw [HI.out, if_pos hz9]; unfold wetOf; rw [Int.toNat_natCast, hkz]; unfold dryOf; rw [hx, show (dries b).length - 1 = m by have := hnl.out; omega, hy]; rfl)
    have HZ := Lib.hid hz9
    have hnz : (0 : Int) < (m : Int) + 1 := by omega
    have hm0 : (0 : Int) ≤ (m : Int) := by omega
    have hm1 : (m : Int) < (m : Int) + 1 := by omega
    have hwr : IntKind.i64.wrap (m : Int) = (m : Int) := by simp [IntKind.wrap, IntKind.signed, IntKind.bits]; omega
    have c0 := fun W h => Sl.int hcell W h
    have c1 := fun W h => Sl.int hcell' W h
    have m7 := fun W (h : Ext (w3.alloc (.cells #[.int .i64 b.id, .int .i64 b.layers, .int .i64 b.dry.lo, .int .i64 b.dry.hi, .slice A n cp, .slice (some ⟨bw, ow, none⟩) n2 cp2, .slice As ns cs, .slice (some ⟨bb, off, none⟩) (m + 1) cl] 106)) W) => (h.cells.1 w3.heap.size 7 (by simp)).trans (show _ = some (.slice (some ⟨bb, off, none⟩) (m + 1) cl) by simp [go_sem])
    have k0 := fun W (h : Ext (w3.alloc (.cells #[.int .i64 b.id, .int .i64 b.layers, .int .i64 b.dry.lo, .int .i64 b.dry.hi, .slice A n cp, .slice (some ⟨bw, ow, none⟩) n2 cp2, .slice As ns cs, .slice (some ⟨bb, off, none⟩) (m + 1) cl] 106)) W) => c0 W ((Ext.al _ _).trans h)
    have k1 := fun W (h : Ext (w3.alloc (.cells #[.int .i64 b.id, .int .i64 b.layers, .int .i64 b.dry.lo, .int .i64 b.dry.hi, .slice A n cp, .slice (some ⟨bw, ow, none⟩) n2 cp2, .slice As ns cs, .slice (some ⟨bb, off, none⟩) (m + 1) cl] 106)) W) => c1 W ((Ext.al _ _).trans h)
    have kb := fun W (h : Ext (w3.alloc (.cells #[.int .i64 b.id, .int .i64 b.layers, .int .i64 b.dry.lo, .int .i64 b.dry.hi, .slice A n cp, .slice (some ⟨bw, ow, none⟩) n2 cp2, .slice As ns cs, .slice (some ⟨bb, off, none⟩) (m + 1) cl] 106)) W) => (show W.cell? ⟨w.heap.size, 5, none⟩ = some (.slice (some ⟨bw, ow, none⟩) n2 cp2) from ((HBX.out.alloc _).ext h).cell 5)
    have ki := fun W (h : Ext (w3.alloc (.cells #[.int .i64 b.id, .int .i64 b.layers, .int .i64 b.dry.lo, .int .i64 b.dry.hi, .slice A n cp, .slice (some ⟨bw, ow, none⟩) n2 cp2, .slice As ns cs, .slice (some ⟨bb, off, none⟩) (m + 1) cl] 106)) W) => (show W.cell? ⟨w2.heap.size, 0, none⟩ = some (.int .i64 (k : Int)) from ((HBI.out.alloc _).ext h).cell 0)
    have kz := fun W (h : Ext (w3.alloc (.cells #[.int .i64 b.id, .int .i64 b.layers, .int .i64 b.dry.lo, .int .i64 b.dry.hi, .slice A n cp, .slice (some ⟨bw, ow, none⟩) n2 cp2, .slice As ns cs, .slice (some ⟨bb, off, none⟩) (m + 1) cl] 106)) W) => SlW.cells hzc ((HEW.out.alloc _).trans h)
    have kz0 := fun W h => (kz W h).1
    have kz1 := fun W h => (kz W h).2.1
    have kz2 := fun W h => (kz W h).2.2.1
    have kz3 := fun W h => (kz W h).2.2.2
    simp only [Nat.add_zero] at k0
    clear hx hy hpv hpz hs hl hcell hcell' hpos h1 h2 h3 hb5 bx by' c0 c1 kz hkz hz' hzc hik hi0
    rw [hz9]
    dsimp only [valP]
    clear hz9
    go_wp2
    refine wp_region_tame_cut2 (fun W => Ext (w3.alloc (.cells #[.int .i64 b.id, .int .i64 b.layers, .int .i64 b.dry.lo, .int .i64 b.dry.hi, .slice A n cp, .slice (some ⟨bw, ow, none⟩) n2 cp2, .slice As ns cs, .slice (some ⟨bb, off, none⟩) (m + 1) cl] 106)) W) (fun W W' => Ext W W') (by kernel_rfl) 50 rfl _ _ rfl rfl (by decide +kernel) (by decide +kernel) (by decide +kernel) (by decide +kernel) (by decide +kernel) rfl rfl (Ext.refl _).drew ?_
    simp only [List.dropLast]
    repeat (apply tame_q rfl; (intro ρ W hC hr hD; (obtain ⟨hrc, hrg, hrf, hrs⟩ := hr); (simp [go_sem] at hD); go_simp; first | exact ⟨⟨hC, Ext.refl _⟩, rfl⟩ | exact ⟨⟨hC, RS.refl _⟩, rfl⟩ | exact rfl); simp only [List.nil_append, List.cons_append])
    apply tame_q rfl
    · intro ρ W hC hr hD
      obtain ⟨hrc, hrg, hrf, hrs⟩ := hr
      simp [go_sem] at hD
      go_simp
      refine (damp_any y z' _ HYB.out.1.1 HYB.out.1.2 HZB.out.1 HZB.out.2.1 HZB.out.2.2 HYB.out.2).mono ?_
      rintro e w' ⟨rfl, hE⟩
      exact ⟨_, rfl, ⟨hC.trans hE, hE⟩, rfl⟩
    simp only [List.nil_append, List.cons_append]
    repeat (apply tame_q rfl; (intro ρ W hC hr hD; (obtain ⟨hrc, hrg, hrf, hrs⟩ := hr); (simp [go_sem] at hD); go_simp; first | exact ⟨⟨hC, Ext.refl _⟩, rfl⟩ | exact ⟨⟨hC, RS.refl _⟩, rfl⟩ | exact rfl); simp only [List.nil_append, List.cons_append])
    apply tame_q rfl
    · intro ρ W hC hr hD
      obtain ⟨hrc, hrg, hrf, hrs⟩ := hr
      simp [go_sem] at hD
      go_simp
      refine (damp_any x z' _ HXB.out.1.1 HXB.out.1.2 HZB.out.1 HZB.out.2.1 HZB.out.2.2 HXB.out.2).mono ?_
      rintro e w' ⟨rfl, hE⟩
      exact ⟨_, rfl, ⟨hC.trans hE, hE⟩, rfl⟩
    simp only [List.nil_append, List.cons_append]
    repeat (apply tame_q rfl; (intro ρ W hC hr hD; (obtain ⟨hrc, hrg, hrf, hrs⟩ := hr); (simp [go_sem] at hD); go_simp; first | exact ⟨⟨hC, Ext.refl _⟩, rfl⟩ | exact ⟨⟨hC, RS.refl _⟩, rfl⟩ | exact rfl); simp only [List.nil_append, List.cons_append])
    refine tame_end 50 rfl rfl (fun ρ W hC hr hF => ?_)
    obtain ⟨hrc, hrg, hrf, hrs⟩ := hr
    simp [go_sem] at hF
    apply frame_to
    · go_simp
      exact rfl
    clear hF hrs hrc hrg hrf m7 k0 k1 kb ki kz0 kz1 kz2 kz3
    have HBW := Lib.hid ((HBR.out.alloc _).ext hC)
    have HEC := Lib.hid ((HEW.out.alloc _).trans hC)
    have t0 := HBW.out.cell 0
    have t1 := HBW.out.cell 1
    have tf := HBW.out.frozen
    have tl := HBW.out.lt
    simp at t0 t1
    clear hC
    go_wp2
    refine ret_set2 HBW.out fun W ⟨b0, b1⟩ hW => ?_
    refine bodyPost_ret (v := .tuple #[valS ⟨dLo y z', dHi x z'⟩, .int .i64 0]) (by simp [results, Tryd.results29, go_sem, b0, b1]) rfl ?_
    exact ⟨by rw [HL.out, HI.out, HZ.out], ext_grown HEC.out hW (by omega)⟩
  · have := hpz hz9
    subst this
    have HL := Lib.hid (show wetB b number = ⟨0, 0⟩ by unfold wetB; rw [HI.out, if_neg hz9])
    clear hpz hpv
    generalize hE9 : askE b (decide (0 ≤ i)) 6 = E at hz9
    have HE9 := Lib.hid hE9; clear hE9
    have t0 := HBR.out.cell 0
    have t1 := HBR.out.cell 1
    have tf := HBR.out.frozen
    have tl := HBR.out.lt
    simp at t0 t1
    go_wp2
    refine ret_set2a HBR.out fun W ⟨b0, b1⟩ hW => ?_
    refine bodyPost_ret (v := .tuple #[valS ⟨0, 0⟩, .int .i64 E]) (by simp [results, Tryd.results29, go_sem, b0, b1]) rfl ?_
    exact ⟨by rw [HL.out, HI.out, HE9.out], ext_grown HEW.out hW (by omega)⟩
end Go.Proofs.YtdlipbobfgdleaaDoor
/- The reference's Wet. -/
namespace Go.Proofs.YtdlipbobfgdleaaDoor
open Go.RowKit Go.Shelf
set_option maxRecDepth 100000
set_option linter.unusedSimpArgs false

def hitStep (d : Int) (x : Weigh) (s : Span) (r : Int) : Span := if weight d r = x.pounds then ⟨min s.lo r, max s.hi r⟩ else s
def hitsTo (d : Int) (x : Weigh) (s : Span) : Nat → Span
  | 0 => s
  | k + 1 => hitStep d x (hitsTo d x s k) (x.damp.lo + (k : Int))
def wetFold (x : Weigh) (l : List Int) : Span := l.foldl (fun s d => hitsTo d x s (x.damp.hi - x.damp.lo + 1).toNat) ⟨x.damp.hi, x.damp.lo⟩
/-- What the reference tells of a weighing. -/
def rwetB (b : Bale) (number : Int) : Span := if askE b (decide (0 ≤ wIdx b number)) 6 = 0 then (match b.weighs[(wIdx b number).toNat]? with | some x => wetFold x (dries b) | none => ⟨0, 0⟩) else ⟨0, 0⟩

set_option maxHeartbeats 2000000 in
theorem refWet_any (b : Bale) (number : Int) (dv wv : Value) (w : World) (hd : SlD w dv b.draws) (hw : SlW w wv b.weighs) :
    Calls Tryd.prog 30 #[valB b dv wv, .int .i64 number] w fun e w' => e = .returned (.tuple #[valS (rwetB b number), .int .i64 (askE b (decide (0 ≤ wIdx b number)) 6)]) ∧ Ext w w' := by
  have HD := Lib.hid hd
  have HW := Lib.hid hw
  obtain ⟨A, n, cp, rfl, hn, hlc, hcm⟩ := hd.form
  obtain ⟨A2, n2, cp2, rfl, hn2, hlc2, hcm2⟩ := hw.form
  clear hd hw
  go_enter Tryd.func30, Tryd.ntmps30
  go_wp2_with fail
  refine (refBale_v b _ _ _ ((HD.out.ext (Ext.al _ _)).ext (Ext.al _ _)) ((HW.out.ext (Ext.al _ _)).ext (Ext.al _ _))).mono ?_
  rintro e w1 ⟨rfl, hE⟩
  have HE1 := Lib.hid (((Ext.al w _).alloc _ : Ext w _).trans hE)
  have HBR := Lib.hid ((Blk.at_ (t := 23) (cs := #[.int .i64 0, .int .i64 0]) (w := w.alloc (.cells #[.int .i64 b.id, .int .i64 b.layers, .int .i64 b.dry.lo, .int .i64 b.dry.hi, .slice A n cp, .slice A2 n2 cp2] 27)) (g := w.heap.size + 1) (by simp)).ext hE)
  have HBX := Lib.hid (((Blk.at_ (t := 27) (cs := #[.int .i64 b.id, .int .i64 b.layers, .int .i64 b.dry.lo, .int .i64 b.dry.hi, .slice A n cp, .slice A2 n2 cp2]) (w := w) (g := w.heap.size) rfl).alloc _).ext hE)
  clear hE
  have t0 := HBR.out.cell 0
  have t1 := HBR.out.cell 1
  have tf := HBR.out.frozen
  have tl := HBR.out.lt
  have x0 := HBX.out.cell 0
  have x1 := HBX.out.cell 1
  have x2 := HBX.out.cell 2
  have x3 := HBX.out.cell 3
  have x4 := HBX.out.cell 4
  have x5 := HBX.out.cell 5
  have xl := HBX.out.lt
  simp at t0 t1 x0 x1 x2 x3 x4 x5
  cases hv : valid b with
  | false =>
    have HV := Lib.hid hv; clear hv
    go_wp2
    refine ret_set2 HBR.out fun W ⟨b0, b1⟩ hW => ?_
    refine bodyPost_ret (v := .tuple #[valS ⟨0, 0⟩, .int .i64 30]) (by simp [results, Tryd.results30, go_sem, b0, b1]) rfl ?_
    have hE : askE b (decide (0 ≤ wIdx b number)) 6 = 30 := by unfold askE; rw [HV.out]; rfl
    exact ⟨by unfold rwetB; rw [hE]; rfl, ext_grown HE1.out hW (by omega)⟩
  | true =>
    have HV := Lib.hid hv; clear hv
    go_wp2_with fail
    refine (f86_any b number _ _ _ (HD.out.ext HE1.out) (HW.out.ext HE1.out)).mono ?_
    rintro e w2 ⟨rfl, hE2⟩
    clear t0 t1 tf tl x0 x1 x2 x3 x4 x5 xl
    have HE2 := Lib.hid (HE1.out.trans hE2)
    have HBR2 := Lib.hid (HBR.out.ext hE2)
    have HBX2 := Lib.hid (HBX.out.ext hE2)
    clear hE2 HE1 HBR HBX
    have t0 := HBR2.out.cell 0
    have t1 := HBR2.out.cell 1
    have tf := HBR2.out.frozen
    have tl := HBR2.out.lt
    have x0 := HBX2.out.cell 0
    have x1 := HBX2.out.cell 1
    have x2 := HBX2.out.cell 2
    have x3 := HBX2.out.cell 3
    have x4 := HBX2.out.cell 4
    have x5 := HBX2.out.cell 5
    have xl := HBX2.out.lt
    simp at t0 t1 x0 x1 x2 x3 x4 x5
    generalize hi : wIdx b number = i
    have HI := Lib.hid hi; clear hi
    by_cases hneg : i < 0
    · have HN := Lib.hid (show decide (0 ≤ i) = false by simp; omega)
      go_wp2
      refine ret_set2 HBR2.out fun W ⟨b0, b1⟩ hW => ?_
      refine bodyPost_ret (v := .tuple #[valS ⟨0, 0⟩, .int .i64 6]) (by simp [results, Tryd.results30, go_sem, b0, b1]) rfl ?_
      have hE : askE b (decide (0 ≤ i)) 6 = 6 := by unfold askE; rw [HV.out, HN.out]; rfl
      exact ⟨by unfold rwetB; rw [HI.out, hE]; rfl, ext_grown HE2.out hW (by omega)⟩
    · have HN := Lib.hid (show decide (0 ≤ i) = true by simp; omega)
      have hi0 : 0 ≤ wIdx b number := by rw [HI.out]; omega
      obtain ⟨k, z, hik, hkz, _⟩ := idxF_pos hi0
      have hiki : i = (k : Int) := HI.out.symm.trans hik
      subst hiki
      have hkn : k < n2 := by have := (List.getElem?_eq_some_iff.1 hkz).1; have := hn2.out; omega
      have hknz : (k : Int) < (n2 : Int) := by omega
      have hk0 : (0 : Int) ≤ (k : Int) := by omega
      obtain ⟨bw, ow, z', rfl, hz', hbw, hzc⟩ := HW.out.at_ hkn
      obtain rfl : z' = z := by rw [hkz] at hz'; injection hz' with h; exact h.symm
      have HKZ := Lib.hid hkz
      have HA := Lib.hid (askE_true HV.out 6)
      clear hz' hkz hik hi0
      go_wp2_with fail
      refine (refAsked_any b _ _ _ (HD.out.ext HE2.out) (HW.out.ext HE2.out)).mono ?_
      rintro e w3 ⟨sv, lv, rfl, hsl, hE3⟩
      clear t0 t1 tf tl x0 x1 x2 x3 x4 x5 xl
      have HE3 := Lib.hid (HE2.out.trans hE3)
      have HBR3 := Lib.hid (HBR2.out.ext hE3)
      have HBX3 := Lib.hid (HBX2.out.ext hE3)
      clear hE3 HE2 HBR2 HBX2
      have t0 := HBR3.out.cell 0
      have t1 := HBR3.out.cell 1
      have tf := HBR3.out.frozen
      have tl := HBR3.out.lt
      have x5 := HBX3.out.cell 5
      have xl := HBX3.out.lt
      simp at t0 t1 x5
      by_cases hz9 : askE b true 0 = 0
      · obtain ⟨hs, hl⟩ := hsl hz9
        have hb5 := valid_bds HV.out
        obtain ⟨As, ns, cs, rfl, hns, hsc, hsm⟩ := hs.form
        obtain ⟨Al, nl, cl, rfl, hnl, hlc', hlm⟩ := hl.form
        have HLL := Lib.hid hl
        have HLB := Lib.hid (show ∀ d ∈ dries b, 0 ≤ d ∧ d ≤ 1000000 from fun d hd => by have := dries_bd hd; have := hb5.lo; have := hb5.hi; omega)
        have hzb := hb5.w z' (List.mem_of_getElem? HKZ.out)
        have hq0 : 0 ≤ z'.damp.lo := by omega
        have hq1 : z'.damp.lo ≤ z'.damp.hi := by omega
        have hq2 : z'.damp.hi ≤ 200 := by omega
        have HZ := Lib.hid hz9
        obtain ⟨c0, c1, c2, c3⟩ := SlW.cells hzc HE3.out
        rw [hz9]
        clear hs hl hsl hb5 hzb hz9 hzc
        go_wp2
        generalize hNN : (z'.damp.hi - z'.damp.lo + 1).toNat = N at *
        have hN : (N : Int) = z'.damp.hi - z'.damp.lo + 1 := by omega
        go_loopg [13, 14, 49] nl (fun gg _ _ s wr => ∃ (j : Nat) (lo hi : Int), j ≤ nl ∧ nl - j ≤ gg ∧ s = .int .i64 j ∧ Aside (((dries b).take j).foldl (fun s d => hitsTo d z' s N) ⟨z'.damp.hi, z'.damp.lo⟩ = ⟨lo, hi⟩) ∧ Aside (Blk wr (w3.heap.size + 1) 23 #[.int .i64 lo, .int .i64 hi]) ∧
          Aside (Blk wr w3.heap.size 65 #[.int .i64 z'.number, .int .i64 z'.pounds, .int .i64 z'.damp.lo, .int .i64 z'.damp.hi]) ∧ Aside (Ext w3 wr))
        case atStart => exact ⟨0, z'.damp.hi, z'.damp.lo, by omega, by omega, rfl, rfl, Blk.at_ (by simp), (Blk.at_ rfl).alloc _, (Ext.al _ _).alloc _⟩
        case round =>
          obtain ⟨j, lo, hi, hj, hgj, rfl, FO, BL, BZ, EX⟩ := hrel
          obtain ⟨wo, hwo⟩ : ∃ wo : World, wo = wr := ⟨_, rfl⟩
          subst hwo
          clear c0 c1 c2 c3 t0 t1 tf tl x5 xl
          have z2 := BZ.out.cell 2
          have zl := BZ.out.lt
          simp at z2
          by_cases hjn : j < nl
          · have hjz : (j : Int) < (nl : Int) := by omega
            obtain ⟨bb, off, d, rfl, hd, hbb, hcell⟩ := HLL.out.at_ hjn
            have c0 := Sl.int hcell _ EX.out
            have HFO := Lib.hid (foldl_snoc (fun s d => hitsTo d z' s N) ⟨z'.damp.hi, z'.damp.lo⟩ _ _ _ hd)
            have HDB := Lib.hid (HLB.out d (List.mem_of_getElem? hd))
            clear hd hcell
            go_wp2
            go_loopg [14] N (fun gg s wr => ∃ (q : Nat) (lo' hi' : Int), q ≤ N ∧ N - q ≤ gg ∧ s = .int .i64 (z'.damp.lo + (q : Int)) ∧ Aside (hitsTo d z' ⟨lo, hi⟩ q = ⟨lo', hi'⟩) ∧ Aside (Blk wr (w3.heap.size + 1) 23 #[.int .i64 lo', .int .i64 hi']) ∧
              Aside (Blk wr w3.heap.size 65 #[.int .i64 z'.number, .int .i64 z'.pounds, .int .i64 z'.damp.lo, .int .i64 z'.damp.hi]) ∧ Aside (Ext w3 wr))
            case atStart => exact ⟨0, lo, hi, by omega, by omega, by simp, rfl, BL.out, BZ.out, EX.out⟩
            case round =>
              clear z2 zl c0
              obtain ⟨q, lo', hi', hq, hgq, rfl, FQ, BL2, BZ2, EX2⟩ := hrel
              have z3 := BZ2.out.cell 3
              have zl := BZ2.out.lt
              simp at z3
              by_cases hqn : q < N
              · have hle : z'.damp.lo + (q : Int) ≤ z'.damp.hi := by omega
                have m1 := fun W (h : Ext wr W) => (show W.cell? ⟨w3.heap.size, 1, none⟩ = some (.int .i64 z'.pounds) from (BZ2.out.ext h).cell 1)
                go_wp2
                refine wp_region_tame (fun W => Ext wr W) (fun W W' => Ext W W') (by kernel_rfl) 80 rfl (by decide +kernel) (Ext.refl _).drew ?_
                repeat (apply tame_q rfl; (intro ρ W hC hr hD; (obtain ⟨hrc, hrg, hrf, hrs⟩ := hr); (simp [go_sem] at hD); go_simp; first | exact ⟨⟨hC, Ext.refl _⟩, rfl⟩ | exact ⟨⟨hC, RS.refl _⟩, rfl⟩ | exact rfl); simp only [List.nil_append, List.cons_append])
                apply tame_q rfl
                · intro ρ W hC hr hD
                  obtain ⟨hrc, hrg, hrf, hrs⟩ := hr
                  simp [go_sem] at hD
                  go_simp
                  refine (f60_any d (z'.damp.lo + (q : Int)) _ HDB.out.1 HDB.out.2 (by omega) (by omega)).mono ?_
                  rintro e w' ⟨rfl, rfl⟩
                  exact ⟨_, rfl, ⟨hC, Ext.refl _⟩, rfl⟩
                simp only [List.nil_append, List.cons_append]
                repeat (apply tame_q rfl; (intro ρ W hC hr hD; (obtain ⟨hrc, hrg, hrf, hrs⟩ := hr); (simp [go_sem] at hD); go_simp; first | exact ⟨⟨hC, Ext.refl _⟩, rfl⟩ | exact ⟨⟨hC, RS.refl _⟩, rfl⟩ | exact rfl); simp only [List.nil_append, List.cons_append])
                refine tame_end 80 rfl rfl (fun ρ W hC hr hF => ?_)
                obtain ⟨hrc, hrg, hrf, hrs⟩ := hr
                simp [go_sem] at hF
                apply frame_to
                · go_simp
                  exact rfl
                clear hF hrs hrc hrg hrf m1 z3 zl
                have BL3 := Lib.hid (BL2.out.ext hC)
                have BZ3 := Lib.hid (BZ2.out.ext hC)
                have EX3 := Lib.hid (EX2.out.trans hC)
                have l0 := BL3.out.cell 0
                have l1 := BL3.out.cell 1
                have lf := BL3.out.frozen
                have ll := BL3.out.lt
                simp at l0 l1
                clear hC
                by_cases heq : weight d (z'.damp.lo + (q : Int)) = z'.pounds
                · have HQ := Lib.hid heq
                  have heq' : (weight d (z'.damp.lo + (q : Int)) == z'.pounds) = true := by simpa using heq
                  clear heq
                  go_wp2
                  go_roundg (N - (q + 1))
                  case measure => omega
                  case rel => exact ⟨q + 1, min lo' (z'.damp.lo + (q : Int)), max hi' (z'.damp.lo + (q : Int)), by omega, by omega, by simp; omega, by show _ = _; rw [hitsTo, FQ.out, hitStep, if_pos HQ.out], (BL3.out.set_ 0 _).set_ 1 _, (BZ3.out.far (by dsimp only; omega) _).far (by dsimp only; omega) _, (EX3.out.setCell (by dsimp only; omega) _).setCell (by dsimp only; omega) _⟩
                · have HQ := Lib.hid heq
                  have heq' : (weight d (z'.damp.lo + (q : Int)) == z'.pounds) = false := by simpa using heq
                  clear heq
                  go_wp2
                  go_roundg (N - (q + 1))
                  case measure => omega
                  case rel => exact ⟨q + 1, lo', hi', by omega, by omega, by simp; omega, by show _ = _; rw [hitsTo, FQ.out, hitStep, if_neg HQ.out], BL3.out, BZ3.out, EX3.out⟩
              · have HQN := Lib.hid (show q = N by omega)
                have hgt : z'.damp.hi < z'.damp.lo + (q : Int) := by omega
                go_wp2
                go_roundg (nl - (j + 1))
                case measure => omega
                case rel => exact ⟨j + 1, lo', hi', by omega, by omega, rfl, by show _ = _; rw [HFO.out, FO.out, ← FQ.out, HQN.out], BL2.out, BZ2.out, EX2.out⟩
          · have HBW := Lib.hid (HBR3.out.ext EX.out)
            have t0 := HBW.out.cell 0
            have t1 := HBW.out.cell 1
            have tf := HBW.out.frozen
            have tl := HBW.out.lt
            have l0 := BL.out.cell 0
            have l1 := BL.out.cell 1
            have ll := BL.out.lt
            simp at t0 t1 l0 l1
            have HL := Lib.hid (show rwetB b number = ⟨lo, hi⟩ by
              unfold rwetB; rw [HI.out, HN.out, HA.out, HZ.out, if_pos rfl, Int.toNat_natCast, HKZ.out]
              show wetFold z' (dries b) = _
              unfold wetFold; rw [hNN, ← FO.out, List.take_of_length_le (by have := hnl.out; omega)])
            go_wp2
            refine ret_set2 HBW.out fun W ⟨b0, b1⟩ hW => ?_
            refine bodyPost_ret (v := .tuple #[valS ⟨lo, hi⟩, .int .i64 0]) (by simp [results, Tryd.results30, go_sem, b0, b1]) rfl ?_
            exact ⟨by rw [HL.out, HI.out, HN.out, HA.out, HZ.out], ext_grown (HE3.out.trans EX.out) hW (by omega)⟩
      · have HL := Lib.hid (show rwetB b number = ⟨0, 0⟩ by unfold rwetB; rw [HI.out, HN.out, HA.out, if_neg hz9])
        clear hsl
        generalize hE9 : askE b true 0 = E at hz9
        have HE9 := Lib.hid hE9; clear hE9
        go_wp2
        refine ret_set2 HBR3.out fun W ⟨b0, b1⟩ hW => ?_
        refine bodyPost_ret (v := .tuple #[valS ⟨0, 0⟩, .int .i64 E]) (by simp [results, Tryd.results30, go_sem, b0, b1]) rfl ?_
        exact ⟨by rw [HL.out, HI.out, HN.out, HA.out, HE9.out], ext_grown HE3.out hW (by omega)⟩
end Go.Proofs.YtdlipbobfgdleaaDoor
/- The plain law of dampness: what the program tells by the lightest and the heaviest dry weight is what the reference finds by trying all. -/
namespace Go.Proofs.YtdlipbobfgdleaaDoor
open Go.RowKit Go.Shelf
set_option linter.unusedSimpArgs false

theorem weight_step {d : Int} (r : Int) (h0 : 0 ≤ d) (h1 : d ≤ 1000) : weight d r ≤ weight d (r + 1) ∧ weight d (r + 1) ≤ weight d r + 1 := by
  unfold weight
  rw [show d * (1000 + (r + 1)) = d * (1000 + r) + d by rw [← Int.add_assoc, Int.mul_add d (1000 + r) 1]; omega]
  generalize d * (1000 + r) = p
  omega
theorem weight_le_d {d d' : Int} (r : Int) (h : d ≤ d') (hr : 0 ≤ r) : weight d r ≤ weight d' r := by
  unfold weight
  have := Int.mul_le_mul_of_nonneg_right h (show 0 ≤ 1000 + r by omega)
  omega
theorem weight_mono {d : Int} (h0 : 0 ≤ d) (h1 : d ≤ 1000) (r : Int) (k : Nat) : weight d r ≤ weight d (r + k) := by
  induction k with
  | zero => simp
  | succ k ih =>
    have := (weight_step (d := d) (r + k) h0 h1).1
    rw [show r + ((k + 1 : Nat) : Int) = r + k + 1 by omega]
    omega
theorem weight_mono' {d : Int} (h0 : 0 ≤ d) (h1 : d ≤ 1000) {r r' : Int} (h : r ≤ r') : weight d r ≤ weight d r' := by
  have := weight_mono h0 h1 r (r' - r).toNat
  rwa [show r + ((r' - r).toNat : Int) = r' by omega] at this

/-- A weighing, and a dry weight that can weigh so. -/
structure Fit (d : Int) (x : Weigh) : Prop where
  d0 : 0 ≤ d
  d1 : d ≤ 1000
  r0 : 0 ≤ x.damp.lo
  r1 : x.damp.lo ≤ x.damp.hi
  c : could d x = true
theorem Fit.lo {d : Int} {x : Weigh} (h : Fit d x) : weight d x.damp.lo ≤ x.pounds ∧ x.pounds ≤ weight d x.damp.hi := by
  have := h.c
  unfold could inB at this
  simpa using this
theorem lo_ex (d : Int) (x : Weigh) : ∀ k : Nat, x.damp.lo + k ≤ x.damp.hi → (∃ lo, x.damp.lo ≤ lo ∧ lo ≤ x.damp.lo + k ∧ x.pounds ≤ weight d lo ∧ ∀ r, x.damp.lo ≤ r → r < lo → weight d r < x.pounds) ∨ ∀ r, x.damp.lo ≤ r → r ≤ x.damp.lo + k → weight d r < x.pounds := by
  intro k
  induction k with
  | zero =>
    intro hk
    by_cases hp : x.pounds ≤ weight d x.damp.lo
    · exact .inl ⟨x.damp.lo, by omega, by omega, hp, fun r h1 h2 => by omega⟩
    · refine .inr fun r h1 h2 => ?_
      have : r = x.damp.lo := by simp at h2; omega
      rw [this]; omega
  | succ k ih =>
    intro hk
    rcases ih (by omega) with ⟨lo, h1, h2, h3, h4⟩ | hall
    · exact .inl ⟨lo, h1, by omega, h3, h4⟩
    · by_cases hp : x.pounds ≤ weight d (x.damp.lo + (k + 1 : Nat))
      · exact .inl ⟨_, by omega, by omega, hp, fun r h1 h2 => hall r h1 (by omega)⟩
      · refine .inr fun r h1 h2 => ?_
        by_cases hr : r = x.damp.lo + (k + 1 : Nat)
        · rw [hr]; omega
        · exact hall r h1 (by omega)
theorem dLo_spec {d : Int} {x : Weigh} (h : Fit d x) : x.damp.lo ≤ dLo d x ∧ dLo d x ≤ x.damp.hi ∧ weight d (dLo d x) = x.pounds ∧ ∀ r, x.damp.lo ≤ r → r < dLo d x → weight d r < x.pounds := by
  have hlo := h.lo
  have hr := h.r1
  rcases lo_ex d x (x.damp.hi - x.damp.lo).toNat (by omega) with ⟨lo, h1, h2, h3, h4⟩ | hall
  · have e := dLo_of (d := d) h1 (show lo ≤ x.damp.hi by omega) h3 h4
    rw [e]
    refine ⟨h1, by omega, ?_, h4⟩
    by_cases hl : lo = x.damp.lo
    · rw [hl] at h3 ⊢; omega
    · have h5 := h4 (lo - 1) (by omega) (by omega)
      have h6 := (weight_step (d := d) (lo - 1) h.d0 h.d1).2
      rw [show lo - 1 + 1 = lo by omega] at h6
      omega
  · have := hall x.damp.hi hr (by omega)
    omega
theorem hi_ex (d : Int) (x : Weigh) : ∀ k : Nat, x.damp.lo ≤ x.damp.hi - k → (∃ hi, x.damp.hi - k ≤ hi ∧ hi ≤ x.damp.hi ∧ weight d hi ≤ x.pounds ∧ ∀ r, hi < r → r ≤ x.damp.hi → x.pounds < weight d r) ∨ ∀ r, x.damp.hi - k ≤ r → r ≤ x.damp.hi → x.pounds < weight d r := by
  intro k
  induction k with
  | zero =>
    intro hk
    by_cases hp : weight d x.damp.hi ≤ x.pounds
    · exact .inl ⟨x.damp.hi, by omega, by omega, hp, fun r h1 h2 => by omega⟩
    · refine .inr fun r h1 h2 => ?_
      have : r = x.damp.hi := by simp at h1; omega
      rw [this]; omega
  | succ k ih =>
    intro hk
    rcases ih (by omega) with ⟨hi, h1, h2, h3, h4⟩ | hall
    · exact .inl ⟨hi, by omega, h2, h3, h4⟩
    · by_cases hp : weight d (x.damp.hi - (k + 1 : Nat)) ≤ x.pounds
      · exact .inl ⟨_, by omega, by omega, hp, fun r h1 h2 => hall r (by omega) h2⟩
      · refine .inr fun r h1 h2 => ?_
        by_cases hr : r = x.damp.hi - (k + 1 : Nat)
        · rw [hr]; omega
        · exact hall r (by omega) h2
theorem dHi_spec {d : Int} {x : Weigh} (h : Fit d x) : x.damp.lo ≤ dHi d x ∧ dHi d x ≤ x.damp.hi ∧ weight d (dHi d x) = x.pounds ∧ ∀ r, dHi d x < r → r ≤ x.damp.hi → x.pounds < weight d r := by
  have hlo := h.lo
  have hr := h.r1
  rcases hi_ex d x (x.damp.hi - x.damp.lo).toNat (by omega) with ⟨hi, h1, h2, h3, h4⟩ | hall
  · have e := dHi_of (d := d) (show x.damp.lo ≤ hi by omega) h2 h3 h4
    rw [e]
    refine ⟨by omega, h2, ?_, h4⟩
    by_cases hl : hi = x.damp.hi
    · rw [hl] at h3 ⊢; omega
    · have h5 := h4 (hi + 1) (by omega) (by omega)
      have h6 := (weight_step (d := d) hi h.d0 h.d1).2
      omega
  · have := hall x.damp.lo (by omega) hr
    omega
/-- Trying all of the dampness: the least and the most that fit. -/
theorem hitsTo_full {d : Int} {x : Weigh} (h : Fit d x) (s : Span) : hitsTo d x s (x.damp.hi - x.damp.lo + 1).toNat = ⟨min s.lo (dLo d x), max s.hi (dHi d x)⟩ := by
  obtain ⟨l1, l2, l3, l4⟩ := dLo_spec h
  obtain ⟨g1, g2, g3, g4⟩ := dHi_spec h
  have hLH : dLo d x ≤ dHi d x := by
    rcases Int.lt_or_le (dHi d x) (dLo d x) with hl | hl
    · have := g4 _ hl l2; omega
    · exact hl
  have key : ∀ k : Nat, x.damp.lo + k ≤ x.damp.hi + 1 → hitsTo d x s k = ⟨if x.damp.lo + k ≤ dLo d x then s.lo else min s.lo (dLo d x), if x.damp.lo + k ≤ dLo d x then s.hi else max s.hi (min (x.damp.lo + k - 1) (dHi d x))⟩ := by
    intro k
    induction k with
    | zero => intro _; simp [hitsTo, l1]
    | succ k ih =>
      intro hk
      rw [hitsTo, ih (by omega), hitStep]
      by_cases hb : x.damp.lo + k < dLo d x
      · have hw := l4 (x.damp.lo + k) (by omega) hb
        rw [if_neg (by omega), if_pos (by omega), if_pos (by omega), if_pos (by omega), if_pos (by omega)]
      · by_cases ha : dHi d x < x.damp.lo + k
        · have hw : weight d (x.damp.lo + k) ≠ x.pounds := by
            have := g4 _ ha (by omega)
            omega
          rw [if_neg hw]
          simp only [Span.mk.injEq, Int.min_def, Int.max_def]
          refine ⟨?_, ?_⟩ <;> (repeat' split) <;> omega
        · have hw : weight d (x.damp.lo + k) = x.pounds := by
            have h5 := weight_mono' h.d0 h.d1 (show dLo d x ≤ x.damp.lo + k by omega)
            have h6 := weight_mono' h.d0 h.d1 (show x.damp.lo + k ≤ dHi d x by omega)
            omega
          rw [if_pos hw]
          simp only [Span.mk.injEq]
          refine ⟨?_, ?_⟩ <;> (repeat' split) <;> omega
  rw [key _ (by omega)]
  rw [if_neg (by omega), if_neg (by omega)]
  congr 1
  omega
theorem dLo_anti {d d' : Int} {x : Weigh} (h : Fit d x) (h' : Fit d' x) (hd : d ≤ d') : dLo d' x ≤ dLo d x := by
  obtain ⟨l1, l2, l3, l4⟩ := dLo_spec h
  obtain ⟨g1, g2, g3, g4⟩ := dLo_spec h'
  rcases Int.lt_or_le (dLo d x) (dLo d' x) with hl | hl
  · have h5 := g4 _ l1 hl
    have h6 := weight_le_d (dLo d x) hd (by have := h.r0; omega)
    omega
  · exact hl
theorem dHi_anti {d d' : Int} {x : Weigh} (h : Fit d x) (h' : Fit d' x) (hd : d ≤ d') : dHi d' x ≤ dHi d x := by
  obtain ⟨l1, l2, l3, l4⟩ := dHi_spec h
  obtain ⟨g1, g2, g3, g4⟩ := dHi_spec h'
  rcases Int.lt_or_le (dHi d x) (dHi d' x) with hl | hl
  · have h5 := l4 _ hl g2
    have h6 := weight_le_d (dHi d' x) hd (by have := h.r0; omega)
    omega
  · exact hl
theorem wetFold_gen {x : Weigh} : ∀ (l : List Int) (s : Span), (∀ d ∈ l, Fit d x) → l.Pairwise (· ≤ ·) → l ≠ [] →
    l.foldl (fun s d => hitsTo d x s (x.damp.hi - x.damp.lo + 1).toNat) s = ⟨min s.lo (dLo (dryOf l).hi x), max s.hi (dHi (dryOf l).lo x)⟩
  | [], _, _, _, h => absurd rfl h
  | [d], s, hf, _, _ => by
    rw [List.foldl_cons, List.foldl_nil, hitsTo_full (hf d (by simp))]
    rfl
  | d :: e :: l, s, hf, hp, _ => by
    have hp' := List.pairwise_cons.1 hp
    rw [List.foldl_cons, wetFold_gen (e :: l) _ (fun c hc => hf c (List.mem_cons_of_mem _ hc)) hp'.2 (by simp), hitsTo_full (hf d (by simp))]
    have e1 : (dryOf (d :: e :: l)).hi = (dryOf (e :: l)).hi := by simp [dryOf]
    have e2 : (dryOf (d :: e :: l)).lo = d := by simp [dryOf]
    have e3 : (dryOf (e :: l)).lo = e := by simp [dryOf]
    have hm : (dryOf (e :: l)).hi ∈ (e :: l) := by
      unfold dryOf
      have : (e :: l).length - 1 < (e :: l).length := by simp
      rw [List.getElem?_eq_getElem this]
      exact List.getElem_mem _
    have h1 := dLo_anti (hf d (by simp)) (hf _ (List.mem_cons_of_mem _ hm)) (hp'.1 _ hm)
    have h2 := dHi_anti (hf d (by simp)) (hf e (by simp)) (hp'.1 e (by simp))
    rw [e1, e2, e3]
    simp only [Span.mk.injEq]
    omega
theorem dries_sorted (b : Bale) : (dries b).Pairwise (· ≤ ·) := by
  unfold dries driesTo
  refine List.Pairwise.filter _ ?_
  rw [List.pairwise_map]
  exact List.pairwise_lt_range.imp fun h => by omega
theorem bds_fit {b : Bale} (hb : Bds b) {d : Int} {x : Weigh} (hd : d ∈ dries b) (hx : x ∈ b.weighs) : Fit d x := by
  have h1 := dries_bd hd
  have h2 := hb.w x hx
  exact ⟨by have := hb.lo; omega, by have := hb.hi; omega, by omega, by omega, dries_could hd hx⟩
theorem rwet_eq (b : Bale) (number : Int) : rwetB b number = wetB b number := by
  unfold rwetB wetB
  split
  · rename_i hz
    obtain ⟨h1, h2, h3⟩ := askE_zero hz (by decide)
    unfold wetOf
    cases hx : b.weighs[(wIdx b number).toNat]? with
    | none => rfl
    | some x =>
      have hb := valid_bds h1
      have hm := List.mem_of_getElem? hx
      have hpos := ok_pos h3
      have hne : dries b ≠ [] := by intro h; rw [h] at hpos; simp at hpos
      show wetFold x (dries b) = ⟨dLo (dryOf (dries b)).hi x, dHi (dryOf (dries b)).lo x⟩
      unfold wetFold
      rw [wetFold_gen (dries b) _ (fun d hd => bds_fit hb hd hm) (dries_sorted b) hne]
      have m1 : (dryOf (dries b)).hi ∈ dries b := by
        unfold dryOf
        rw [List.getElem?_eq_getElem (show (dries b).length - 1 < (dries b).length by omega)]
        exact List.getElem_mem _
      have m2 : (dryOf (dries b)).lo ∈ dries b := by
        unfold dryOf
        rw [List.getElem?_eq_getElem hpos]
        exact List.getElem_mem _
      have h5 := dLo_spec (bds_fit hb m1 hm)
      have h6 := dHi_spec (bds_fit hb m2 hm)
      simp only [Span.mk.injEq]
      omega
  · rfl
end Go.Proofs.YtdlipbobfgdleaaDoor
/- core.Known and the reference's. -/
namespace Go.Proofs.YtdlipbobfgdleaaDoor
open Go.RowKit Go.Shelf
set_option maxRecDepth 100000
set_option linter.unusedSimpArgs false

def knownOf (s : Span) (E damp : Int) : Int := if E = 0 then (if damp < s.lo then 2 else if damp < s.hi then 1 else 0) else 0

set_option maxHeartbeats 1000000 in
theorem known_any (b : Bale) (number damp : Int) (dv wv : Value) (w : World) (hT : Tab w) (hd : SlD w dv b.draws) (hw : SlW w wv b.weighs) (hlen : b.weighs.length < 1000000) :
    Calls Tryd.prog 33 #[valB b dv wv, .int .i64 number, .int .i64 damp] w fun e w' => e = .returned (.tuple #[.int .u8 (knownOf (wetB b number) (askE b (decide (0 ≤ wIdx b number)) 6) damp), .int .i64 (askE b (decide (0 ≤ wIdx b number)) 6)]) ∧ Ext w w' := by
  have HT := Lib.hid hT
  have HD := Lib.hid hd
  have HW := Lib.hid hw
  obtain ⟨A, n, cp, rfl, hn, hlc, hcm⟩ := hd.form
  obtain ⟨A2, n2, cp2, rfl, hn2, hlc2, hcm2⟩ := hw.form
  clear hd hw hT
  go_enter Tryd.func33, Tryd.ntmps33
  go_wp2_with fail
  refine (wet_any b number _ _ _ (HT.out.ext (Ext.al _ _)) (HD.out.ext (Ext.al _ _)) (HW.out.ext (Ext.al _ _)) hlen).mono ?_
  rintro e w1 ⟨rfl, hE⟩
  have HE := Lib.hid ((Ext.al w _).trans hE)
  clear hE
  show _
  generalize hs : wetB b number = s
  generalize hq : askE b (decide (0 ≤ wIdx b number)) 6 = E
  have HS := Lib.hid hs; have HQ := Lib.hid hq; clear hs hq
  obtain ⟨lo, hi⟩ := s
  dsimp only [valS]
  by_cases h0 : E = 0
  · subst h0
    by_cases h1 : damp < lo
    · have HK := Lib.hid (show knownOf ⟨lo, hi⟩ 0 damp = 2 by unfold knownOf; rw [if_pos rfl, if_pos h1])
      go_wp2
      refine bodyPost_ret (v := .tuple #[.int .u8 2, .int .i64 0]) (by simp [results, Tryd.results33, go_sem]) rfl ?_
      exact ⟨by rw [HS.out, HQ.out, HK.out], HE.out.alloc _⟩
    · by_cases h2 : damp < hi
      · have HK := Lib.hid (show knownOf ⟨lo, hi⟩ 0 damp = 1 by unfold knownOf; rw [if_pos rfl, if_neg h1, if_pos h2])
        go_wp2
        refine bodyPost_ret (v := .tuple #[.int .u8 1, .int .i64 0]) (by simp [results, Tryd.results33, go_sem]) rfl ?_
        exact ⟨by rw [HS.out, HQ.out, HK.out], HE.out.alloc _⟩
      · have HK := Lib.hid (show knownOf ⟨lo, hi⟩ 0 damp = 0 by unfold knownOf; rw [if_pos rfl, if_neg h1, if_neg h2])
        go_wp2
        refine bodyPost_ret (v := .tuple #[.int .u8 0, .int .i64 0]) (by simp [results, Tryd.results33, go_sem]) rfl ?_
        exact ⟨by rw [HS.out, HQ.out, HK.out], HE.out.alloc _⟩
  · have HK := Lib.hid (show knownOf ⟨lo, hi⟩ E damp = 0 by unfold knownOf; rw [if_neg h0])
    go_wp2
    refine bodyPost_ret (v := .tuple #[.int .u8 0, .int .i64 E]) (by simp [results, Tryd.results33, go_sem]) rfl ?_
    exact ⟨by rw [HS.out, HQ.out, HK.out], HE.out.alloc _⟩

set_option maxHeartbeats 1000000 in
theorem refKnown_any (b : Bale) (number damp : Int) (dv wv : Value) (w : World) (hd : SlD w dv b.draws) (hw : SlW w wv b.weighs) :
    Calls Tryd.prog 34 #[valB b dv wv, .int .i64 number, .int .i64 damp] w fun e w' => e = .returned (.tuple #[.int .u8 (knownOf (wetB b number) (askE b (decide (0 ≤ wIdx b number)) 6) damp), .int .i64 (askE b (decide (0 ≤ wIdx b number)) 6)]) ∧ Ext w w' := by
  have HD := Lib.hid hd
  have HW := Lib.hid hw
  obtain ⟨A, n, cp, rfl, hn, hlc, hcm⟩ := hd.form
  obtain ⟨A2, n2, cp2, rfl, hn2, hlc2, hcm2⟩ := hw.form
  clear hd hw
  go_enter Tryd.func34, Tryd.ntmps34
  go_wp2_with fail
  refine (refWet_any b number _ _ _ (HD.out.ext (Ext.al _ _)) (HW.out.ext (Ext.al _ _))).mono ?_
  rintro e w1 ⟨rfl, hE⟩
  have HE := Lib.hid ((Ext.al w _).trans hE)
  clear hE
  rw [rwet_eq]
  show _
  generalize hs : wetB b number = s
  generalize hq : askE b (decide (0 ≤ wIdx b number)) 6 = E
  have HS := Lib.hid hs; have HQ := Lib.hid hq; clear hs hq
  obtain ⟨lo, hi⟩ := s
  dsimp only [valS]
  by_cases h0 : E = 0
  · subst h0
    by_cases h1 : damp < lo
    · have HK := Lib.hid (show knownOf ⟨lo, hi⟩ 0 damp = 2 by unfold knownOf; rw [if_pos rfl, if_pos h1])
      go_wp2
      refine bodyPost_ret (v := .tuple #[.int .u8 2, .int .i64 0]) (by simp [results, Tryd.results34, go_sem]) rfl ?_
      exact ⟨by rw [HS.out, HQ.out, HK.out], HE.out.alloc _⟩
    · by_cases h2 : damp < hi
      · have HK := Lib.hid (show knownOf ⟨lo, hi⟩ 0 damp = 1 by unfold knownOf; rw [if_pos rfl, if_neg h1, if_pos h2])
        go_wp2
        refine bodyPost_ret (v := .tuple #[.int .u8 1, .int .i64 0]) (by simp [results, Tryd.results34, go_sem]) rfl ?_
        exact ⟨by rw [HS.out, HQ.out, HK.out], HE.out.alloc _⟩
      · have HK := Lib.hid (show knownOf ⟨lo, hi⟩ 0 damp = 0 by unfold knownOf; rw [if_pos rfl, if_neg h1, if_neg h2])
        go_wp2
        refine bodyPost_ret (v := .tuple #[.int .u8 0, .int .i64 0]) (by simp [results, Tryd.results34, go_sem]) rfl ?_
        exact ⟨by rw [HS.out, HQ.out, HK.out], HE.out.alloc _⟩
  · have HK := Lib.hid (show knownOf ⟨lo, hi⟩ E damp = 0 by unfold knownOf; rw [if_neg h0])
    go_wp2
    refine bodyPost_ret (v := .tuple #[.int .u8 0, .int .i64 E]) (by simp [results, Tryd.results34, go_sem]) rfl ?_
    exact ⟨by rw [HS.out, HQ.out, HK.out], HE.out.alloc _⟩
end Go.Proofs.YtdlipbobfgdleaaDoor
