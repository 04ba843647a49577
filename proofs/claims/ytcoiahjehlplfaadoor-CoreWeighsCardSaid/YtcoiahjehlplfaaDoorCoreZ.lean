/- The reference's Wet. -/
import Derived.Test.YtcoiahjehlplfaaDoorCoreY
namespace Go.Proofs.YtcoiahjehlplfaaDoor
open Go.RowKit Go.Shelf
set_option maxRecDepth 100000
set_option linter.unusedSimpArgs false

def hitStep (d : Int) (x : Weigh) (s : Span) (r : Int) : Span := if weight d r = x.pounds then ⟨min s.lo r, max s.hi r⟩ else s
def hitsTo (d : Int) (x : Weigh) (s : Span) : Nat → Span
  | 0 => s
  | k + 1 => hitStep d x (hitsTo d x s k) (x.damp.lo + (k : Int))
def wetFold (x : Weigh) (l : List Int) : Span := l.foldl (fun s d => hitsTo d x s (x.damp.hi - x.damp.lo + 1).toNat) ⟨x.damp.hi, x.damp.lo⟩
/-- What the reference tells of a weighing. -/
def rwetB (b : Bale) (number : Int) : Span := if askE b (decide (0 ≤ wIdx b number)) 6 = 0 then (match b.weighs[(wIdx b number).toNat]? with | some x => wetFold x (dries b) | none => ⟨0, 0⟩) else ⟨0, 0⟩

set_option maxHeartbeats 2000000 in
theorem refWet_any (b : Bale) (number : Int) (dv wv : Value) (w : World) (hd : SlD w dv b.draws) (hw : SlW w wv b.weighs) :
    Calls Tryd.prog 23 #[valB b dv wv, .int .i64 number] w fun e w' => e = .returned (.tuple #[valS (rwetB b number), .int .i64 (askE b (decide (0 ≤ wIdx b number)) 6)]) ∧ Ext w w' := by
  have HD := Lib.hid hd
  have HW := Lib.hid hw
  obtain ⟨A, n, cp, rfl, hn, hlc, hcm⟩ := hd.form
  obtain ⟨A2, n2, cp2, rfl, hn2, hlc2, hcm2⟩ := hw.form
  clear hd hw
  go_enter Tryd.func23, Tryd.ntmps23
  go_wp2_with fail
  refine (refBale_v b _ _ _ ((HD.out.ext (Ext.al _ _)).ext (Ext.al _ _)) ((HW.out.ext (Ext.al _ _)).ext (Ext.al _ _))).mono ?_
  rintro e w1 ⟨rfl, hE⟩
  have HE1 := Lib.hid (((Ext.al w _).alloc _ : Ext w _).trans hE)
  have HBR := Lib.hid ((Blk.at_ (t := 23) (cs := #[.int .i64 0, .int .i64 0]) (w := w.alloc (.cells #[.int .i64 b.id, .int .i64 b.layers, .int .i64 b.dry.lo, .int .i64 b.dry.hi, .slice A n cp, .slice A2 n2 cp2] 27)) (g := w.heap.size + 1) (by simp)).ext hE)
  have HBX := Lib.hid (((Blk.at_ (t := 27) (cs := #[.int .i64 b.id, .int .i64 b.layers, .int .i64 b.dry.lo, .int .i64 b.dry.hi, .slice A n cp, .slice A2 n2 cp2]) (w := w) (g := w.heap.size) rfl).alloc _).ext hE)
  clear hE
  have t0 := HBR.out.cell 0
  have t1 := HBR.out.cell 1
  have tf := HBR.out.frozen
  have tl := HBR.out.lt
  have x0 := HBX.out.cell 0
  have x1 := HBX.out.cell 1
  have x2 := HBX.out.cell 2
  have x3 := HBX.out.cell 3
  have x4 := HBX.out.cell 4
  have x5 := HBX.out.cell 5
  have xl := HBX.out.lt
  simp at t0 t1 x0 x1 x2 x3 x4 x5
  cases hv : valid b with
  | false =>
    have HV := Lib.hid hv; clear hv
    go_wp2
    refine ret_set2 HBR.out fun W ⟨b0, b1⟩ hW => ?_
    refine bodyPost_ret (v := .tuple #[valS ⟨0, 0⟩, .int .i64 30]) (by simp [results, Tryd.results23, go_sem, b0, b1]) rfl ?_
    have hE : askE b (decide (0 ≤ wIdx b number)) 6 = 30 := by unfold askE; rw [HV.out]; rfl
    exact ⟨by unfold rwetB; rw [hE]; rfl, ext_grown HE1.out hW (by omega)⟩
  | true =>
    have HV := Lib.hid hv; clear hv
    go_wp2_with fail
    refine (f63_any b number _ _ _ (HD.out.ext HE1.out) (HW.out.ext HE1.out)).mono ?_
    rintro e w2 ⟨rfl, hE2⟩
    clear t0 t1 tf tl x0 x1 x2 x3 x4 x5 xl
    have HE2 := Lib.hid (HE1.out.trans hE2)
    have HBR2 := Lib.hid (HBR.out.ext hE2)
    have HBX2 := Lib.hid (HBX.out.ext hE2)
    clear hE2 HE1 HBR HBX
    have t0 := HBR2.out.cell 0
    have t1 := HBR2.out.cell 1
    have tf := HBR2.out.frozen
    have tl := HBR2.out.lt
    have x0 := HBX2.out.cell 0
    have x1 := HBX2.out.cell 1
    have x2 := HBX2.out.cell 2
    have x3 := HBX2.out.cell 3
    have x4 := HBX2.out.cell 4
    have x5 := HBX2.out.cell 5
    have xl := HBX2.out.lt
    simp at t0 t1 x0 x1 x2 x3 x4 x5
    generalize hi : wIdx b number = i
    have HI := Lib.hid hi; clear hi
    by_cases hneg : i < 0
    · have HN := Lib.hid (show decide (0 ≤ i) = false by simp; omega)
      go_wp2
      refine ret_set2 HBR2.out fun W ⟨b0, b1⟩ hW => ?_
      refine bodyPost_ret (v := .tuple #[valS ⟨0, 0⟩, .int .i64 6]) (by simp [results, Tryd.results23, go_sem, b0, b1]) rfl ?_
      have hE : askE b (decide (0 ≤ i)) 6 = 6 := by unfold askE; rw [HV.out, HN.out]; rfl
      exact ⟨by unfold rwetB; rw [HI.out, hE]; rfl, ext_grown HE2.out hW (by omega)⟩
    · have HN := Lib.hid (show decide (0 ≤ i) = true by simp; omega)
      have hi0 : 0 ≤ wIdx b number := by rw [HI.out]; omega
      obtain ⟨k, z, hik, hkz, _⟩ := idxF_pos hi0
      have hiki : i = (k : Int) := HI.out.symm.trans hik
      subst hiki
      have hkn : k < n2 := by have := (List.getElem?_eq_some_iff.1 hkz).1; have := hn2.out; omega
      have hknz : (k : Int) < (n2 : Int) := by omega
      have hk0 : (0 : Int) ≤ (k : Int) := by omega
      obtain ⟨bw, ow, z', rfl, hz', hbw, hzc⟩ := HW.out.at_ hkn
      obtain rfl : z' = z := by rw [hkz] at hz'; injection hz' with h; exact h.symm
      have HKZ := Lib.hid hkz
      have HA := Lib.hid (askE_true HV.out 6)
      clear hz' hkz hik hi0
      go_wp2_with fail
      refine (refAsked_any b _ _ _ (HD.out.ext HE2.out) (HW.out.ext HE2.out)).mono ?_
      rintro e w3 ⟨sv, lv, rfl, hsl, hE3⟩
      clear t0 t1 tf tl x0 x1 x2 x3 x4 x5 xl
      have HE3 := Lib.hid (HE2.out.trans hE3)
      have HBR3 := Lib.hid (HBR2.out.ext hE3)
      have HBX3 := Lib.hid (HBX2.out.ext hE3)
      clear hE3 HE2 HBR2 HBX2
      have t0 := HBR3.out.cell 0
      have t1 := HBR3.out.cell 1
      have tf := HBR3.out.frozen
      have tl := HBR3.out.lt
      have x5 := HBX3.out.cell 5
      have xl := HBX3.out.lt
      simp at t0 t1 x5
      by_cases hz9 : askE b true 0 = 0
      · obtain ⟨hs, hl⟩ := hsl hz9
        have hb5 := valid_bds HV.out
        obtain ⟨As, ns, cs, rfl, hns, hsc, hsm⟩ := hs.form
        obtain ⟨Al, nl, cl, rfl, hnl, hlc', hlm⟩ := hl.form
        have HLL := Lib.hid hl
        have HLB := Lib.hid (show ∀ d ∈ dries b, 0 ≤ d ∧ d ≤ 1000000 from fun d hd => by have := dries_bd hd; have := hb5.lo; have := hb5.hi; omega)
        have hzb := hb5.w z' (List.mem_of_getElem? HKZ.out)
        have hq0 : 0 ≤ z'.damp.lo := by omega
        have hq1 : z'.damp.lo ≤ z'.damp.hi := by omega
        have hq2 : z'.damp.hi ≤ 200 := by omega
        have HZ := Lib.hid hz9
        obtain ⟨c0, c1, c2, c3⟩ := SlW.cells hzc HE3.out
        rw [hz9]
        clear hs hl hsl hb5 hzb hz9 hzc
        go_wp2
        generalize hNN : (z'.damp.hi - z'.damp.lo + 1).toNat = N at *
        have hN : (N : Int) = z'.damp.hi - z'.damp.lo + 1 := by omega
        go_loopg [13, 14, 49] nl (fun gg _ _ s wr => ∃ (j : Nat) (lo hi : Int), j ≤ nl ∧ nl - j ≤ gg ∧ s = .int .i64 j ∧ Aside (((dries b).take j).foldl (fun s d => hitsTo d z' s N) ⟨z'.damp.hi, z'.damp.lo⟩ = ⟨lo, hi⟩) ∧ Aside (Blk wr (w3.heap.size + 1) 23 #[.int .i64 lo, .int .i64 hi]) ∧
          Aside (Blk wr w3.heap.size 65 #[.int .i64 z'.number, .int .i64 z'.pounds, .int .i64 z'.damp.lo, .int .i64 z'.damp.hi]) ∧ Aside (Ext w3 wr))
        case atStart => exact ⟨0, z'.damp.hi, z'.damp.lo, by omega, by omega, rfl, rfl, Blk.at_ (by simp), (Blk.at_ rfl).alloc _, (Ext.al _ _).alloc _⟩
        case round =>
          obtain ⟨j, lo, hi, hj, hgj, rfl, FO, BL, BZ, EX⟩ := hrel
          obtain ⟨wo, hwo⟩ : ∃ wo : World, wo = wr := ⟨_, rfl⟩
          subst hwo
          clear c0 c1 c2 c3 t0 t1 tf tl x5 xl
          have z2 := BZ.out.cell 2
          have zl := BZ.out.lt
          simp at z2
          by_cases hjn : j < nl
          · have hjz : (j : Int) < (nl : Int) := by omega
            obtain ⟨bb, off, d, rfl, hd, hbb, hcell⟩ := HLL.out.at_ hjn
            have c0 := Sl.int hcell _ EX.out
            have HFO := Lib.hid (foldl_snoc (fun s d => hitsTo d z' s N) ⟨z'.damp.hi, z'.damp.lo⟩ _ _ _ hd)
            have HDB := Lib.hid (HLB.out d (List.mem_of_getElem? hd))
            clear hd hcell
            go_wp2
            go_loopg [14] N (fun gg s wr => ∃ (q : Nat) (lo' hi' : Int), q ≤ N ∧ N - q ≤ gg ∧ s = .int .i64 (z'.damp.lo + (q : Int)) ∧ Aside (hitsTo d z' ⟨lo, hi⟩ q = ⟨lo', hi'⟩) ∧ Aside (Blk wr (w3.heap.size + 1) 23 #[.int .i64 lo', .int .i64 hi']) ∧
              Aside (Blk wr w3.heap.size 65 #[.int .i64 z'.number, .int .i64 z'.pounds, .int .i64 z'.damp.lo, .int .i64 z'.damp.hi]) ∧ Aside (Ext w3 wr))
            case atStart => exact ⟨0, lo, hi, by omega, by omega, by simp, rfl, BL.out, BZ.out, EX.out⟩
            case round =>
              clear z2 zl c0
              obtain ⟨q, lo', hi', hq, hgq, rfl, FQ, BL2, BZ2, EX2⟩ := hrel
              have z3 := BZ2.out.cell 3
              have zl := BZ2.out.lt
              simp at z3
              by_cases hqn : q < N
              · have hle : z'.damp.lo + (q : Int) ≤ z'.damp.hi := by omega
                have m1 := fun W (h : Ext wr W) => (show W.cell? ⟨w3.heap.size, 1, none⟩ = some (.int .i64 z'.pounds) from (BZ2.out.ext h).cell 1)
                go_wp2
                refine wp_region_tame (fun W => Ext wr W) (fun W W' => Ext W W') (by kernel_rfl) 80 rfl (by decide +kernel) (Ext.refl _).drew ?_
                repeat (apply tame_q rfl; (intro ρ W hC hr hD; (obtain ⟨hrc, hrg, hrf, hrs⟩ := hr); (simp [go_sem] at hD); go_simp; first | exact ⟨⟨hC, Ext.refl _⟩, rfl⟩ | exact ⟨⟨hC, RS.refl _⟩, rfl⟩ | exact rfl); simp only [List.nil_append, List.cons_append])
                apply tame_q rfl
                · intro ρ W hC hr hD
                  obtain ⟨hrc, hrg, hrf, hrs⟩ := hr
                  simp [go_sem] at hD
                  go_simp
                  refine (f64_any d (z'.damp.lo + (q : Int)) _ HDB.out.1 HDB.out.2 (by omega) (by omega)).mono ?_
                  rintro e w' ⟨rfl, rfl⟩
                  exact ⟨_, rfl, ⟨hC, Ext.refl _⟩, rfl⟩
                simp only [List.nil_append, List.cons_append]
                repeat (apply tame_q rfl; (intro ρ W hC hr hD; (obtain ⟨hrc, hrg, hrf, hrs⟩ := hr); (simp [go_sem] at hD); go_simp; first | exact ⟨⟨hC, Ext.refl _⟩, rfl⟩ | exact ⟨⟨hC, RS.refl _⟩, rfl⟩ | exact rfl); simp only [List.nil_append, List.cons_append])
                refine tame_end 80 rfl rfl (fun ρ W hC hr hF => ?_)
                obtain ⟨hrc, hrg, hrf, hrs⟩ := hr
                simp [go_sem] at hF
                apply frame_to
                · go_simp
                  exact rfl
                clear hF hrs hrc hrg hrf m1 z3 zl
                have BL3 := Lib.hid (BL2.out.ext hC)
                have BZ3 := Lib.hid (BZ2.out.ext hC)
                have EX3 := Lib.hid (EX2.out.trans hC)
                have l0 := BL3.out.cell 0
                have l1 := BL3.out.cell 1
                have lf := BL3.out.frozen
                have ll := BL3.out.lt
                simp at l0 l1
                clear hC
                by_cases heq : weight d (z'.damp.lo + (q : Int)) = z'.pounds
                · have HQ := Lib.hid heq
                  have heq' : (weight d (z'.damp.lo + (q : Int)) == z'.pounds) = true := by simpa using heq
                  clear heq
                  go_wp2
                  go_roundg (N - (q + 1))
                  case measure => omega
                  case rel => exact ⟨q + 1, min lo' (z'.damp.lo + (q : Int)), max hi' (z'.damp.lo + (q : Int)), by omega, by omega, by simp; omega, by show _ = _; rw [hitsTo, FQ.out, hitStep, if_pos HQ.out], (BL3.out.set_ 0 _).set_ 1 _, (BZ3.out.far (by dsimp only; omega) _).far (by dsimp only; omega) _, (EX3.out.setCell (by dsimp only; omega) _).setCell (by dsimp only; omega) _⟩
                · have HQ := Lib.hid heq
                  have heq' : (weight d (z'.damp.lo + (q : Int)) == z'.pounds) = false := by simpa using heq
                  clear heq
                  go_wp2
                  go_roundg (N - (q + 1))
                  case measure => omega
                  case rel => exact ⟨q + 1, lo', hi', by omega, by omega, by simp; omega, by show _ = _; rw [hitsTo, FQ.out, hitStep, if_neg HQ.out], BL3.out, BZ3.out, EX3.out⟩
              · have HQN := Lib.hid (show q = N by omega)
                have hgt : z'.damp.hi < z'.damp.lo + (q : Int) := by omega
                go_wp2
                go_roundg (nl - (j + 1))
                case measure => omega
                case rel => exact ⟨j + 1, lo', hi', by omega, by omega, rfl, by show _ = _; rw [HFO.out, FO.out, ← FQ.out, HQN.out], BL2.out, BZ2.out, EX2.out⟩
          · have HBW := Lib.hid (HBR3.out.ext EX.out)
            have t0 := HBW.out.cell 0
            have t1 := HBW.out.cell 1
            have tf := HBW.out.frozen
            have tl := HBW.out.lt
            have l0 := BL.out.cell 0
            have l1 := BL.out.cell 1
            have ll := BL.out.lt
            simp at t0 t1 l0 l1
            have HL := Lib.hid (show rwetB b number = ⟨lo, hi⟩ by
              unfold rwetB; rw [HI.out, HN.out, HA.out, HZ.out, if_pos rfl, Int.toNat_natCast, HKZ.out]
              show wetFold z' (dries b) = _
              unfold wetFold; rw [hNN, ← FO.out, List.take_of_length_le (by have := hnl.out; omega)])
            go_wp2
            refine ret_set2 HBW.out fun W ⟨b0, b1⟩ hW => ?_
            refine bodyPost_ret (v := .tuple #[valS ⟨lo, hi⟩, .int .i64 0]) (by simp [results, Tryd.results23, go_sem, b0, b1]) rfl ?_
            exact ⟨by rw [HL.out, HI.out, HN.out, HA.out, HZ.out], ext_grown (HE3.out.trans EX.out) hW (by omega)⟩
      · have HL := Lib.hid (show rwetB b number = ⟨0, 0⟩ by unfold rwetB; rw [HI.out, HN.out, HA.out, if_neg hz9])
        clear hsl
        generalize hE9 : askE b true 0 = E at hz9
        have HE9 := Lib.hid hE9; clear hE9
        go_wp2
        refine ret_set2 HBR3.out fun W ⟨b0, b1⟩ hW => ?_
        refine bodyPost_ret (v := .tuple #[valS ⟨0, 0⟩, .int .i64 E]) (by simp [results, Tryd.results23, go_sem, b0, b1]) rfl ?_
        exact ⟨by rw [HL.out, HI.out, HN.out, HA.out, HE9.out], ext_grown HE3.out hW (by omega)⟩
end Go.Proofs.YtcoiahjehlplfaaDoor
