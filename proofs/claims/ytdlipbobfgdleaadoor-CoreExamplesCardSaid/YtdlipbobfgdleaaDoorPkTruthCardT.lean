/- middlinglaw03.CoreTruth: the walk. -/
import Derived.Test.YtdlipbobfgdleaaDoorPkTruthCardS
namespace Go.Proofs.YtdlipbobfgdleaaDoor
open Go.RowKit Go.Shelf Go.Lib
set_option maxRecDepth 100000
set_option linter.unusedSimpArgs false

/-- A law's bale in its box. -/
structure SB (b : Bale) (w : World) (p : Nat) (dv wv : Value) (W : World) : Prop where
  e : Ext w W
  p : Blk W p 27 #[.int .i64 b.id, .int .i64 b.layers, .int .i64 b.dry.lo, .int .i64 b.dry.hi, dv, wv]
  t : Tab W
  d : SlD W dv b.draws
  w : SlW W wv b.weighs
theorem SB.ext {b : Bale} {w : World} {p : Nat} {dv wv : Value} {W W' : World} (h : SB b w p dv wv W) (e : Ext W W') : SB b w p dv wv W' := ⟨h.e.trans e, h.p.ext e, h.t.ext e, h.d.ext e, h.w.ext e⟩
theorem SB.cells {b : Bale} {w : World} {p : Nat} {dv wv : Value} {W : World} (h : SB b w p dv wv W) :
    W.cell? ⟨p, 0, none⟩ = some (.int .i64 b.id) ∧ W.cell? ⟨p, 1, none⟩ = some (.int .i64 b.layers) ∧ W.cell? ⟨p, 2, none⟩ = some (.int .i64 b.dry.lo) ∧ W.cell? ⟨p, 3, none⟩ = some (.int .i64 b.dry.hi) ∧ W.cell? ⟨p, 4, none⟩ = some dv ∧ W.cell? ⟨p, 5, none⟩ = some wv ∧ p < W.heap.size :=
  ⟨h.p.cell 0, h.p.cell 1, h.p.cell 2, h.p.cell 3, h.p.cell 4, h.p.cell 5, h.p.lt⟩

theorem three_of {E v : Int} (q1 : E = 0 ∨ E = 6) (q2 : E = 0 ↔ v ≠ 0) (q3 : v = 0 ∨ v = 1 ∨ v = 2) : (E = 0 ∧ v = 1) ∨ (E = 0 ∧ v = 2) ∨ (E = 6 ∧ v = 0) := by omega
set_option maxHeartbeats 4000000 in
theorem truthLaw_any (b : Bale) (c : List Int) (dv wv cv : Value) (w : World) (hT : Tab w) (hd : SlD w dv b.draws) (hw : SlW w wv b.weighs) (hc : SlU w cv c) (hcb : Bytes c) :
    Calls Tryd.prog 7 #[valB b dv wv, cv] w fun e w' => e = .returned (.bool true) ∧ Ext w w' := by
  have HT := Lib.hid hT
  have HD := Lib.hid hd
  have HW := Lib.hid hw
  have HC := Lib.hid hc
  have HCB := Lib.hid hcb
  obtain ⟨A, n, cp, rfl, hn, hlc, hcm⟩ := hd.form
  obtain ⟨A2, n2, cp2, rfl, hn2, hlc2, hcm2⟩ := hw.form
  obtain ⟨A3, n3, cp3, rfl, hn3, hlc3, hcm3⟩ := hc.form
  clear hd hw hT hc hcb
  go_enter Tryd.func7, Tryd.ntmps7
  go_wp2_with fail
  have S0 := Lib.hid (show SB b w w.heap.size (.slice A n cp) (.slice A2 n2 cp2) _ from ⟨Ext.al _ (.cells #[.int .i64 b.id, .int .i64 b.layers, .int .i64 b.dry.lo, .int .i64 b.dry.hi, .slice A n cp, .slice A2 n2 cp2] 27), Blk.new _ _ _, HT.out.ext (Ext.al _ _), HD.out.ext (Ext.al _ _), HW.out.ext (Ext.al _ _)⟩)
  refine (alive_any _ S0.out.t).mono ?_
  rintro e w1 ⟨rfl, hE⟩
  have S1 := Lib.hid (S0.out.ext hE); clear S0 hE
  obtain ⟨x0, x1, x2, x3, x4, x5, xl⟩ := S1.out.cells
  go_wp2_with fail
  clear x0 x1 x2 x3 x4 x5 xl
  refine (ready_any b _ _ _ S1.out.d S1.out.w).mono ?_
  rintro e w2 ⟨rfl, hE⟩
  have S2 := Lib.hid (S1.out.ext hE); clear S1 hE
  cases hr : readyB b with
  | false =>
    go_wp2
    go_ret
    exact ⟨rfl, S2.out.e⟩
  | true =>
    obtain ⟨hv, ho, hl20, hw16⟩ := ready_len hr
    have HV := Lib.hid hv; have HO := Lib.hid ho
    have HG := Lib.hid (ok_grown ho)
    clear hr hv ho hl20 hw16
    obtain ⟨x0, x1, x2, x3, x4, x5, xl⟩ := S2.out.cells
    go_wp2_with fail
    clear x0 x1 x2 x3 x4 x5 xl
    refine (chosen_any b c _ _ _ _ HV.out HG.out S2.out.d S2.out.w (HC.out.ext S2.out.e) HCB.out).mono ?_
    rintro e w3 ⟨⟨tv, rfl, hs⟩, hE⟩
    have S3 := Lib.hid (S2.out.ext hE); clear S2 hE HC HCB
    have HM := Lib.hid (chosen_mem HV.out HG.out c)
    generalize chosenL b c = t at hs HM
    have HS := Lib.hid hs
    obtain ⟨A4, n4, cp4, rfl, hn4, hlc4, hcm4⟩ := hs.form
    have HN4 := Lib.hid (show (n4 : Int) = b.layers ∧ 1 ≤ n4 ∧ n4 ≤ 5 by
      have := (truths_gr HV.out t HM.out).1
      have := hn4.out; have := (valid_bds HV.out).l1; have := (valid_bds HV.out).l5
      omega)
    clear hs
    go_wp2
    go_loopg [8, 9, 48] n4 (fun gg s8 s9 s48 wr => ∃ kk : Nat, kk ≤ n4 ∧ n4 - kk ≤ gg ∧ s48 = .int .i64 kk ∧ s8 = .int .i64 ((t.take kk).foldl min 9) ∧ s9 = .int .i64 ((t.take kk).foldl max 1) ∧ Aside (SB b w w.heap.size (.slice A n cp) (.slice A2 n2 cp2) wr) ∧ Aside (Ext w3 wr))
    case atStart => exact ⟨0, by omega, by omega, rfl, rfl, rfl, S3.out, Ext.refl _⟩
    case round =>
      obtain ⟨kk, hkk, hg, rfl, rfl, rfl, SR, EX⟩ := hrel
      by_cases hlt : kk < n4
      · have hltz : (kk : Int) < (n4 : Int) := by omega
        obtain ⟨bb, off, y, rfl, hy, hb, hcell⟩ := HS.out.at_ hlt
        have c1 := SlI.cell hcell EX.out
        have HY1 := Lib.hid (foldl_snoc min (9 : Int) t kk y hy)
        have HY2 := Lib.hid (foldl_snoc max (1 : Int) t kk y hy)
        have hkl : kk < b.layers.toNat := by have := HN4.out; omega
        have HL := Lib.hid (layer_ok HV.out HO.out hkl)
        obtain ⟨y', hy', hly⟩ := truth_layer HV.out HM.out hkl
        have HLY := Lib.hid (show (spanAt b.draws (kk : Int)).lo ≤ y ∧ y ≤ (spanAt b.draws (kk : Int)).hi by rw [hy] at hy'; injection hy' with hy'; rw [hy']; exact hly)
        obtain ⟨x0, x1, x2, x3, x4, x5, xl⟩ := SR.out.cells
        clear hy hcell hb hy' hly hkl
        go_wp2_with fail
        clear x0 x1 x2 x3 x4 x5 xl c1
        refine (layer_any b (kk : Int) _ _ _ SR.out.t SR.out.d SR.out.w).mono ?_
        rintro e w5 ⟨rfl, hE⟩
        have SR5 := Lib.hid (SR.out.ext hE); have EX5 := Lib.hid (EX.out.trans hE); clear hE
        rw [HL.out.1, HL.out.2, ask_ok HV.out HO.out]
        dsimp only [valS]
        go_wp2_with fail
        have SR6 := Lib.hid (SR5.out.ext (Ext.al w5 (.cells #[.int .i64 (spanAt b.draws (kk : Int)).lo, .int .i64 (spanAt b.draws (kk : Int)).hi] 23)))
        have EX6 := Lib.hid (EX5.out.alloc (.cells #[.int .i64 (spanAt b.draws (kk : Int)).lo, .int .i64 (spanAt b.draws (kk : Int)).hi] 23))
        refine (inS_any y (spanAt b.draws (kk : Int)) _).mono ?_
        rintro e w7 ⟨rfl, hE⟩
        have SR7 := Lib.hid (SR6.out.ext hE); have EX7 := Lib.hid (EX6.out.trans hE); clear hE SR6 EX6 SR5 EX5
        rw [show (decide ((spanAt b.draws (kk : Int)).lo ≤ y) && decide (y ≤ (spanAt b.draws (kk : Int)).hi)) = true by have := HLY.out; simp; omega]
        go_wp2
        go_roundg (n4 - (kk + 1))
        case measure => omega
        case rel => exact ⟨kk + 1, by omega, by omega, by simp, by rw [HY1.out], by rw [HY2.out], SR7.out, EX7.out⟩
      · have HE := Lib.hid (show t.take kk = t by exact List.take_of_length_le (by have := hn4.out; omega))
        rw [HE.out]
        have HLW := Lib.hid (ends_law HV.out HO.out HM.out)
        obtain ⟨x0, x1, x2, x3, x4, x5, xl⟩ := SR.out.cells
        go_wp2_with fail
        clear x0 x1 x2 x3 x4 x5 xl
        refine (best_any b _ _ _ SR.out.t SR.out.d SR.out.w).mono ?_
        rintro e w5 ⟨rfl, hE⟩
        have S5 := Lib.hid (SR.out.ext hE); have EX5 := Lib.hid (EX.out.trans hE); clear hE
        rw [ask_ok HV.out HO.out]
        obtain ⟨x0, x1, x2, x3, x4, x5, xl⟩ := S5.out.cells
        dsimp only [valS]
        go_wp2_with fail
        clear x0 x1 x2 x3 x4 x5 xl
        have S6 := Lib.hid (S5.out.ext (Ext.al w5 (.cells #[.int .i64 (endsB min b).lo, .int .i64 (endsB min b).hi] 23)))
        have EX6 := Lib.hid (EX5.out.alloc (.cells #[.int .i64 (endsB min b).lo, .int .i64 (endsB min b).hi] 23))
        have A6 := Lib.hid (Blk.new w5 23 #[.int .i64 (endsB min b).lo, .int .i64 (endsB min b).hi])
        refine (worst_any b _ _ _ S6.out.t S6.out.d S6.out.w).mono ?_
        rintro e w7 ⟨rfl, hE⟩
        have S7 := Lib.hid (S6.out.ext hE); have EX7 := Lib.hid (EX6.out.trans hE); have A7 := Lib.hid (A6.out.ext hE)
        clear hE S5 S6 EX5 EX6 A6 SR EX
        rw [ask_ok HV.out HO.out]
        have a0 := A7.out.cell 0
        have a1 := A7.out.cell 1
        have al := A7.out.lt
        simp at a0 a1
        dsimp only [valS]
        go_wp2_with fail
        clear a0 a1 al
        have S8 := Lib.hid (S7.out.ext (Ext.al w7 (.cells #[.int .i64 (endsB max b).lo, .int .i64 (endsB max b).hi] 23)))
        have EX8 := Lib.hid (EX7.out.alloc (.cells #[.int .i64 (endsB max b).lo, .int .i64 (endsB max b).hi] 23))
        have A8 := Lib.hid (A7.out.alloc (.cells #[.int .i64 (endsB max b).lo, .int .i64 (endsB max b).hi] 23))
        have B8 := Lib.hid (Blk.new w7 23 #[.int .i64 (endsB max b).lo, .int .i64 (endsB max b).hi])
        refine (inS_any (t.foldl min 9) (endsB min b) _).mono ?_
        rintro e w9 ⟨rfl, hE⟩
        have S9 := Lib.hid (S8.out.ext hE); have EX9 := Lib.hid (EX8.out.trans hE); have A9 := Lib.hid (A8.out.ext hE); have B9 := Lib.hid (B8.out.ext hE)
        clear hE S7 S8 EX7 EX8 A7 A8 B8
        rw [show (decide ((endsB min b).lo ≤ t.foldl min 9) && decide (t.foldl min 9 ≤ (endsB min b).hi)) = true by have := HLW.out.1; simp; omega]
        have b0 := B9.out.cell 0
        have b1 := B9.out.cell 1
        have bl := B9.out.lt
        simp at b0 b1
        go_wp2_with fail
        clear b0 b1 bl
        refine (inS_any (t.foldl max 1) (endsB max b) _).mono ?_
        rintro e w10 ⟨rfl, hE⟩
        have S10 := Lib.hid (S9.out.ext hE); have EX10 := Lib.hid (EX9.out.trans hE); have A10 := Lib.hid (A9.out.ext hE); have B10 := Lib.hid (B9.out.ext hE)
        clear hE S9 EX9 A9 B9
        rw [show (decide ((endsB max b).lo ≤ t.foldl max 1) && decide (t.foldl max 1 ≤ (endsB max b).hi)) = true by have := HLW.out.2.1; simp; omega]
        have a0 := A10.out.cell 0
        have a1 := A10.out.cell 1
        have al := A10.out.lt
        have b0 := B10.out.cell 0
        have b1 := B10.out.cell 1
        have bl := B10.out.lt
        simp at a0 a1 b0 b1
        have hh1 : ¬ (endsB max b).hi < (endsB min b).hi := by have := HLW.out.2.2.1; omega
        have hh2 : ¬ (endsB max b).lo < (endsB min b).lo := by have := HLW.out.2.2.2; omega
        go_wp2_with fail
        clear a0 a1 al b0 b1 bl hh1 hh2
        have HGR := Lib.hid (truths_gr HV.out t HM.out)
        have HT0 := Lib.hid (show 0 < t.length by have := hn4.out; have := HN4.out; omega)
        refine (kindR_any t _ _ (HS.out.ext EX10.out) HT0.out (by have := hn4.out; have := HN4.out; omega) HGR.out.2).mono ?_
        rintro e w11 ⟨rfl, hE⟩
        rw [kindR_eq HT0.out HGR.out.2]
        have S11 := Lib.hid (S10.out.ext hE); have EX11 := Lib.hid (EX10.out.trans hE)
        clear hE S10 EX10 A10 B10
        have HHAS := Lib.hid (kind_in HM.out)
        obtain ⟨own, hown⟩ : ∃ own, own = kindL t := ⟨_, rfl⟩
        have HOWN := Lib.hid hown
        rw [← hown]
        rw [← hown] at HHAS
        clear hown
        go_wp2
        go_loopg [19, 20, 21] 4 (fun gg s19 s20 s21 wr => ∃ kk : Nat, kk ≤ 4 ∧ 4 - kk ≤ gg ∧ s21 = .int .i64 ((kk : Int) + 1) ∧ s19 = .int .i64 (sureN (kindS b) kk) ∧ s20 = .int .i64 (mayN (kindS b) kk) ∧ Aside (SB b w w.heap.size (.slice A n cp) (.slice A2 n2 cp2) wr) ∧ Aside (Ext w3 wr))
        case atStart => exact ⟨0, by omega, by omega, rfl, rfl, rfl, S11.out, EX11.out⟩
        case round =>
          obtain ⟨kk, hkk, hg, rfl, rfl, rfl, SR, EX⟩ := hrel
          by_cases hlt : kk < 4
          · have hltz : (kk : Int) + 1 ≤ 4 := by omega
            obtain ⟨x0, x1, x2, x3, x4, x5, xl⟩ := SR.out.cells
            go_wp2_with fail
            clear x0 x1 x2 x3 x4 x5 xl
            refine (kindC_any b ((kk : Int) + 1) _ _ _ SR.out.t SR.out.d SR.out.w).mono ?_
            rintro e w13 ⟨rfl, hE⟩
            have SR13 := Lib.hid (SR.out.ext hE); have EX13 := Lib.hid (EX.out.trans hE); clear hE
            obtain ⟨k1, k2⟩ := kindB_ok HV.out HO.out (k := (kk : Int) + 1) (by omega) (by omega)
            rw [k1, k2, ask_ok HV.out HO.out]
            clear k1 k2
            have HS1 := Lib.hid (show sureN (kindS b) (kk + 1) = sureN (kindS b) kk + (if kindK (kindS b) ((kk : Int) + 1) = 2 then 1 else 0) from rfl)
            have HM1 := Lib.hid (show mayN (kindS b) (kk + 1) = mayN (kindS b) kk + (if kindK (kindS b) ((kk : Int) + 1) = 0 then 0 else 1) from rfl)
            have ho := kind_own HHAS.out (k := (kk : Int) + 1) (by omega) (by omega)
            have hb3 := kindK_bd (kindS b) ((kk : Int) + 1)
            generalize kindK (kindS b) ((kk : Int) + 1) = v at HS1 HM1 ho hb3
            have hsb := sureN_bd (kindS b) kk
            have hmb := mayN_bd (kindS b) kk
            generalize sureN (kindS b) kk = su at HS1 hsb
            generalize mayN (kindS b) kk = my at HM1 hmb
            obtain ⟨hsb0, hsb1⟩ := hsb
            obtain ⟨hmb0, hmb1⟩ := hmb
            rcases hb3 with rfl | rfl | rfl
            · have hne : ¬ (kk : Int) + 1 = own := fun h => ho.1 h rfl
              clear ho
              go_wp2
              go_roundg (4 - (kk + 1))
              case measure => omega
              case rel => exact ⟨kk + 1, by omega, by omega, by simp <;> omega, by rw [HS1.out]; simp, by rw [HM1.out]; simp, SR13.out, EX13.out⟩
            · clear ho
              by_cases hne : (kk : Int) + 1 = own
              all_goals
                go_wp2
                go_roundg (4 - (kk + 1))
                case measure => omega
                case rel => exact ⟨kk + 1, by omega, by omega, by simp <;> omega, by rw [HS1.out]; simp, by rw [HM1.out]; simp, SR13.out, EX13.out⟩
            · have hne : (kk : Int) + 1 = own := Classical.byContradiction fun h => ho.2 h rfl
              clear ho
              go_wp2
              go_roundg (4 - (kk + 1))
              case measure => omega
              case rel => exact ⟨kk + 1, by omega, by omega, by simp <;> omega, by rw [HS1.out]; simp, by rw [HM1.out]; simp, SR13.out, EX13.out⟩
          · obtain rfl : kk = 4 := by omega
            have hsm := sure_may HHAS.out
            generalize sureN (kindS b) 4 = su at hsm
            generalize mayN (kindS b) 4 = my at hsm
            obtain ⟨hm0, hm1, hm2⟩ := hsm
            have hm3 : ¬ 1 < su := by omega
            obtain ⟨x0, x1, x2, x3, x4, x5, xl⟩ := SR.out.cells
            have hbb : (su == 1) = (my == 1) := by
              by_cases h : su = 1
              · rw [h, hm1.1 h]
              · rw [beq_eq_false_iff_ne.2 h, beq_eq_false_iff_ne.2 (fun e => h (hm1.2 e))]
            have hb0 : (my == 0) = false := beq_eq_false_iff_ne.2 hm0
            clear hm0 hm1 hm2
            go_wp2_with fail
            clear x0 x1 x2 x3 x4 x5 xl hbb hb0 hm3
            refine (cut_any b _ _ _ SR.out.t SR.out.d SR.out.w).mono ?_
            rintro e w13 ⟨rfl, hE⟩
            have S13 := Lib.hid (SR.out.ext hE); have EX13 := Lib.hid (EX.out.trans hE); clear hE
            obtain ⟨x0, x1, x2, x3, x4, x5, xl⟩ := S13.out.cells
            dsimp only [valS]
            go_wp2_with fail
            clear x0 x1 x2 x3 x4 x5 xl
            have S14 := Lib.hid (S13.out.ext (Ext.al w13 (.cells #[.int .i64 (cutB b).lo, .int .i64 (cutB b).hi] 23)))
            have EX14 := Lib.hid (EX13.out.alloc (.cells #[.int .i64 (cutB b).lo, .int .i64 (cutB b).hi] 23))
            have A14 := Lib.hid (Blk.new w13 23 #[.int .i64 (cutB b).lo, .int .i64 (cutB b).hi])
            refine (kindC_any b 2 _ _ _ S14.out.t S14.out.d S14.out.w).mono ?_
            rintro e w15 ⟨rfl, hE⟩
            have S15 := Lib.hid (S14.out.ext hE); have EX15 := Lib.hid (EX14.out.trans hE); have A15 := Lib.hid (A14.out.ext hE)
            clear hE S13 EX13 S14 EX14 A14 SR EX
            obtain ⟨k1, k2⟩ := kindB_ok HV.out HO.out (k := 2) (by decide) (by decide)
            rw [k1, k2, ask_ok HV.out HO.out]
            obtain ⟨q1, q2⟩ := cutE_ok HV.out HO.out
            have q3 := kindK_bd (kindS b) 2
            clear k1 k2
            generalize cutE b = E at q1 q2
            generalize kindK (kindS b) 2 = v2 at q2 q3
            rcases three_of q1 q2 q3 with ⟨rfl, rfl⟩ | ⟨rfl, rfl⟩ | ⟨rfl, rfl⟩
            all_goals
              clear q1 q2 q3
              by_cases ho2 : own = 2
              case neg =>
                have hob : (own != 2) = true := by simpa using ho2
                go_wp2
                go_ret
                exact ⟨rfl, S15.out.e⟩
              case pos =>
                subst ho2
                have HAL := Lib.hid (show alikeL t = false by
                  cases ha : alikeL t with
                  | false => rfl
                  | true =>
                    have h := HOWN.out
                    rw [kind1_iff.2 ha] at h
                    cases h)
                have hn40 : 0 < n4 := by have := HN4.out; omega
                obtain ⟨b4, off4, y4, rfl, -, -, -⟩ := HS.out.at_ hn40
                have HGR2 := Lib.hid (truths_gr HV.out t HM.out)
                have hn45 : n4 ≤ 5 := HN4.out.2.2
                have hcm5 : cp4 ≤ maxLen := hcm4
                clear hn40
                go_wp2
                go_loopg [28] n4 (fun gg s28 wr => ∃ kk : Nat, 1 ≤ kk ∧ kk ≤ n4 ∧ n4 - kk ≤ gg ∧ s28 = .int .i64 (kk : Int) ∧ Aside (Ext w15 wr))
                case atStart => exact ⟨1, by omega, by have := HN4.out; omega, by omega, rfl, Ext.refl _⟩
                case round =>
                  obtain ⟨kk, hk1, hkk, hg, rfl, EX⟩ := hrel
                  by_cases hlt : kk < n4
                  · have hltz : (kk : Int) < (n4 : Int) := by omega
                    go_wp2_with fail
                    have HSR := Lib.hid (HS.out.ext (EX15.out.trans EX.out))
                    have T1 := Lib.hid (HSR.out.take (k := kk) (c' := cp4) (by omega) (by omega) hcm5)
                    have T2 := Lib.hid (show SlI wr (.slice (some ⟨b4, off4 + kk, none⟩) (n4 - kk) (cp4 - kk)) (t.drop kk) by simpa only [Nat.mul_one] using HSR.out.drop (k := kk) (c' := cp4 - kk) (by omega) (by omega))
                    have G1 := Lib.hid (show Gr (t.take kk) from fun x hx => HGR2.out.2 x (List.mem_of_mem_take hx))
                    have G2 := Lib.hid (show Gr (t.drop kk) from fun x hx => HGR2.out.2 x (List.mem_of_mem_drop hx))
                    have L1 := Lib.hid (show 0 < (t.take kk).length ∧ (t.take kk).length ≤ 1000 by rw [List.length_take]; have := hn4.out; omega)
                    have L2 := Lib.hid (show 0 < (t.drop kk).length ∧ (t.drop kk).length ≤ 1000 by rw [List.length_drop]; have := hn4.out; omega)
                    have HCI := Lib.hid (fun (h1 : kindL (t.take kk) = 1) (h2 : kindL (t.drop kk) = 1) => cut_in HV.out HO.out HM.out hk1 (by have := hn4.out; omega) HAL.out (kind1_iff.1 h1) (kind1_iff.1 h2))
                    refine (kindR_any (t.take kk) _ _ T1.out L1.out.1 L1.out.2 G1.out).mono ?_
                    rintro e w17 ⟨rfl, hE⟩
                    rw [kindR_eq L1.out.1 G1.out]
                    have EX17 := Lib.hid (EX.out.trans hE)
                    have T2' := Lib.hid (T2.out.ext hE)
                    clear hE T1 T2 HSR
                    generalize kindL (t.take kk) = ka at HCI
                    by_cases hka : ka = 1
                    · subst hka
                      go_wp2_with fail
                      refine (kindR_any (t.drop kk) _ _ T2'.out L2.out.1 L2.out.2 G2.out).mono ?_
                      rintro e w18 ⟨rfl, hE⟩
                      rw [kindR_eq L2.out.1 G2.out]
                      have EX18 := Lib.hid (EX17.out.trans hE)
                      have A18 := Lib.hid (A15.out.ext EX18.out)
                      clear hE T2' EX17
                      generalize kindL (t.drop kk) = kb at HCI
                      by_cases hkb : kb = 1
                      · subst hkb
                        have HCI2 := Lib.hid (show (cutB b).lo ≤ (kk : Int) ∧ (kk : Int) ≤ (cutB b).hi by have h := HCI.out; simp at h; exact h)
                        have a0 := A18.out.cell 0
                        have a1 := A18.out.cell 1
                        have al := A18.out.lt
                        simp at a0 a1
                        go_wp2_with fail
                        clear a0 a1 al
                        refine (inS_any (kk : Int) (cutB b) _).mono ?_
                        rintro e w19 ⟨rfl, hE⟩
                        have EX19 := Lib.hid (EX18.out.trans hE); clear hE
                        rw [show (decide ((cutB b).lo ≤ (kk : Int)) && decide ((kk : Int) ≤ (cutB b).hi)) = true by have := HCI2.out; simp; omega]
                        go_wp2
                        go_roundg (n4 - (kk + 1))
                        case measure => omega
                        case rel => exact ⟨kk + 1, by omega, by omega, by omega, by simp, EX19.out⟩
                      · have hkb' : (kb == 1) = false := beq_eq_false_iff_ne.2 hkb
                        go_wp2
                        go_roundg (n4 - (kk + 1))
                        case measure => omega
                        case rel => exact ⟨kk + 1, by omega, by omega, by omega, by simp, EX18.out⟩
                    · have hka' : (ka == 1) = false := beq_eq_false_iff_ne.2 hka
                      go_wp2
                      go_roundg (n4 - (kk + 1))
                      case measure => omega
                      case rel => exact ⟨kk + 1, by omega, by omega, by omega, by simp, EX17.out⟩
                  · go_wp2
                    go_ret
                    exact ⟨rfl, S15.out.e.trans EX.out⟩
end Go.Proofs.YtdlipbobfgdleaaDoor
