/- middlinglaw03.CoreWeight: the walk, where the bale's being plain is known as 1. -/
import Derived.Test.YtdlipbobfgdleaaDoorPkTruthCardT
import Derived.Test.YtdlipbobfgdleaaDoorPkWeightCardA
import Derived.Test.YtdlipbobfgdleaaDoorPkWeightCardB
namespace Go.Proofs.YtdlipbobfgdleaaDoor
open Go.RowKit Go.Shelf Go.Lib
set_option maxRecDepth 100000
set_option linter.unusedSimpArgs false

set_option maxHeartbeats 4000000 in
theorem weightLaw_1 (b : Bale) (x1 x2 : Int) (hv1 : kindK (kindS b) 1 = 1) (dv wv : Value) (w : World) (hT : Tab w) (hd : SlD w dv b.draws) (hw : SlW w wv b.weighs) (hx1 : 0 ≤ x1 ∧ x1 ≤ 65535) (hx2 : 0 ≤ x2 ∧ x2 ≤ 255) :
    Calls Tryd.prog 8 #[valB b dv wv, .int .u16 x1, .int .u8 x2] w fun e w' => e = .returned (.bool true) ∧ Ext w w' := by
  have HT := Lib.hid hT
  have HD := Lib.hid hd
  have HW := Lib.hid hw
  obtain ⟨hx10, hx11⟩ := hx1
  obtain ⟨hx20, hx21⟩ := hx2
  obtain ⟨A, n, cp, rfl, hn, hlc, hcm⟩ := hd.form
  obtain ⟨A2, n2, cp2, rfl, hn2, hlc2, hcm2⟩ := hw.form
  clear hd hw hT
  go_enter Tryd.func8, Tryd.ntmps8
  go_wp2_with fail
  have S0 := Lib.hid (show SB b w w.heap.size (.slice A n cp) (.slice A2 n2 cp2) _ from ⟨Ext.al _ (.cells #[.int .i64 b.id, .int .i64 b.layers, .int .i64 b.dry.lo, .int .i64 b.dry.hi, .slice A n cp, .slice A2 n2 cp2] 27), Blk.new _ _ _, HT.out.ext (Ext.al _ _), HD.out.ext (Ext.al _ _), HW.out.ext (Ext.al _ _)⟩)
  refine (alive_any _ S0.out.t).mono ?_
  rintro e w1 ⟨rfl, hE⟩
  have S1 := Lib.hid (S0.out.ext hE); clear S0 hE
  obtain ⟨y0, y1, y2, y3, y4, y5, yl⟩ := S1.out.cells
  go_wp2_with fail
  clear y0 y1 y2 y3 y4 y5 yl
  refine (ready_any b _ _ _ S1.out.d S1.out.w).mono ?_
  rintro e w2 ⟨rfl, hE⟩
  have S2 := Lib.hid (S1.out.ext hE); clear S1 hE
  cases hr : readyB b with
  | false =>
    go_wp2
    go_ret
    exact ⟨rfl, S2.out.e⟩
  | true =>
    obtain ⟨hv, ho, -, hw16⟩ := ready_len hr
    have HV := Lib.hid hv; have HO := Lib.hid ho; have H16 := Lib.hid hw16
    clear hr hv ho hw16
    have HBD := Lib.hid (valid_bds HV.out)
    obtain ⟨N, hN⟩ : ∃ N : Int, N = x2 % 201 := ⟨_, rfl⟩
    have hN0 : 0 ≤ N := by omega
    have hN1 : N ≤ 200 := by omega
    have hwx2 : IntKind.i64.wrap x2 = x2 := wrap_small _ (by omega) (by omega)
    have hrm : x2.tmod 201 = N := by rw [Int.tmod_eq_emod_of_nonneg hx20, hN]
    have HN := Lib.hid (show 0 ≤ N ∧ N ≤ 200 from ⟨hN0, hN1⟩)
    clear hN
    obtain ⟨y0, y1, y2, y3, y4, y5, yl⟩ := S2.out.cells
    go_wp2_with fail
    clear y0 y1 y2 y3 y4 y5 yl hwx2 hrm hx20 hx21
    refine (dry_any b _ _ _ S2.out.t S2.out.d S2.out.w).mono ?_
    rintro e w3 ⟨rfl, hE⟩
    have S3 := Lib.hid (S2.out.ext hE); clear S2 hE
    obtain ⟨f1, f2, f3⟩ := dry_first HO.out
    have hdl := (dries_mem.1 f1).1
    have hdh := (dries_mem.1 f2).1
    have hlh := (f3 _ f1).2
    rw [dryB_ok HV.out HO.out, ask_ok HV.out HO.out]
    have HMID := Lib.hid (fun d (h1 : (dryOf (dries b)).lo ≤ d) (h2 : d ≤ (dryOf (dries b)).hi) => dry_mid HV.out HO.out h1 h2)
    have HPAY := Lib.hid (payB_ok HV.out HO.out (n := N) hN0 hN1)
    clear f1 f2 f3
    generalize hgl : (dryOf (dries b)).lo = dl at hdl hdh hlh HMID HPAY
    generalize hgh : (dryOf (dries b)).hi = dh at hdl hdh hlh HMID HPAY
    have HB6 := Lib.hid (show 1 ≤ b.dry.lo ∧ b.dry.hi ≤ 600 from ⟨HBD.out.lo, HBD.out.hi⟩)
    have HDD := Lib.hid (show b.dry.lo ≤ dl ∧ dl ≤ dh ∧ dh ≤ b.dry.hi by omega)
    have hc1 : ¬ dl < b.dry.lo := by omega
    have hc2 : ¬ dh < dl := by omega
    have hc3 : ¬ b.dry.hi < dh := by omega
    clear hdl hdh hlh
    obtain ⟨y0, y1, y2, y3, y4, y5, yl⟩ := S3.out.cells
    dsimp only [valS]
    rw [hgl, hgh]
    clear hgl hgh
    go_wp2_with fail
    clear y0 y1 y2 y3 y4 y5 yl
    have S4 := Lib.hid (S3.out.ext (Ext.al w3 (.cells #[.int .i64 dl, .int .i64 dh] 23)))
    have A4 := Lib.hid (Blk.new w3 23 #[.int .i64 dl, .int .i64 dh])
    refine (pays_any b N _ _ _ S4.out.t S4.out.d S4.out.w).mono ?_
    rintro e w5 ⟨rfl, hE⟩
    have S5 := Lib.hid (S4.out.ext hE); have A5 := Lib.hid (A4.out.ext hE)
    clear S3 S4 A4 hE
    rw [damp_in HN.out.1 HN.out.2, ask_ok HV.out HO.out, HPAY.out]
    have a0 := A5.out.cell 0
    have a1 := A5.out.cell 1
    have al := A5.out.lt
    simp at a0 a1
    obtain ⟨y0, y1, y2, y3, y4, y5, yl⟩ := S5.out.cells
    dsimp only [valS]
    go_wp2
    clear a0 a1 al y0 y1 y2 y3 y4 y5 yl hc1 hc2 hc3
    have S6 := Lib.hid (S5.out.ext (Ext.al w5 (.cells #[.int .i64 (weight dl N), .int .i64 (weight dh N)] 23)))
    have A6 := Lib.hid (A5.out.alloc (.cells #[.int .i64 (weight dl N), .int .i64 (weight dh N)] 23))
    have B6 := Lib.hid (Blk.new w5 23 #[.int .i64 (weight dl N), .int .i64 (weight dh N)])
    generalize w5.alloc (.cells #[.int .i64 (weight dl N), .int .i64 (weight dh N)] 23) = w6 at S6 A6 B6
    clear S5 A5
    obtain ⟨M, hM⟩ : ∃ M : Int, M = x1 % (dh - dl + 1) := ⟨_, rfl⟩
    have hM0 : 0 ≤ M := by rw [hM]; exact Int.emod_nonneg _ (by have := HDD.out; omega)
    have hM1 : M ≤ dh - dl := by have := Int.emod_lt_of_pos x1 (show 0 < dh - dl + 1 by have := HDD.out; omega); omega
    have hrm : x1.tmod (dh - dl + 1) = M := by rw [Int.tmod_eq_emod_of_nonneg hx10, hM]
    have HDM := Lib.hid (HMID.out (dl + M) (by omega) (by omega))
    have HDR := Lib.hid (show 0 ≤ dl ∧ dl ≤ dl + M ∧ dl + M ≤ dh ∧ dh ≤ 600 by have := HDD.out; have := HB6.out; omega)
    have hwx : IntKind.i64.wrap x1 = x1 := wrap_small _ (by omega) (by omega)
    have hw1 : IntKind.i64.wrap (dh - dl) = dh - dl := wrap_small _ (by have := HDR.out; omega) (by have := HDR.out; omega)
    have hw2 : IntKind.i64.wrap (dh - dl + 1) = dh - dl + 1 := wrap_small _ (by have := HDR.out; omega) (by have := HDR.out; omega)
    have hw3 : IntKind.i64.wrap (dl + M) = dl + M := wrap_small _ (by have := HDR.out; omega) (by have := HDR.out; omega)
    have hnz : ¬ dh - dl + 1 = 0 := by have := HDD.out; omega
    clear hM
    have a0 := fun W (h : Ext w6 W) => (show W.cell? ⟨w3.heap.size, 0, none⟩ = some (.int .i64 dl) from (A6.out.ext h).cell 0)
    have a1 := fun W (h : Ext w6 W) => (show W.cell? ⟨w3.heap.size, 1, none⟩ = some (.int .i64 dh) from (A6.out.ext h).cell 1)
    refine wp_region_tame (fun W => Ext w6 W) (fun W W' => Ext W W') (by kernel_rfl) 303 rfl (by decide +kernel) (Ext.refl _).drew ?_
    repeat (apply tame_q rfl; (intro ρ W hC hr hD; (obtain ⟨hrc, hrg, hrf, hrs⟩ := hr); (simp [go_sem] at hD); go_simp; first | exact ⟨⟨hC, Ext.refl _⟩, rfl⟩ | exact ⟨⟨hC, RS.refl _⟩, rfl⟩ | exact rfl); simp only [List.nil_append, List.cons_append])
    refine tame_end_put rfl rfl (fun ρ W hC hr hF => ?_)
    simp [go_sem] at hF
    simp only [putF, hF, List.set_cons_succ, List.set_cons_zero]
    clear hF hr a0 a1 hrm hwx hw1 hw2 hw3 hnz hM0 hM1
    have S7 := Lib.hid (S6.out.ext hC); have A7 := Lib.hid (A6.out.ext hC); have B7 := Lib.hid (B6.out.ext hC)
    clear hC S6 A6 B6 HMID
    generalize hdd : dl + M = d at HDM HDR
    clear hdd
    have HWL := Lib.hid (show weight dl N ≤ weight d N ∧ weight d N ≤ weight dh N from ⟨weight_le_d N HDR.out.2.1 HN.out.1, weight_le_d N HDR.out.2.2.1 HN.out.1⟩)
    go_wp2
    have a0 := fun W' (h : Ext W W') => (show W'.cell? ⟨w3.heap.size, 0, none⟩ = some (.int .i64 dl) from (A7.out.ext h).cell 0)
    have a1 := fun W' (h : Ext W W') => (show W'.cell? ⟨w3.heap.size, 1, none⟩ = some (.int .i64 dh) from (A7.out.ext h).cell 1)
    have b0 := fun W' (h : Ext W W') => (show W'.cell? ⟨w5.heap.size, 0, none⟩ = some (.int .i64 (weight dl N)) from (B7.out.ext h).cell 0)
    have b1 := fun W' (h : Ext W W') => (show W'.cell? ⟨w5.heap.size, 1, none⟩ = some (.int .i64 (weight dh N)) from (B7.out.ext h).cell 1)
    refine wp_region_tame (fun W' => Ext W W') (fun W W' => Ext W W') (by kernel_rfl) 303 rfl (by decide +kernel) (Ext.refl _).drew ?_
    repeat (apply tame_q rfl; (intro ρ W hC hr hD; (obtain ⟨hrc, hrg, hrf, hrs⟩ := hr); (simp [go_sem] at hD); go_simp; first | exact ⟨⟨hC, Ext.refl _⟩, rfl⟩ | exact ⟨⟨hC, RS.refl _⟩, rfl⟩ | exact rfl); simp only [List.nil_append, List.cons_append])
    apply tame_q rfl
    · intro ρ W2 hC hr hD
      obtain ⟨hrc, hrg, hrf, hrs⟩ := hr
      simp [go_sem] at hD
      go_simp
      refine (f60_any d N _ (by have := HDR.out; omega) (by have := HDR.out; omega) HN.out.1 (by have := HN.out; omega)).mono ?_
      rintro e w' ⟨rfl, rfl⟩
      exact ⟨_, rfl, ⟨hC, Ext.refl _⟩, rfl⟩
    simp only [List.nil_append, List.cons_append]
    repeat (apply tame_q rfl; (intro ρ W hC hr hD; (obtain ⟨hrc, hrg, hrf, hrs⟩ := hr); (simp [go_sem] at hD); go_simp; first | exact ⟨⟨hC, Ext.refl _⟩, rfl⟩ | exact ⟨⟨hC, RS.refl _⟩, rfl⟩ | exact rfl); simp only [List.nil_append, List.cons_append])
    apply tame_q rfl
    · intro ρ W2 hC hr hD
      obtain ⟨hrc, hrg, hrf, hrs⟩ := hr
      simp [go_sem] at hD
      go_simp
      refine (inS_any (weight d N) ⟨weight dl N, weight dh N⟩ _).mono ?_
      rintro e w' ⟨rfl, hE⟩
      exact ⟨_, rfl, ⟨hC.trans hE, hE⟩, by show _ = Value.bool true; have := HWL.out; simp; omega⟩
    simp only [List.nil_append, List.cons_append]
    repeat (apply tame_q rfl; (intro ρ W hC hr hD; (obtain ⟨hrc, hrg, hrf, hrs⟩ := hr); (simp [go_sem] at hD); go_simp; first | exact ⟨⟨hC, Ext.refl _⟩, rfl⟩ | exact ⟨⟨hC, RS.refl _⟩, rfl⟩ | exact rfl); simp only [List.nil_append, List.cons_append])
    apply tame_q rfl
    · intro ρ W2 hC hr hD
      obtain ⟨hrc, hrg, hrf, hrs⟩ := hr
      simp [go_sem] at hD
      go_simp
      refine (f60_any dl N _ (by have := HDR.out; omega) (by have := HDR.out; omega) HN.out.1 (by have := HN.out; omega)).mono ?_
      rintro e w' ⟨rfl, rfl⟩
      exact ⟨_, rfl, ⟨hC, Ext.refl _⟩, rfl⟩
    simp only [List.nil_append, List.cons_append]
    repeat (apply tame_q rfl; (intro ρ W hC hr hD; (obtain ⟨hrc, hrg, hrf, hrs⟩ := hr); (simp [go_sem] at hD); go_simp; first | exact ⟨⟨hC, Ext.refl _⟩, rfl⟩ | exact ⟨⟨hC, RS.refl _⟩, rfl⟩ | exact rfl); simp only [List.nil_append, List.cons_append])
    apply tame_q rfl
    · intro ρ W2 hC hr hD
      obtain ⟨hrc, hrg, hrf, hrs⟩ := hr
      simp [go_sem] at hD
      go_simp
      refine (f60_any dh N _ (by have := HDR.out; omega) (by have := HDR.out; omega) HN.out.1 (by have := HN.out; omega)).mono ?_
      rintro e w' ⟨rfl, rfl⟩
      exact ⟨_, rfl, ⟨hC, Ext.refl _⟩, rfl⟩
    simp only [List.nil_append, List.cons_append]
    repeat (apply tame_q rfl; (intro ρ W hC hr hD; (obtain ⟨hrc, hrg, hrf, hrs⟩ := hr); (simp [go_sem] at hD); go_simp; first | exact ⟨⟨hC, Ext.refl _⟩, rfl⟩ | exact ⟨⟨hC, RS.refl _⟩, rfl⟩ | exact rfl); simp only [List.nil_append, List.cons_append])
    refine tame_end_put rfl rfl (fun ρ W2 hC hr hF => ?_)
    simp [go_sem] at hF
    simp only [putF, hF, List.set_cons_succ, List.set_cons_zero]
    clear hF hr a0 a1 b0 b1
    have S8 := Lib.hid (S7.out.ext hC)
    clear hC S7 A7 B7
    obtain ⟨y0, y1, y2, y3, y4, y5, yl⟩ := S8.out.cells
    go_wp2_with fail
    clear y0 y1 y2 y3 y4 y5 yl
    refine (aside_any b N _ _ _ S8.out.t S8.out.d S8.out.w).mono ?_
    rintro e w9 ⟨rfl, hE⟩
    have S9 := Lib.hid (S8.out.ext hE); clear S8 hE
    rw [damp_in HN.out.1 HN.out.2, ask_ok HV.out HO.out]
    obtain ⟨y0, y1, y2, y3, y4, y5, yl⟩ := S9.out.cells
    go_wp2_with fail
    clear y0 y1 y2 y3 y4 y5 yl
    refine (kindC_any b 1 _ _ _ S9.out.t S9.out.d S9.out.w).mono ?_
    rintro e w10 ⟨rfl, hE⟩
    have S10 := Lib.hid (S9.out.ext hE); clear S9 hE
    obtain ⟨k1, k2⟩ := kindB_ok HV.out HO.out (k := 1) (by decide) (by decide)
    rw [k1, k2, ask_ok HV.out HO.out]
    clear k1 k2
    obtain ⟨as1, as2, as3, as4, as5, as6⟩ := aside_law HV.out HO.out HN.out.1 HN.out.2
    have hab := aside_bd HV.out HO.out HN.out.1 HN.out.2
    have hvb := kindK_bd (kindS b) 1
    have HAS3 := Lib.hid as3
    have HAF := Lib.hid (aside_facts HV.out HO.out HN.out.1 HN.out.2)
    clear as3 as4 as5 as6
    generalize asideB b N = sd at as1 as2 HAS3 HAF hab
    rw [hv1] at as1 as2 HAF
    rw [hv1]
    clear hv1
    have hl8 : n2 ≤ 8 := by have := hn2.out; have := HBD.out.nw; omega
    have HAB := Lib.hid hab
    clear hab
    have hsn : (sd == 0) = false := beq_eq_false_iff_ne.2 (as2 rfl)
    clear as1 as2
    obtain ⟨y0, y1, y2, y3, y4, y5, yl⟩ := S10.out.cells
    go_wp2
    clear y0 y1 y2 y3 y4 y5 yl
    go_loopg [17, 18, 151] n2 (fun gg s17 s18 s151 wr => ∃ kk : Nat, kk ≤ n2 ∧ n2 - kk ≤ gg ∧ s151 = .int .i64 (kk : Int) ∧ s17 = .bool (wetTo b N kk) ∧ s18 = .bool (dampTo b N kk) ∧ Aside (SB b w w.heap.size (.slice A n cp) (.slice A2 n2 cp2) wr))
    case atStart => exact ⟨0, by omega, by omega, rfl, rfl, rfl, S10.out⟩
    case round =>
      obtain ⟨kk, hkk, hg, rfl, rfl, rfl, SR⟩ := hrel
      obtain ⟨wo, hwo⟩ : ∃ wo : World, wo = wr := ⟨_, rfl⟩
      subst hwo
      by_cases hlt : kk < n2
      · have hltz : (kk : Int) < (n2 : Int) := by omega
        obtain ⟨bb, off, x, rfl, hx, hb, hcell⟩ := SR.out.w.at_ hlt
        obtain ⟨c0, c1, c2, c3⟩ := SlW.cells hcell (Ext.refl _)
        have HXM := Lib.hid (List.mem_of_getElem? hx)
        have HW1 := Lib.hid (wetTo_succ (n := N) hx); have HW2 := Lib.hid (dampTo_succ (n := N) hx)
        clear hx hb hcell
        obtain ⟨y0, y1, y2, y3, y4, y5, yl⟩ := SR.out.cells
        go_wp2_with fail
        clear c0 c1 c2 c3 y0 y1 y2 y3 y4 y5 yl
        generalize hwB : wo.alloc (.cells #[.int .i64 x.number, .int .i64 x.pounds, .int .i64 x.damp.lo, .int .i64 x.damp.hi] 65) = w11
        have SR11 := Lib.hid (show SB b w w.heap.size (.slice A n cp) (.slice (some ⟨bb, off, none⟩) n2 cp2) w11 from hwB ▸ SR.out.ext (Ext.al _ _))
        have X11 := Lib.hid (show Blk w11 wo.heap.size 65 #[.int .i64 x.number, .int .i64 x.pounds, .int .i64 x.damp.lo, .int .i64 x.damp.hi] from hwB ▸ Blk.new _ _ _)
        clear hwB
        refine (wet_any b x.number _ _ _ SR11.out.t SR11.out.d SR11.out.w (by have := H16.out; omega)).mono ?_
        rintro e w12 ⟨rfl, hE⟩
        have SR12 := Lib.hid (SR11.out.ext hE); have X12 := Lib.hid (X11.out.ext hE)
        clear SR11 X11 hE
        obtain ⟨hw0, -⟩ := wet_at HV.out HO.out HXM.out
        have hwl := wet_law HV.out HO.out HXM.out
        have hxb := HBD.out.w x HXM.out
        have HA3 := Lib.hid (HAS3.out x HXM.out)
        rw [hw0, ask_ok HV.out HO.out]
        have c0 := X12.out.cell 0
        have c1 := X12.out.cell 1
        have c2 := X12.out.cell 2
        have c3 := X12.out.cell 3
        have cl := X12.out.lt
        simp at c0 c1 c2 c3
        obtain ⟨y0, y1, y2, y3, y4, y5, yl⟩ := SR12.out.cells
        dsimp only [valS]
        go_wp2_with fail
        clear c0 c1 c2 c3 cl y0 y1 y2 y3 y4 y5 yl
        have SR13 := Lib.hid (SR12.out.ext (Ext.al w12 (.cells #[.int .i64 (wetB b x.number).lo, .int .i64 (wetB b x.number).hi] 23)))
        have X13 := Lib.hid (X12.out.alloc (.cells #[.int .i64 (wetB b x.number).lo, .int .i64 (wetB b x.number).hi] 23))
        have T13 := Lib.hid (Blk.new w12 23 #[.int .i64 (wetB b x.number).lo, .int .i64 (wetB b x.number).hi])
        refine (known_any b x.number N _ _ _ SR13.out.t SR13.out.d SR13.out.w (by have := H16.out; omega)).mono ?_
        rintro e w14 ⟨rfl, hE⟩
        have SR14 := Lib.hid (SR13.out.ext hE); have X14 := Lib.hid (X13.out.ext hE); have T14 := Lib.hid (T13.out.ext hE)
        clear SR12 X12 SR13 X13 T13 hE
        rw [hw0, ask_ok HV.out HO.out]
        obtain ⟨hwl1, hwl2, hwl3, hwl4⟩ := hwl
        have hkn : knownOf (wetB b x.number) 0 N = if N < (wetB b x.number).lo then 2 else if N < (wetB b x.number).hi then 1 else 0 := by unfold knownOf; rw [if_pos rfl]
        rw [hkn]
        clear hkn hw0
        generalize (wetB b x.number).lo = wl at hwl1 hwl2 hwl4 HA3 HW1 T14
        generalize (wetB b x.number).hi = wh at hwl2 hwl3 hwl4 HA3 HW2 T14
        have HL := Lib.hid (hwl4 d HDM.out)
        have HXB := Lib.hid (show 0 ≤ x.damp.lo ∧ x.damp.lo ≤ wl ∧ wl ≤ wh ∧ wh ≤ x.damp.hi ∧ x.damp.hi ≤ 200 by omega)
        have hl1 : ¬ wl < x.damp.lo := by omega
        have hl2 : ¬ wh < wl := by omega
        have hl3 : ¬ x.damp.hi < wh := by omega
        clear hwl1 hwl2 hwl3 hwl4 hxb
        have c1 := X14.out.cell 1
        have c2 := X14.out.cell 2
        have c3 := X14.out.cell 3
        have cl := X14.out.lt
        have t0 := T14.out.cell 0
        have t1 := T14.out.cell 1
        have tl := T14.out.lt
        simp at c1 c2 c3 t0 t1
        obtain ⟨kv, hkv⟩ : ∃ kv : Int, kv = if N < wl then 2 else if N < wh then 1 else 0 := ⟨_, rfl⟩
        rw [← hkv]
        have HKV := Lib.hid hkv
        have hka : (kv == 2) = decide (N < wl) := by
          rw [hkv]
          by_cases h1 : N < wl
          · simp [h1]
          · by_cases h2 : N < wh <;> simp [h1, h2]
        have hkb : (kv == 0) = decide (wh ≤ N) := by
          rw [hkv]
          by_cases h1 : N < wl
          · have : ¬ wh ≤ N := by omega
            simp [h1, this]
          · by_cases h2 : N < wh
            · have : ¬ wh ≤ N := by omega
              simp [h1, h2, this]
            · have : wh ≤ N := by omega
              simp [h1, h2, this]
        clear hkv
        go_wp2
        clear c1 c2 c3 cl t0 t1 tl
        go_loopg [25, 26] 300 (fun gg s25 s26 wr2 => ∃ (j : Nat) (f : Bool), s26 = .int .i64 (wl + (j : Int)) ∧ (j : Int) ≤ wh - wl + 1 ∧ (wh - wl + 1 - j).toNat ≤ gg ∧ s25 = .bool f ∧ Aside (f = fndTo d wl x.pounds j) ∧ Aside (Ext w14 wr2))
        case atStart => exact ⟨0, false, by simp, by omega, by have := HXB.out; omega, rfl, rfl, Ext.refl _⟩
        case round =>
          obtain ⟨j, f, rfl, hj1, hj2, rfl, FJ, EX⟩ := hrel
          have tq1 := (T14.out.ext EX.out).cell 1
          have tql := (T14.out.ext EX.out).lt
          simp at tq1
          by_cases hlt2 : wl + (j : Int) ≤ wh
          · go_wp2
            have k1 := fun W (h : Ext wr W) => (show W.cell? ⟨wo.heap.size, 1, none⟩ = some (.int .i64 x.pounds) from ((X14.out.ext EX.out).ext h).cell 1)
            refine wp_region_tame_cut (fun W => Ext wr W) (fun W W' => Ext W W') (by kernel_rfl) 303 rfl _ rfl (by decide +kernel) (by decide +kernel) (by decide +kernel) rfl (Ext.refl _).drew ?_
            simp only [List.dropLast]
            have HSU := Lib.hid (fndTo_succ d wl x.pounds j)
            have HWB := Lib.hid (show 0 ≤ wl + (j : Int) ∧ wl + (j : Int) ≤ 1000000 by have := HXB.out; omega)
            have hwr : IntKind.i64.wrap (wl + (j : Int) + 1) = wl + (j : Int) + 1 := wrap_small _ (by have := HWB.out; omega) (by have := HWB.out; omega)
            cases f with
            | true =>
              repeat (apply tame_q rfl; (intro ρ W hC hr hD; (obtain ⟨hrc, hrg, hrf, hrs⟩ := hr); (simp [go_sem] at hD); go_simp; first | exact ⟨⟨hC, Ext.refl _⟩, rfl⟩ | exact ⟨⟨hC, RS.refl _⟩, rfl⟩ | exact rfl); simp only [List.nil_append, List.cons_append])
              refine tame_end_put rfl rfl (fun ρ W hC hr hF => ?_)
              simp [go_sem] at hF
              simp only [putF, hF, List.set_cons_succ, List.set_cons_zero]
              clear hF hr k1 tq1 tql
              have EXC := Lib.hid (EX.out.trans hC); clear hC
              go_wp2
              go_roundg ((wh - wl + 1 - ((j + 1 : Nat) : Int)).toNat)
              case measure => omega
              case rel => exact ⟨j + 1, true, by simp; omega, by omega, by omega, rfl, (by show _ = _; rw [HSU.out, ← FJ.out]; rfl), EXC.out⟩
            | false =>
              repeat (apply tame_q rfl; (intro ρ W hC hr hD; (obtain ⟨hrc, hrg, hrf, hrs⟩ := hr); (simp [go_sem] at hD); go_simp; first | exact ⟨⟨hC, Ext.refl _⟩, rfl⟩ | exact ⟨⟨hC, RS.refl _⟩, rfl⟩ | exact rfl); simp only [List.nil_append, List.cons_append])
              apply tame_q rfl
              · intro ρ W2 hC hr hD
                obtain ⟨hrc, hrg, hrf, hrs⟩ := hr
                simp [go_sem] at hD
                go_simp
                refine (f60_any d (wl + (j : Int)) _ (by have := HDR.out; omega) (by have := HDR.out; omega) HWB.out.1 HWB.out.2).mono ?_
                rintro e w' ⟨rfl, rfl⟩
                exact ⟨_, rfl, ⟨hC, Ext.refl _⟩, rfl⟩
              simp only [List.nil_append, List.cons_append]
              repeat (apply tame_q rfl; (intro ρ W hC hr hD; (obtain ⟨hrc, hrg, hrf, hrs⟩ := hr); (simp [go_sem] at hD); go_simp; first | exact ⟨⟨hC, Ext.refl _⟩, rfl⟩ | exact ⟨⟨hC, RS.refl _⟩, rfl⟩ | exact rfl); simp only [List.nil_append, List.cons_append])
              refine tame_end_put rfl rfl (fun ρ W hC hr hF => ?_)
              simp [go_sem] at hF
              simp only [putF, hF, List.set_cons_succ, List.set_cons_zero]
              clear hF hr k1 tq1 tql
              have EXC := Lib.hid (EX.out.trans hC); clear hC
              go_wp2
              go_roundg ((wh - wl + 1 - ((j + 1 : Nat) : Int)).toNat)
              case measure => omega
              case rel => exact ⟨j + 1, _, by simp; omega, by omega, by omega, rfl, (by show _ = _; rw [HSU.out, ← FJ.out]; rfl), EXC.out⟩
          · have hft := fnd_true HL.out.1 (show dLo d x < wl + (j : Int) by have := HL.out; omega) HL.out.2.2.2
            rw [← FJ.out] at hft
            subst hft
            clear FJ hka hkb
            generalize wetTo b N kk = bw at HW1 ⊢
            generalize dampTo b N kk = bd at HW2 ⊢
            have hks : (N < wl ∧ N < wh) ∨ (¬ N < wl ∧ N < wh) ∨ (¬ N < wl ∧ ¬ N < wh) := by omega
            rcases hks with ⟨hk1, hk2⟩ | ⟨hk1, hk2⟩ | ⟨hk1, hk2⟩
            · obtain rfl : kv = 2 := by rw [HKV.out, if_pos hk1]
              have hs1 : (sd != 2) = false := by rw [(HA3.out).1 hk1]; rfl
              have hs2 : (sd == 0) = false := by rw [(HA3.out).1 hk1]; rfl
              cases bw <;> cases bd
              all_goals
                go_wp2
                go_roundg (n2 - (kk + 1))
                case measure => omega
                case rel => exact ⟨kk + 1, by omega, by omega, by simp, by rw [HW1.out, decide_eq_true (show N < wl by omega)]; rfl, by rw [HW2.out, decide_eq_true (show N < wh by omega)]; rfl, SR14.out.ext EX.out⟩
            · obtain rfl : kv = 1 := by rw [HKV.out, if_neg hk1, if_pos hk2]
              have hs2 : (sd == 0) = false := beq_eq_false_iff_ne.2 ((HA3.out).2 hk2)
              cases bw <;> cases bd
              all_goals
                go_wp2
                go_roundg (n2 - (kk + 1))
                case measure => omega
                case rel => exact ⟨kk + 1, by omega, by omega, by simp, by rw [HW1.out, decide_eq_false (show ¬ N < wl by omega)]; rfl, by rw [HW2.out, decide_eq_true (show N < wh by omega)]; rfl, SR14.out.ext EX.out⟩
            · obtain rfl : kv = 0 := by rw [HKV.out, if_neg hk1, if_neg hk2]
              cases bw <;> cases bd
              all_goals
                go_wp2
                go_roundg (n2 - (kk + 1))
                case measure => omega
                case rel => exact ⟨kk + 1, by omega, by omega, by simp, by rw [HW1.out, decide_eq_false (show ¬ N < wl by omega)]; rfl, by rw [HW2.out, decide_eq_false (show ¬ N < wh by omega)]; rfl, SR14.out.ext EX.out⟩
      · obtain ⟨F4, F5, F7⟩ := aside_fin HAF.out (k := kk) (by have := hn2.out; omega)
        obtain ⟨y0, y1, y2, y3, y4, y5, yl⟩ := SR.out.cells
        generalize wetTo b N kk = bw at F7 ⊢
        generalize dampTo b N kk = bd at F4 F5 ⊢
        obtain rfl : n2 = kk := by omega
        have hab := HAB.out
        by_cases hlen : 1 < n2
        all_goals
          first | (have hlz : (1 : Int) < (n2 : Int) := by omega) | (have hlz : ¬ (1 : Int) < (n2 : Int) := by omega)
          cases bw <;> cases bd
        all_goals
          rcases hab with hs9 | hs9 | hs9
        all_goals first
        | (exfalso; simp [hs9, hlen] at F4 F5 F7; done)
        | (exfalso; omega)
        | (clear F4 F5 F7
           go_wp2
           go_ret
           exact ⟨rfl, SR.out.e⟩)
end Go.Proofs.YtdlipbobfgdleaaDoor
