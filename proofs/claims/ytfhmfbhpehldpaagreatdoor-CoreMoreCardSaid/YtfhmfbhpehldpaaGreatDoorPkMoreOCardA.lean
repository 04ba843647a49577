/- middlinglaw03.CoreMore: the walk. -/
import Derived.Test.YtfhmfbhpehldpaaGreatDoorPkMoreOS
namespace Go.Proofs.YtfhmfbhpehldpaaGreatDoor
open Go.RowKit Go.Shelf Go.Lib
set_option maxRecDepth 100000
set_option linter.unusedSimpArgs false

set_option maxHeartbeats 4000000 in
theorem moreLaw_any (b : Bale) (x1 x2 x3 x4 x5 x6 x7 : Int) (dv wv : Value) (w : World) (hT : Tab w) (hd : SlD w dv b.draws) (hw : SlW w wv b.weighs) (hx1 : 0 ≤ x1 ∧ x1 ≤ 255) (hx2 : 0 ≤ x2 ∧ x2 ≤ 255) (hx3 : 0 ≤ x3 ∧ x3 ≤ 255) (hx4 : 0 ≤ x4 ∧ x4 ≤ 65535) (hx5 : 0 ≤ x5 ∧ x5 ≤ 255) (hx6 : 0 ≤ x6 ∧ x6 ≤ 255) (hx7 : 0 ≤ x7 ∧ x7 ≤ 255) :
    Calls Tryz.prog 3 #[valB b dv wv, .int .u8 x1, .int .u8 x2, .int .u8 x3, .int .u16 x4, .int .u8 x5, .int .u8 x6, .int .u8 x7] w fun e w' => e = .returned (.bool true) ∧ Ext w w' := by
  have HT := Lib.hid hT
  have HD := Lib.hid hd
  have HW := Lib.hid hw
  have HX := Lib.hid (And.intro hx1 (And.intro hx2 (And.intro hx3 (And.intro hx4 (And.intro hx5 (And.intro hx6 hx7))))))
  obtain ⟨A, n, cp, rfl, hn, hlc, hcm⟩ := hd.form
  obtain ⟨A2, n2, cp2, rfl, hn2, hlc2, hcm2⟩ := hw.form
  clear hd hw hT hx1 hx2 hx3 hx4 hx5 hx6 hx7
  go_enter Tryz.func3, Tryz.ntmps3
  go_wp2_with fail
  have S0 := Lib.hid (show SB b w w.heap.size (.slice A n cp) (.slice A2 n2 cp2) _ from ⟨Ext.al _ (.cells #[.int .i64 b.id, .int .i64 b.layers, .int .i64 b.dry.lo, .int .i64 b.dry.hi, .slice A n cp, .slice A2 n2 cp2] 27), Blk.new _ _ _, HT.out.ext (Ext.al _ _), HD.out.ext (Ext.al _ _), HW.out.ext (Ext.al _ _)⟩)
  refine (alive_any _ S0.out.t).mono ?_
  rintro e w1 ⟨rfl, hE⟩
  have S1 := Lib.hid (S0.out.ext hE); clear S0 hE
  obtain ⟨y0, y1, y2, y3, y4, y5, yl⟩ := S1.out.cells
  go_wp2_with fail
  clear y0 y1 y2 y3 y4 y5 yl
  refine (ready_any b _ _ _ S1.out.d S1.out.w).mono ?_
  rintro e w2 ⟨rfl, hE⟩
  have S2 := Lib.hid (S1.out.ext hE); clear S1 hE
  obtain ⟨y0, y1, y2, y3, y4, y5, yl⟩ := S2.out.cells
  cases hr : readyB b with
  | false =>
    go_wp2
    go_ret
    exact ⟨rfl, S2.out.e⟩
  | true =>
    obtain ⟨hv, ho, hd20, hw16⟩ := ready_len hr
    have HV := Lib.hid hv; have HO := Lib.hid ho; have H20 := Lib.hid (And.intro hd20 hw16)
    clear hr hv ho hd20 hw16
    have HBD := Lib.hid (valid_bds HV.out)
    by_cases h10 : n = 10
    · subst h10
      go_wp2
      go_ret
      exact ⟨rfl, S2.out.e⟩
    have b10 : ((n : Int) == 10) = false := beq_eq_false_iff_ne.2 (by omega)
    by_cases h8 : n2 = 8
    · subst h8
      go_wp2
      go_ret
      exact ⟨rfl, S2.out.e⟩
    have b8 : ((n2 : Int) == 8) = false := beq_eq_false_iff_ne.2 (by omega)
    have HNE := Lib.hid (show b.draws.length ≠ 10 ∧ b.weighs.length ≠ 8 by have := hn.out; have := hn2.out; omega)
    go_wp2_with fail
    clear y0 y1 y2 y3 y4 y5 yl b10 b8 h10 h8
    refine (fresh_any b _ _ _ S2.out.d S2.out.w (by have := H20.out; omega) (by have := H20.out; omega)).mono ?_
    rintro e w3 ⟨rfl, hE⟩
    have S3 := Lib.hid (S2.out.ext hE); clear S2 hE
    -- what is put
    obtain ⟨nl, hnl⟩ : ∃ nl : Nat, b.layers = (nl : Int) := ⟨b.layers.toNat, by have := HBD.out.l1; omega⟩
    have HNL := Lib.hid (show b.layers = (nl : Int) ∧ b.layers.toNat = nl ∧ 1 ≤ nl ∧ nl ≤ 5 by have := HBD.out.l1; have := HBD.out.l5; omega)
    clear hnl
    obtain ⟨i, hi⟩ : ∃ i : Int, i = x1 % (nl : Int) := ⟨_, rfl⟩
    obtain ⟨g, hg⟩ : ∃ g : Int, g = 1 + x2 % 9 := ⟨_, rfl⟩
    obtain ⟨h, hh⟩ : ∃ h : Int, h = min 9 (g + x3 % 4) := ⟨_, rfl⟩
    obtain ⟨p, hp⟩ : ∃ p : Int, p = 1 + x4 % 1200 := ⟨_, rfl⟩
    obtain ⟨r, hr⟩ : ∃ r : Int, r = x5 % 201 := ⟨_, rfl⟩
    obtain ⟨s, hs⟩ : ∃ s : Int, s = min 200 (r + x6) := ⟨_, rfl⟩
    obtain ⟨d, hd⟩ : ∃ d : Int, d = x7 % 201 := ⟨_, rfl⟩
    have q1 := Int.emod_nonneg x1 (show (nl : Int) ≠ 0 by have := HNL.out; omega)
    have q2 := Int.emod_lt_of_pos x1 (show 0 < (nl : Int) by have := HNL.out; omega)
    have HR := Lib.hid (show 0 ≤ i ∧ i < (nl : Int) ∧ 1 ≤ g ∧ g ≤ h ∧ h ≤ 9 ∧ 1 ≤ p ∧ p ≤ 1200 ∧ 0 ≤ r ∧ r ≤ s ∧ s ≤ 200 ∧ 0 ≤ d ∧ d ≤ 200 by have := HX.out; omega)
    obtain ⟨m1, m2, m3, m4⟩ := more_setup HV.out HNE.out.1 HNE.out.2 (i := i) (g := g) (h := h) (p := p) (r := r) (s := s) (by have := HNL.out; omega) (by have := HR.out; omega) (by have := HR.out; omega) (by have := HR.out; omega)
    have HM1 := Lib.hid m1; have HM2 := Lib.hid m2; have HM3 := Lib.hid m3; have HM4 := Lib.hid m4
    clear m1 m2 m3 m4 q1 q2
    have hx := HX.out
    have r1 : x1.tmod b.layers = i := by rw [HNL.out.1, Int.tmod_eq_emod_of_nonneg hx.1.1]; exact hi.symm
    have r2 : x2.tmod 9 = g - 1 := by rw [Int.tmod_eq_emod_of_nonneg hx.2.1.1]; omega
    have r3 : x3.tmod 4 = x3 % 4 := Int.tmod_eq_emod_of_nonneg hx.2.2.1.1
    have u1 : IntKind.i64.wrap x1 = x1 := wrap_small _ (by omega) (by omega)
    have u2 : IntKind.i64.wrap x2 = x2 := wrap_small _ (by omega) (by omega)
    have u3 : IntKind.i64.wrap x3 = x3 := wrap_small _ (by omega) (by omega)
    have u4 : IntKind.i64.wrap (1 + (g - 1)) = g := by rw [show 1 + (g - 1) = g by omega]; exact wrap_small _ (by omega) (by omega)
    have u5 : IntKind.i64.wrap (g + x3 % 4) = g + x3 % 4 := wrap_small _ (by omega) (by omega)
    have u6 : min 9 (g + x3 % 4) = h := hh.symm
    have hnz : ¬ b.layers = 0 := by have := HNL.out; omega
    have HEQ := Lib.hid (show p = 1 + x4 % 1200 ∧ r = x5 % 201 ∧ s = min 200 (r + x6) ∧ d = x7 % 201 from ⟨hp, hr, hs, hd⟩)
    clear hx hi hg hh hp hr hs hd
    have c0 := fun V (h : Ext w3 V) => (show V.cell? ⟨w.heap.size, 0, none⟩ = some (.int .i64 b.id) from (S3.out.p.ext h).cell 0)
    have c1 := fun V (h : Ext w3 V) => (show V.cell? ⟨w.heap.size, 1, none⟩ = some (.int .i64 b.layers) from (S3.out.p.ext h).cell 1)
    have c2 := fun V (h : Ext w3 V) => (show V.cell? ⟨w.heap.size, 2, none⟩ = some (.int .i64 b.dry.lo) from (S3.out.p.ext h).cell 2)
    have c3' := fun V (h : Ext w3 V) => (show V.cell? ⟨w.heap.size, 3, none⟩ = some (.int .i64 b.dry.hi) from (S3.out.p.ext h).cell 3)
    have c4' := fun V (h : Ext w3 V) => (show V.cell? ⟨w.heap.size, 4, none⟩ = some (.slice A n cp) from (S3.out.p.ext h).cell 4)
    have c5' := fun V (h : Ext w3 V) => (show V.cell? ⟨w.heap.size, 5, none⟩ = some (.slice A2 n2 cp2) from (S3.out.p.ext h).cell 5)
    -- CUT 1
    go_wp2
    obtain ⟨B1, hB1⟩ : ∃ B1, B1 = putB b ⟨freshN (b.draws.map (·.number)) 1, i, ⟨g, h⟩⟩ := ⟨_, rfl⟩
    rw [← hB1] at HM2 HM3 HM4
    have HB1 := Lib.hid hB1
    clear hB1
    -- CUT 2
    refine wp_region_tameW (fun V => Ext w3 V) (fun V V' => RX B1 w3.heap.size V V') 21 (by kernel_rfl) 285 rfl (by decide +kernel) (by decide +kernel) (by decide +kernel) (Ext.refl _).drew ?_
    repeat (apply tameW_q rfl; (intro ρ W hC hr hD; (obtain ⟨hrc, hrg, hrf, hrs⟩ := hr); (simp [go_sem] at hD); go_simp; first | exact ⟨⟨hC, RX.refl _⟩, rfl⟩ | exact rfl); simp only [List.nil_append, List.cons_append])
    apply tameW_q rfl
    · intro ρ V hC hr hD
      obtain ⟨hrc, hrg, hrf, hrs⟩ := hr
      simp [go_sem] at hD
      go_simp
      -- CUT 21
      have hh := draw_any (freshN (b.draws.map (·.number)) 1) i g h V
      refine Calls.mono hh ?_
      intro e w' hq
      exact ⟨_, hq.1, ⟨hC.trans hq.2, RX.ext hq.2⟩, rfl⟩
    simp only [List.nil_append, List.cons_append]
    apply tameW_v rfl (PutF B1 w3.heap.size) (fun v V V' _ hR h => h.rx hR)
    · intro ρ V hC hr hD
      obtain ⟨hrc, hrg, hrf, hrs⟩ := hr
      simp [go_sem] at hD
      go_simp
      have hh := f7_any b ⟨freshN (b.draws.map (·.number)) 1, i, ⟨g, h⟩⟩ _ _ V (S3.out.t.ext hC) (S3.out.d.ext hC) (S3.out.w.ext hC)
      refine Calls.mono hh ?_
      intro e w' hq
      obtain ⟨v, he, tv⟩ := hq.1
      rw [HM1.out] at he
      rw [← HB1.out] at tv
      exact ⟨_, he, ⟨hC.trans hq.2, RX.ext hq.2⟩, _, rfl, tv.mono hC.size⟩
    simp only [List.nil_append, List.cons_append]
    apply tameW_v rfl (PutF B1 w3.heap.size) (fun v V V' _ hR h => h.rx hR)
    · intro ρ V hC hr hD
      obtain ⟨hrc, hrg, hrf, hrs⟩ := hr
      simp [go_sem] at hD
      go_simp
      exact ⟨hC, RX.refl _⟩
    simp only [List.nil_append, List.cons_append]
    apply tameW_v rfl (fun v V => TwinV B1 w3.heap.size v V) (fun v V V' _ hR h => h.rx hR)
    · intro ρ V hC hr hD
      obtain ⟨hrc, hrg, hrf, hrs⟩ := hr
      simp [go_sem] at hD
      obtain ⟨u, e, tv⟩ := hD
      go_simp
      exact ⟨hC, RX.refl _⟩
    simp only [List.nil_append, List.cons_append]
    apply tameW_q rfl
    · intro ρ V hC hr hD
      obtain ⟨hrc, hrg, hrf, hrs⟩ := hr
      simp [go_sem] at hD
      have hP : PutF B1 w3.heap.size (ρ (.tmp 79)) V := by first | exact hD | exact hD.1 | exact hD.2 | exact hD.2.1
      obtain ⟨u, e, tv⟩ := hP
      go_simp
      exact ⟨⟨hC, RX.refl _⟩, rfl⟩
    simp only [List.nil_append, List.cons_append]
    apply tameW_v rfl (BoxW w3.heap.size) (fun v V V' _ hR h => h.rx hR)
    · intro ρ V hC hr hD
      obtain ⟨hrc, hrg, hrf, hrs⟩ := hr
      simp [go_sem] at hD
      go_simp
      exact ⟨⟨hC.alloc _, RX.ext (Ext.al _ _)⟩, _, rfl, hC.size, _, _, _, _, _, _, Blk.new _ _ _⟩
    simp only [List.nil_append, List.cons_append]
    -- CUT 3
    apply tameW_s rfl rfl (FilV B1 w3.heap.size) (fun v V V' _ hR h => h.rx hR)
    · intro ρ V hC hr hD
      obtain ⟨hrc, hrg, hrf, hrs⟩ := hr
      simp [go_sem] at hD
      have hX : BoxW w3.heap.size (ρ (.tmp 21)) V := by first | exact hD.1 | exact hD.2.1 | exact hD.2.2.1 | exact hD
      have hP : TwinV B1 w3.heap.size (ρ (.tmp 96)) V := by first | exact hD.1 | exact hD.2.1 | exact hD.2.2.1 | exact hD
      clear hD
      obtain ⟨q, e21, hq, y0, y1, y2, y3, y4, y5, hB⟩ := hX
      obtain ⟨dvA, wvA, e96, o1, o2⟩ := hP
      obtain ⟨Ad, nd, cd, rfl, -, -, -⟩ := (show SlD V dvA B1.draws from o1.sl (fun _ => rfl)).form
      obtain ⟨Aw, nw, cw, rfl, -, -, -⟩ := (show SlW V wvA B1.weighs from o2.sl (fun _ => rfl)).form
      have x0 := hB.cell 0
      have x1' := hB.cell 1
      have x2' := hB.cell 2
      have x3' := hB.cell 3
      have x4' := hB.cell 4
      have x5' := hB.cell 5
      have xf := hB.frozen
      have xl := hB.lt
      simp at x0 x1' x2' x3' x4' x5'
      have HST := Lib.hid (box_store hB hq hC o1 o2)
      dsimp only [valB] at e96
      clear hB o1 o2 hC hq
      go_simp
      exact HST.out
    simp only [List.nil_append, List.cons_append]
    repeat (apply tameW_q rfl; (intro ρ W hC hr hD; (obtain ⟨hrc, hrg, hrf, hrs⟩ := hr); (simp [go_sem] at hD); go_simp; first | exact ⟨⟨hC, RX.refl _⟩, rfl⟩ | exact rfl); simp only [List.nil_append, List.cons_append])
    -- CUT 4
    refine tameW_end _ rfl rfl rfl (fun ρ w5 hC hr hF => ?_)
    simp [go_sem] at hF
    obtain ⟨f1, f2, f3, f4, f5, f6, f7, f8, f9, f10, f11, f12, f13, f14, f15, -, -, -, f97, -, hst, f22⟩ := hF
    -- CUT 5
    simp only [putF, f1, f2, f3, f4, f5, f6, f7, f8, f9, f10, f11, f12, f13, f14, f15, f97, f22, List.set_cons_succ, List.set_cons_zero]
    generalize ρ (Operand.tmp 95) = v95
    generalize ρ (Operand.tmp 79) = v79
    generalize ρ (Operand.tmp 96) = v96
    obtain ⟨q, e21, hq, dvA, wvA, hB, o1, o2⟩ := hst
    rw [e21]
    obtain ⟨A3, n3, c3, rfl, -, -, -⟩ := (show SlD w5 dvA B1.draws from o1.sl (fun _ => rfl)).form
    obtain ⟨A4, n4, c4, rfl, -, -, -⟩ := (show SlW w5 wvA B1.weighs from o2.sl (fun _ => rfl)).form
    have SB1 := Lib.hid (show SB B1 w3 q (.slice A3 n3 c3) (.slice A4 n4 c4) w5 from ⟨hC, hB, S3.out.t.ext hC, o1.sl (fun _ => rfl), o2.sl (fun _ => rfl)⟩)
    have S5 := Lib.hid (S3.out.ext hC)
    clear hB hq
    clear f1 f2 f3 f4 f5 f6 f7 f8 f9 f10 f11 f12 f13 f14 f15 f97 f22 e21 o1 o2 hr hC c0 c1 c2 c3' c4' c5' r1 r2 r3 u1 u2 u3 u4 u5 u6 hnz
    -- CUT 6
    have hx := HX.out
    have hq' := HEQ.out
    have r7 : x5.tmod 201 = r := by rw [Int.tmod_eq_emod_of_nonneg hx.2.2.2.2.1.1]; exact hq'.2.1.symm
    have u7 : IntKind.i64.wrap x5 = x5 := wrap_small _ (by omega) (by omega)
    have r8 : x5 % 201 = r := hq'.2.1.symm
    clear hx hq'
    go_wp2
    clear r7 u7
    have hx := HX.out
    have hq' := HEQ.out
    -- CUT 7
    have c0 := fun V (h : Ext w5 V) => (show V.cell? ⟨q, 0, none⟩ = some (.int .i64 B1.id) from (SB1.out.p.ext h).cell 0)
    have c1 := fun V (h : Ext w5 V) => (show V.cell? ⟨q, 1, none⟩ = some (.int .i64 B1.layers) from (SB1.out.p.ext h).cell 1)
    have c2 := fun V (h : Ext w5 V) => (show V.cell? ⟨q, 2, none⟩ = some (.int .i64 B1.dry.lo) from (SB1.out.p.ext h).cell 2)
    have c3' := fun V (h : Ext w5 V) => (show V.cell? ⟨q, 3, none⟩ = some (.int .i64 B1.dry.hi) from (SB1.out.p.ext h).cell 3)
    have c4' := fun V (h : Ext w5 V) => (show V.cell? ⟨q, 4, none⟩ = some (.slice A3 n3 c3) from (SB1.out.p.ext h).cell 4)
    have c5' := fun V (h : Ext w5 V) => (show V.cell? ⟨q, 5, none⟩ = some (.slice A4 n4 c4) from (SB1.out.p.ext h).cell 5)
    have r1 : x4.tmod 1200 = p - 1 := by rw [Int.tmod_eq_emod_of_nonneg hx.2.2.2.1.1]; omega
    have u1 : IntKind.i64.wrap x4 = x4 := wrap_small _ (by omega) (by omega)
    have u2 : IntKind.i64.wrap (1 + (p - 1)) = p := by rw [show 1 + (p - 1) = p by omega]; exact wrap_small _ (by omega) (by omega)
    have u3 : IntKind.i64.wrap x6 = x6 := wrap_small _ (by omega) (by omega)
    have u4 : IntKind.i64.wrap (r + x6) = r + x6 := wrap_small _ (by omega) (by omega)
    have u5 : min 200 (r + x6) = s := hq'.2.2.1.symm
    clear hx hq'
    obtain ⟨y, hB1⟩ : ∃ y, y = liftB B1 ⟨freshN (b.weighs.map (·.number)) 1, p, ⟨r, s⟩⟩ := ⟨_, rfl⟩
    rw [← hB1] at HM3 HM4
    have HB1 := Lib.hid hB1
    clear hB1
    -- CUT 8
    refine wp_region_tameW (fun V => Ext w5 V) (fun V V' => RX y w5.heap.size V V') 24 (by kernel_rfl) 285 rfl (by decide +kernel) (by decide +kernel) (by decide +kernel) (Ext.refl _).drew ?_
    repeat (apply tameW_q rfl; (intro ρ W hC hr hD; (obtain ⟨hrc, hrg, hrf, hrs⟩ := hr); (simp [go_sem] at hD); go_simp; first | exact ⟨⟨hC, RX.refl _⟩, rfl⟩ | exact rfl); simp only [List.nil_append, List.cons_append])
    apply tameW_q rfl
    · intro ρ V hC hr hD
      obtain ⟨hrc, hrg, hrf, hrs⟩ := hr
      simp [go_sem] at hD
      go_simp
      -- CUT 22
      have hh := weigh_any (freshN (b.weighs.map (·.number)) 1) p r s V
      refine Calls.mono hh ?_
      intro e w' hq
      exact ⟨_, hq.1, ⟨hC.trans hq.2, RX.ext hq.2⟩, rfl⟩
    simp only [List.nil_append, List.cons_append]
    apply tameW_v rfl (PutF y w5.heap.size) (fun v V V' _ hR h => h.rx hR)
    · intro ρ V hC hr hD
      obtain ⟨hrc, hrg, hrf, hrs⟩ := hr
      simp [go_sem] at hD
      go_simp
      have hh := f9_any B1 ⟨freshN (b.weighs.map (·.number)) 1, p, ⟨r, s⟩⟩ _ _ V (SB1.out.t.ext hC) (SB1.out.d.ext hC) (SB1.out.w.ext hC)
      refine Calls.mono hh ?_
      intro e w' hq
      obtain ⟨v, he, tv⟩ := hq.1
      rw [HM2.out] at he
      rw [← HB1.out] at tv
      exact ⟨_, he, ⟨hC.trans hq.2, RX.ext hq.2⟩, _, rfl, tv.mono hC.size⟩
    simp only [List.nil_append, List.cons_append]
    apply tameW_v rfl (PutF y w5.heap.size) (fun v V V' _ hR h => h.rx hR)
    · intro ρ V hC hr hD
      obtain ⟨hrc, hrg, hrf, hrs⟩ := hr
      simp [go_sem] at hD
      go_simp
      exact ⟨hC, RX.refl _⟩
    simp only [List.nil_append, List.cons_append]
    apply tameW_v rfl (fun v V => TwinV y w5.heap.size v V) (fun v V V' _ hR h => h.rx hR)
    · intro ρ V hC hr hD
      obtain ⟨hrc, hrg, hrf, hrs⟩ := hr
      simp [go_sem] at hD
      obtain ⟨u, e, tv⟩ := hD
      go_simp
      exact ⟨hC, RX.refl _⟩
    simp only [List.nil_append, List.cons_append]
    apply tameW_q rfl
    · intro ρ V hC hr hD
      obtain ⟨hrc, hrg, hrf, hrs⟩ := hr
      simp [go_sem] at hD
      have hP : PutF y w5.heap.size (ρ (.tmp 101)) V := by first | exact hD | exact hD.1 | exact hD.2 | exact hD.2.1
      obtain ⟨u, e, tv⟩ := hP
      go_simp
      exact ⟨⟨hC, RX.refl _⟩, rfl⟩
    simp only [List.nil_append, List.cons_append]
    apply tameW_v rfl (BoxW w5.heap.size) (fun v V V' _ hR h => h.rx hR)
    · intro ρ V hC hr hD
      obtain ⟨hrc, hrg, hrf, hrs⟩ := hr
      simp [go_sem] at hD
      go_simp
      exact ⟨⟨hC.alloc _, RX.ext (Ext.al _ _)⟩, _, rfl, hC.size, _, _, _, _, _, _, Blk.new _ _ _⟩
    simp only [List.nil_append, List.cons_append]
    apply tameW_s rfl rfl (FilV y w5.heap.size) (fun v V V' _ hR h => h.rx hR)
    · intro ρ V hC hr hD
      obtain ⟨hrc, hrg, hrf, hrs⟩ := hr
      simp [go_sem] at hD
      have hX : BoxW w5.heap.size (ρ (.tmp 24)) V := by first | exact hD.1 | exact hD.2.1 | exact hD.2.2.1 | exact hD
      have hP : TwinV y w5.heap.size (ρ (.tmp 116)) V := by first | exact hD.1 | exact hD.2.1 | exact hD.2.2.1 | exact hD
      clear hD
      obtain ⟨q, e21, hq, y0, y1, y2, y3, y4, y5, hB⟩ := hX
      obtain ⟨dvA, wvA, e96, o1, o2⟩ := hP
      obtain ⟨Ad, nd, cd, rfl, -, -, -⟩ := (show SlD V dvA y.draws from o1.sl (fun _ => rfl)).form
      obtain ⟨Aw, nw, cw, rfl, -, -, -⟩ := (show SlW V wvA y.weighs from o2.sl (fun _ => rfl)).form
      have x0 := hB.cell 0
      have x1' := hB.cell 1
      have x2' := hB.cell 2
      have x3' := hB.cell 3
      have x4' := hB.cell 4
      have x5' := hB.cell 5
      have xf := hB.frozen
      have xl := hB.lt
      simp at x0 x1' x2' x3' x4' x5'
      have HST := Lib.hid (box_store hB hq hC o1 o2)
      dsimp only [valB] at e96
      clear hB o1 o2 hC hq
      go_simp
      exact HST.out
    simp only [List.nil_append, List.cons_append]
    repeat (apply tameW_q rfl; (intro ρ W hC hr hD; (obtain ⟨hrc, hrg, hrf, hrs⟩ := hr); (simp [go_sem] at hD); go_simp; first | exact ⟨⟨hC, RX.refl _⟩, rfl⟩ | exact rfl); simp only [List.nil_append, List.cons_append])
    -- CUT 9
    refine tameW_end _ rfl rfl rfl (fun ρ w6 hC hr hF => ?_)
    simp [go_sem] at hF
    obtain ⟨f1, f2, f3, f4, f5, f6, f7, f8, f9, f10, f11, f12, f13, -, -, -, f97, -, hst, f22⟩ := hF
    simp only [putF, f1, f2, f3, f4, f5, f6, f7, f8, f9, f10, f11, f12, f13, f97, f22, List.set_cons_succ, List.set_cons_zero]
    generalize ρ (Operand.tmp 115) = v115
    generalize ρ (Operand.tmp 101) = v101
    generalize ρ (Operand.tmp 116) = v116
    obtain ⟨q2, e21, hq, dvA, wvA, hB, o1, o2⟩ := hst
    rw [e21]
    obtain ⟨A5, n5, c5, rfl, -, -, -⟩ := (show SlD w6 dvA y.draws from o1.sl (fun _ => rfl)).form
    obtain ⟨A6, n6, c6, rfl, -, -, -⟩ := (show SlW w6 wvA y.weighs from o2.sl (fun _ => rfl)).form
    have SY := Lib.hid (show SB y w5 q2 (.slice A5 n5 c5) (.slice A6 n6 c6) w6 from ⟨hC, hB, SB1.out.t.ext hC, o1.sl (fun _ => rfl), o2.sl (fun _ => rfl)⟩)
    have S6 := Lib.hid (S5.out.ext hC)
    clear hB hq f1 f2 f3 f4 f5 f6 f7 f8 f9 f10 f11 f12 f13 f97 f22 e21 o1 o2 hr hC c0 c1 c2 c3' c4' c5' r1 u1 u2 u3 u4 u5
    -- CUT 10
    clear r8
    obtain ⟨y0, y1, y2, y3, y4, y5, yl⟩ := SY.out.cells
    go_wp2_with fail
    clear y0 y1 y2 y3 y4 y5 yl
    refine (can_any y _ _ _ SY.out.t SY.out.d SY.out.w).mono ?_
    rintro e w8 ⟨rfl, hE⟩
    have S7 := Lib.hid (S6.out.ext hE)
    have Y7 := Lib.hid (SY.out.ext hE)
    clear hE S6 SY
    rw [HM3.out, Bool.true_and, show errB true 30 = 0 from rfl]
    cases hoy : okB y with
    | false =>
      go_wp2
      go_ret
      exact ⟨rfl, S7.out.e⟩
    | true =>
      dsimp only
      repeat (first | exact moreT_any HV.out HO.out HM3.out hoy HM4.out HX.out.2.2.2.2.2.2 S7.out Y7.out | go_values | go_skip | go_guarded | go_step | go_upon | go_back)
end Go.Proofs.YtfhmfbhpehldpaaGreatDoor
