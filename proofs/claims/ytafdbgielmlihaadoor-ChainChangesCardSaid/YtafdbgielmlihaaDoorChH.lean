/- The reference's with and Put. -/
import Derived.Test.YtafdbgielmlihaaDoorChG
import Derived.Test.YtafdbgielmlihaaDoorAppG
namespace Go.Proofs.YtafdbgielmlihaaDoor
open Go.RowKit Go.Shelf Go.Lib
set_option maxRecDepth 100000
set_option linter.unusedSimpArgs false

theorem posL_step {l : List Sale} {q : Nat} {y : Sale} {n : Int} (h : l[q]? = some y) : posL (l.drop q) n = if y.number < n then 1 + posL (l.drop (q + 1)) n else 0 := by
  rw [drop_at h]
  unfold posL
  rw [List.takeWhile_cons]
  by_cases hy : y.number < n
  · simp [hy]; omega
  · simp [hy]

set_option maxHeartbeats 4000000 in
theorem refWith_any (c : Chn) (x : Sale) (hv sv : Value) (w : World) (hh : SlI w hv c.houses) (hs : SlL w sv c.sales) (hlh : c.houses.length ≤ 1000) (hls : c.sales.length ≤ 900) :
    Calls Tryd.prog 101 #[valC hv sv, valL x] w fun e w' => (∃ v, e = .returned v ∧ TwinC (withC c x) w.heap.size v w') ∧ Ext w w' := by
  have HH := Lib.hid hh; have HS := Lib.hid hs; have HL := Lib.hid hls; have HLH := Lib.hid hlh
  obtain ⟨A, n, cp, rfl, hn, hlc, hcm⟩ := hh.form
  obtain ⟨A2, n2, cp2, rfl, hn2, hlc2, hcm2⟩ := hs.form
  clear hh hs hlh hls
  dsimp only [valL]
  go_enter Tryd.func101, Tryd.ntmps101
  go_wp2
  generalize hw3 : ((w.alloc (.cells #[.slice A n cp, .slice A2 n2 cp2] 25)).alloc (.cells #[.int .i64 x.number, .int .i64 x.seller, .int .i64 x.buyer, .int .i64 x.bales, .int .i64 x.price] 68)).alloc (.cells #[.slice none 0 0, .slice none 0 0] 25) = w4
  have HE4 := Lib.hid (show Ext w w4 from hw3 ▸ ((Ext.al _ _).alloc _).alloc _)
  have HZ4 := Lib.hid (show w.heap.size + 3 ≤ w4.heap.size by rw [← hw3]; simp)
  have HC0 := Lib.hid (show Blk w4 w.heap.size 25 #[.slice A n cp, .slice A2 n2 cp2] from hw3 ▸ ((Blk.new _ _ _).alloc _).alloc _)
  have HC1 := Lib.hid (show Blk w4 (w.heap.size + 1) 68 #[.int .i64 x.number, .int .i64 x.seller, .int .i64 x.buyer, .int .i64 x.bales, .int .i64 x.price] from hw3 ▸ (Blk.at_ (by simp)).alloc _)
  have HC2 := Lib.hid (show Blk w4 (w.heap.size + 1 + 1) 25 #[.slice none 0 0, .slice none 0 0] from hw3 ▸ Blk.at_ (by simp))
  clear hw3
  go_loopg [5] n2 (fun gg s5 wr => ∃ q : Nat, q ≤ n2 ∧ n2 - q ≤ gg ∧ s5 = .int .i64 (q : Int) ∧ Aside (posL c.sales x.number = q + posL (c.sales.drop q) x.number) ∧ Aside (Ext w4 wr))
  case atStart => exact ⟨0, by omega, by omega, rfl, (by show posL c.sales x.number = 0 + posL (c.sales.drop 0) x.number; simp), Ext.refl _⟩
  case round =>
    obtain ⟨q, hqn, hgq, rfl, AT, EX⟩ := hrel
    have HD0 := Lib.hid (HC0.out.ext EX.out); have HD1 := Lib.hid (HC1.out.ext EX.out)
    have m4 := fun W (h : Ext wr W) => (HD0.out.ext h).c2.2.1
    have e0 := fun W (h : Ext wr W) => (HD1.out.ext h).c5.1
    by_cases hlt : q < n2
    · have hlz : (q : Int) < (n2 : Int) := by omega
      obtain ⟨bb, off, y, rfl, hy, -, hyc⟩ := HS.out.at_ hlt
      have y0 := fun W (h : Ext wr W) => (SlL.cells hyc ((HE4.out.trans EX.out).trans h)).1
      have HST := Lib.hid (posL_step (n := x.number) hy)
      clear hyc hy
      by_cases hxy : y.number < x.number
      · have HAT := Lib.hid (show posL c.sales x.number = (q + 1) + posL (c.sales.drop (q + 1)) x.number by have h1 := HST.out; rw [if_pos hxy] at h1; have := AT.out; omega)
        go_wp2
        refine wp_region_tame (fun W => Ext wr W) (fun W W' => Ext W W') (by kernel_rfl) 43 rfl (by decide +kernel) (Ext.refl _).drew ?_
        repeat (apply tame_q rfl; (intro ρ W hC hr hD; (obtain ⟨hrc, hrg, hrf, hrs⟩ := hr); (simp [go_sem] at hD); go_simp; first | exact ⟨⟨hC, Ext.refl _⟩, rfl⟩ | exact ⟨⟨hC, RS.refl _⟩, rfl⟩ | exact rfl); simp only [List.nil_append, List.cons_append])
        refine tame_end 43 rfl rfl (fun ρ W hC hr hF => ?_)
        obtain ⟨hrc, hrg, hrf, hrs⟩ := hr
        simp [go_sem] at hF
        apply frame_to
        · go_simp
          exact rfl
        have HEX := Lib.hid (EX.out.trans hC)
        clear hF hrs hrc hrg hrf hC m4 e0 y0
        go_wp2
        go_roundg (n2 - (q + 1))
        case measure => omega
        case rel => exact ⟨q + 1, by omega, by omega, by simp, HAT.out, HEX.out⟩
      · have HAT := Lib.hid (show q = posL c.sales x.number by have h1 := HST.out; rw [if_neg hxy] at h1; have := AT.out; omega)
        have hxd : decide (y.number < x.number) = false := by simpa using hxy
        go_wp2
        refine wp_region_tame (fun W => Ext wr W) (fun W W' => Ext W W') (by kernel_rfl) 43 rfl (by decide +kernel) (Ext.refl _).drew ?_
        repeat (apply tame_q rfl; (intro ρ W hC hr hD; (obtain ⟨hrc, hrg, hrf, hrs⟩ := hr); (simp [go_sem] at hD); go_simp; first | exact ⟨⟨hC, Ext.refl _⟩, rfl⟩ | exact ⟨⟨hC, RS.refl _⟩, rfl⟩ | exact rfl); simp only [List.nil_append, List.cons_append])
        refine tame_end 43 rfl rfl (fun ρ W hC hr hF => ?_)
        obtain ⟨hrc, hrg, hrf, hrs⟩ := hr
        simp [go_sem] at hF
        apply frame_to
        · go_simp
          exact rfl
        have HEX := Lib.hid (EX.out.trans hC)
        clear hF hrs hrc hrg hrf hC m4 e0 y0 hxd hxy
        clear HST HD0 HD1 AT EX
        have HEW := Lib.hid (HE4.out.trans HEX.out)
        have HG0 := Lib.hid (HC0.out.ext HEX.out); have HG1 := Lib.hid (HC1.out.ext HEX.out); have HG2 := Lib.hid (HC2.out.ext HEX.out)
        have x0 := HG0.out.c2
        go_wp2_with fail
        refine (twin_any c _ _ _ (HH.out.ext HEW.out) (HS.out.ext HEW.out) HLH.out (by have := HL.out; omega)).mono ?_
        rintro e w5 ⟨⟨v, rfl, dv, wv, rfl, o1, o2⟩, hE5⟩
        obtain ⟨Ad, nd, cd, rfl, -, -, -⟩ := (show SlI w5 dv c.houses from o1.sl (fun _ => rfl)).form
        obtain ⟨Aw, nw, cw, rfl, -, -, -⟩ := (show SlL w5 wv c.sales from o2.sl (fun _ => rfl)).form
        have O1 := Lib.hid o1; have HE5 := Lib.hid (HEW.out.trans hE5)
        have HH0 := Lib.hid (HG0.out.ext hE5); have HH1 := Lib.hid (HG1.out.ext hE5); have HH2 := Lib.hid (HG2.out.ext hE5)
        have HSW := Lib.hid (show w.heap.size + 3 ≤ W.heap.size ∧ W.heap.size ≤ w5.heap.size by have := hE5.size; have := HEX.out.size; have := HZ4.out; omega)
        clear o1 o2 hE5 HG0 HG1 HG2 x0
        have x0 := HH0.out.c2
        dsimp only [valC]
        go_wp2_with fail
        generalize hw6 : w5.alloc (.cells #[.slice Ad nd cd, .slice Aw nw cw] 25) = w6
        have HE6 := Lib.hid (show Ext w w6 from hw6 ▸ (HE5.out.alloc _))
        have HK0 := Lib.hid (hw6 ▸ HH0.out.alloc (.cells #[.slice Ad nd cd, .slice Aw nw cw] 25))
        have HK1 := Lib.hid (show Blk w6 (w.heap.size + 1) 68 #[.int .i64 x.number, .int .i64 x.seller, .int .i64 x.buyer, .int .i64 x.bales, .int .i64 x.price] from hw6 ▸ HH1.out.alloc _)
        have HK2 := Lib.hid (show Blk w6 (w.heap.size + 1 + 1) 25 #[.slice none 0 0, .slice none 0 0] from hw6 ▸ HH2.out.alloc _)
        have HK7 := Lib.hid (show Blk w6 w5.heap.size 25 #[.slice Ad nd cd, .slice Aw nw cw] from hw6 ▸ Blk.new _ _ _)
        have P1 := Lib.hid (show Own encI 3 1 w6 W.heap.size (.slice Ad nd cd) c.houses from hw6 ▸ O1.out.alloc _)
        have HS6 := Lib.hid (show w.heap.size + 3 ≤ W.heap.size ∧ W.heap.size ≤ w5.heap.size ∧ w6.heap.size = w5.heap.size + 1 by have := HSW.out; rw [← hw6]; simp; omega)
        have HSL6 := Lib.hid (HS.out.ext HE6.out)
        have HTL := Lib.hid (show (c.sales.take q).length = q by have := hn2.out; simp; omega)
        have HFL := Lib.hid (show (c.sales.take q ++ [x] ++ c.sales.drop q).length ≤ 1000 by have := HL.out; simp; omega)
        clear hw6 x0 HH0 HH1 HH2 O1 HSW
        have m4 := fun V (h : Ext w6 V) => (HK0.out.ext h).c2.2.1
        have d0 := fun V (h : Ext w6 V) => (HK1.out.ext h).c5.1
        have d1 := fun V (h : Ext w6 V) => (HK1.out.ext h).c5.2.1
        have d2 := fun V (h : Ext w6 V) => (HK1.out.ext h).c5.2.2.1
        have d3 := fun V (h : Ext w6 V) => (HK1.out.ext h).c5.2.2.2.1
        have d4 := fun V (h : Ext w6 V) => (HK1.out.ext h).c5.2.2.2.2.1
        have hqc : (q : Int) ≤ (cp2 : Int) := by omega
        have hqz : (0 : Int) ≤ (q : Int) := by omega
        have hqm : (q : Int) ≤ (n2 : Int) := by omega
        refine wp_region_tame_cut2 (fun V => Ext w6 V) (RF encL 5 68 w6.heap.size (c.sales.take q ++ [x] ++ c.sales.drop q) x) (by kernel_rfl) 43 rfl _ _ rfl rfl (by decide +kernel) (by decide +kernel) (by decide +kernel) (by decide +kernel) (by decide +kernel) rfl rfl (Ext.refl _).drew ?_
        simp only [List.dropLast]
        apply tame_v rfl (NewF encL 5 68 w6.heap.size ([] : List Sale)) (fun v V V' _ hR h => ⟨hR.2.1 [] List.nil_prefix v h.1, h.2⟩)
        · intro ρ V hC hr hD
          obtain ⟨hrc, hrg, hrf, hrs⟩ := hr
          simp [go_sem] at hD
          go_simp
          exact ⟨⟨hC.alloc _, RF.ext (Ext.al _ _)⟩, ⟨Own.new (Blk.new _ _ _) hC.size, _, 0, rfl, fun _ => rfl⟩⟩
        simp only [List.nil_append, List.cons_append]
        repeat (apply tame_q rfl; (intro ρ W hC hr hD; (obtain ⟨hrc, hrg, hrf, hrs⟩ := hr); (simp [go_sem] at hD); go_simp; first | exact ⟨⟨hC, RF.refl _⟩, rfl⟩ | exact rfl); simp only [List.nil_append, List.cons_append])
        apply tame_v rfl (NewF encL 5 68 w6.heap.size (c.sales.take q)) (fun v V V' _ hR h => ⟨hR.2.1 _ (by rw [List.append_assoc]; exact List.prefix_append _ _) v h.1, h.2⟩)
        · intro ρ V hC hr hD
          obtain ⟨hrc, hrg, hrf, hrs⟩ := hr
          simp [go_sem] at hD
          obtain ⟨d1, d2⟩ := hD
          have hh : SlL w6 (ρ (.tmp 31)) (c.sales.take q) := by
            rw [d2]
            exact Sl.head HSL6.out hqn
          obtain ⟨v', V', hrun, hnew, hR, hB⟩ := run_appF (t := 23) (ty := 23) (enc := encL) (sz := 5) (m := c.sales.take q) (y := x) Tryd.underlying23 info68x rfl (by decide) (by decide) (fun _ => rfl) encL_1 d1 (F := c.sales.take q ++ [x] ++ c.sales.drop q) (by rw [List.nil_append, List.append_assoc]; exact List.prefix_append _ _) HFL.out hC.size (hh.ext hC)
          show opGives _ _ _ _ _ _ _
          unfold opGives execOp
          simp only [resolve, invoke, builtin, Sem.run_bind, Sem.run_pure, Result.andThen_ok, List.map_toArray, List.map_cons, List.map_nil, hrun]
          exact ⟨⟨Below.trans hC hB, hR⟩, by rw [List.nil_append] at hnew; exact hnew⟩
        simp only [List.nil_append, List.cons_append]
        repeat (apply tame_q rfl; (intro ρ W hC hr hD; (obtain ⟨hrc, hrg, hrf, hrs⟩ := hr); (simp [go_sem] at hD); go_simp; first | exact ⟨⟨hC, RF.refl _⟩, rfl⟩ | exact rfl); simp only [List.nil_append, List.cons_append])
        apply tame_v rfl (OneF encL 68 x) (fun v V V' _ hR h => by obtain ⟨g, h1, h2⟩ := h; exact ⟨g, h1, hR.2.2.1 g h2⟩)
        · intro ρ V hC hr hD
          obtain ⟨hrc, hrg, hrf, hrs⟩ := hr
          simp [go_sem] at hD
          go_simp
          exact ⟨⟨hC.alloc _, RF.ext (Ext.al _ _)⟩, ⟨_, rfl, Blk.new _ _ _⟩⟩
        simp only [List.nil_append, List.cons_append]
        apply tame_v rfl (NewF encL 5 68 w6.heap.size (c.sales.take q ++ [x])) (fun v V V' _ hR h => ⟨hR.2.1 _ (List.prefix_append _ _) v h.1, h.2⟩)
        · intro ρ V hC hr hD
          obtain ⟨hrc, hrg, hrf, hrs⟩ := hr
          simp [go_sem] at hD
          obtain ⟨d1, ⟨g, d2, d3⟩, -⟩ := hD
          obtain ⟨v', V', hrun, hnew, hR, hB⟩ := run_appF (t := 23) (ty := 23) (enc := encL) (sz := 5) (m := [x]) (y := x) Tryd.underlying23 info68x rfl (by decide) (by decide) (fun _ => rfl) encL_1 d1 (F := c.sales.take q ++ [x] ++ c.sales.drop q) (List.prefix_append _ _) HFL.out hC.size (Sl.single (c := 1) d3 (Nat.le_refl _) (by decide))
          rw [← d2] at hrun
          show opGives _ _ _ _ _ _ _
          unfold opGives execOp
          simp only [resolve, invoke, builtin, Sem.run_bind, Sem.run_pure, Result.andThen_ok, List.map_toArray, List.map_cons, List.map_nil, hrun]
          exact ⟨⟨Below.trans hC hB, hR⟩, hnew⟩
        simp only [List.nil_append, List.cons_append]
        repeat (apply tame_q rfl; (intro ρ W hC hr hD; (obtain ⟨hrc, hrg, hrf, hrs⟩ := hr); (simp [go_sem] at hD); go_simp; first | exact ⟨⟨hC, RF.refl _⟩, rfl⟩ | exact rfl); simp only [List.nil_append, List.cons_append])
        apply tame_v rfl (NewF encL 5 68 w6.heap.size (c.sales.take q ++ [x] ++ c.sales.drop q)) (fun v V V' _ hR h => ⟨hR.2.1 _ (List.prefix_refl _) v h.1, h.2⟩)
        · intro ρ V hC hr hD
          obtain ⟨hrc, hrg, hrf, hrs⟩ := hr
          simp [go_sem] at hD
          obtain ⟨d1, d2, -⟩ := hD
          have hh : SlL w6 (ρ (.tmp 39)) (c.sales.drop q) := by
            rw [d2]
            have hh := Sl.tail HSL6.out hqn
            simpa [sliced, Addr.add_lit] using hh
          obtain ⟨v', V', hrun, hnew, hR, hB⟩ := run_appF (t := 23) (ty := 23) (enc := encL) (sz := 5) (m := c.sales.drop q) (y := x) Tryd.underlying23 info68x rfl (by decide) (by decide) (fun _ => rfl) encL_1 d1 (F := c.sales.take q ++ [x] ++ c.sales.drop q) (List.prefix_refl _) HFL.out hC.size (hh.ext hC)
          show opGives _ _ _ _ _ _ _
          unfold opGives execOp
          simp only [resolve, invoke, builtin, Sem.run_bind, Sem.run_pure, Result.andThen_ok, List.map_toArray, List.map_cons, List.map_nil, hrun]
          exact ⟨⟨Below.trans hC hB, hR⟩, hnew⟩
        simp only [List.nil_append, List.cons_append]
        refine tame_end 43 rfl rfl (fun ρ V hC hr hF => ?_)
        obtain ⟨hrc, hrg, hrf, hrs⟩ := hr
        simp [go_sem] at hF
        obtain ⟨f37, f38, f39, f40, f41, f42, f43, f44, f45, f46, f47, f48, f49, f50o, Af, cf, f50, -⟩ := hF
        rw [f50] at f50o
        have hln : (c.sales.take q ++ x :: c.sales.drop q).length = n2 + 1 := by have := hn2.out; simp; omega
        rw [hln] at f50 f50o
        have HFI := Lib.hid (show c.sales.take q ++ x :: c.sales.drop q = (withC c x).sales by unfold withC; rw [← HAT.out])
        rw [HFI.out] at f50o
        have HO := Lib.hid f50o
        have HEV := Lib.hid hC
        clear f37 f42 f44 f45 f49 f50o hln HTL HFL HSL6 m4 d0 d1 d2 d3 d4
        generalize ρ (Operand.tmp 27) = v37 at *
        generalize ρ (Operand.tmp 32) = v42 at *
        generalize ρ (Operand.tmp 34) = v44 at *
        generalize ρ (Operand.tmp 35) = v45 at *
        apply frame_to
        · go_simp
          exact rfl
        clear f38 f39 f40 f41 f43 f46 f47 f48 f50 hrc hrg hrf hrs hC
        have HL7 := Lib.hid (HK7.out.ext HEV.out)
        have x0 := HL7.out.c2
        have HK2V := Lib.hid (HK2.out.ext HEV.out)
        have t0 := HK2V.out.c2
        have hs6 := HS6.out
        have hne1 : ¬ w5.heap.size = w.heap.size + 1 + 1 := by omega
        have hne2 : ¬ w.heap.size + 1 + 1 = w5.heap.size := by omega
        go_wp2
        generalize hw7 : V.setCell ⟨w5.heap.size, 1, none⟩ _ = w7
        have HG7 : V.grownBy w7 (some w5.heap.size) := hw7 ▸ grown_set (World.grownBy.refl _ _) (p := ⟨w5.heap.size, 1, none⟩) (.inl rfl) _
        have R1 := Lib.hid (show Own encI 3 1 w7 W.heap.size (.slice Ad nd cd) c.houses from own_off (P1.out.ext HEV.out) HL7.out (by decide) HG7)
        have R2 := Lib.hid (show Own encL 68 5 w7 w6.heap.size (.slice Af (n2 + 1) cf) (withC c x).sales from own_off HO.out HL7.out (by decide) HG7)
        have HT7 := Lib.hid (HK2V.out.grown HG7 (by intro e; injection e with e; omega))
        have E7 := Lib.hid (show Ext w w7 from ext_grown (HE6.out.trans HEV.out) HG7 (by omega))
        refine ret_set2 HT7.out fun W' ⟨b0, b1⟩ hW => ?_
        refine bodyPost_ret (v := valC (.slice Ad nd cd) (.slice Af (n2 + 1) cf)) (by simp [results, Tryd.results101, go_sem, b0, b1]) rfl ?_
        exact ⟨⟨_, rfl, ⟨_, _, rfl, own_mono (own_kept R1.out hW (by omega)) (by omega), own_mono (own_kept R2.out hW (by omega)) (by omega)⟩⟩, ext_grownP E7.out hW (by omega)⟩
    · have hlz : ¬ (q : Int) < (n2 : Int) := by omega
      have HAT := Lib.hid (show q = posL c.sales x.number by
        have := AT.out
        rw [List.drop_eq_nil_of_le (by have := hn2.out; omega)] at this
        simpa [posL] using this.symm)
      go_wp2
      refine wp_region_tame (fun W => Ext wr W) (fun W W' => Ext W W') (by kernel_rfl) 43 rfl (by decide +kernel) (Ext.refl _).drew ?_
      repeat (apply tame_q rfl; (intro ρ W hC hr hD; (obtain ⟨hrc, hrg, hrf, hrs⟩ := hr); (simp [go_sem] at hD); go_simp; first | exact ⟨⟨hC, Ext.refl _⟩, rfl⟩ | exact ⟨⟨hC, RS.refl _⟩, rfl⟩ | exact rfl); simp only [List.nil_append, List.cons_append])
      refine tame_end 43 rfl rfl (fun ρ W hC hr hF => ?_)
      obtain ⟨hrc, hrg, hrf, hrs⟩ := hr
      simp [go_sem] at hF
      apply frame_to
      · go_simp
        exact rfl
      have HEX := Lib.hid (EX.out.trans hC)
      clear hF hrs hrc hrg hrf hC m4 e0
      clear HD0 HD1 AT EX
      have HEW := Lib.hid (HE4.out.trans HEX.out)
      have HG0 := Lib.hid (HC0.out.ext HEX.out); have HG1 := Lib.hid (HC1.out.ext HEX.out); have HG2 := Lib.hid (HC2.out.ext HEX.out)
      have x0 := HG0.out.c2
      go_wp2_with fail
      refine (twin_any c _ _ _ (HH.out.ext HEW.out) (HS.out.ext HEW.out) HLH.out (by have := HL.out; omega)).mono ?_
      rintro e w5 ⟨⟨v, rfl, dv, wv, rfl, o1, o2⟩, hE5⟩
      obtain ⟨Ad, nd, cd, rfl, -, -, -⟩ := (show SlI w5 dv c.houses from o1.sl (fun _ => rfl)).form
      obtain ⟨Aw, nw, cw, rfl, -, -, -⟩ := (show SlL w5 wv c.sales from o2.sl (fun _ => rfl)).form
      have O1 := Lib.hid o1; have HE5 := Lib.hid (HEW.out.trans hE5)
      have HH0 := Lib.hid (HG0.out.ext hE5); have HH1 := Lib.hid (HG1.out.ext hE5); have HH2 := Lib.hid (HG2.out.ext hE5)
      have HSW := Lib.hid (show w.heap.size + 3 ≤ W.heap.size ∧ W.heap.size ≤ w5.heap.size by have := hE5.size; have := HEX.out.size; have := HZ4.out; omega)
      clear o1 o2 hE5 HG0 HG1 HG2 x0
      have x0 := HH0.out.c2
      dsimp only [valC]
      go_wp2_with fail
      generalize hw6 : w5.alloc (.cells #[.slice Ad nd cd, .slice Aw nw cw] 25) = w6
      have HE6 := Lib.hid (show Ext w w6 from hw6 ▸ (HE5.out.alloc _))
      have HK0 := Lib.hid (hw6 ▸ HH0.out.alloc (.cells #[.slice Ad nd cd, .slice Aw nw cw] 25))
      have HK1 := Lib.hid (show Blk w6 (w.heap.size + 1) 68 #[.int .i64 x.number, .int .i64 x.seller, .int .i64 x.buyer, .int .i64 x.bales, .int .i64 x.price] from hw6 ▸ HH1.out.alloc _)
      have HK2 := Lib.hid (show Blk w6 (w.heap.size + 1 + 1) 25 #[.slice none 0 0, .slice none 0 0] from hw6 ▸ HH2.out.alloc _)
      have HK7 := Lib.hid (show Blk w6 w5.heap.size 25 #[.slice Ad nd cd, .slice Aw nw cw] from hw6 ▸ Blk.new _ _ _)
      have P1 := Lib.hid (show Own encI 3 1 w6 W.heap.size (.slice Ad nd cd) c.houses from hw6 ▸ O1.out.alloc _)
      have HS6 := Lib.hid (show w.heap.size + 3 ≤ W.heap.size ∧ W.heap.size ≤ w5.heap.size ∧ w6.heap.size = w5.heap.size + 1 by have := HSW.out; rw [← hw6]; simp; omega)
      have HSL6 := Lib.hid (HS.out.ext HE6.out)
      have HTL := Lib.hid (show (c.sales.take q).length = q by have := hn2.out; simp; omega)
      have HFL := Lib.hid (show (c.sales.take q ++ [x] ++ c.sales.drop q).length ≤ 1000 by have := HL.out; simp; omega)
      clear hw6 x0 HH0 HH1 HH2 O1 HSW
      have m4 := fun V (h : Ext w6 V) => (HK0.out.ext h).c2.2.1
      have d0 := fun V (h : Ext w6 V) => (HK1.out.ext h).c5.1
      have d1 := fun V (h : Ext w6 V) => (HK1.out.ext h).c5.2.1
      have d2 := fun V (h : Ext w6 V) => (HK1.out.ext h).c5.2.2.1
      have d3 := fun V (h : Ext w6 V) => (HK1.out.ext h).c5.2.2.2.1
      have d4 := fun V (h : Ext w6 V) => (HK1.out.ext h).c5.2.2.2.2.1
      have hqc : (q : Int) ≤ (cp2 : Int) := by omega
      have hqz : (0 : Int) ≤ (q : Int) := by omega
      have hqm : (q : Int) ≤ (n2 : Int) := by omega
      refine wp_region_tame_cut2 (fun V => Ext w6 V) (RF encL 5 68 w6.heap.size (c.sales.take q ++ [x] ++ c.sales.drop q) x) (by kernel_rfl) 43 rfl _ _ rfl rfl (by decide +kernel) (by decide +kernel) (by decide +kernel) (by decide +kernel) (by decide +kernel) rfl rfl (Ext.refl _).drew ?_
      simp only [List.dropLast]
      apply tame_v rfl (NewF encL 5 68 w6.heap.size ([] : List Sale)) (fun v V V' _ hR h => ⟨hR.2.1 [] List.nil_prefix v h.1, h.2⟩)
      · intro ρ V hC hr hD
        obtain ⟨hrc, hrg, hrf, hrs⟩ := hr
        simp [go_sem] at hD
        go_simp
        exact ⟨⟨hC.alloc _, RF.ext (Ext.al _ _)⟩, ⟨Own.new (Blk.new _ _ _) hC.size, _, 0, rfl, fun _ => rfl⟩⟩
      simp only [List.nil_append, List.cons_append]
      repeat (apply tame_q rfl; (intro ρ W hC hr hD; (obtain ⟨hrc, hrg, hrf, hrs⟩ := hr); (simp [go_sem] at hD); go_simp; first | exact ⟨⟨hC, RF.refl _⟩, rfl⟩ | exact rfl); simp only [List.nil_append, List.cons_append])
      apply tame_v rfl (NewF encL 5 68 w6.heap.size (c.sales.take q)) (fun v V V' _ hR h => ⟨hR.2.1 _ (by rw [List.append_assoc]; exact List.prefix_append _ _) v h.1, h.2⟩)
      · intro ρ V hC hr hD
        obtain ⟨hrc, hrg, hrf, hrs⟩ := hr
        simp [go_sem] at hD
        obtain ⟨d1, d2⟩ := hD
        have hh : SlL w6 (ρ (.tmp 31)) (c.sales.take q) := by
          rw [d2]
          exact Sl.head HSL6.out hqn
        obtain ⟨v', V', hrun, hnew, hR, hB⟩ := run_appF (t := 23) (ty := 23) (enc := encL) (sz := 5) (m := c.sales.take q) (y := x) Tryd.underlying23 info68x rfl (by decide) (by decide) (fun _ => rfl) encL_1 d1 (F := c.sales.take q ++ [x] ++ c.sales.drop q) (by rw [List.nil_append, List.append_assoc]; exact List.prefix_append _ _) HFL.out hC.size (hh.ext hC)
        show opGives _ _ _ _ _ _ _
        unfold opGives execOp
        simp only [resolve, invoke, builtin, Sem.run_bind, Sem.run_pure, Result.andThen_ok, List.map_toArray, List.map_cons, List.map_nil, hrun]
        exact ⟨⟨Below.trans hC hB, hR⟩, by rw [List.nil_append] at hnew; exact hnew⟩
      simp only [List.nil_append, List.cons_append]
      repeat (apply tame_q rfl; (intro ρ W hC hr hD; (obtain ⟨hrc, hrg, hrf, hrs⟩ := hr); (simp [go_sem] at hD); go_simp; first | exact ⟨⟨hC, RF.refl _⟩, rfl⟩ | exact rfl); simp only [List.nil_append, List.cons_append])
      apply tame_v rfl (OneF encL 68 x) (fun v V V' _ hR h => by obtain ⟨g, h1, h2⟩ := h; exact ⟨g, h1, hR.2.2.1 g h2⟩)
      · intro ρ V hC hr hD
        obtain ⟨hrc, hrg, hrf, hrs⟩ := hr
        simp [go_sem] at hD
        go_simp
        exact ⟨⟨hC.alloc _, RF.ext (Ext.al _ _)⟩, ⟨_, rfl, Blk.new _ _ _⟩⟩
      simp only [List.nil_append, List.cons_append]
      apply tame_v rfl (NewF encL 5 68 w6.heap.size (c.sales.take q ++ [x])) (fun v V V' _ hR h => ⟨hR.2.1 _ (List.prefix_append _ _) v h.1, h.2⟩)
      · intro ρ V hC hr hD
        obtain ⟨hrc, hrg, hrf, hrs⟩ := hr
        simp [go_sem] at hD
        obtain ⟨d1, ⟨g, d2, d3⟩, -⟩ := hD
        obtain ⟨v', V', hrun, hnew, hR, hB⟩ := run_appF (t := 23) (ty := 23) (enc := encL) (sz := 5) (m := [x]) (y := x) Tryd.underlying23 info68x rfl (by decide) (by decide) (fun _ => rfl) encL_1 d1 (F := c.sales.take q ++ [x] ++ c.sales.drop q) (List.prefix_append _ _) HFL.out hC.size (Sl.single (c := 1) d3 (Nat.le_refl _) (by decide))
        rw [← d2] at hrun
        show opGives _ _ _ _ _ _ _
        unfold opGives execOp
        simp only [resolve, invoke, builtin, Sem.run_bind, Sem.run_pure, Result.andThen_ok, List.map_toArray, List.map_cons, List.map_nil, hrun]
        exact ⟨⟨Below.trans hC hB, hR⟩, hnew⟩
      simp only [List.nil_append, List.cons_append]
      repeat (apply tame_q rfl; (intro ρ W hC hr hD; (obtain ⟨hrc, hrg, hrf, hrs⟩ := hr); (simp [go_sem] at hD); go_simp; first | exact ⟨⟨hC, RF.refl _⟩, rfl⟩ | exact rfl); simp only [List.nil_append, List.cons_append])
      apply tame_v rfl (NewF encL 5 68 w6.heap.size (c.sales.take q ++ [x] ++ c.sales.drop q)) (fun v V V' _ hR h => ⟨hR.2.1 _ (List.prefix_refl _) v h.1, h.2⟩)
      · intro ρ V hC hr hD
        obtain ⟨hrc, hrg, hrf, hrs⟩ := hr
        simp [go_sem] at hD
        obtain ⟨d1, d2, -⟩ := hD
        have hh : SlL w6 (ρ (.tmp 39)) (c.sales.drop q) := by
          rw [d2]
          have hh := Sl.tail HSL6.out hqn
          simpa [sliced, Addr.add_lit] using hh
        obtain ⟨v', V', hrun, hnew, hR, hB⟩ := run_appF (t := 23) (ty := 23) (enc := encL) (sz := 5) (m := c.sales.drop q) (y := x) Tryd.underlying23 info68x rfl (by decide) (by decide) (fun _ => rfl) encL_1 d1 (F := c.sales.take q ++ [x] ++ c.sales.drop q) (List.prefix_refl _) HFL.out hC.size (hh.ext hC)
        show opGives _ _ _ _ _ _ _
        unfold opGives execOp
        simp only [resolve, invoke, builtin, Sem.run_bind, Sem.run_pure, Result.andThen_ok, List.map_toArray, List.map_cons, List.map_nil, hrun]
        exact ⟨⟨Below.trans hC hB, hR⟩, hnew⟩
      simp only [List.nil_append, List.cons_append]
      refine tame_end 43 rfl rfl (fun ρ V hC hr hF => ?_)
      obtain ⟨hrc, hrg, hrf, hrs⟩ := hr
      simp [go_sem] at hF
      obtain ⟨f37, f38, f39, f40, f41, f42, f43, f44, f45, f46, f47, f48, f49, f50o, Af, cf, f50, -⟩ := hF
      rw [f50] at f50o
      have hln : (c.sales.take q ++ x :: c.sales.drop q).length = n2 + 1 := by have := hn2.out; simp; omega
      rw [hln] at f50 f50o
      have HFI := Lib.hid (show c.sales.take q ++ x :: c.sales.drop q = (withC c x).sales by unfold withC; rw [← HAT.out])
      rw [HFI.out] at f50o
      have HO := Lib.hid f50o
      have HEV := Lib.hid hC
      clear f37 f42 f44 f45 f49 f50o hln HTL HFL HSL6 m4 d0 d1 d2 d3 d4
      generalize ρ (Operand.tmp 27) = v37 at *
      generalize ρ (Operand.tmp 32) = v42 at *
      generalize ρ (Operand.tmp 34) = v44 at *
      generalize ρ (Operand.tmp 35) = v45 at *
      apply frame_to
      · go_simp
        exact rfl
      clear f38 f39 f40 f41 f43 f46 f47 f48 f50 hrc hrg hrf hrs hC
      have HL7 := Lib.hid (HK7.out.ext HEV.out)
      have x0 := HL7.out.c2
      have HK2V := Lib.hid (HK2.out.ext HEV.out)
      have t0 := HK2V.out.c2
      have hs6 := HS6.out
      have hne1 : ¬ w5.heap.size = w.heap.size + 1 + 1 := by omega
      have hne2 : ¬ w.heap.size + 1 + 1 = w5.heap.size := by omega
      go_wp2
      generalize hw7 : V.setCell ⟨w5.heap.size, 1, none⟩ _ = w7
      have HG7 : V.grownBy w7 (some w5.heap.size) := hw7 ▸ grown_set (World.grownBy.refl _ _) (p := ⟨w5.heap.size, 1, none⟩) (.inl rfl) _
      have R1 := Lib.hid (show Own encI 3 1 w7 W.heap.size (.slice Ad nd cd) c.houses from own_off (P1.out.ext HEV.out) HL7.out (by decide) HG7)
      have R2 := Lib.hid (show Own encL 68 5 w7 w6.heap.size (.slice Af (n2 + 1) cf) (withC c x).sales from own_off HO.out HL7.out (by decide) HG7)
      have HT7 := Lib.hid (HK2V.out.grown HG7 (by intro e; injection e with e; omega))
      have E7 := Lib.hid (show Ext w w7 from ext_grown (HE6.out.trans HEV.out) HG7 (by omega))
      refine ret_set2 HT7.out fun W' ⟨b0, b1⟩ hW => ?_
      refine bodyPost_ret (v := valC (.slice Ad nd cd) (.slice Af (n2 + 1) cf)) (by simp [results, Tryd.results101, go_sem, b0, b1]) rfl ?_
      exact ⟨⟨_, rfl, ⟨_, _, rfl, own_mono (own_kept R1.out hW (by omega)) (by omega), own_mono (own_kept R2.out hW (by omega)) (by omega)⟩⟩, ext_grownP E7.out hW (by omega)⟩

set_option maxHeartbeats 4000000 in
theorem refPut_any (c : Chn) (x : Sale) (hv sv : Value) (w : World) (hh : SlI w hv c.houses) (hs : SlL w sv c.sales) (hlh : c.houses.length ≤ 1000) (hls : c.sales.length ≤ 900) :
    Calls Tryd.prog 45 #[valC hv sv, valL x] w (PutP (putE c x) (putC c x) w) := by
  have HPE := Lib.hid (putE_eq c x); have HPC := Lib.hid (putC_eq c x)
  have HH := Lib.hid hh; have HS := Lib.hid hs; have HL := Lib.hid hls; have HLH := Lib.hid hlh
  obtain ⟨A, n, cp, rfl, hn, hlc, hcm⟩ := hh.form
  obtain ⟨A2, n2, cp2, rfl, hn2, hlc2, hcm2⟩ := hs.form
  clear hh hs hlh hls
  dsimp only [valL]
  go_enter Tryd.func45, Tryd.ntmps45
  go_wp2_with fail
  generalize hw3 : ((w.alloc (.cells #[.slice A n cp, .slice A2 n2 cp2] 25)).alloc (.cells #[.int .i64 x.number, .int .i64 x.seller, .int .i64 x.buyer, .int .i64 x.bales, .int .i64 x.price] 68)).alloc (.cells #[.slice none 0 0, .slice none 0 0] 25) = w3
  have HE3 := Lib.hid (show Ext w w3 from hw3 ▸ ((Ext.al _ _).alloc _).alloc _)
  have HZ3 := Lib.hid (show w3.heap.size = w.heap.size + 3 by rw [← hw3]; simp)
  have HB0 := Lib.hid (show Blk w3 w.heap.size 25 #[.slice A n cp, .slice A2 n2 cp2] from hw3 ▸ ((Blk.new _ _ _).alloc _).alloc _)
  have HB1 := Lib.hid (show Blk w3 (w.heap.size + 1) 68 #[.int .i64 x.number, .int .i64 x.seller, .int .i64 x.buyer, .int .i64 x.bales, .int .i64 x.price] from hw3 ▸ (Blk.at_ (by simp)).alloc _)
  have HB2 := Lib.hid (show Blk w3 (w.heap.size + 1 + 1) 25 #[.slice none 0 0, .slice none 0 0] from hw3 ▸ Blk.at_ (by simp))
  clear hw3
  refine (refChain_any c _ _ _ (HH.out.ext HE3.out) (HS.out.ext HE3.out)).mono ?_
  rintro e w4 ⟨rfl, hE⟩
  have HE4 := Lib.hid (HE3.out.trans hE)
  have HC0 := Lib.hid (HB0.out.ext hE); have HC1 := Lib.hid (HB1.out.ext hE); have HC2 := Lib.hid (HB2.out.ext hE)
  have HZ4 := Lib.hid (show w.heap.size + 3 ≤ w4.heap.size by have := hE.size; have := HZ3.out; omega)
  clear hE HB0 HB1 HB2 HZ3 HE3
  have t0 := HC2.out.c2
  have x0 := HC0.out.c2
  have y0 := HC1.out.c5
  cases hq : checkP c with
  | false =>
    have HQ := Lib.hid (show putE c x = 60 by unfold putE; rw [hq]; rfl)
    have HQC := Lib.hid (show putC c x = noC by unfold putC; rw [HQ.out]; rfl)
    clear hq
    go_wp2
    refine ret_set2 HC2.out fun W' ⟨b0, b1⟩ hW => ?_
    refine bodyPost_ret (v := .tuple #[.agg #[.slice none 0 0, .slice none 0 0], .int .i64 60]) (by simp [results, Tryd.results45, go_sem, b0, b1]) rfl ?_
    exact ⟨⟨_, by rw [HQ.out], by rw [HQC.out]; exact TwinC.no _ _⟩, ext_grownP HE4.out hW (by omega)⟩
  | true =>
    have HQ := Lib.hid hq; clear hq
    by_cases h10 : n2 = 10
    · have HQE := Lib.hid (show putE c x = 9 by unfold putE; rw [HQ.out, ← hn2.out, h10]; rfl)
      have HQC := Lib.hid (show putC c x = noC by unfold putC; rw [HQE.out]; rfl)
      subst h10
      go_wp2
      refine ret_set2 HC2.out fun W' ⟨b0, b1⟩ hW => ?_
      refine bodyPost_ret (v := .tuple #[.agg #[.slice none 0 0, .slice none 0 0], .int .i64 9]) (by simp [results, Tryd.results45, go_sem, b0, b1]) rfl ?_
      exact ⟨⟨_, by rw [HQE.out], by rw [HQC.out]; exact TwinC.no _ _⟩, ext_grownP HE4.out hW (by omega)⟩
    · have h10z : ¬ ((n2 : Int) = 10) := by omega
      have HH10 := Lib.hid h10
      clear h10
      go_wp2_with fail
      refine (refWith_any c x _ _ _ (HH.out.ext HE4.out) (HS.out.ext HE4.out) HLH.out HL.out).mono ?_
      rintro e w5 ⟨⟨v, rfl, dv, wv, rfl, o1, o2⟩, hE⟩
      obtain ⟨Ad, nd, cd, rfl, -, -, -⟩ := (show SlI w5 dv (withC c x).houses from o1.sl (fun _ => rfl)).form
      obtain ⟨Aw, nw, cw, rfl, -, -, -⟩ := (show SlL w5 wv (withC c x).sales from o2.sl (fun _ => rfl)).form
      have HE5 := Lib.hid (HE4.out.trans hE)
      have HD2 := Lib.hid (HC2.out.ext hE)
      have O1 := Lib.hid o1
      have O2 := Lib.hid o2
      clear o1 o2 hE HC0 HC1 HC2 x0 y0 t0
      dsimp only [valC]
      go_wp2_with fail
      generalize hw6 : w5.alloc (.cells #[.slice Ad nd cd, .slice Aw nw cw] 25) = w6
      have HK6 := Lib.hid (show Blk w6 w5.heap.size 25 #[.slice Ad nd cd, .slice Aw nw cw] from hw6 ▸ Blk.new _ _ _)
      have HK2 := Lib.hid (show Blk w6 (w.heap.size + 1 + 1) 25 #[.slice none 0 0, .slice none 0 0] from hw6 ▸ HD2.out.alloc _)
      have E6 := Lib.hid (show Ext w w6 from hw6 ▸ HE5.out.alloc _)
      have Q1 := Lib.hid (show Own encI 3 1 w6 w4.heap.size (.slice Ad nd cd) (withC c x).houses from hw6 ▸ O1.out.alloc _)
      have Q2 := Lib.hid (show Own encL 68 5 w6 w4.heap.size (.slice Aw nw cw) (withC c x).sales from hw6 ▸ O2.out.alloc _)
      clear hw6 HD2 HE5 O1 O2
      refine (refChain_any (withC c x) _ _ _ (Own.sl (fun _ => rfl) Q1.out) (Own.sl (fun _ => rfl) Q2.out)).mono ?_
      rintro e w7 ⟨rfl, hE⟩
      have HE7 := Lib.hid (E6.out.trans hE)
      have HK7 := Lib.hid (HK6.out.ext hE); have HT7 := Lib.hid (HK2.out.ext hE)
      have P1 := Lib.hid (Q1.out.ext hE); have P2 := Lib.hid (Q2.out.ext hE)
      clear hE HK6 HK2 E6 Q1 Q2
      have x0 := HK7.out.c2
      have t0 := HT7.out.c2
      have HCR := Lib.hid (show checkP (withC c x) = rightP (withC c x) by
        unfold checkP
        rw [withC_len, decide_eq_true (by have := hn2.out; have := HH10.out; have := (check_right HQ.out).2; omega), Bool.true_and])
      cases hv2 : checkP (withC c x) with
      | false =>
        have HQE := Lib.hid (show putE c x = 61 by unfold putE; rw [HQ.out, if_pos rfl, if_neg (by have := hn2.out; have := HH10.out; omega), ← HCR.out, hv2]; rfl)
        have HQC := Lib.hid (show putC c x = noC by unfold putC; rw [HQE.out]; rfl)
        clear hv2
        go_wp2
        refine ret_set2 HT7.out fun W' ⟨b0, b1⟩ hW => ?_
        refine bodyPost_ret (v := .tuple #[.agg #[.slice none 0 0, .slice none 0 0], .int .i64 61]) (by simp [results, Tryd.results45, go_sem, b0, b1]) rfl ?_
        exact ⟨⟨_, by rw [HQE.out], by rw [HQC.out]; exact TwinC.no _ _⟩, ext_grownP HE7.out hW (by omega)⟩
      | true =>
        have HQE := Lib.hid (show putE c x = 0 by unfold putE; rw [HQ.out, if_pos rfl, if_neg (by have := hn2.out; have := HH10.out; omega), ← HCR.out, hv2]; rfl)
        have HQC := Lib.hid (show putC c x = withC c x by unfold putC; rw [HQE.out]; rfl)
        clear hv2
        go_wp2
        refine ret_set2 HT7.out fun W' ⟨b0, b1⟩ hW => ?_
        refine bodyPost_ret (v := .tuple #[valC (.slice Ad nd cd) (.slice Aw nw cw), .int .i64 0]) (by simp [results, Tryd.results45, go_sem, b0, b1]) rfl ?_
        refine ⟨⟨_, by rw [HQE.out], ?_⟩, ext_grownP HE7.out hW (by omega)⟩
        rw [HQC.out]
        have hz := HZ4.out
        exact ⟨_, _, rfl, own_mono (own_kept P1.out hW (by omega)) (by omega), own_mono (own_kept P2.out hW (by omega)) (by omega)⟩
end Go.Proofs.YtafdbgielmlihaaDoor
