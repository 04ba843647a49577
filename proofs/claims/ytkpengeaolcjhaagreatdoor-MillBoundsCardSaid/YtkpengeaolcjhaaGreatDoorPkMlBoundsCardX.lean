/- The walk of the reference's look, where bales are left: the recursion. -/
import Derived.Test.YtkpengeaolcjhaaGreatDoorPkMlBoundsCardR
namespace Go.Proofs.YtkpengeaolcjhaaGreatDoor
open Go.RowKit Go.Shelf Go.Lib
set_option maxRecDepth 100000
set_option linter.unusedSimpArgs false

theorem okLot_zero (size : Int) (b : Bool) (f : List Int) : okLot size b f 0 = true := rfl
theorem okLot_no (size : Int) (f : List Int) (k : Nat) : okLot size false f (k + 1) = false := by unfold okLot; simp
theorem okLot_yes (size : Int) (f0 f1 f2 : Int) (k : Nat) : okLot size true [f0, f1, f2] (k + 1) = !decide (([f0, f1, f2] : List Int)[k]?.getD 0 = size) := by unfold okLot; simp
set_option maxHeartbeats 40000000 in
theorem look_cons {lt : Nat} {size : Int} {l : List Rc} {sv fv : Value} {g : Nat} {b : Bool} {r : List Bool} (hm : Mok (mOf lt size l)) (ih : LookC lt size l sv fv g r) : LookC lt size l sv fv g (b :: r) := by
  intro pre c0 f0 f1 f2 pv s w hlen hfit hc0 hc1 hcnt hp hml hf hfo hlk
  have hl1 : 1 ≤ lt := by have h : 1 ≤ (lt : Int) := hm.l1; omega
  have hl3 : lt ≤ 3 := by have h : (lt : Int) ≤ 3 := hm.l3; omega
  have hs4 : size ≤ 4 := hm.s4
  have hn7 : l.length ≤ 7 := by have h := hm.n7; simp at h; exact h
  have HM := Lib.hid hm; have HP := Lib.hid hp; have HML := Lib.hid hml; have HLK := Lib.hid hlk; have HCN := Lib.hid hcnt; have HF := Lib.hid hf; have HFO := Lib.hid hfo
  have IH := Lib.hid ih
  obtain ⟨A, n, c, rfl, hn, hlc, hcm⟩ := hml.1.1.form
  obtain ⟨Ap, np, cp, rfl, hnp, hlp, hcp⟩ := hp.1.form
  obtain ⟨Af, nf, cf, rfl, hnf, hlf, hcf⟩ := hf.form
  have hlen' : pre.length + (r.length + 1) = l.length := by simpa using hlen
  obtain rfl : nf = n := by have h1 := hnf.out; have h2 := hn.out; unfold fitL at h1; simp at h1; omega
  have hnpn : np < nf := by have := hn.out; have := hnp.out; omega
  have hnpz : (np : Int) < (nf : Int) := by omega
  have hne : ((np : Int) == (nf : Int)) = false := by simp; omega
  have HPL := Lib.hid (show pre.length = np from hnp.out.symm)
  have HL := Lib.hid (show l.length = nf from hn.out.symm)
  have HFB := Lib.hid (show (fitL (mOf lt size l))[np]? = some b by
    have h := hfit
    rw [hnp.out.symm] at h
    have h1 : ((fitL (mOf lt size l)).drop np)[0]? = some b := by rw [h]; rfl
    simpa using h1)
  have HFR := Lib.hid (show (fitL (mOf lt size l)).drop (np + 1) = r by
    have h := hfit
    rw [hnp.out.symm] at h
    rw [← List.drop_drop, h]; rfl)
  have HLN := Lib.hid (lookP_cons (mOf lt size l) pre b r [f0, f1, f2] s)
  have hlt0 : (mOf (lt : Int) size l).lots.toNat = lt := by show ((lt : Int)).toNat = lt; omega
  rw [hlt0] at HLN
  have HLS := Lib.hid (lookL_succ (mOf lt size l) pre b r [f0, f1, f2] s)
  have HLZ := Lib.hid (show lookL (mOf lt size l) pre b r [f0, f1, f2] s 0 = s from rfl)
  have HG := Lib.hid hlk.found.lt
  have hsz : (mOf (lt : Int) size l).size = size := rfl
  rw [hsz] at HLS
  have hlen2 : np + 1 + r.length = l.length := by have := hnp.out; omega
  have hc7 : c0 ≤ 7 := by have := hnp.out; omega
  have HCL := Lib.hid (show c0 ≤ (np : Int) by have := hnp.out; omega)
  clear hm hp hml hlk hf hfo hfit hlen hlen' hc1 hn hnp hnf hcnt hlt0 hsz ih
  go_enter Tryz.func97, Tryz.ntmps97
  go_wp2
  generalize hW5 : ((w.alloc (.cells #[.int .i64 (lt : Int), .int .i64 size, .slice A nf c] 24)).alloc (.cells #[.int .i64 c0, .int .i64 f0, .int .i64 f1, .int .i64 f2] 77)) = w5
  have B0 := Lib.hid (show Blk w5 w.heap.size 24 #[.int .i64 (lt : Int), .int .i64 size, .slice A nf c] from hW5 ▸ (Blk.new _ _ _).alloc _)
  have B1 := Lib.hid (show Blk w5 (w.heap.size + 1) 77 #[.int .i64 c0, .int .i64 f0, .int .i64 f1, .int .i64 f2] from hW5 ▸ (Blk.at_ (by simp)))
  have E5 := Lib.hid (show Ext w w5 from hW5 ▸ (Ext.al _ _).alloc _)
  clear hW5
  go_loopg [17] (lt + 1) (fun gg s17 wr => ∃ k : Nat, s17 = .int .i64 (k : Int) ∧ k ≤ lt + 1 ∧ lt + 1 - k ≤ gg ∧ Aside (Lk g (lookL (mOf lt size l) pre b r [f0, f1, f2] s k) wr) ∧ Aside (Gap g (g + 3) w5 wr))
  case atStart => exact ⟨0, by simp, by omega, by omega, by rw [HLZ.out]; exact HLK.out.ext E5.out, Gap.refl _ _ _⟩
  case round =>
    obtain ⟨k, rfl, hk, hgg, HLQ, HGQ⟩ := hrel
    have HB0 := Lib.hid (HGQ.out.blk B0.out (.inr (by have := HG.out; omega)))
    have HB1 := Lib.hid (HGQ.out.blk B1.out (.inr (by have := HG.out; omega)))
    have HFQ := Lib.hid (show SlBo wr (.slice Af nf cf) (fitL (mOf lt size l)) from (HF.out.ext E5.out).gap HGQ.out fun h0 b o e => .inr (HFO.out b o nf cf (by rw [e]) (by have h1 := HL.out; unfold fitL at h0; simp at h0; omega)))
    have HPQ := Lib.hid ((HP.out.ext E5.out).gap HGQ.out)
    by_cases hkl : k ≤ lt
    · have hkz : (k : Int) ≤ (lt : Int) := by omega
      have k0 := HB0.out.c3.1
      have m0 := fun W (h : Ext wr W) => ((HB0.out).ext h).c3.2.1
      have p1 := fun W (h : Ext wr W) => ((HB1.out).ext h).c4.1
      have p2 := fun W (h : Ext wr W) => ((HB1.out).ext h).c4.2.1
      have p3 := fun W (h : Ext wr W) => ((HB1.out).ext h).c4.2.2.1
      have p4 := fun W (h : Ext wr W) => ((HB1.out).ext h).c4.2.2.2.1
      obtain ⟨bf', off', y, rfl, hy, hb', hcell'⟩ := HFQ.out.at_ hnpn
      obtain rfl : y = b := by have := HFB.out; rw [hy] at this; injection this
      have q0 := fun W (h : Ext wr W) => SlBo.cell hcell' h
      clear hcell' hy
      have hk3 : k = 0 ∨ k = 1 ∨ k = 2 ∨ k = 3 := by omega
      rcases hk3 with rfl | rfl | rfl | rfl
      · have HOK := Lib.hid (okLot_zero size y [f0, f1, f2])
        have hw1 : IntKind.i64.wrap (c0 + 1) = c0 + 1 := by rw [IntKind.wrap_i64]; omega
        go_wp2_with fail
        refine wp_region_tame (fun W => Ext wr W) (fun W W' => Ext W W') (by kernel_rfl) 103 rfl (by decide +kernel) (Ext.refl _).drew ?_
        repeat (apply tame_q rfl; (intro ρ W hC hr hD; (obtain ⟨hrc, hrg, hrf, hrs⟩ := hr); (simp [go_sem] at hD); go_simp; first | exact ⟨⟨hC, Ext.refl _⟩, rfl⟩ | exact ⟨⟨hC, RS.refl _⟩, rfl⟩ | exact rfl); simp only [List.nil_append, List.cons_append])
        refine tame_end 103 rfl rfl (fun ρ W hC hr hF => ?_)
        obtain ⟨hrc, hrg, hrf, hrs⟩ := hr
        simp [go_sem] at hF
        apply frame_to
        · go_simp
          exact rfl
        clear hF hrs hrc hrg hrf
        have HEX := Lib.hid hC
        clear hC
        have p1' := p1 _ HEX.out
        have p2' := p2 _ HEX.out
        have p3' := p3 _ HEX.out
        have p4' := p4 _ HEX.out
        clear p1 p2 p3 p4 q0 m0 k0
        go_wp2
        obtain ⟨w9, hw9⟩ : ∃ w9, w9 = W.alloc (.cells #[.int .i64 (c0 + 1), .int .i64 f0, .int .i64 f1, .int .i64 f2] 77) := ⟨_, rfl⟩
        rw [← hw9]
        have E9 := Lib.hid (show Ext wr w9 from hw9 ▸ (HEX.out.alloc _))
        have HB9 := Lib.hid (show Blk w9 W.heap.size 77 #[.int .i64 (c0 + 1), .int .i64 f0, .int .i64 f1, .int .i64 f2] from hw9 ▸ Blk.new _ _ _)
        clear hw9 p1' p2' p3' p4'
        have v0 := fun V (h : Ext w9 V) => (HB0.out.ext (E9.out.trans h)).c3.1
        have v1 := fun V (h : Ext w9 V) => (HB0.out.ext (E9.out.trans h)).c3.2.1
        have v2 := fun V (h : Ext w9 V) => (HB0.out.ext (E9.out.trans h)).c3.2.2.1
        have u0 := fun V (h : Ext w9 V) => (HB9.out.ext h).c4.1
        have u1 := fun V (h : Ext w9 V) => (HB9.out.ext h).c4.2.1
        have u2 := fun V (h : Ext w9 V) => (HB9.out.ext h).c4.2.2.1
        have u3 := fun V (h : Ext w9 V) => (HB9.out.ext h).c4.2.2.2.1
        refine wp_region_tame_cut (fun V => Ext w9 V) (RC w9.heap.size pre (0 : Int)) (by kernel_rfl) 103 rfl _ rfl (by decide +kernel) (by decide +kernel) (by decide +kernel) rfl (Ext.refl _).drew ?_
        simp only [List.dropLast]
        repeat (apply tame_q rfl; (intro ρ W hC hr hD; (obtain ⟨hrc, hrg, hrf, hrs⟩ := hr); (simp [go_sem] at hD); go_simp; first | exact ⟨⟨hC, RC.refl _⟩, rfl⟩ | exact rfl); simp only [List.nil_append, List.cons_append])
        apply tame_v rfl (EmptyAt 3 w9.heap.size) (fun v V V' _ hR h => by obtain ⟨bb, h1, h2, h3⟩ := h; exact ⟨bb, h1, h2, hR.2.2.2.2 bb h3⟩)
        · intro ρ V hC hr hD
          obtain ⟨hrc, hrg, hrf, hrs⟩ := hr
          simp [go_sem] at hD
          go_simp
          exact ⟨⟨hC.alloc _, RC.ext (Ext.al _ _)⟩, ⟨_, rfl, hC.size, Blk.new _ _ _⟩⟩
        simp only [List.nil_append, List.cons_append]
        repeat (apply tame_q rfl; (intro ρ W hC hr hD; (obtain ⟨hrc, hrg, hrf, hrs⟩ := hr); (simp [go_sem] at hD); go_simp; first | exact ⟨⟨hC, RC.refl _⟩, rfl⟩ | exact rfl); simp only [List.nil_append, List.cons_append])
        apply tame_v rfl (NewI w9.heap.size pre) (fun v V V' _ hR h => ⟨hR.2.1 v h.1, h.2⟩)
        · intro ρ V hC hr hD
          obtain ⟨hrc, hrg, hrf, hrs⟩ := hr
          simp [go_sem] at hD
          obtain ⟨⟨bb, d1, d2, d3⟩, d4⟩ := hD
          obtain ⟨v', V', hrun, hn, hE⟩ := run_copyI d3 d2 hC.size ((HPQ.out.1.ext E9.out).ext hC) (by have := HPL.out; omega) 36
          show opGives _ _ _ _ _ _ _
          unfold opGives execOp
          simp only [resolve, invoke, builtin, Sem.run_bind, Sem.run_pure, Result.andThen_ok, List.map_toArray, List.map_cons, List.map_nil, d1, d4, hrun]
          exact ⟨⟨hC.trans hE, RC.ext hE⟩, hn⟩
        simp only [List.nil_append, List.cons_append]
        repeat (apply tame_q rfl; (intro ρ W hC hr hD; (obtain ⟨hrc, hrg, hrf, hrs⟩ := hr); (simp [go_sem] at hD); go_simp; first | exact ⟨⟨hC, RC.refl _⟩, rfl⟩ | exact rfl); simp only [List.nil_append, List.cons_append])
        apply tame_v rfl (OneB (0 : Int)) (fun v V V' _ hR h => by obtain ⟨bb, h1, h2⟩ := h; exact ⟨bb, h1, hR.2.2.2.1 bb h2⟩)
        · intro ρ V hC hr hD
          obtain ⟨hrc, hrg, hrf, hrs⟩ := hr
          simp [go_sem] at hD
          go_simp
          exact ⟨⟨hC.alloc _, RC.ext (Ext.al _ _)⟩, ⟨_, rfl, Blk.new _ _ _⟩⟩
        simp only [List.nil_append, List.cons_append]
        apply tame_v rfl (fun v V => Own encI 3 1 V w9.heap.size v (pre ++ [(0 : Int)])) (fun v V V' _ hR h => hR.2.2.1 _ (List.prefix_refl _) v h)
        · intro ρ V hC hr hD
          obtain ⟨hrc, hrg, hrf, hrs⟩ := hr
          simp [go_sem] at hD
          obtain ⟨d1, ⟨bb, d2, d3⟩, -⟩ := hD
          obtain ⟨v', V', hrun, ho, hR, hB⟩ := run_appc (c := 1) d1 hC.size (by have := HPL.out; omega) d3 36
          show opGives _ _ _ _ _ _ _
          unfold opGives execOp
          simp only [resolve, invoke, builtin, Sem.run_bind, Sem.run_pure, Result.andThen_ok, List.map_toArray, List.map_cons, List.map_nil, d2, hrun]
          exact ⟨⟨Below.trans hC hB, hR⟩, ho⟩
        simp only [List.nil_append, List.cons_append]
        repeat (apply tame_q rfl; (intro ρ W hC hr hD; (obtain ⟨hrc, hrg, hrf, hrs⟩ := hr); (simp [go_sem] at hD); go_simp; first | exact ⟨⟨hC, RC.refl _⟩, rfl⟩ | exact rfl); simp only [List.nil_append, List.cons_append])
        refine tame_end 103 rfl rfl (fun ρ V hC hr hF => ?_)
        obtain ⟨hrc, hrg, hrf, hrs⟩ := hr
        simp [go_sem] at hF
        obtain ⟨f90, f91, ⟨b92, f92, -⟩, f93, f94, f95, ⟨b96, f96, -⟩, f97, f98, f99, f100, f101⟩ := hF
        have HC9 := Lib.hid (E9.out.trans hC)
        have hso := SlO.own f97 (show g + 3 ≤ w9.heap.size by have h1 := HG.out; have h2 := E5.out.size; have h3 := HGQ.out.size; have h4 := E9.out.size; omega)
        obtain ⟨A7, n7, c7, e97, -, -, -⟩ := hso.1.form
        rw [e97] at hso
        have HSO := Lib.hid hso
        clear hso f97
        apply frame_to
        · go_simp
          exact rfl
        clear e97 f90 f91 f92 f93 f94 f95 f96 f98 f99 f100 f101 hrs hrc hrg hrf v0 v1 v2 u0 u1 u2 u3 hC
        have HIC := Lib.hid (IH.out (pre ++ [(0 : Int)]) ((c0 + 1)) (f0) (f1) (f2) _ _ V (by rw [List.length_append]; simp; have := HPL.out; omega) (by rw [List.length_append, HPL.out]; exact HFR.out) (by omega) (by rw [List.length_append]; simp; have := HPL.out; have := HCL.out; omega) HCN.out HSO.out ((HML.out.ext E5.out |>.gap HGQ.out).ext HC9.out) (HFQ.out.ext HC9.out) HFO.out (HLQ.out.ext HC9.out))
        have HNX := Lib.hid (show lookL (mOf lt size l) pre y r [f0, f1, f2] s (0 + 1) = lookP (mOf lt size l) (pre ++ [(0 : Int)]) r [f0, f1, f2] (lookL (mOf lt size l) pre y r [f0, f1, f2] s 0) by
          rw [HLS.out 0, HOK.out]; rfl)
        go_wp2_with fail
        refine HIC.out.mono ?_
        rintro e w10 ⟨⟨rv, rfl⟩, hlk, hgp⟩
        have HLK10 := Lib.hid hlk
        have HG10 := Lib.hid (HGQ.out.trans ((Gap.of_ext HC9.out).trans hgp))
        clear hlk hgp
        go_wp2
        go_roundg (lt + 1 - (0 + 1))
        case measure => omega
        case rel => exact ⟨0 + 1, by simp, by omega, by omega, by rw [HNX.out]; exact HLK10.out, HG10.out⟩
      · cases hbb : y
        · rw [hbb] at q0
          have HNX := Lib.hid (show lookL (mOf lt size l) pre y r [f0, f1, f2] s (1 + 1) = lookL (mOf lt size l) pre y r [f0, f1, f2] s 1 by rw [HLS.out 1, hbb, okLot_no]; rfl)
          clear hbb
          go_wp2_with fail
          refine wp_region_tame (fun W => Ext wr W) (fun W W' => Ext W W') (by kernel_rfl) 103 rfl (by decide +kernel) (Ext.refl _).drew ?_
          repeat (apply tame_q rfl; (intro ρ W hC hr hD; (obtain ⟨hrc, hrg, hrf, hrs⟩ := hr); (simp [go_sem] at hD); go_simp; first | exact ⟨⟨hC, Ext.refl _⟩, rfl⟩ | exact ⟨⟨hC, RS.refl _⟩, rfl⟩ | exact rfl); simp only [List.nil_append, List.cons_append])
          refine tame_end 103 rfl rfl (fun ρ W hC hr hF => ?_)
          obtain ⟨hrc, hrg, hrf, hrs⟩ := hr
          simp [go_sem] at hF
          apply frame_to
          · go_simp
            exact rfl
          clear hF hrs hrc hrg hrf
          have HEX := Lib.hid hC
          clear hC
          clear p1 p2 p3 p4 q0 m0 k0
          go_wp2
          go_roundg (lt + 1 - (1 + 1))
          case measure => omega
          case rel => exact ⟨1 + 1, by simp, by omega, by omega, by rw [HNX.out]; exact (HLQ.out.ext HEX.out), HGQ.out.trans (Gap.of_ext HEX.out)⟩
        · by_cases hfs : f0 = size
          · have hfb : (f0 == size) = true := by simpa using hfs
            have HNX := Lib.hid (show lookL (mOf lt size l) pre y r [f0, f1, f2] s (1 + 1) = lookL (mOf lt size l) pre y r [f0, f1, f2] s 1 by rw [HLS.out 1, hbb, show okLot size true [f0, f1, f2] 1 = false by rw [okLot_yes]; simpa using hfs]; rfl)
            rw [hbb] at q0
            clear hbb hfs
            go_wp2_with fail
            refine wp_region_tame (fun W => Ext wr W) (fun W W' => Ext W W') (by kernel_rfl) 103 rfl (by decide +kernel) (Ext.refl _).drew ?_
            repeat (apply tame_q rfl; (intro ρ W hC hr hD; (obtain ⟨hrc, hrg, hrf, hrs⟩ := hr); (simp [go_sem] at hD); go_simp; first | exact ⟨⟨hC, Ext.refl _⟩, rfl⟩ | exact ⟨⟨hC, RS.refl _⟩, rfl⟩ | exact rfl); simp only [List.nil_append, List.cons_append])
            refine tame_end 103 rfl rfl (fun ρ W hC hr hF => ?_)
            obtain ⟨hrc, hrg, hrf, hrs⟩ := hr
            simp [go_sem] at hF
            apply frame_to
            · go_simp
              exact rfl
            clear hF hrs hrc hrg hrf
            have HEX := Lib.hid hC
            clear hC
            clear p1 p2 p3 p4 q0 m0 k0
            go_wp2
            go_roundg (lt + 1 - (1 + 1))
            case measure => omega
            case rel => exact ⟨1 + 1, by simp, by omega, by omega, by rw [HNX.out]; exact (HLQ.out.ext HEX.out), HGQ.out.trans (Gap.of_ext HEX.out)⟩
          · have hfb : (f0 == size) = false := by simpa using hfs
            have HOK := Lib.hid (show okLot size y [f0, f1, f2] 1 = true by rw [hbb, okLot_yes]; simpa using hfs)
            have hcn := HCN.out
            have HCU := Lib.hid (show Cnt lt size (f0 + 1) f1 f2 from ⟨⟨by have := hcn.1; omega, by have := hcn.1; omega, by have := hcn.1; omega, by have := hcn.1; omega, by have := hcn.1; omega, by have := hcn.1; omega⟩, fun h => by have := hcn.2.1; omega, fun h => by have := hcn.2.2; omega⟩)
            have hw1 : IntKind.i64.wrap (f0 + 1) = f0 + 1 := by rw [IntKind.wrap_i64]; have := hcn.1; omega
            rw [hbb] at q0
            clear hbb hfs hcn
            go_wp2_with fail
            refine wp_region_tame (fun W => Ext wr W) (fun W W' => Ext W W') (by kernel_rfl) 103 rfl (by decide +kernel) (Ext.refl _).drew ?_
            repeat (apply tame_q rfl; (intro ρ W hC hr hD; (obtain ⟨hrc, hrg, hrf, hrs⟩ := hr); (simp [go_sem] at hD); go_simp; first | exact ⟨⟨hC, Ext.refl _⟩, rfl⟩ | exact ⟨⟨hC, RS.refl _⟩, rfl⟩ | exact rfl); simp only [List.nil_append, List.cons_append])
            refine tame_end 103 rfl rfl (fun ρ W hC hr hF => ?_)
            obtain ⟨hrc, hrg, hrf, hrs⟩ := hr
            simp [go_sem] at hF
            apply frame_to
            · go_simp
              exact rfl
            clear hF hrs hrc hrg hrf
            have HEX := Lib.hid hC
            clear hC
            have p1' := p1 _ HEX.out
            have p2' := p2 _ HEX.out
            have p3' := p3 _ HEX.out
            have p4' := p4 _ HEX.out
            clear p1 p2 p3 p4 q0 m0 k0
            go_wp2
            obtain ⟨w9, hw9⟩ : ∃ w9, w9 = W.alloc (.cells #[.int .i64 c0, .int .i64 (f0 + 1), .int .i64 f1, .int .i64 f2] 77) := ⟨_, rfl⟩
            rw [← hw9]
            have E9 := Lib.hid (show Ext wr w9 from hw9 ▸ (HEX.out.alloc _))
            have HB9 := Lib.hid (show Blk w9 W.heap.size 77 #[.int .i64 c0, .int .i64 (f0 + 1), .int .i64 f1, .int .i64 f2] from hw9 ▸ Blk.new _ _ _)
            clear hw9 p1' p2' p3' p4'
            have v0 := fun V (h : Ext w9 V) => (HB0.out.ext (E9.out.trans h)).c3.1
            have v1 := fun V (h : Ext w9 V) => (HB0.out.ext (E9.out.trans h)).c3.2.1
            have v2 := fun V (h : Ext w9 V) => (HB0.out.ext (E9.out.trans h)).c3.2.2.1
            have u0 := fun V (h : Ext w9 V) => (HB9.out.ext h).c4.1
            have u1 := fun V (h : Ext w9 V) => (HB9.out.ext h).c4.2.1
            have u2 := fun V (h : Ext w9 V) => (HB9.out.ext h).c4.2.2.1
            have u3 := fun V (h : Ext w9 V) => (HB9.out.ext h).c4.2.2.2.1
            refine wp_region_tame_cut (fun V => Ext w9 V) (RC w9.heap.size pre (1 : Int)) (by kernel_rfl) 103 rfl _ rfl (by decide +kernel) (by decide +kernel) (by decide +kernel) rfl (Ext.refl _).drew ?_
            simp only [List.dropLast]
            repeat (apply tame_q rfl; (intro ρ W hC hr hD; (obtain ⟨hrc, hrg, hrf, hrs⟩ := hr); (simp [go_sem] at hD); go_simp; first | exact ⟨⟨hC, RC.refl _⟩, rfl⟩ | exact rfl); simp only [List.nil_append, List.cons_append])
            apply tame_v rfl (EmptyAt 3 w9.heap.size) (fun v V V' _ hR h => by obtain ⟨bb, h1, h2, h3⟩ := h; exact ⟨bb, h1, h2, hR.2.2.2.2 bb h3⟩)
            · intro ρ V hC hr hD
              obtain ⟨hrc, hrg, hrf, hrs⟩ := hr
              simp [go_sem] at hD
              go_simp
              exact ⟨⟨hC.alloc _, RC.ext (Ext.al _ _)⟩, ⟨_, rfl, hC.size, Blk.new _ _ _⟩⟩
            simp only [List.nil_append, List.cons_append]
            repeat (apply tame_q rfl; (intro ρ W hC hr hD; (obtain ⟨hrc, hrg, hrf, hrs⟩ := hr); (simp [go_sem] at hD); go_simp; first | exact ⟨⟨hC, RC.refl _⟩, rfl⟩ | exact rfl); simp only [List.nil_append, List.cons_append])
            apply tame_v rfl (NewI w9.heap.size pre) (fun v V V' _ hR h => ⟨hR.2.1 v h.1, h.2⟩)
            · intro ρ V hC hr hD
              obtain ⟨hrc, hrg, hrf, hrs⟩ := hr
              simp [go_sem] at hD
              obtain ⟨⟨bb, d1, d2, d3⟩, d4⟩ := hD
              obtain ⟨v', V', hrun, hn, hE⟩ := run_copyI d3 d2 hC.size ((HPQ.out.1.ext E9.out).ext hC) (by have := HPL.out; omega) 36
              show opGives _ _ _ _ _ _ _
              unfold opGives execOp
              simp only [resolve, invoke, builtin, Sem.run_bind, Sem.run_pure, Result.andThen_ok, List.map_toArray, List.map_cons, List.map_nil, d1, d4, hrun]
              exact ⟨⟨hC.trans hE, RC.ext hE⟩, hn⟩
            simp only [List.nil_append, List.cons_append]
            repeat (apply tame_q rfl; (intro ρ W hC hr hD; (obtain ⟨hrc, hrg, hrf, hrs⟩ := hr); (simp [go_sem] at hD); go_simp; first | exact ⟨⟨hC, RC.refl _⟩, rfl⟩ | exact rfl); simp only [List.nil_append, List.cons_append])
            apply tame_v rfl (OneB (1 : Int)) (fun v V V' _ hR h => by obtain ⟨bb, h1, h2⟩ := h; exact ⟨bb, h1, hR.2.2.2.1 bb h2⟩)
            · intro ρ V hC hr hD
              obtain ⟨hrc, hrg, hrf, hrs⟩ := hr
              simp [go_sem] at hD
              go_simp
              exact ⟨⟨hC.alloc _, RC.ext (Ext.al _ _)⟩, ⟨_, rfl, Blk.new _ _ _⟩⟩
            simp only [List.nil_append, List.cons_append]
            apply tame_v rfl (fun v V => Own encI 3 1 V w9.heap.size v (pre ++ [(1 : Int)])) (fun v V V' _ hR h => hR.2.2.1 _ (List.prefix_refl _) v h)
            · intro ρ V hC hr hD
              obtain ⟨hrc, hrg, hrf, hrs⟩ := hr
              simp [go_sem] at hD
              obtain ⟨d1, ⟨bb, d2, d3⟩, -⟩ := hD
              obtain ⟨v', V', hrun, ho, hR, hB⟩ := run_appc (c := 1) d1 hC.size (by have := HPL.out; omega) d3 36
              show opGives _ _ _ _ _ _ _
              unfold opGives execOp
              simp only [resolve, invoke, builtin, Sem.run_bind, Sem.run_pure, Result.andThen_ok, List.map_toArray, List.map_cons, List.map_nil, d2, hrun]
              exact ⟨⟨Below.trans hC hB, hR⟩, ho⟩
            simp only [List.nil_append, List.cons_append]
            repeat (apply tame_q rfl; (intro ρ W hC hr hD; (obtain ⟨hrc, hrg, hrf, hrs⟩ := hr); (simp [go_sem] at hD); go_simp; first | exact ⟨⟨hC, RC.refl _⟩, rfl⟩ | exact rfl); simp only [List.nil_append, List.cons_append])
            refine tame_end 103 rfl rfl (fun ρ V hC hr hF => ?_)
            obtain ⟨hrc, hrg, hrf, hrs⟩ := hr
            simp [go_sem] at hF
            obtain ⟨f90, f91, ⟨b92, f92, -⟩, f93, f94, f95, ⟨b96, f96, -⟩, f97, f98, f99, f100, f101⟩ := hF
            have HC9 := Lib.hid (E9.out.trans hC)
            have hso := SlO.own f97 (show g + 3 ≤ w9.heap.size by have h1 := HG.out; have h2 := E5.out.size; have h3 := HGQ.out.size; have h4 := E9.out.size; omega)
            obtain ⟨A7, n7, c7, e97, -, -, -⟩ := hso.1.form
            rw [e97] at hso
            have HSO := Lib.hid hso
            clear hso f97
            apply frame_to
            · go_simp
              exact rfl
            clear e97 f90 f91 f92 f93 f94 f95 f96 f98 f99 f100 f101 hrs hrc hrg hrf v0 v1 v2 u0 u1 u2 u3 hC
            have HIC := Lib.hid (IH.out (pre ++ [(1 : Int)]) (c0) ((f0 + 1)) (f1) (f2) _ _ V (by rw [List.length_append]; simp; have := HPL.out; omega) (by rw [List.length_append, HPL.out]; exact HFR.out) (by omega) (by rw [List.length_append]; simp; have := HPL.out; have := HCL.out; omega) HCU.out HSO.out ((HML.out.ext E5.out |>.gap HGQ.out).ext HC9.out) (HFQ.out.ext HC9.out) HFO.out (HLQ.out.ext HC9.out))
            have HNX := Lib.hid (show lookL (mOf lt size l) pre y r [f0, f1, f2] s (1 + 1) = lookP (mOf lt size l) (pre ++ [(1 : Int)]) r [(f0 + 1), f1, f2] (lookL (mOf lt size l) pre y r [f0, f1, f2] s 1) by
              rw [HLS.out 1, HOK.out]; rfl)
            go_wp2_with fail
            refine HIC.out.mono ?_
            rintro e w10 ⟨⟨rv, rfl⟩, hlk, hgp⟩
            have HLK10 := Lib.hid hlk
            have HG10 := Lib.hid (HGQ.out.trans ((Gap.of_ext HC9.out).trans hgp))
            clear hlk hgp
            go_wp2
            go_roundg (lt + 1 - (1 + 1))
            case measure => omega
            case rel => exact ⟨1 + 1, by simp, by omega, by omega, by rw [HNX.out]; exact HLK10.out, HG10.out⟩
      · cases hbb : y
        · rw [hbb] at q0
          have HNX := Lib.hid (show lookL (mOf lt size l) pre y r [f0, f1, f2] s (2 + 1) = lookL (mOf lt size l) pre y r [f0, f1, f2] s 2 by rw [HLS.out 2, hbb, okLot_no]; rfl)
          clear hbb
          go_wp2_with fail
          refine wp_region_tame (fun W => Ext wr W) (fun W W' => Ext W W') (by kernel_rfl) 103 rfl (by decide +kernel) (Ext.refl _).drew ?_
          repeat (apply tame_q rfl; (intro ρ W hC hr hD; (obtain ⟨hrc, hrg, hrf, hrs⟩ := hr); (simp [go_sem] at hD); go_simp; first | exact ⟨⟨hC, Ext.refl _⟩, rfl⟩ | exact ⟨⟨hC, RS.refl _⟩, rfl⟩ | exact rfl); simp only [List.nil_append, List.cons_append])
          refine tame_end 103 rfl rfl (fun ρ W hC hr hF => ?_)
          obtain ⟨hrc, hrg, hrf, hrs⟩ := hr
          simp [go_sem] at hF
          apply frame_to
          · go_simp
            exact rfl
          clear hF hrs hrc hrg hrf
          have HEX := Lib.hid hC
          clear hC
          clear p1 p2 p3 p4 q0 m0 k0
          go_wp2
          go_roundg (lt + 1 - (2 + 1))
          case measure => omega
          case rel => exact ⟨2 + 1, by simp, by omega, by omega, by rw [HNX.out]; exact (HLQ.out.ext HEX.out), HGQ.out.trans (Gap.of_ext HEX.out)⟩
        · by_cases hfs : f1 = size
          · have hfb : (f1 == size) = true := by simpa using hfs
            have HNX := Lib.hid (show lookL (mOf lt size l) pre y r [f0, f1, f2] s (2 + 1) = lookL (mOf lt size l) pre y r [f0, f1, f2] s 2 by rw [HLS.out 2, hbb, show okLot size true [f0, f1, f2] 2 = false by rw [okLot_yes]; simpa using hfs]; rfl)
            rw [hbb] at q0
            clear hbb hfs
            go_wp2_with fail
            refine wp_region_tame (fun W => Ext wr W) (fun W W' => Ext W W') (by kernel_rfl) 103 rfl (by decide +kernel) (Ext.refl _).drew ?_
            repeat (apply tame_q rfl; (intro ρ W hC hr hD; (obtain ⟨hrc, hrg, hrf, hrs⟩ := hr); (simp [go_sem] at hD); go_simp; first | exact ⟨⟨hC, Ext.refl _⟩, rfl⟩ | exact ⟨⟨hC, RS.refl _⟩, rfl⟩ | exact rfl); simp only [List.nil_append, List.cons_append])
            refine tame_end 103 rfl rfl (fun ρ W hC hr hF => ?_)
            obtain ⟨hrc, hrg, hrf, hrs⟩ := hr
            simp [go_sem] at hF
            apply frame_to
            · go_simp
              exact rfl
            clear hF hrs hrc hrg hrf
            have HEX := Lib.hid hC
            clear hC
            clear p1 p2 p3 p4 q0 m0 k0
            go_wp2
            go_roundg (lt + 1 - (2 + 1))
            case measure => omega
            case rel => exact ⟨2 + 1, by simp, by omega, by omega, by rw [HNX.out]; exact (HLQ.out.ext HEX.out), HGQ.out.trans (Gap.of_ext HEX.out)⟩
          · have hfb : (f1 == size) = false := by simpa using hfs
            have HOK := Lib.hid (show okLot size y [f0, f1, f2] 2 = true by rw [hbb, okLot_yes]; simpa using hfs)
            have hcn := HCN.out
            have HCU := Lib.hid (show Cnt lt size f0 (f1 + 1) f2 from ⟨⟨by have := hcn.1; omega, by have := hcn.1; omega, by have := hcn.1; omega, by have := hcn.1; omega, by have := hcn.1; omega, by have := hcn.1; omega⟩, fun h => by have := hcn.2.1; omega, fun h => by have := hcn.2.2; omega⟩)
            have hw1 : IntKind.i64.wrap (f1 + 1) = f1 + 1 := by rw [IntKind.wrap_i64]; have := hcn.1; omega
            rw [hbb] at q0
            clear hbb hfs hcn
            go_wp2_with fail
            refine wp_region_tame (fun W => Ext wr W) (fun W W' => Ext W W') (by kernel_rfl) 103 rfl (by decide +kernel) (Ext.refl _).drew ?_
            repeat (apply tame_q rfl; (intro ρ W hC hr hD; (obtain ⟨hrc, hrg, hrf, hrs⟩ := hr); (simp [go_sem] at hD); go_simp; first | exact ⟨⟨hC, Ext.refl _⟩, rfl⟩ | exact ⟨⟨hC, RS.refl _⟩, rfl⟩ | exact rfl); simp only [List.nil_append, List.cons_append])
            refine tame_end 103 rfl rfl (fun ρ W hC hr hF => ?_)
            obtain ⟨hrc, hrg, hrf, hrs⟩ := hr
            simp [go_sem] at hF
            apply frame_to
            · go_simp
              exact rfl
            clear hF hrs hrc hrg hrf
            have HEX := Lib.hid hC
            clear hC
            have p1' := p1 _ HEX.out
            have p2' := p2 _ HEX.out
            have p3' := p3 _ HEX.out
            have p4' := p4 _ HEX.out
            clear p1 p2 p3 p4 q0 m0 k0
            go_wp2
            obtain ⟨w9, hw9⟩ : ∃ w9, w9 = W.alloc (.cells #[.int .i64 c0, .int .i64 f0, .int .i64 (f1 + 1), .int .i64 f2] 77) := ⟨_, rfl⟩
            rw [← hw9]
            have E9 := Lib.hid (show Ext wr w9 from hw9 ▸ (HEX.out.alloc _))
            have HB9 := Lib.hid (show Blk w9 W.heap.size 77 #[.int .i64 c0, .int .i64 f0, .int .i64 (f1 + 1), .int .i64 f2] from hw9 ▸ Blk.new _ _ _)
            clear hw9 p1' p2' p3' p4'
            have v0 := fun V (h : Ext w9 V) => (HB0.out.ext (E9.out.trans h)).c3.1
            have v1 := fun V (h : Ext w9 V) => (HB0.out.ext (E9.out.trans h)).c3.2.1
            have v2 := fun V (h : Ext w9 V) => (HB0.out.ext (E9.out.trans h)).c3.2.2.1
            have u0 := fun V (h : Ext w9 V) => (HB9.out.ext h).c4.1
            have u1 := fun V (h : Ext w9 V) => (HB9.out.ext h).c4.2.1
            have u2 := fun V (h : Ext w9 V) => (HB9.out.ext h).c4.2.2.1
            have u3 := fun V (h : Ext w9 V) => (HB9.out.ext h).c4.2.2.2.1
            refine wp_region_tame_cut (fun V => Ext w9 V) (RC w9.heap.size pre (2 : Int)) (by kernel_rfl) 103 rfl _ rfl (by decide +kernel) (by decide +kernel) (by decide +kernel) rfl (Ext.refl _).drew ?_
            simp only [List.dropLast]
            repeat (apply tame_q rfl; (intro ρ W hC hr hD; (obtain ⟨hrc, hrg, hrf, hrs⟩ := hr); (simp [go_sem] at hD); go_simp; first | exact ⟨⟨hC, RC.refl _⟩, rfl⟩ | exact rfl); simp only [List.nil_append, List.cons_append])
            apply tame_v rfl (EmptyAt 3 w9.heap.size) (fun v V V' _ hR h => by obtain ⟨bb, h1, h2, h3⟩ := h; exact ⟨bb, h1, h2, hR.2.2.2.2 bb h3⟩)
            · intro ρ V hC hr hD
              obtain ⟨hrc, hrg, hrf, hrs⟩ := hr
              simp [go_sem] at hD
              go_simp
              exact ⟨⟨hC.alloc _, RC.ext (Ext.al _ _)⟩, ⟨_, rfl, hC.size, Blk.new _ _ _⟩⟩
            simp only [List.nil_append, List.cons_append]
            repeat (apply tame_q rfl; (intro ρ W hC hr hD; (obtain ⟨hrc, hrg, hrf, hrs⟩ := hr); (simp [go_sem] at hD); go_simp; first | exact ⟨⟨hC, RC.refl _⟩, rfl⟩ | exact rfl); simp only [List.nil_append, List.cons_append])
            apply tame_v rfl (NewI w9.heap.size pre) (fun v V V' _ hR h => ⟨hR.2.1 v h.1, h.2⟩)
            · intro ρ V hC hr hD
              obtain ⟨hrc, hrg, hrf, hrs⟩ := hr
              simp [go_sem] at hD
              obtain ⟨⟨bb, d1, d2, d3⟩, d4⟩ := hD
              obtain ⟨v', V', hrun, hn, hE⟩ := run_copyI d3 d2 hC.size ((HPQ.out.1.ext E9.out).ext hC) (by have := HPL.out; omega) 36
              show opGives _ _ _ _ _ _ _
              unfold opGives execOp
              simp only [resolve, invoke, builtin, Sem.run_bind, Sem.run_pure, Result.andThen_ok, List.map_toArray, List.map_cons, List.map_nil, d1, d4, hrun]
              exact ⟨⟨hC.trans hE, RC.ext hE⟩, hn⟩
            simp only [List.nil_append, List.cons_append]
            repeat (apply tame_q rfl; (intro ρ W hC hr hD; (obtain ⟨hrc, hrg, hrf, hrs⟩ := hr); (simp [go_sem] at hD); go_simp; first | exact ⟨⟨hC, RC.refl _⟩, rfl⟩ | exact rfl); simp only [List.nil_append, List.cons_append])
            apply tame_v rfl (OneB (2 : Int)) (fun v V V' _ hR h => by obtain ⟨bb, h1, h2⟩ := h; exact ⟨bb, h1, hR.2.2.2.1 bb h2⟩)
            · intro ρ V hC hr hD
              obtain ⟨hrc, hrg, hrf, hrs⟩ := hr
              simp [go_sem] at hD
              go_simp
              exact ⟨⟨hC.alloc _, RC.ext (Ext.al _ _)⟩, ⟨_, rfl, Blk.new _ _ _⟩⟩
            simp only [List.nil_append, List.cons_append]
            apply tame_v rfl (fun v V => Own encI 3 1 V w9.heap.size v (pre ++ [(2 : Int)])) (fun v V V' _ hR h => hR.2.2.1 _ (List.prefix_refl _) v h)
            · intro ρ V hC hr hD
              obtain ⟨hrc, hrg, hrf, hrs⟩ := hr
              simp [go_sem] at hD
              obtain ⟨d1, ⟨bb, d2, d3⟩, -⟩ := hD
              obtain ⟨v', V', hrun, ho, hR, hB⟩ := run_appc (c := 1) d1 hC.size (by have := HPL.out; omega) d3 36
              show opGives _ _ _ _ _ _ _
              unfold opGives execOp
              simp only [resolve, invoke, builtin, Sem.run_bind, Sem.run_pure, Result.andThen_ok, List.map_toArray, List.map_cons, List.map_nil, d2, hrun]
              exact ⟨⟨Below.trans hC hB, hR⟩, ho⟩
            simp only [List.nil_append, List.cons_append]
            repeat (apply tame_q rfl; (intro ρ W hC hr hD; (obtain ⟨hrc, hrg, hrf, hrs⟩ := hr); (simp [go_sem] at hD); go_simp; first | exact ⟨⟨hC, RC.refl _⟩, rfl⟩ | exact rfl); simp only [List.nil_append, List.cons_append])
            refine tame_end 103 rfl rfl (fun ρ V hC hr hF => ?_)
            obtain ⟨hrc, hrg, hrf, hrs⟩ := hr
            simp [go_sem] at hF
            obtain ⟨f90, f91, ⟨b92, f92, -⟩, f93, f94, f95, ⟨b96, f96, -⟩, f97, f98, f99, f100, f101⟩ := hF
            have HC9 := Lib.hid (E9.out.trans hC)
            have hso := SlO.own f97 (show g + 3 ≤ w9.heap.size by have h1 := HG.out; have h2 := E5.out.size; have h3 := HGQ.out.size; have h4 := E9.out.size; omega)
            obtain ⟨A7, n7, c7, e97, -, -, -⟩ := hso.1.form
            rw [e97] at hso
            have HSO := Lib.hid hso
            clear hso f97
            apply frame_to
            · go_simp
              exact rfl
            clear e97 f90 f91 f92 f93 f94 f95 f96 f98 f99 f100 f101 hrs hrc hrg hrf v0 v1 v2 u0 u1 u2 u3 hC
            have HIC := Lib.hid (IH.out (pre ++ [(2 : Int)]) (c0) (f0) ((f1 + 1)) (f2) _ _ V (by rw [List.length_append]; simp; have := HPL.out; omega) (by rw [List.length_append, HPL.out]; exact HFR.out) (by omega) (by rw [List.length_append]; simp; have := HPL.out; have := HCL.out; omega) HCU.out HSO.out ((HML.out.ext E5.out |>.gap HGQ.out).ext HC9.out) (HFQ.out.ext HC9.out) HFO.out (HLQ.out.ext HC9.out))
            have HNX := Lib.hid (show lookL (mOf lt size l) pre y r [f0, f1, f2] s (2 + 1) = lookP (mOf lt size l) (pre ++ [(2 : Int)]) r [f0, (f1 + 1), f2] (lookL (mOf lt size l) pre y r [f0, f1, f2] s 2) by
              rw [HLS.out 2, HOK.out]; rfl)
            go_wp2_with fail
            refine HIC.out.mono ?_
            rintro e w10 ⟨⟨rv, rfl⟩, hlk, hgp⟩
            have HLK10 := Lib.hid hlk
            have HG10 := Lib.hid (HGQ.out.trans ((Gap.of_ext HC9.out).trans hgp))
            clear hlk hgp
            go_wp2
            go_roundg (lt + 1 - (2 + 1))
            case measure => omega
            case rel => exact ⟨2 + 1, by simp, by omega, by omega, by rw [HNX.out]; exact HLK10.out, HG10.out⟩
      · cases hbb : y
        · rw [hbb] at q0
          have HNX := Lib.hid (show lookL (mOf lt size l) pre y r [f0, f1, f2] s (3 + 1) = lookL (mOf lt size l) pre y r [f0, f1, f2] s 3 by rw [HLS.out 3, hbb, okLot_no]; rfl)
          clear hbb
          go_wp2_with fail
          refine wp_region_tame (fun W => Ext wr W) (fun W W' => Ext W W') (by kernel_rfl) 103 rfl (by decide +kernel) (Ext.refl _).drew ?_
          repeat (apply tame_q rfl; (intro ρ W hC hr hD; (obtain ⟨hrc, hrg, hrf, hrs⟩ := hr); (simp [go_sem] at hD); go_simp; first | exact ⟨⟨hC, Ext.refl _⟩, rfl⟩ | exact ⟨⟨hC, RS.refl _⟩, rfl⟩ | exact rfl); simp only [List.nil_append, List.cons_append])
          refine tame_end 103 rfl rfl (fun ρ W hC hr hF => ?_)
          obtain ⟨hrc, hrg, hrf, hrs⟩ := hr
          simp [go_sem] at hF
          apply frame_to
          · go_simp
            exact rfl
          clear hF hrs hrc hrg hrf
          have HEX := Lib.hid hC
          clear hC
          clear p1 p2 p3 p4 q0 m0 k0
          go_wp2
          go_roundg (lt + 1 - (3 + 1))
          case measure => omega
          case rel => exact ⟨3 + 1, by simp, by omega, by omega, by rw [HNX.out]; exact (HLQ.out.ext HEX.out), HGQ.out.trans (Gap.of_ext HEX.out)⟩
        · by_cases hfs : f2 = size
          · have hfb : (f2 == size) = true := by simpa using hfs
            have HNX := Lib.hid (show lookL (mOf lt size l) pre y r [f0, f1, f2] s (3 + 1) = lookL (mOf lt size l) pre y r [f0, f1, f2] s 3 by rw [HLS.out 3, hbb, show okLot size true [f0, f1, f2] 3 = false by rw [okLot_yes]; simpa using hfs]; rfl)
            rw [hbb] at q0
            clear hbb hfs
            go_wp2_with fail
            refine wp_region_tame (fun W => Ext wr W) (fun W W' => Ext W W') (by kernel_rfl) 103 rfl (by decide +kernel) (Ext.refl _).drew ?_
            repeat (apply tame_q rfl; (intro ρ W hC hr hD; (obtain ⟨hrc, hrg, hrf, hrs⟩ := hr); (simp [go_sem] at hD); go_simp; first | exact ⟨⟨hC, Ext.refl _⟩, rfl⟩ | exact ⟨⟨hC, RS.refl _⟩, rfl⟩ | exact rfl); simp only [List.nil_append, List.cons_append])
            refine tame_end 103 rfl rfl (fun ρ W hC hr hF => ?_)
            obtain ⟨hrc, hrg, hrf, hrs⟩ := hr
            simp [go_sem] at hF
            apply frame_to
            · go_simp
              exact rfl
            clear hF hrs hrc hrg hrf
            have HEX := Lib.hid hC
            clear hC
            clear p1 p2 p3 p4 q0 m0 k0
            go_wp2
            go_roundg (lt + 1 - (3 + 1))
            case measure => omega
            case rel => exact ⟨3 + 1, by simp, by omega, by omega, by rw [HNX.out]; exact (HLQ.out.ext HEX.out), HGQ.out.trans (Gap.of_ext HEX.out)⟩
          · have hfb : (f2 == size) = false := by simpa using hfs
            have HOK := Lib.hid (show okLot size y [f0, f1, f2] 3 = true by rw [hbb, okLot_yes]; simpa using hfs)
            have hcn := HCN.out
            have HCU := Lib.hid (show Cnt lt size f0 f1 (f2 + 1) from ⟨⟨by have := hcn.1; omega, by have := hcn.1; omega, by have := hcn.1; omega, by have := hcn.1; omega, by have := hcn.1; omega, by have := hcn.1; omega⟩, fun h => by have := hcn.2.1; omega, fun h => by have := hcn.2.2; omega⟩)
            have hw1 : IntKind.i64.wrap (f2 + 1) = f2 + 1 := by rw [IntKind.wrap_i64]; have := hcn.1; omega
            rw [hbb] at q0
            clear hbb hfs hcn
            go_wp2_with fail
            refine wp_region_tame (fun W => Ext wr W) (fun W W' => Ext W W') (by kernel_rfl) 103 rfl (by decide +kernel) (Ext.refl _).drew ?_
            repeat (apply tame_q rfl; (intro ρ W hC hr hD; (obtain ⟨hrc, hrg, hrf, hrs⟩ := hr); (simp [go_sem] at hD); go_simp; first | exact ⟨⟨hC, Ext.refl _⟩, rfl⟩ | exact ⟨⟨hC, RS.refl _⟩, rfl⟩ | exact rfl); simp only [List.nil_append, List.cons_append])
            refine tame_end 103 rfl rfl (fun ρ W hC hr hF => ?_)
            obtain ⟨hrc, hrg, hrf, hrs⟩ := hr
            simp [go_sem] at hF
            apply frame_to
            · go_simp
              exact rfl
            clear hF hrs hrc hrg hrf
            have HEX := Lib.hid hC
            clear hC
            have p1' := p1 _ HEX.out
            have p2' := p2 _ HEX.out
            have p3' := p3 _ HEX.out
            have p4' := p4 _ HEX.out
            clear p1 p2 p3 p4 q0 m0 k0
            go_wp2
            obtain ⟨w9, hw9⟩ : ∃ w9, w9 = W.alloc (.cells #[.int .i64 c0, .int .i64 f0, .int .i64 f1, .int .i64 (f2 + 1)] 77) := ⟨_, rfl⟩
            rw [← hw9]
            have E9 := Lib.hid (show Ext wr w9 from hw9 ▸ (HEX.out.alloc _))
            have HB9 := Lib.hid (show Blk w9 W.heap.size 77 #[.int .i64 c0, .int .i64 f0, .int .i64 f1, .int .i64 (f2 + 1)] from hw9 ▸ Blk.new _ _ _)
            clear hw9 p1' p2' p3' p4'
            have v0 := fun V (h : Ext w9 V) => (HB0.out.ext (E9.out.trans h)).c3.1
            have v1 := fun V (h : Ext w9 V) => (HB0.out.ext (E9.out.trans h)).c3.2.1
            have v2 := fun V (h : Ext w9 V) => (HB0.out.ext (E9.out.trans h)).c3.2.2.1
            have u0 := fun V (h : Ext w9 V) => (HB9.out.ext h).c4.1
            have u1 := fun V (h : Ext w9 V) => (HB9.out.ext h).c4.2.1
            have u2 := fun V (h : Ext w9 V) => (HB9.out.ext h).c4.2.2.1
            have u3 := fun V (h : Ext w9 V) => (HB9.out.ext h).c4.2.2.2.1
            refine wp_region_tame_cut (fun V => Ext w9 V) (RC w9.heap.size pre (3 : Int)) (by kernel_rfl) 103 rfl _ rfl (by decide +kernel) (by decide +kernel) (by decide +kernel) rfl (Ext.refl _).drew ?_
            simp only [List.dropLast]
            repeat (apply tame_q rfl; (intro ρ W hC hr hD; (obtain ⟨hrc, hrg, hrf, hrs⟩ := hr); (simp [go_sem] at hD); go_simp; first | exact ⟨⟨hC, RC.refl _⟩, rfl⟩ | exact rfl); simp only [List.nil_append, List.cons_append])
            apply tame_v rfl (EmptyAt 3 w9.heap.size) (fun v V V' _ hR h => by obtain ⟨bb, h1, h2, h3⟩ := h; exact ⟨bb, h1, h2, hR.2.2.2.2 bb h3⟩)
            · intro ρ V hC hr hD
              obtain ⟨hrc, hrg, hrf, hrs⟩ := hr
              simp [go_sem] at hD
              go_simp
              exact ⟨⟨hC.alloc _, RC.ext (Ext.al _ _)⟩, ⟨_, rfl, hC.size, Blk.new _ _ _⟩⟩
            simp only [List.nil_append, List.cons_append]
            repeat (apply tame_q rfl; (intro ρ W hC hr hD; (obtain ⟨hrc, hrg, hrf, hrs⟩ := hr); (simp [go_sem] at hD); go_simp; first | exact ⟨⟨hC, RC.refl _⟩, rfl⟩ | exact rfl); simp only [List.nil_append, List.cons_append])
            apply tame_v rfl (NewI w9.heap.size pre) (fun v V V' _ hR h => ⟨hR.2.1 v h.1, h.2⟩)
            · intro ρ V hC hr hD
              obtain ⟨hrc, hrg, hrf, hrs⟩ := hr
              simp [go_sem] at hD
              obtain ⟨⟨bb, d1, d2, d3⟩, d4⟩ := hD
              obtain ⟨v', V', hrun, hn, hE⟩ := run_copyI d3 d2 hC.size ((HPQ.out.1.ext E9.out).ext hC) (by have := HPL.out; omega) 36
              show opGives _ _ _ _ _ _ _
              unfold opGives execOp
              simp only [resolve, invoke, builtin, Sem.run_bind, Sem.run_pure, Result.andThen_ok, List.map_toArray, List.map_cons, List.map_nil, d1, d4, hrun]
              exact ⟨⟨hC.trans hE, RC.ext hE⟩, hn⟩
            simp only [List.nil_append, List.cons_append]
            repeat (apply tame_q rfl; (intro ρ W hC hr hD; (obtain ⟨hrc, hrg, hrf, hrs⟩ := hr); (simp [go_sem] at hD); go_simp; first | exact ⟨⟨hC, RC.refl _⟩, rfl⟩ | exact rfl); simp only [List.nil_append, List.cons_append])
            apply tame_v rfl (OneB (3 : Int)) (fun v V V' _ hR h => by obtain ⟨bb, h1, h2⟩ := h; exact ⟨bb, h1, hR.2.2.2.1 bb h2⟩)
            · intro ρ V hC hr hD
              obtain ⟨hrc, hrg, hrf, hrs⟩ := hr
              simp [go_sem] at hD
              go_simp
              exact ⟨⟨hC.alloc _, RC.ext (Ext.al _ _)⟩, ⟨_, rfl, Blk.new _ _ _⟩⟩
            simp only [List.nil_append, List.cons_append]
            apply tame_v rfl (fun v V => Own encI 3 1 V w9.heap.size v (pre ++ [(3 : Int)])) (fun v V V' _ hR h => hR.2.2.1 _ (List.prefix_refl _) v h)
            · intro ρ V hC hr hD
              obtain ⟨hrc, hrg, hrf, hrs⟩ := hr
              simp [go_sem] at hD
              obtain ⟨d1, ⟨bb, d2, d3⟩, -⟩ := hD
              obtain ⟨v', V', hrun, ho, hR, hB⟩ := run_appc (c := 1) d1 hC.size (by have := HPL.out; omega) d3 36
              show opGives _ _ _ _ _ _ _
              unfold opGives execOp
              simp only [resolve, invoke, builtin, Sem.run_bind, Sem.run_pure, Result.andThen_ok, List.map_toArray, List.map_cons, List.map_nil, d2, hrun]
              exact ⟨⟨Below.trans hC hB, hR⟩, ho⟩
            simp only [List.nil_append, List.cons_append]
            repeat (apply tame_q rfl; (intro ρ W hC hr hD; (obtain ⟨hrc, hrg, hrf, hrs⟩ := hr); (simp [go_sem] at hD); go_simp; first | exact ⟨⟨hC, RC.refl _⟩, rfl⟩ | exact rfl); simp only [List.nil_append, List.cons_append])
            refine tame_end 103 rfl rfl (fun ρ V hC hr hF => ?_)
            obtain ⟨hrc, hrg, hrf, hrs⟩ := hr
            simp [go_sem] at hF
            obtain ⟨f90, f91, ⟨b92, f92, -⟩, f93, f94, f95, ⟨b96, f96, -⟩, f97, f98, f99, f100, f101⟩ := hF
            have HC9 := Lib.hid (E9.out.trans hC)
            have hso := SlO.own f97 (show g + 3 ≤ w9.heap.size by have h1 := HG.out; have h2 := E5.out.size; have h3 := HGQ.out.size; have h4 := E9.out.size; omega)
            obtain ⟨A7, n7, c7, e97, -, -, -⟩ := hso.1.form
            rw [e97] at hso
            have HSO := Lib.hid hso
            clear hso f97
            apply frame_to
            · go_simp
              exact rfl
            clear e97 f90 f91 f92 f93 f94 f95 f96 f98 f99 f100 f101 hrs hrc hrg hrf v0 v1 v2 u0 u1 u2 u3 hC
            have HIC := Lib.hid (IH.out (pre ++ [(3 : Int)]) (c0) (f0) (f1) ((f2 + 1)) _ _ V (by rw [List.length_append]; simp; have := HPL.out; omega) (by rw [List.length_append, HPL.out]; exact HFR.out) (by omega) (by rw [List.length_append]; simp; have := HPL.out; have := HCL.out; omega) HCU.out HSO.out ((HML.out.ext E5.out |>.gap HGQ.out).ext HC9.out) (HFQ.out.ext HC9.out) HFO.out (HLQ.out.ext HC9.out))
            have HNX := Lib.hid (show lookL (mOf lt size l) pre y r [f0, f1, f2] s (3 + 1) = lookP (mOf lt size l) (pre ++ [(3 : Int)]) r [f0, f1, (f2 + 1)] (lookL (mOf lt size l) pre y r [f0, f1, f2] s 3) by
              rw [HLS.out 3, HOK.out]; rfl)
            go_wp2_with fail
            refine HIC.out.mono ?_
            rintro e w10 ⟨⟨rv, rfl⟩, hlk, hgp⟩
            have HLK10 := Lib.hid hlk
            have HG10 := Lib.hid (HGQ.out.trans ((Gap.of_ext HC9.out).trans hgp))
            clear hlk hgp
            go_wp2
            go_roundg (lt + 1 - (3 + 1))
            case measure => omega
            case rel => exact ⟨3 + 1, by simp, by omega, by omega, by rw [HNX.out]; exact HLK10.out, HG10.out⟩
    · have hke : k = lt + 1 := by omega
      subst hke
      have hkz : ¬ ((lt : Int) + 1 ≤ (lt : Int)) := by omega
      have k0 := HB0.out.c3.1
      go_wp2
      go_end0
      exact ⟨⟨_, rfl⟩, by rw [HLN.out]; exact HLQ.out, (Gap.of_ext E5.out).trans HGQ.out⟩
end Go.Proofs.YtkpengeaolcjhaaGreatDoor
/- The reference's best, Best, Even. -/
namespace Go.Proofs.YtkpengeaolcjhaaGreatDoor
open Go.RowKit Go.Shelf Go.Lib
set_option maxRecDepth 100000
set_option linter.unusedSimpArgs false

theorem look_any {lt : Nat} {size : Int} {l : List Rc} {sv fv : Value} {g : Nat} (hm : Mok (mOf lt size l)) : ∀ (rest : List Bool), LookC lt size l sv fv g rest
  | [] => look_nil hm
  | _ :: r => look_cons hm (look_any hm r)
theorem lookP_all (m : Mll) : lookP m [] (fitL m) [0, 0, 0] ([], (0, 0), false) = lookB m := by
  unfold lookP lookB plansL
  simp only [List.nil_append]
theorem store2 {wr W : World} {g : Nat} {t : TypeId} {x0 x1 : Value} (hg : wr.grownBy W (some g)) (h : Blk W g t #[x0, x1]) (y0 y1 : Value) :
    CR (fun W => CS wr g t 2 W) (fun W W' => RS g t #[y0, y1] W W') W ((W.setCell ⟨g, 0, none⟩ y0).setCell ⟨g, 1, none⟩ y1) ∧ Blk ((W.setCell ⟨g, 0, none⟩ y0).setCell ⟨g, 1, none⟩ y1) g t #[y0, y1] := by
  have hB := h.set2 y0 y1
  exact ⟨⟨⟨grown_set (grown_set hg (p := ⟨g, 0, none⟩) (.inl rfl) y0) (p := ⟨g, 1, none⟩) (.inl rfl) y1, _, hB, rfl⟩, grown_set (grown_set (World.grownBy.refl _ _) (p := ⟨g, 0, none⟩) (.inl rfl) y0) (p := ⟨g, 1, none⟩) (.inl rfl) y1, fun _ => hB⟩, hB⟩
def bestT (m : Mll) : LkT := lookB m
set_option maxHeartbeats 4000000 in
theorem refBestT_any (lots size : Int) (l : List Rc) (sv : Value) (w : World) (hm : Mok (mOf lots size l)) (hs : MlC w sv l) :
    Calls Tryz.prog 61 #[valM lots size sv] w fun e w' => (∃ v, e = .returned (.tuple #[v, valU (bestT (mOf lots size l)).2.1, .bool (bestT (mOf lots size l)).2.2]) ∧ SlI w' v (bestT (mOf lots size l)).1) ∧ Ext w w' := by
  have HS := Lib.hid hs; have HM := Lib.hid hm
  obtain ⟨A, n, c, rfl, hn, hlc, hcm⟩ := hs.1.form
  obtain ⟨lt, hlt⟩ : ∃ lt : Nat, lots = (lt : Int) := ⟨lots.toNat, by have := hm.l1; show lots = _; have h : 1 ≤ lots := this; omega⟩
  subst hlt
  have hn7 : l.length ≤ 7 := by have h := hm.n7; simp at h; exact h
  have HL := Lib.hid (show l.length = n from hn.out.symm)
  have HLO := Lib.hid (fun fv g => look_any (sv := .slice A n c) (fv := fv) (g := g) hm (fitL (mOf lt size l)))
  have HLL := Lib.hid (lookP_all (mOf lt size l))
  have HFL := Lib.hid (show (fitL (mOf lt size l)).length = l.length by unfold fitL; simp)
  have HS4 := Lib.hid (show 0 ≤ size by have h : 2 ≤ size := hm.s2; omega)
  clear hs hm hn
  go_enter Tryz.func61, Tryz.ntmps61
  go_wp2
  obtain ⟨w5, hw5⟩ : ∃ w5, w5 = (((((w.alloc (.cells #[.int .i64 (lt : Int), .int .i64 size, .slice A n c] 24)).alloc (.cells #[.int .i64 0, .int .i64 0] 109)).alloc (.cells #[.slice none 0 0] 36)).alloc (.cells #[.int .i64 0, .int .i64 0] 109)).alloc (.cells #[.bool false] 4)) := ⟨_, rfl⟩
  rw [← hw5]
  have B0 := Lib.hid (show Blk w5 w.heap.size 24 #[.int .i64 (lt : Int), .int .i64 size, .slice A n c] from hw5 ▸ ((((Blk.new _ _ _).alloc _).alloc _).alloc _).alloc _)
  have B1 := Lib.hid (show Blk w5 (w.heap.size + 1) 109 #[.int .i64 0, .int .i64 0] from hw5 ▸ (((Blk.at_ (by simp)).alloc _).alloc _).alloc _)
  have HLK := Lib.hid (show Lk (w.heap.size + 1 + 1) ([], (0, 0), false) w5 from ⟨⟨_, hw5 ▸ ((Blk.at_ (by simp)).alloc _).alloc _, SlO.nil _ _⟩, hw5 ▸ (Blk.at_ (by simp)).alloc _, hw5 ▸ Blk.at_ (by simp)⟩)
  have E5 := Lib.hid (show Ext w w5 from hw5 ▸ ((((Ext.al _ _).alloc _).alloc _).alloc _).alloc _)
  have hz5 : w5.heap.size = w.heap.size + 5 := by rw [hw5]; simp
  have HZ5 := Lib.hid hz5
  clear hw5 hz5
  have v0 := fun V (h : Ext w5 V) => (B0.out.ext h).c3.1
  have v1 := fun V (h : Ext w5 V) => (B0.out.ext h).c3.2.1
  have v2 := fun V (h : Ext w5 V) => (B0.out.ext h).c3.2.2.1
  refine wp_region_tame_cut (fun V => Ext w5 V) (fun V V' => Ext V V') (by kernel_rfl) 16 rfl _ rfl (by decide +kernel) (by decide +kernel) (by decide +kernel) rfl (Ext.refl _).drew ?_
  simp only [List.dropLast]
  repeat (apply tame_q rfl; (intro ρ W hC hr hD; (obtain ⟨hrc, hrg, hrf, hrs⟩ := hr); (simp [go_sem] at hD); go_simp; first | exact ⟨⟨hC, Ext.refl _⟩, rfl⟩ | exact ⟨⟨hC, RS.refl _⟩, rfl⟩ | exact rfl); simp only [List.nil_append, List.cons_append])
  apply tame_v rfl (fun v V => Own encBo 4 1 V w5.heap.size v (fitL (mOf lt size l))) (fun v V V' _ hE h => h.ext hE)
  · intro ρ V hC hr hD
    obtain ⟨hrc, hrg, hrf, hrs⟩ := hr
    simp [go_sem] at hD
    go_simp
    refine (fits_any lt size l _ _ (HS.out.ext (E5.out.trans hC)) (by omega)).mono ?_
    rintro e w' ⟨⟨v', rfl, ho⟩, hE⟩
    exact ⟨_, rfl, ⟨hC.trans hE, hE⟩, ho.mono hC.size⟩
  simp only [List.nil_append, List.cons_append]
  repeat (apply tame_q rfl; (intro ρ W hC hr hD; (obtain ⟨hrc, hrg, hrf, hrs⟩ := hr); (simp [go_sem] at hD); go_simp; first | exact ⟨⟨hC, Ext.refl _⟩, rfl⟩ | exact ⟨⟨hC, RS.refl _⟩, rfl⟩ | exact rfl); simp only [List.nil_append, List.cons_append])
  refine tame_end 16 rfl rfl (fun ρ V hC hr hF => ?_)
  obtain ⟨hrc, hrg, hrf, hrs⟩ := hr
  simp [go_sem] at hF
  obtain ⟨f8, f9, f10, f11⟩ := hF
  have hfs : SlBo V (ρ (.tmp 10)) (fitL (mOf lt size l)) := f10.sl (fun _ => rfl)
  have hfo : ∀ b o n c, ρ (.tmp 10) = .slice (some ⟨b, o, none⟩) n c → 0 < l.length → w.heap.size + 1 + 1 + 3 ≤ b := by
    intro b o n c e h0
    rcases own_formG f10 with ⟨-, h1⟩ | ⟨g', cap, cur, h1, h3, -⟩
    · have h2 := HFL.out; rw [h1] at h2; simp at h2; omega
    · rw [e] at h1; injection h1 with h1; injection h1 with h1; injection h1 with h1; have := HZ5.out; omega
  obtain ⟨A7, n7, c7, e10, -, -, -⟩ := hfs.form
  rw [e10] at hfs hfo
  have HFS := Lib.hid hfs; have HFO := Lib.hid hfo
  apply frame_to
  · go_simp
    exact rfl
  have HC := Lib.hid hC
  clear f8 f9 f10 f11 e10 hrs hrc hrg hrf v0 v1 v2 hC hfs hfo
  have HIC := Lib.hid (HLO.out _ (w.heap.size + 1 + 1) [] 0 0 0 0 _ ([], (0, 0), false) V (by rw [HFL.out]; simp) (by simp) (by omega) (by simp) ⟨⟨by omega, HS4.out, by omega, HS4.out, by omega, HS4.out⟩, fun _ => rfl, fun _ => rfl⟩ (SlO.nil _ _) ((((MlO.of HS.out).mono (by omega)).ext E5.out).ext HC.out) HFS.out HFO.out (HLK.out.ext HC.out))
  go_wp2_with fail
  refine HIC.out.mono ?_
  rintro e w6 ⟨⟨rv, rfl⟩, hlk, hgp⟩
  rw [HLL.out] at hlk
  have HLK6 := Lib.hid (show Lk (w.heap.size + 1 + 1) (bestT (mOf lt size l)) w6 from hlk)
  have HE6 := Lib.hid (show Ext w w6 from hgp.ext (E5.out.trans HC.out) (by omega))
  have HB6 := Lib.hid (hgp.blk (B1.out.ext HC.out) (.inl (by omega)))
  clear hlk hgp
  obtain ⟨⟨T1, ⟨T2, T3⟩, T4⟩, hT⟩ : ∃ T, bestT (mOf lt size l) = T := ⟨_, rfl⟩
  have HT := Lib.hid hT
  rw [hT] at HLK6
  clear hT
  obtain ⟨vb, hvb, hso⟩ := HLK6.out.best
  obtain ⟨A8, n8, c8, rfl, -, -, -⟩ := hso.1.form
  have HSO := Lib.hid hso
  have a0 := hvb.c1.1
  have al := hvb.c1.2.2
  have b0 := HLK6.out.even.c2.1
  have b1 := HLK6.out.even.c2.2.1
  have d0 := HLK6.out.found.c1.1
  have hl1 := HLK6.out.even.lt
  have hl2 := HLK6.out.found.lt
  have q0 := fun W (h : CS w6 (w.heap.size + 1) 109 2 W) => (h.cell (b := w.heap.size + 1 + 1) (by omega) (by omega) 0).trans a0
  have q1 := fun W (h : CS w6 (w.heap.size + 1) 109 2 W) => (h.cell (b := w.heap.size + 1 + 1 + 1) hl1 (by omega) 0).trans b0
  have q2 := fun W (h : CS w6 (w.heap.size + 1) 109 2 W) => (h.cell (b := w.heap.size + 1 + 1 + 1) hl1 (by omega) 1).trans b1
  have q3 := fun W (h : CS w6 (w.heap.size + 1) 109 2 W) => (h.cell (b := w.heap.size + 1 + 1 + 1 + 1) hl2 (by omega) 0).trans d0
  have HST := Lib.hid (CS.start HB6.out)
  clear a0 b0 b1 d0 hvb hso
  dsimp only at q1 q2 q3
  go_wp2_with fail
  refine wp_region_tame (fun W => CS w6 (w.heap.size + 1) 109 2 W) (fun W W' => RS (w.heap.size + 1) 109 #[.int .i64 T2, .int .i64 T3] W W') (by kernel_rfl) 16 rfl (by decide +kernel) HST.out ?_
  repeat (apply tame_q rfl; (intro ρ W hC hr hD; (obtain ⟨hrc, hrg, hrf, hrs⟩ := hr); (simp [go_sem] at hD); go_simp; first | exact ⟨⟨hC, RS.refl _⟩, rfl⟩ | exact rfl); simp only [List.nil_append, List.cons_append])
  apply tame_n (fun _ W => Blk W (w.heap.size + 1) 109 #[.int .i64 T2, .int .i64 T3]) (fun _ W W' _ hR h => hR.2 h)
  · intro ρ W hC hr hD
    obtain ⟨hrc, hrg, hrf, hrs⟩ := hr
    simp [go_sem] at hD
    obtain ⟨hg1, cs0, hB, hsz⟩ := hC
    obtain ⟨cs0⟩ := cs0
    obtain ⟨x0, x1, rfl⟩ : ∃ x0 x1, cs0 = [x0, x1] := by
      match cs0, hsz with
      | [x0, x1], _ => exact ⟨_, _, rfl⟩
    obtain ⟨b0, b1, bf, bl⟩ := hB.c2
    have HB := Lib.hid hB; have HG1 := Lib.hid hg1; clear hB hg1
    go_simp
    exact store2 HG1.out HB.out _ _
  simp only [List.nil_append, List.cons_append]
  repeat (apply tame_q rfl; (intro ρ W hC hr hD; (obtain ⟨hrc, hrg, hrf, hrs⟩ := hr); (simp [go_sem] at hD); go_simp; first | exact ⟨⟨hC, RS.refl _⟩, rfl⟩ | exact rfl); simp only [List.nil_append, List.cons_append])
  refine tame_end 16 rfl rfl (fun ρ W hC hr hF => ?_)
  obtain ⟨hrc, hrg, hrf, hrs⟩ := hr
  simp [go_sem] at hF
  obtain ⟨f13, f14, f15, f2, S0, f4⟩ := hF
  have HS0 := Lib.hid S0
  apply frame_to
  · go_simp
    exact rfl
  have HGW := Lib.hid hC.1
  clear f13 f14 f15 f2 S0 f4 hC hrs hrc hrg hrf q0 q1 q2 q3
  obtain ⟨b0, b1, -, -⟩ := HS0.out.c2
  have HSW := Lib.hid (HSO.out.1.grownG HGW.out (fun h0 b o e h => by have := HSO.out.2 b o n8 c8 (by rw [e]) h0; omega))
  iterate 6 go_wp21
  refine bodyPost_ret (v := .tuple #[.slice A8 n8 c8, valU (T2, T3), .bool T4]) (by simp [results, Tryz.results61, go_sem, b0, b1]) rfl ?_
  exact ⟨⟨_, by rw [HT.out], by rw [HT.out]; exact HSW.out⟩, ext_grown HE6.out HGW.out (by omega)⟩
end Go.Proofs.YtkpengeaolcjhaaGreatDoor
