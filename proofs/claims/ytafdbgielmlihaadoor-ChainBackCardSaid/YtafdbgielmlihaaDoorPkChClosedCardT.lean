/- The program's Hands, whole. -/
import Derived.Test.YtafdbgielmlihaaDoorPkChClosedCardS
import Derived.Test.YtafdbgielmlihaaDoorPkChClosedCardO
import Derived.Test.YtafdbgielmlihaaDoorPkChClosedCardR
import Derived.Test.YtafdbgielmlihaaDoorPkChClosedCardJ
import Derived.Test.YtafdbgielmlihaaDoorPkChClosedCardD
import Derived.Test.YtafdbgielmlihaaDoorPkChClosedCardE
import Derived.Test.YtafdbgielmlihaaDoorPkChClosedCardC
import Derived.Test.YtafdbgielmlihaaDoorPkChClosedCardN
namespace Go.Proofs.YtafdbgielmlihaaDoor
open Go.RowKit Go.Shelf Go.Lib
set_option maxRecDepth 100000
set_option linter.unusedSimpArgs false

theorem HopW.below {c : Chn} {b1 b4 b9 mb gm n2 cp2 N2 M2 B : Nat} {A2 : Option Addr} {v1 hv' sv' cv' : Value} {m : List Int} {W W' : World} (h : HopW c b1 b4 b9 mb gm n2 cp2 N2 M2 A2 v1 hv' sv' cv' m W) (k : Below B W W')
    (h1 : b1 < B) (h4 : b4 < B) (hm : mb < B) (h9 : b9 < B) (hg : gm < B) (hs : 0 < c.sales.length → ∀ b o, A2 = some ⟨b, o, none⟩ → b < B) : HopW c b1 b4 b9 mb gm n2 cp2 N2 M2 A2 v1 hv' sv' cv' m W' :=
  ⟨(k.block b1 h1).trans h.ch, (k.block b4 h4).trans h.mp, (k.block mb hm).trans h.mkt, (k.block b9 h9).trans h.fn, (k.block gm hg).trans h.row, h.sl.below k hs, h.x1, h.x4, h.xm, h.x9, h.xs⟩
theorem OffB.far3 {gm bo bm : Nat} {X W U : World} {o : Obj} (h : OffB (fun i => i = gm ∨ i = bo) X W) (k : OffB (fun i => i = gm ∨ i = bm ∨ i = bo) (W.alloc o) U) (hb : X.heap.size ≤ bm) : OffB (fun i => i = gm ∨ i = bo) X U :=
  ⟨k.os.trans h.os, k.tape.trans h.tape, k.output.trans h.output, Nat.le_trans h.size (Nat.le_trans (by simp) k.size), fun i hi hs => (k.block i (by have := h.size; simp; omega) (by
    rintro (h1 | h1 | h1)
    · exact hs (.inl h1)
    · omega
    · exact hs (.inr h1))).trans (((Ext.al W o).block i (by have := h.size; omega)).trans (h.block i hi hs))⟩
theorem OffB.below {S : Nat → Prop} {X W U : World} (h : OffB S X W) (k : Below X.heap.size W U) : OffB S X U :=
  ⟨k.os.trans h.os, k.tape.trans h.tape, k.output.trans h.output, Nat.le_trans h.size k.size, fun i hi hs => (k.block i hi).trans (h.block i hi hs)⟩
/-- What the loop over the houses keeps. -/
structure HdW (c : Chn) (l : List Int) (b1 b4 b9 mb gm bo n2 cp2 N2 M2 : Nat) (A2 : Option Addr) (v1 hv' sv' cv' : Value) (X0 : World) (k : Nat) (v : Value) (W : World) : Prop where
  off : OffB (fun i => i = gm ∨ i = bo) X0 W
  hop : HopW c b1 b4 b9 mb gm n2 cp2 N2 M2 A2 v1 hv' sv' cv' (handsTo c l (getsL c l) k).1 W
  owe : ∃ f nn, MapI W bo nn f ∧ OweAt c (getsL c l) k 0 f ∧ nn ≤ 10 + 1000 * k
  out : Own encHd 99 3 W X0.heap.size v (handsTo c l (getsL c l) k).2
set_option maxHeartbeats 8000000 in
theorem hands_any (c : Chn) (l : List Int) (hv sv : Value) (w : World) (hcl : CloseOf c l) (hT : Tab w) (hh : SlI w hv c.houses) (hs : SlL w sv c.sales) (hl : c.sales.length ≤ 1000) :
    Calls Tryd.prog 30 #[valC hv sv] w (HandE (handsL c l) (errB (checkP c) 60) w) := by
  have HT := Lib.hid hT; have HH := Lib.hid hh; have HS := Lib.hid hs; have HL := Lib.hid hl
  obtain ⟨A, n, cp, rfl, hn, hlc, hcm⟩ := hh.form
  obtain ⟨A2, n2, cp2, rfl, hn2, hlc2, hcm2⟩ := hs.form
  clear hh hs hT hl
  cases hc : checkP c with
  | false =>
    have HO := Lib.hid (show handsL c l = [] by unfold handsL; rw [hc]; rfl)
    have HCK := Lib.hid hc
    clear hcl hc
    go_enter Tryd.func30, Tryd.ntmps30
    go_wp2_with fail
    refine (opened_no c _ _ _ (HT.out.ext (Ext.al _ _)) (HH.out.ext (Ext.al _ _)) (HS.out.ext (Ext.al _ _)) HL.out HCK.out).mono ?_
    rintro e w1 ⟨rfl, hE⟩
    have E1 := Lib.hid ((Ext.al w _).trans hE); clear hE
    go_wp2
    go_ret2
    exact ⟨⟨.slice none 0 0, by rfl, by rw [HO.out]; exact Sl.nil _⟩, E1.out.alloc _⟩
  | true =>
    have HPL := Lib.hid (show handsL c l = (handsTo c l (getsL c l) c.houses.length).2 by unfold handsL; rw [hc]; rfl)
    have HO := Lib.hid (hcl.1 hc)
    have HCLO := Lib.hid hcl
    have HCK := Lib.hid hc
    have HR := Lib.hid (check_right hc).1
    have HS10 := Lib.hid (check_right hc).2
    have B0 := Lib.hid (show Blk (w.alloc (.cells #[.slice A n cp, .slice A2 n2 cp2] 25)) w.heap.size 25 #[.slice A n cp, .slice A2 n2 cp2] from Blk.new _ _ _)
    clear hcl hc
    go_enter Tryd.func30, Tryd.ntmps30
    go_wp2_with fail
    refine (opened_yes c l _ _ _ HCLO.out (HT.out.ext (Ext.al _ _)) (HH.out.ext (Ext.al _ _)) (HS.out.ext (Ext.al _ _)) HCK.out).mono ?_
    rintro e w2 ⟨mb, gm, hv', sv', cv', rfl, hE, h1, h2, h3, h4, h5, h6'⟩
    have HLN := Lib.hid (close_len HO.out)
    obtain ⟨N2, hN2⟩ : ∃ N2, c.sales.length = N2 := ⟨_, rfl⟩
    rw [hN2] at h3
    have hlN : l.length = N2 := by have := HLN.out; omega
    have rm := fun w => run_makeMap (P := Tryd.prog) 117 w
    obtain ⟨V, hV⟩ : ∃ V, V = (w2.alloc (.cells #[.pointer (some ⟨mb, 0, none⟩)] 109)).alloc (.map #[] 0) := ⟨_, rfl⟩
    have hzV : V.heap.size = w2.heap.size + 2 := by rw [hV]; simp
    have E2V := Lib.hid (show Ext w2 V from hV ▸ (Ext.al _ _).alloc _)
    have EV := Lib.hid (((Ext.al w _).trans hE).trans E2V.out)
    have B1V := Lib.hid ((B0.out.ext hE).ext E2V.out)
    have BPV := Lib.hid (show Blk V w2.heap.size 109 #[.pointer (some ⟨mb, 0, none⟩)] from hV ▸ (Blk.new _ _ _).alloc _)
    have MV := Lib.hid (h3.ext E2V.out); have RV := Lib.hid (h4.ext E2V.out); have HV' := Lib.hid (h5.ext E2V.out); have SV' := Lib.hid (h6'.ext E2V.out)
    have OV := Lib.hid (show MapI V (w2.heap.size + 1) 0 fun _ => 0 from by
      have := MapI.made (w2.alloc (.cells #[.pointer (some ⟨mb, 0, none⟩)] 109))
      rw [World.size_alloc] at this
      exact hV ▸ this)
    have LV := Lib.hid (show SlI V (.slice (some ⟨gm, 0, none⟩) N2 N2) l from by
      have := RV.out.sl (by rw [hlN]; have := HS10.out; unfold maxLen; omega)
      rwa [hlN] at this)
    have hgw : gm < w2.heap.size := h4.lt
    have hmw : mb < w2.heap.size := h3.lt
    have hww := hE.size
    rw [World.size_alloc] at h1 h2 hww
    clear hE h3 h4 h5 h6'
    go_wp2
    simp only [← hV]
    clear hV
    have m0 := fun W (h : Ext V W) => (BPV.out.ext h).c1
    have m1 := fun W (h : Ext V W) => (MV.out.ext h).c4
    refine wp_region_tame (fun W => Ext V W) (fun W W' => Ext W W') (by kernel_rfl) 103 rfl (by decide +kernel) (Ext.refl _).drew ?_
    repeat (apply tame_q rfl; (intro ρ W hC hr hD; (obtain ⟨hrc, hrg, hrf, hrs⟩ := hr); (simp [go_sem] at hD); go_simp; first | exact ⟨⟨hC, Ext.refl _⟩, rfl⟩ | exact ⟨⟨hC, RS.refl _⟩, rfl⟩ | exact rfl); simp only [List.nil_append, List.cons_append])
    apply tame_v rfl (RowV V.heap.size (getsL c l)) (fun v W W' _ hE h => h.ext hE)
    · intro ρ W hC hr hD
      obtain ⟨hrc, hrg, hrf, hrs⟩ := hr
      simp [go_sem] at hD
      have hz := hC.size
      clear m0 m1
      go_simp
      refine (mgets_any c l mb _ _ _ _ _ W (MV.out.ext hC) (HV'.out.ext hC) (SV'.out.ext hC) (LV.out.ext hC) HR.out (by have := HS10.out; omega) HLN.out (fun y hy => by have := close_nine HR.out HO.out y hy; omega)).mono ?_
      rintro e w' ⟨⟨g, rfl, hg, hr⟩, hE⟩
      exact ⟨_, rfl, ⟨hC.trans hE, hE⟩, ⟨g, rfl, by omega, hr⟩⟩
    simp only [List.nil_append, List.cons_append]
    apply tame_v rfl (fun v _ => v = .int .i64 (n : Int)) (fun v W W' _ _ h => h)
    · intro ρ W hC hr hD
      obtain ⟨hrc, hrg, hrf, hrs⟩ := hr
      simp [go_sem] at hD
      obtain ⟨g, d1, d2, d3⟩ := hD
      clear m0 m1
      go_simp
      exact ⟨⟨hC, Ext.refl _⟩, by rw [gets_len, hn.out]⟩
    simp only [List.nil_append, List.cons_append]
    repeat (apply tame_q rfl; (intro ρ W hC hr hD; (obtain ⟨hrc, hrg, hrf, hrs⟩ := hr); (simp [go_sem] at hD); go_simp; first | exact ⟨⟨hC, Ext.refl _⟩, rfl⟩ | exact ⟨⟨hC, RS.refl _⟩, rfl⟩ | exact rfl); simp only [List.nil_append, List.cons_append])
    refine tame_end_put rfl rfl (fun ρ V2 hC hr hF => ?_)
    simp [go_sem] at hF
    obtain ⟨f1, f2, f3, f4, f5, ⟨g5, f6, hg5, hR5⟩, f7, f8⟩ := hF
    have hgn : (getsL c l).length = n := by rw [gets_len]; exact hn.out.symm
    rw [hgn] at f6
    simp only [putF, f1, f2, f3, f4, f5, f6, f7, f8, List.set_cons_succ, List.set_cons_zero]
    have EV2 := Lib.hid hC; have R5 := Lib.hid hR5
    clear hr f1 f2 f3 f4 f5 f6 f7 f8 m0 m1 hR5 hC
    have hzV2 := EV2.out.size
    have HRC := Lib.hid HR.out
    have hn6 : n ≤ 6 := by have := HR.out.h6; have := hn.out; omega
    have HMV := Lib.hid (show Mvs c l from ⟨HLN.out, close_nine HR.out HO.out⟩)
    have HNE := Lib.hid hn.out
    have HAB := Lib.hid (fun h => HH.out.lt (w := w) h)
    have HSB := Lib.hid (fun h => HS.out.lt (w := w) h)
    have EW2 := Lib.hid (EV.out.trans EV2.out)
    have OV2 := Lib.hid (OV.out.ext EV2.out)
    have B1V2 := Lib.hid (B1V.out.ext EV2.out)
    have HHV2 := Lib.hid (HH.out.ext EW2.out)
    go_wp2
    refine wp_loop_ghost_k (fun g A' W => ∃ (k nn : Nat) (f : Int → Int), k ≤ n ∧ n - k ≤ g ∧ Fr 103 [(1, .pointer (some ⟨w.heap.size, 0, none⟩)), (4, .pointer (some ⟨w2.heap.size, 0, none⟩)), (6, .map (some (w2.heap.size + 1))), (31, .slice (some ⟨g5, 0, none⟩) n n), (32, .int .i64 (n : Int)), (33, .int .i64 (k : Int))] [] A' ∧
      V2.grownBy W (some (w2.heap.size + 1)) ∧ MapI W (w2.heap.size + 1) nn f ∧ OweTo c (getsL c l) k f ∧ nn ≤ k) n ?_ ?_
    · exact ⟨0, 0, _, by omega, by omega, ⟨rfl, rfl, by simp [Act.eval]⟩, World.grownBy.refl _ _, OV2.out, owe_start _ _, by omega⟩
    · rintro g A' W ⟨k, nn, f, hk, hg, hF, hG, hM, hOT, hnn⟩ J K' hJ hK
      have HJ := Lib.hid hJ; have HG := Lib.hid hG; have HM := Lib.hid hM; have HOT := Lib.hid hOT
      obtain ⟨ρ, rfl, hρ⟩ := hF.open_
      simp only [List.forall_mem_cons] at hρ
      obtain ⟨r1, r4, r6, r31, r32, r33, -⟩ := hρ
      simp only [lst, Nat.reduceAdd, r1, r4, r6, r31, r32, r33]
      clear r1 r4 r6 r31 r32 r33 hF hG hM hOT hJ
      have hzW := HG.out.size
      have NC := Lib.hid OV2.out.noC
      have HHW := Lib.hid (HHV2.out.offC HG.out NC.out)
      have HB1 := Lib.hid (B1V2.out.offC HG.out NC.out)
      by_cases hkn : k < n
      · have hkz : (k : Int) < (n : Int) := by omega
        obtain ⟨bh, oh, h, rfl, hh, -, hcell⟩ := HHW.out.at_ hkn
        have ch := SlI.cell hcell (Ext.refl _)
        obtain ⟨g0, hg0⟩ : ∃ g0, (getsL c l)[k]? = some g0 := ⟨_, List.getElem?_eq_getElem (by omega)⟩
        have hgb := gets_bd HMV.out (by have := HS10.out; omega) g0 (List.mem_of_getElem? hg0)
        have R5W := Lib.hid (show RowI W g5 (getsL c l) from Blk.offC R5.out HG.out NC.out)
        have cg := R5W.out.cell hg0
        have cgf := R5W.out.frozen
        have cgl := R5W.out.lt
        obtain ⟨b0, b1, bf, bl⟩ := HB1.out.c2
        have hkb : In64 h := by have := rising_gt HR.out.hr h (List.mem_of_getElem? hh); unfold In64; omega
        have hw1 : IntKind.i64.wrap (-g0) = -g0 := by rw [IntKind.wrap_i64]; omega
        have HHK := Lib.hid hh; have HGK := Lib.hid hg0
        clear hcell hh hg0
        by_cases hneg : g0 < 0
        · obtain ⟨W2, s2, hM2, hG2⟩ := HM.out.store hkb (by omega) (v := -g0) (by unfold In64; omega)
          have HM2 := Lib.hid hM2; have HG2 := Lib.hid (grown_tr HG.out hG2)
          have HOT2 := Lib.hid (owe_put HR.out HOT.out HHK.out HGK.out hneg)
          clear hM2 hG2
          go_wp2
          exact Handed.intro (n - (k + 1)) (by omega) (HJ.out _ _ _ ⟨k + 1, nn + 1, _, by omega, Nat.le_refl _, ⟨rfl, rfl, by simp [Act.eval]⟩, HG2.out, HM2.out, HOT2.out, by omega⟩)
        · have HOT2 := Lib.hid (owe_skip HOT.out HGK.out hneg)
          go_wp2
          exact Handed.intro (n - (k + 1)) (by omega) (HJ.out _ _ _ ⟨k + 1, nn, f, by omega, Nat.le_refl _, ⟨rfl, rfl, by simp [Act.eval]⟩, HG.out, HM.out, HOT2.out, by omega⟩)
      · have HE := Lib.hid (show k = n by omega)
        have HOA := Lib.hid (owe_full HOT.out (by have := HE.out; have := HNE.out; omega))
        obtain ⟨X0, hX0⟩ : ∃ X0, X0 = W.alloc (.cells #[.func (.func 80) #[] #[.pointer (some ⟨w.heap.size, 0, none⟩), .pointer (some ⟨w2.heap.size, 0, none⟩), .pointer (some ⟨W.heap.size, 0, none⟩)]] 118) := ⟨_, rfl⟩
        have EX := Lib.hid (show Ext W X0 from hX0 ▸ Ext.al _ _)
        have BF := Lib.hid (show Blk X0 W.heap.size 118 #[.func (.func 80) #[] #[.pointer (some ⟨w.heap.size, 0, none⟩), .pointer (some ⟨w2.heap.size, 0, none⟩), .pointer (some ⟨W.heap.size, 0, none⟩)]] from hX0 ▸ Blk.new _ _ _)
        have hzX : X0.heap.size = W.heap.size + 1 := by rw [hX0]; simp
        have HB1X := Lib.hid (HB1.out.ext EX.out)
        have HOP := Lib.hid (show HopW c w.heap.size w2.heap.size W.heap.size mb gm n2 cp2 N2 N2 A2 (.slice A n cp) hv' sv' cv' l X0 from
          ⟨HB1X.out, ((BPV.out.ext EV2.out).offC HG.out NC.out).ext EX.out, ((MV.out.ext EV2.out).offC HG.out NC.out).ext EX.out, BF.out, (show RowI W gm l from Blk.offC (RV.out.ext EV2.out) HG.out NC.out).ext EX.out, ((HS.out.ext EW2.out).offC HG.out NC.out).ext EX.out,
            by omega, by omega, Blk.ne MV.out RV.out (by decide), by omega, fun h b o e => by have := HSB.out h b o e; omega⟩)
        have HMX := Lib.hid (HM.out.ext EX.out)
        have EWX := Lib.hid (show Ext w X0 from (ext_grown EW2.out HG.out (by omega)).trans EX.out)
        obtain ⟨b0, b1, bf, bl⟩ := HB1.out.c2
        go_wp2
        simp only [← hX0]
        clear b0 b1 bf bl hX0
        refine wp_loop_ghost_k (fun g A' W' => ∃ (k : Nat) (A1 : Option Addr) (n1 d1 : Nat), k ≤ n ∧ n - k ≤ g ∧ Fr 103 [(1, .pointer (some ⟨w.heap.size, 0, none⟩)), (4, .pointer (some ⟨w2.heap.size, 0, none⟩)), (6, .map (some (w2.heap.size + 1))), (9, .pointer (some ⟨W.heap.size, 0, none⟩)), (10, .slice A1 n1 d1), (51, .slice A n cp), (52, .int .i64 (n : Int)), (53, .int .i64 (k : Int))] [] A' ∧
          HdW c l w.heap.size w2.heap.size W.heap.size mb gm (w2.heap.size + 1) n2 cp2 N2 N2 A2 (.slice A n cp) hv' sv' cv' X0 k (.slice A1 n1 d1) W') n ?_ ?_
        · exact ⟨0, none, 0, 0, by omega, by omega, ⟨rfl, rfl, by simp [Act.eval]⟩, OffB.refl _ _, HOP.out, ⟨f, nn, HMX.out, HOA.out, by omega⟩, Own.nil _ _⟩
        · rintro g A' W' ⟨k, A1, n1, d1, hk, hg, hF, hD⟩ J K' hJ hK
          have HJ := Lib.hid hJ; have HD := Lib.hid hD
          have hzW' := hD.off.size
          obtain ⟨f2, nn2, hM2, hOA2, hnn2⟩ := hD.owe
          have HM2 := Lib.hid hM2; have HOA2 := Lib.hid hOA2
          obtain ⟨ρ, rfl, hρ⟩ := hF.open_
          simp only [List.forall_mem_cons] at hρ
          obtain ⟨r1, r4, r6, r9, r10, r51, r52, r53, -⟩ := hρ
          simp only [lst, Nat.reduceAdd, r1, r4, r6, r9, r10, r51, r52, r53]
          clear r1 r4 r6 r9 r10 r51 r52 r53 hF hD hM2 hOA2 hJ
          have EW' := Lib.hid (ext_off EWX.out HD.out.off (fun i hi => by rintro (h | h) <;> omega))
          by_cases hkn : k < n
          · have hkz : (k : Int) < (n : Int) := by omega
            have HHW' := Lib.hid (HH.out.ext EW'.out)
            obtain ⟨bh, oh, h, rfl, hh, -, hcell⟩ := HHW'.out.at_ hkn
            have ch := SlI.cell hcell (Ext.refl _)
            obtain ⟨g0, hg0⟩ : ∃ g0, (getsL c l)[k]? = some g0 := ⟨_, List.getElem?_eq_getElem (by omega)⟩
            have hgb := gets_bd HMV.out (by have := HS10.out; omega) g0 (List.mem_of_getElem? hg0)
            have HHK := Lib.hid hh; have HGK := Lib.hid hg0
            have HHM := Lib.hid (List.mem_of_getElem? hh)
            obtain ⟨hto1, hto2⟩ := handsTo_ok HR.out HMV.out (gets_len c l) k (by have := HNE.out; omega)
            have HTO1 := Lib.hid hto1
            have HST := Lib.hid (handsTo_succ (c := c) (l := l) hh hg0)
            have hCR := cnt_row HR.out HHM.out hto1 (-g0).toNat
            have HCR := Lib.hid hCR
            obtain ⟨K, hKK⟩ : ∃ K, (-g0).toNat = K := ⟨_, rfl⟩
            rw [hKK] at HST HCR
            have HKK := Lib.hid hKK
            clear hcell hh hg0 hto1 hCR hKK
            go_upto_block 4 with (fail)
            clear ch
            refine bales4_wp (c := c) (m0 := (handsTo c l (getsL c l) k).1) (gets := getsL c l) (k := k) (K := K) (h0 := h) (g0 := g0) (b1 := w.heap.size) (b4 := w2.heap.size) (b9 := W.heap.size) (mb := mb) (gm := gm) (n2 := n2) (cp2 := cp2) (N2 := N2) (M2 := N2) (bm := W'.heap.size) (bo := w2.heap.size + 1) (nn := nn2) (A2 := A2) (v1 := .slice (some ⟨bh, oh, none⟩) n cp) (hv' := hv') (sv' := sv') (cv' := cv') (f0 := f2)
              (v10 := .slice A1 n1 d1) (v51 := .slice (some ⟨bh, oh, none⟩) n cp) (v52 := .int .i64 (n : Int)) (v53 := .int .i64 (k : Int))
              HR.out (by have := HS10.out; omega) hN2.symm HHK.out HGK.out HKK.out.symm (by have := HKK.out; omega) HTO1.out ⟨rfl, rfl, by simp [Act.eval]⟩ (HD.out.hop.ext (Ext.al _ _)) (MapI.made _) (HM2.out.ext (Ext.al _ _)) HOA2.out (by omega) (by omega) ?_
            intro A3 W3 f3 hF3 hOff3 hHop3 hM3 hO3 hOA3
            have OFX := Lib.hid (HD.out.off.far3 hOff3 hzW')
            have OUT3 := Lib.hid (show Own encHd 99 3 W3 X0.heap.size (.slice A1 n1 d1) (handsTo c l (getsL c l) k).2 from
              own_same (HD.out.out.alloc _) fun g hg => hOff3.block g (own_rng (HD.out.out.alloc _) hg).2 (by
                have := own_rng HD.out.out hg
                rintro (h | h | h) <;> omega))
            have HP3 := Lib.hid hHop3; have HM3 := Lib.hid hM3; have HO3 := Lib.hid hO3; have HOA3 := Lib.hid hOA3
            have hz3 := hOff3.size
            rw [World.size_alloc] at hz3
            have EW3 := Lib.hid (ext_off EWX.out OFX.out (fun i hi => by rintro (h | h) <;> omega))
            have HHW3 := Lib.hid (HH.out.ext EW3.out)
            obtain ⟨ρ, rfl, hρ⟩ := hF3.open_
            simp only [List.forall_mem_cons] at hρ
            obtain ⟨r1, r4, r6, r9, r10, r12, r13, r51, r52, r53, -⟩ := hρ
            simp only [lst, Nat.reduceAdd, r1, r4, r6, r9, r10, r12, r13, r51, r52, r53]
            clear r1 r4 r6 r9 r10 r12 r13 r51 r52 r53 hF3 hOff3 hHop3 hM3 hO3 hOA3 HM2 HOA2
            obtain ⟨b0, b1, bf, bl⟩ := HP3.out.ch.c2
            go_upto_block 6 with (fail)
            clear b0 b1 bf bl
            refine outp6_wp (c := c) (row := (handRow c h K ((handsTo c l (getsL c l) k).1, List.replicate c.houses.length 0)).2) (cnt := (cntTo c h (handsTo c l (getsL c l) k).1 K).2) (out0 := (handsTo c l (getsL c l) k).2) (h0 := h) (b1 := w.heap.size) (bm := W'.heap.size) (K := K) (B := X0.heap.size) (A := some ⟨bh, oh, none⟩) (n := n) (cp := cp) (v2 := .slice A2 n2 cp2) (A0 := A1) (n0 := n1) (d0 := d1)
              (v4 := .pointer (some ⟨w2.heap.size, 0, none⟩)) (v6 := .map (some (w2.heap.size + 1))) (v9 := .pointer (some ⟨W.heap.size, 0, none⟩)) (v51 := .slice (some ⟨bh, oh, none⟩) n cp) (v52 := .int .i64 (n : Int)) (v53 := .int .i64 (k : Int))
              HR.out HNE.out hn6 (by omega) (by omega) (by omega) (fun t => (cnt_bd _ _ _ _ _).1) HCR.out.2 ⟨rfl, rfl, by simp [Act.eval]⟩ HP3.out.ch HHW3.out (fun h b o e => by have := HAB.out h b o e; omega) HM3.out OUT3.out ?_
            intro A4 W4 A5 n5 d5 hF4 hBel hO4
            have HD4 := Lib.hid (show HdW c l w.heap.size w2.heap.size W.heap.size mb gm (w2.heap.size + 1) n2 cp2 N2 N2 A2 (.slice (some ⟨bh, oh, none⟩) n cp) hv' sv' cv' X0 (k + 1) (.slice A5 n5 d5) W4 from
              ⟨OFX.out.below hBel, by
                rw [HST.out]
                dsimp only
                rw [← HCR.out.1]
                exact HP3.out.below hBel (by omega) (by omega) (by omega) (by omega) (by omega) (fun h b o e => by have := HSB.out h b o e; omega),
                ⟨f3, nn2 + K, HO3.out.at_ (hBel.block _ (by omega)), HOA3.out, by have := HKK.out; omega⟩, by rw [HST.out]; exact hO4⟩)
            obtain ⟨ρ, rfl, hρ⟩ := hF4.open_
            simp only [List.forall_mem_cons] at hρ
            obtain ⟨r1, r4, r6, r9, r10, r51, r52, r53, -⟩ := hρ
            simp only [lst, Nat.reduceAdd, r1, r4, r6, r9, r10, r51, r52, r53]
            clear r1 r4 r6 r9 r10 r51 r52 r53 hF4 hBel hO4
            go_wp2
            exact Handed.intro (n - (k + 1)) (by omega) (HJ.out _ _ _ ⟨k + 1, A5, n5, d5, by omega, Nat.le_refl _, ⟨rfl, rfl, by simp [Act.eval]⟩, HD4.out⟩)
          · have HE := Lib.hid (show k = n by omega)
            go_wp2
            go_ret2
            refine ⟨⟨.slice A1 n1 d1, by rfl, ?_⟩, EW'.out⟩
            have := HD.out.out
            rw [HPL.out, ← HNE.out, ← HE.out]
            exact this.sl (fun _ => rfl)
end Go.Proofs.YtafdbgielmlihaaDoor
/- Pays: the program's. -/
namespace Go.Proofs.YtafdbgielmlihaaDoor
open Go.RowKit Go.Shelf Go.Lib
set_option maxRecDepth 100000
set_option linter.unusedSimpArgs false

theorem payN_bd {c : Chn} {l : List Int} {p : Int} (hR : Right c) (hl : ∀ y ∈ l, 0 ≤ y ∧ y ≤ 9) (hp : 0 ≤ p ∧ p ≤ 1000000) : ∀ y ∈ payN c l p, -30000000 ≤ y ∧ y ≤ 30000000 := by
  intro y hy
  unfold payN at hy
  obtain ⟨⟨x, z⟩, hz, rfl⟩ := List.mem_map.1 hy
  obtain ⟨h1, h2⟩ := List.of_mem_zip hz
  obtain ⟨-, -, -, hb, hpr⟩ := hR.sale x h1
  have hz9 := hl z h2
  dsimp only
  have h3 := Int.mul_le_mul_of_nonneg_left (a := x.bales - z + 9) (b := 18) (c := 1000000) (by omega) (by decide)
  have h4 := mul_bd (a := x.price - p) (b := x.bales - z + 9) (A := 1000000) (B := 18) (by omega) (by omega) (by decide)
  have h5 : (x.price - p) * (x.bales - z + 9) = (x.price - p) * (x.bales - z) + (x.price - p) * 9 := Int.mul_add _ _ _
  omega
set_option maxHeartbeats 4000000 in
theorem pays_any (c : Chn) (l : List Int) (p : Int) (hv sv : Value) (w : World) (hcl : CloseOf c l) (hT : Tab w) (hh : SlI w hv c.houses) (hs : SlL w sv c.sales) (hl : c.sales.length ≤ 1000) :
    Calls Tryd.prog 37 #[valC hv sv, .int .i64 p] w (ListE (paysL c l p) (paysE c p) w) := by
  have HT := Lib.hid hT; have HH := Lib.hid hh; have HS := Lib.hid hs; have HL := Lib.hid hl
  obtain ⟨A, n, cp, rfl, hn, hlc, hcm⟩ := hh.form
  obtain ⟨A2, n2, cp2, rfl, hn2, hlc2, hcm2⟩ := hs.form
  have B0 := Lib.hid (show Blk (w.alloc (.cells #[.slice A n cp, .slice A2 n2 cp2] 25)) w.heap.size 25 #[.slice A n cp, .slice A2 n2 cp2] from Blk.new _ _ _)
  clear hh hs hT hl
  go_enter Tryd.func37, Tryd.ntmps37
  go_wp2_with fail
  refine (check_any c _ _ _ (HT.out.ext (Ext.al _ _)) (HH.out.ext (Ext.al _ _)) (HS.out.ext (Ext.al _ _)) HL.out).mono ?_
  rintro e w1 ⟨rfl, hE⟩
  have E1 := Lib.hid ((Ext.al w _).trans hE); have B1 := Lib.hid (B0.out.ext hE)
  clear hE
  cases hc : checkP c with
  | false =>
    have HO := Lib.hid (show paysL c l p = [] ∧ paysE c p = 60 by unfold paysL paysE paysB; rw [hc]; exact ⟨rfl, rfl⟩)
    clear hcl hc
    dsimp only [errB]
    go_wp2
    go_ret2
    exact ⟨⟨.slice none 0 0, by rw [HO.out.2]; rfl, by rw [HO.out.1]; exact Sl.nil _⟩, E1.out⟩
  | true =>
    have HO := Lib.hid (hcl.1 hc)
    have HR := Lib.hid (check_right hc).1
    have HS10 := Lib.hid (check_right hc).2
    have HCK := Lib.hid hc
    clear hcl hc
    dsimp only [errB]
    have hz1 := E1.out.size
    go_wp2_with fail
    refine (in1_any 0 1000000 p w1.heap.size _ (by simp) (by simp [go_sem])).mono ?_
    rintro e w2 ⟨rfl, hE⟩
    have E2 := Lib.hid (E1.out.trans ((Ext.al _ _).trans hE)); have B2 := Lib.hid (B1.out.ext ((Ext.al _ _).trans hE))
    clear hE
    cases hp : inB 0 1000000 p with
    | false =>
      have HO := Lib.hid (show paysL c l p = [] ∧ paysE c p = 62 by unfold paysL paysE paysB; rw [HCK.out, hp]; exact ⟨rfl, rfl⟩)
      clear hp
      go_wp2
      go_ret2
      exact ⟨⟨.slice none 0 0, by rw [HO.out.2]; rfl, by rw [HO.out.1]; exact Sl.nil _⟩, E2.out⟩
    | true =>
      have HP := Lib.hid (show paysL c l p = getsL c (payN c l p) ∧ paysE c p = 0 by unfold paysL paysE paysB; rw [HCK.out, hp]; exact ⟨rfl, rfl⟩)
      have hpb := inB_iff.1 hp
      clear hp
      have x0 := B2.out.c2
      have hz2 := E2.out.size
      go_wp2_with fail
      refine (closing_any c l _ _ _ HO.out HR.out (by have := HS10.out; omega) (HH.out.ext E2.out) (HS.out.ext E2.out)).mono ?_
      rintro e w3 ⟨mb, gm, hv', sv', cv', rfl, hE, h1, h2, h3, h4, h5, h6'⟩
      have E3 := Lib.hid (E2.out.trans hE); have B3 := Lib.hid (B2.out.ext hE)
      have hz3 := hE.size
      obtain ⟨N2, hN2⟩ : ∃ N2, c.sales.length = N2 := ⟨_, rfl⟩
      rw [hN2] at h3
      have HLN := Lib.hid (close_len HO.out)
      have hnN : n2 = N2 := by have := hn2.out; omega
      subst hnN
      have HN2 := Lib.hid hN2
      have hmlt := h3.lt; have hglt := h4.lt
      obtain ⟨A3, n3, cp3, rfl, -, -, -⟩ := h5.form
      have BM := Lib.hid h3; have RM := Lib.hid h4; have HH' := Lib.hid h5
      have HAB := Lib.hid (fun h => HH'.out.lt h)
      have hn6 : n ≤ 6 := by have := HR.out.h6; have := hn.out; omega
      have hn10 : n2 ≤ 10 := by have := HS10.out; omega
      have hmk := fun w => run_makeI (n := n) (by omega) w
      clear hE h3 h4 h5 h6' x0 hN2
      have x0 := B3.out.c2
      have HM := Lib.hid (payN_len HLN.out p)
      have HMB := Lib.hid (payN_bd HR.out (close_nine HR.out HO.out) hpb)
      have HZ := Lib.hid (show netTo c (payN c l p) 0 = List.replicate n 0 by rw [netTo_zero, hn.out])
      have HSB := Lib.hid (fun h => HS.out.lt (w := w) h)
      obtain ⟨w4, hw4⟩ : ∃ w4, w4 = w3.alloc (.cells (intsA (List.replicate n 0)) 3) := ⟨_, rfl⟩
      have E4 := Lib.hid (show Ext w3 w4 from hw4 ▸ Ext.al _ _)
      have R4 := Lib.hid (show RowI w4 w3.heap.size (List.replicate n 0) from hw4 ▸ Blk.new _ _ _)
      have hz4 : w4.heap.size = w3.heap.size + 1 := by rw [hw4]; simp
      have hbw := B3.out.lt
      go_wp2
      simp only [← hw4]
      clear x0 hmk hw4
      refine wp_loop_ghost_k (fun g A' W => ∃ (kk : Nat), kk ≤ n2 ∧ n2 - kk ≤ g ∧ Fr 72 [(1, .int .i64 p), (2, .pointer (some ⟨w.heap.size, 0, none⟩)), (7, .pointer (some ⟨mb, 0, none⟩)), (8, .slice (some ⟨w3.heap.size, 0, none⟩) n n), (28, .slice A2 n2 cp2), (29, .int .i64 (n2 : Int)), (30, .int .i64 (kk : Int))] [] A' ∧
        w4.grownBy W (some w3.heap.size) ∧ RowI W w3.heap.size (netTo c (payN c l p) kk)) n2 ?_ ?_
      · exact ⟨0, by omega, by omega, ⟨rfl, rfl, by simp [Act.eval]⟩, World.grownBy.refl _ _, by rw [HZ.out]; exact R4.out⟩
      · rintro g A' U ⟨kk, hkk, hg, hF, hG, hRw⟩ J K' hJ hK
        have HJ := Lib.hid hJ; have HG := Lib.hid hG; have RW := Lib.hid hRw
        have hzW := hG.size
        obtain ⟨ρ, rfl, hρ⟩ := hF.open_
        simp only [List.forall_mem_cons] at hρ
        obtain ⟨r1, r2, r7, r8, r28, r29, r30, -⟩ := hρ
        simp only [lst, Nat.reduceAdd, r1, r2, r7, r8, r28, r29, r30]
        clear r1 r2 r7 r8 r28 r29 r30 hF hG hRw hJ
        by_cases hlt : kk < n2
        · have hltz : (kk : Int) < (n2 : Int) := by omega
          have HSW := Lib.hid (((HS.out.ext E3.out).ext E4.out).grown HG.out fun h b o e => by have := HSB.out h b o e; omega)
          obtain ⟨b, off, x, rfl, hx, -, hcell⟩ := HSW.out.at_ hlt
          obtain ⟨c0, c1, c2, c3, c4⟩ := SlL.cells hcell (Ext.refl _)
          obtain ⟨y, hy⟩ : ∃ y, l[kk]? = some y := ⟨_, List.getElem?_eq_getElem (by have := HLN.out; have := HN2.out; omega)⟩
          obtain ⟨s, bb, hsi, hbi, hsl, hbl, hne⟩ := sale_at HR.out hx
          obtain ⟨-, -, -, hbal, hpri⟩ := HR.out.sale x (List.mem_of_getElem? hx)
          have hy9 := close_nine HR.out HO.out y (List.mem_of_getElem? hy)
          have hm := payN_get (p := p) hx hy
          have hqb := HMB.out _ (List.mem_of_getElem? hm)
          obtain ⟨q, hq⟩ : ∃ q, (x.price - p) * (x.bales - y) = q := ⟨_, rfl⟩
          rw [hq] at hm hqb
          have HX := Lib.hid hx; have HMq := Lib.hid hm; have HSI := Lib.hid hsi; have HBI := Lib.hid hbi; have HNE := Lib.hid hne
          have KS : ∀ v, -300000000 ≤ net ((salsOf c).take kk) ((payN c l p).take kk) v ∧ net ((salsOf c).take kk) ((payN c l p).take kk) v ≤ 300000000 := fun v => by
            have h1 := net_bd (B := 30000000) v (by decide) ((salsOf c).take kk) ((payN c l p).take kk) fun z hz => HMB.out z (List.mem_of_mem_take hz)
            have h2 : ((payN c l p).take kk).length ≤ 10 := by rw [List.length_take]; omega
            omega
          obtain ⟨P, hP⟩ : ∃ P, net ((salsOf c).take kk) ((payN c l p).take kk) s = P := ⟨_, rfl⟩
          obtain ⟨Q, hQ⟩ : ∃ Q, net ((salsOf c).take kk) ((payN c l p).take kk) bb = Q := ⟨_, rfl⟩
          have hPb := KS s; have hQb := KS bb
          rw [hP] at hPb
          rw [hQ] at hQb
          have HPP := Lib.hid hP; have HQQ := Lib.hid hQ
          have HST := Lib.hid (netTo_step HM.out hx hm hsi hbi hne hP hQ)
          have hwa : IntKind.i64.wrap (x.price - p) = x.price - p := by rw [IntKind.wrap_i64]; omega
          have hwb : IntKind.i64.wrap (x.bales - y) = x.bales - y := by rw [IntKind.wrap_i64]; omega
          have hwc : IntKind.i64.wrap ((x.price - p) * (x.bales - y)) = q := by rw [hq, IntKind.wrap_i64]; omega
          have hw1 : IntKind.i64.wrap (P + q) = P + q := by rw [IntKind.wrap_i64]; omega
          have hw2 : IntKind.i64.wrap (Q - q) = Q - q := by rw [IntKind.wrap_i64]; omega
          have hsz : (s : Int) < (n : Int) := by have := hn.out; omega
          have hbz : (bb : Int) < (n : Int) := by have := hn.out; omega
          have hsz' : s < n := by omega
          have hbz' : bb < n := by omega
          have hkn : kk < n2 := hlt
          clear hx hm hsi hbi hne hP hQ hcell KS hq
          obtain ⟨wx, hwx⟩ : ∃ wx, wx = U.alloc (.cells #[.int .i64 x.number, .int .i64 x.seller, .int .i64 x.buyer, .int .i64 x.bales, .int .i64 x.price] 68) := ⟨_, rfl⟩
          have BX := Lib.hid (show Blk wx U.heap.size 68 #[.int .i64 x.number, .int .i64 x.seller, .int .i64 x.buyer, .int .i64 x.bales, .int .i64 x.price] from hwx ▸ Blk.new _ _ _)
          have GX := Lib.hid (show w4.grownBy wx (some w3.heap.size) from hwx ▸ grown_ext HG.out (Ext.al _ _))
          have RX := Lib.hid (show RowI wx w3.heap.size (netTo c (payN c l p) kk) from hwx ▸ RW.out.alloc _)
          have BMX := Lib.hid ((BM.out.ext E4.out).grown GX.out (by intro e; injection e with e; omega))
          have RMX := Lib.hid (show RowI wx gm l from Blk.grown (RM.out.ext E4.out) GX.out (by intro e; injection e with e; omega))
          have HHX := Lib.hid ((HH'.out.ext E4.out).grown GX.out fun h b o e => by have := HAB.out h b o e; omega)
          have hzx : wx.heap.size = U.heap.size + 1 := by rw [hwx]; simp
          have HY := Lib.hid hy
          have m0 := fun W (h : Ext wx W) => (BX.out.ext h).c5.1
          have m1 := fun W (h : Ext wx W) => (BX.out.ext h).c5.2.1
          have m2 := fun W (h : Ext wx W) => (BX.out.ext h).c5.2.2.1
          have m3 := fun W (h : Ext wx W) => (BX.out.ext h).c5.2.2.2.1
          have m4 := fun W (h : Ext wx W) => (BX.out.ext h).c5.2.2.2.2.1
          have mm := fun W (h : Ext wx W) => (BMX.out.ext h).c4
          have my := fun W (h : Ext wx W) => (RMX.out.ext h).cell HY.out
          clear hy
          go_wp2
          simp only [← hwx]
          clear hwx c0 c1 c2 c3 c4
          refine wp_region_tame (fun W => Ext wx W) (fun W W' => Ext W W') (by kernel_rfl) 72 rfl (by decide +kernel) (Ext.refl _).drew ?_
          repeat (apply tame_q rfl; (intro ρ W hC hr hD; (obtain ⟨hrc, hrg, hrf, hrs⟩ := hr); (simp [go_sem] at hD); go_simp; first | exact ⟨⟨hC, Ext.refl _⟩, rfl⟩ | exact ⟨⟨hC, RS.refl _⟩, rfl⟩ | exact rfl); simp only [List.nil_append, List.cons_append])
          refine tame_end_put rfl rfl (fun ρ W hC hr hF => ?_)
          simp [go_sem] at hF
          simp only [putF, hF, List.set_cons_succ, List.set_cons_zero]
          clear hF hr
          have HC := Lib.hid hC
          clear hC m0 m1 m2 m3 m4 mm my
          have BV := Lib.hid (BX.out.ext HC.out); have RV := Lib.hid (RX.out.ext HC.out); have BMV := Lib.hid (BMX.out.ext HC.out); have HHV := Lib.hid (HHX.out.ext HC.out); have GV := Lib.hid (grown_ext GX.out HC.out)
          have hzV := HC.out.size
          obtain ⟨x0, x1, x2, x3, x4, xf, xl⟩ := BV.out.c5
          go_wp2_with fail
          refine (mhouse_any c x.seller s mb _ _ _ _ W BMV.out HHV.out HSI.out).mono ?_
          rintro e V1 ⟨rfl, hE⟩
          have BV1 := Lib.hid (BV.out.ext hE); have RV1 := Lib.hid (RV.out.ext hE); have BMV1 := Lib.hid (BMV.out.ext hE); have HHV1 := Lib.hid (HHV.out.ext hE); have GV1 := Lib.hid (grown_ext GV.out hE)
          have hzV1 := hE.size
          clear hE x0 x1 x2 x3 x4 xf xl BX RX BMX HHX HC BV RV BMV HHV
          have rs := RV1.out.cell (i := s) (x := P) (by rw [netTo_get hsl, HPP.out])
          have rf := RV1.out.frozen
          have rl := RV1.out.lt
          obtain ⟨V2, hV2⟩ : ∃ V2, V2 = V1.setCell ⟨w3.heap.size, s, none⟩ (.int .i64 (P + q)) := ⟨_, rfl⟩
          have RV2 := Lib.hid (show RowI V2 w3.heap.size ((netTo c (payN c l p) kk).set s (P + q)) from hV2 ▸ RV1.out.set s (P + q))
          have GS := Lib.hid (show V1.grownBy V2 (some w3.heap.size) from hV2 ▸ grown_set (World.grownBy.refl _ _) (p := ⟨w3.heap.size, s, none⟩) (.inl rfl) _)
          have BV2 := Lib.hid (BV1.out.grown GS.out (by intro e; injection e with e; omega))
          have BMV2 := Lib.hid (BMV1.out.grown GS.out (by intro e; injection e with e; omega))
          have HHV2 := Lib.hid (HHV1.out.grown GS.out fun h b o e => by have := HAB.out h b o e; omega)
          have GV2 := Lib.hid (grown_tr GV1.out GS.out)
          have y0 := BV2.out.c5
          rw [hV2] at y0
          go_wp2_with fail
          simp only [← hV2]
          clear rs rf rl y0 hV2
          refine (mhouse_any c x.buyer bb mb _ _ _ _ V2 BMV2.out HHV2.out HBI.out).mono ?_
          rintro e V3 ⟨rfl, hE⟩
          have RV3 := Lib.hid (RV2.out.ext hE); have GV3 := Lib.hid (grown_ext GV2.out hE)
          clear hE
          have rs := RV3.out.cell (i := bb) (x := Q) (by rw [List.getElem?_set, if_neg HNE.out, netTo_get hbl, HQQ.out])
          have rf := RV3.out.frozen
          have rl := RV3.out.lt
          go_wp2
          have hst := HST.out
          rw [show P - -q = P + q by omega, show Q + -q = Q - q by omega] at hst
          exact Handed.intro (n2 - (kk + 1)) (by omega) (HJ.out _ _ _ ⟨kk + 1, by omega, Nat.le_refl _, ⟨rfl, rfl, by simp [Act.eval]⟩, grown_set GV3.out (p := ⟨w3.heap.size, bb, none⟩) (.inl rfl) _, by rw [← hst]; exact RV3.out.set bb (Q - q)⟩)
        · have HE := Lib.hid (show kk = n2 by omega)
          go_wp2
          go_ret2
          refine ⟨⟨.slice (some ⟨w3.heap.size, 0, none⟩) n n, by rw [HP.out.2]; rfl, ?_⟩, ext_grown (E3.out.trans E4.out) HG.out (by omega)⟩
          have hr := RW.out
          rw [show kk = c.sales.length by have := HE.out; have := HN2.out; omega, netTo_all HM.out] at hr
          have := hr.sl (by rw [gets_len]; have := hn.out; unfold maxLen; omega)
          rw [gets_len, ← hn.out] at this
          rw [HP.out.1]
          exact this
end Go.Proofs.YtafdbgielmlihaaDoor
/- Adds: the walks. -/
namespace Go.Proofs.YtafdbgielmlihaaDoor
open Go.RowKit Go.Shelf Go.Lib
set_option maxRecDepth 100000
set_option linter.unusedSimpArgs false

theorem mild_sum {l : List Int} (h : Mild l) : -1000000000000 ≤ sumI l ∧ sumI l ≤ 1000000000000 := by
  have := h.take l.length
  rwa [List.take_length] at this
set_option maxHeartbeats 4000000 in
theorem adds_any (c : Chn) (x : Sale) (v : Int) (hv sv : Value) (w : World) (had : AddsOf c x v) (hT : Tab w) (hh : SlI w hv c.houses) (hs : SlL w sv c.sales) (hlh : c.houses.length ≤ 1000) (hl : c.sales.length ≤ 900) :
    Calls Tryd.prog 51 #[valC hv sv, valL x] w (NumE v (addsE c x) w) := by
  have HT := Lib.hid hT; have HH := Lib.hid hh; have HS := Lib.hid hs; have HL := Lib.hid hl; have HLH := Lib.hid hlh
  obtain ⟨A, n, cp, rfl, hn, hlc, hcm⟩ := hh.form
  obtain ⟨A2, n2, cp2, rfl, hn2, hlc2, hcm2⟩ := hs.form
  obtain ⟨w0, hw0⟩ : ∃ w0, w0 = (w.alloc (.cells #[.slice A n cp, .slice A2 n2 cp2] 25)).alloc (.cells #[.int .i64 x.number, .int .i64 x.seller, .int .i64 x.buyer, .int .i64 x.bales, .int .i64 x.price] 68) := ⟨_, rfl⟩
  have E0 := Lib.hid (show Ext w w0 from hw0 ▸ (Ext.al _ _).alloc _)
  have B0 := Lib.hid (show Blk w0 w.heap.size 25 #[.slice A n cp, .slice A2 n2 cp2] from hw0 ▸ (Blk.new _ _ _).alloc _)
  have C0 := Lib.hid (show Blk w0 (w.heap.size + 1) 68 #[.int .i64 x.number, .int .i64 x.seller, .int .i64 x.buyer, .int .i64 x.bales, .int .i64 x.price] from hw0 ▸ Blk.at_ (by simp))
  clear hh hs hT hl hlh
  dsimp only [valL]
  go_enter Tryd.func51, Tryd.ntmps51
  go_wp2_with fail
  simp only [← hw0]
  clear hw0
  refine (check_any c _ _ _ (HT.out.ext E0.out) (HH.out.ext E0.out) (HS.out.ext E0.out) (by have := HL.out; omega)).mono ?_
  rintro e w1 ⟨rfl, hE⟩
  have E1 := Lib.hid (E0.out.trans hE); have B1 := Lib.hid (B0.out.ext hE); have C1 := Lib.hid (C0.out.ext hE)
  clear hE
  cases hc : checkP c with
  | false =>
    have HE := Lib.hid (show addsE c x = 60 by unfold addsE; rw [hc]; rfl)
    have HZ := Lib.hid (had.2 (by rw [HE.out]; decide))
    clear hc had
    dsimp only [errB]
    go_wp2
    go_ret2
    exact ⟨by rw [HZ.out, HE.out]; rfl, E1.out⟩
  | true =>
    have HR := Lib.hid (check_right hc).1
    have HS10 := Lib.hid (check_right hc).2
    have HCK := Lib.hid hc
    clear hc
    dsimp only [errB]
    have x0 := B1.out.c2
    have y0 := C1.out.c5
    go_wp2_with fail
    clear x0 y0
    refine (with_any c x _ _ _ (HH.out.ext E1.out) (HS.out.ext E1.out) HLH.out HL.out (rising_pair HR.out.sr)).mono ?_
    rintro e w2 ⟨⟨vw, rfl, hv2, sv2, rfl, ho1, ho2⟩, hE⟩
    have E2 := Lib.hid (E1.out.trans hE); have B2 := Lib.hid (B1.out.ext hE)
    obtain ⟨Ad, nd, cd, rfl, -, -, -⟩ := (show SlI w2 hv2 (withC c x).houses from ho1.sl (fun _ => rfl)).form
    obtain ⟨Ai, ni, ci, rfl, -, -, -⟩ := (show SlL w2 sv2 (withC c x).sales from ho2.sl (fun _ => rfl)).form
    have HHM := Lib.hid (show SlI w2 (.slice Ad nd cd) (withC c x).houses from ho1.sl (fun _ => rfl))
    have HSM := Lib.hid (show SlL w2 (.slice Ai ni ci) (withC c x).sales from ho2.sl (fun _ => rfl))
    have HWL := Lib.hid (withC_len c x)
    clear hE ho1 ho2
    dsimp only [valC]
    obtain ⟨w3, hw3⟩ : ∃ w3, w3 = w2.alloc (.cells #[.slice Ad nd cd, .slice Ai ni ci] 25) := ⟨_, rfl⟩
    have E23 := Lib.hid (show Ext w2 w3 from hw3 ▸ Ext.al _ _)
    have D3 := Lib.hid (show Blk w3 w2.heap.size 25 #[.slice Ad nd cd, .slice Ai ni ci] from hw3 ▸ Blk.new _ _ _)
    go_wp2_with fail
    simp only [← hw3]
    clear hw3
    refine (right_any (withC c x) _ _ _ ((HT.out.ext E2.out).ext E23.out) (HHM.out.ext E23.out) (HSM.out.ext E23.out) (by have := HWL.out; have := HS10.out; omega)).mono ?_
    rintro e w4 ⟨rfl, hE⟩
    have E4 := Lib.hid (E2.out.trans (E23.out.trans hE)); have B4 := Lib.hid (B2.out.ext (E23.out.trans hE)); have D4 := Lib.hid (D3.out.ext hE); have E24 := Lib.hid (E23.out.trans hE)
    clear hE
    cases hr : rightP (withC c x) with
    | false =>
      have HE := Lib.hid (show addsE c x = 61 by unfold addsE; rw [HCK.out, hr]; rfl)
      have HZ := Lib.hid (had.2 (by rw [HE.out]; decide))
      clear hr had
      go_wp2
      go_ret2
      exact ⟨by rw [HZ.out, HE.out]; rfl, E4.out⟩
    | true =>
      have HE := Lib.hid (show addsE c x = 0 by unfold addsE; rw [HCK.out, hr]; rfl)
      obtain ⟨l, m, hl, hm, hvv⟩ := had.1 HE.out
      have HRM := Lib.hid (right_of hr)
      have HCL := Lib.hid hl; have HCM := Lib.hid hm; have HVV := Lib.hid hvv
      have hml := mild_sum (close_mild HR.out hl (by have := HS10.out; omega))
      have hmm := mild_sum (close_mild HRM.out hm (by have := HWL.out; have := HS10.out; omega))
      obtain ⟨sl, hsl⟩ : ∃ s, sumI l = s := ⟨_, rfl⟩
      obtain ⟨sm, hsm⟩ : ∃ s, sumI m = s := ⟨_, rfl⟩
      rw [hsl] at hml
      rw [hsm] at hmm
      have hw1 : IntKind.i64.wrap (sm - sl) = sm - sl := by rw [IntKind.wrap_i64]; omega
      have HSS := Lib.hid (show v = sm - sl by rw [hvv, hsl, hsm])
      clear hr had hl hm hvv
      have m0 := fun W (h : Ext w4 W) => (D4.out.ext h).c2
      have m1 := fun W (h : Ext w4 W) => (B4.out.ext h).c2
      go_wp2
      refine wp_region_tame (fun W => Ext w4 W) (fun W W' => Ext W W') (by kernel_rfl) 32 rfl (by decide +kernel) (Ext.refl _).drew ?_
      repeat (apply tame_q rfl; (intro ρ W hC hr hD; (obtain ⟨hrc, hrg, hrf, hrs⟩ := hr); (simp [go_sem] at hD); go_simp; first | exact ⟨⟨hC, Ext.refl _⟩, rfl⟩ | exact ⟨⟨hC, RS.refl _⟩, rfl⟩ | exact rfl); simp only [List.nil_append, List.cons_append])
      apply tame_v rfl (MkA m 0) (fun v W W' _ hE h => h.ext hE)
      · intro ρ W hC hr hD
        obtain ⟨hrc, hrg, hrf, hrs⟩ := hr
        simp [go_sem] at hD
        go_simp
        refine (closing_any (withC c x) m _ _ W HCM.out HRM.out (by have := HWL.out; have := HS10.out; omega) ((HHM.out.ext E24.out).ext hC) ((HSM.out.ext E24.out).ext hC)).mono ?_
        rintro e w' ⟨mb, gm, hv', sv', cv', rfl, hE, -, -, h3, h4, -, -⟩
        exact ⟨_, rfl, ⟨hC.trans hE, hE⟩, ⟨mb, gm, hv', sv', cv', rfl, by have h3' := h3; rw [← close_len (HCM.out)] at h3'; exact h3', h4⟩⟩
      simp only [List.nil_append, List.cons_append]
      apply tame_v rfl (MkA m 0) (fun v W W' _ hE h => h.ext hE)
      · intro ρ W hC hr hD
        obtain ⟨hrc, hrg, hrf, hrs⟩ := hr
        simp [go_sem] at hD
        obtain ⟨mb, gm, hv', sv', cv', d1, d2, d3⟩ := hD
        go_simp
        exact ⟨⟨hC, Ext.refl _⟩, ⟨mb, gm, hv', sv', cv', rfl, d2, d3⟩⟩
      simp only [List.nil_append, List.cons_append]
      apply tame_v rfl (MkA m 2) (fun v W W' _ hE h => h.ext hE)
      · intro ρ W hC hr hD
        obtain ⟨hrc, hrg, hrf, hrs⟩ := hr
        simp [go_sem] at hD
        obtain ⟨mb, gm, hv', sv', cv', d1, d2, d3⟩ := hD
        go_simp
        exact ⟨⟨hC, Ext.refl _⟩, ⟨mb, gm, hv', sv', cv', rfl, d2, d3⟩⟩
      simp only [List.nil_append, List.cons_append]
      apply tame_v rfl (fun v W => SlI W v m) (fun v W W' _ hE h => h.ext hE)
      · intro ρ W hC hr hD
        obtain ⟨hrc, hrg, hrf, hrs⟩ := hr
        simp [go_sem] at hD
        obtain ⟨mb, gm, hv', sv', cv', d1, d2, d3⟩ := hD
        have d4 := d2.c4
        have d5 := d3.sl (show (m).length ≤ maxLen by have := close_len HCM.out; have := HWL.out; have := HS10.out; unfold maxLen; omega)
        go_simp
        first | exact ⟨⟨hC, Ext.refl _⟩, d5⟩ | exact ⟨hC, Ext.refl _⟩
      simp only [List.nil_append, List.cons_append]
      apply tame_q rfl
      · intro ρ W hC hr hD
        obtain ⟨hrc, hrg, hrf, hrs⟩ := hr
        simp [go_sem] at hD
        go_simp
        refine (f75_any m _ W hD.1 (close_mild HRM.out HCM.out (by have := HWL.out; have := HS10.out; omega))).mono ?_
        rintro e w' ⟨rfl, hE⟩
        exact ⟨_, rfl, ⟨hC.trans hE, hE⟩, rfl⟩
      simp only [List.nil_append, List.cons_append]
      repeat (apply tame_q rfl; (intro ρ W hC hr hD; (obtain ⟨hrc, hrg, hrf, hrs⟩ := hr); (simp [go_sem] at hD); go_simp; first | exact ⟨⟨hC, Ext.refl _⟩, rfl⟩ | exact ⟨⟨hC, RS.refl _⟩, rfl⟩ | exact rfl); simp only [List.nil_append, List.cons_append])
      apply tame_v rfl (MkA l 0) (fun v W W' _ hE h => h.ext hE)
      · intro ρ W hC hr hD
        obtain ⟨hrc, hrg, hrf, hrs⟩ := hr
        simp [go_sem] at hD
        go_simp
        refine (closing_any c l _ _ W HCL.out HR.out (by have := HS10.out; omega) ((HH.out.ext E4.out).ext hC) ((HS.out.ext E4.out).ext hC)).mono ?_
        rintro e w' ⟨mb, gm, hv', sv', cv', rfl, hE, -, -, h3, h4, -, -⟩
        exact ⟨_, rfl, ⟨hC.trans hE, hE⟩, ⟨mb, gm, hv', sv', cv', rfl, by have h3' := h3; rw [← close_len (HCL.out)] at h3'; exact h3', h4⟩⟩
      simp only [List.nil_append, List.cons_append]
      apply tame_v rfl (MkA l 0) (fun v W W' _ hE h => h.ext hE)
      · intro ρ W hC hr hD
        obtain ⟨hrc, hrg, hrf, hrs⟩ := hr
        simp [go_sem] at hD
        obtain ⟨mb, gm, hv', sv', cv', d1, d2, d3⟩ := hD
        go_simp
        exact ⟨⟨hC, Ext.refl _⟩, ⟨mb, gm, hv', sv', cv', rfl, d2, d3⟩⟩
      simp only [List.nil_append, List.cons_append]
      apply tame_v rfl (MkA l 2) (fun v W W' _ hE h => h.ext hE)
      · intro ρ W hC hr hD
        obtain ⟨hrc, hrg, hrf, hrs⟩ := hr
        simp [go_sem] at hD
        obtain ⟨mb, gm, hv', sv', cv', d1, d2, d3⟩ := hD
        go_simp
        exact ⟨⟨hC, Ext.refl _⟩, ⟨mb, gm, hv', sv', cv', rfl, d2, d3⟩⟩
      simp only [List.nil_append, List.cons_append]
      apply tame_v rfl (fun v W => SlI W v l) (fun v W W' _ hE h => h.ext hE)
      · intro ρ W hC hr hD
        obtain ⟨hrc, hrg, hrf, hrs⟩ := hr
        simp [go_sem] at hD
        obtain ⟨mb, gm, hv', sv', cv', d1, d2, d3⟩ := hD
        have d4 := d2.c4
        have d5 := d3.sl (show (l).length ≤ maxLen by have := close_len HCL.out; have := HS10.out; unfold maxLen; omega)
        go_simp
        first | exact ⟨⟨hC, Ext.refl _⟩, d5⟩ | exact ⟨hC, Ext.refl _⟩
      simp only [List.nil_append, List.cons_append]
      apply tame_q rfl
      · intro ρ W hC hr hD
        obtain ⟨hrc, hrg, hrf, hrs⟩ := hr
        simp [go_sem] at hD
        go_simp
        refine (f75_any l _ W hD.1 (close_mild HR.out HCL.out (by have := HS10.out; omega))).mono ?_
        rintro e w' ⟨rfl, hE⟩
        exact ⟨_, rfl, ⟨hC.trans hE, hE⟩, rfl⟩
      simp only [List.nil_append, List.cons_append]
      repeat (apply tame_q rfl; (intro ρ W hC hr hD; (obtain ⟨hrc, hrg, hrf, hrs⟩ := hr); (simp [go_sem] at hD); go_simp; first | exact ⟨⟨hC, Ext.refl _⟩, rfl⟩ | exact ⟨⟨hC, RS.refl _⟩, rfl⟩ | exact rfl); simp only [List.nil_append, List.cons_append])
      refine tame_end_put rfl rfl (fun ρ V hC hr hF => ?_)
      simp [go_sem] at hF
      obtain ⟨f19, -, -, -, -, f24, f25, -, -, -, -, f30, f31, f4, f5⟩ := hF
      simp only [putF, f19, f24, f25, f30, f31, f4, f5, List.set_cons_succ, List.set_cons_zero]
      have HC := Lib.hid hC
      clear hC hr m0 m1 f19 f24 f25 f30 f31 f4 f5
      go_wp2
      go_ret2
      exact ⟨by rw [HSS.out, HE.out, ← hw1]; rfl, E4.out.trans HC.out⟩
end Go.Proofs.YtafdbgielmlihaaDoor
/- Way: the reference's. -/
namespace Go.Proofs.YtafdbgielmlihaaDoor
open Go.RowKit Go.Shelf Go.Lib
set_option maxRecDepth 100000
set_option linter.unusedSimpArgs false

/-- A list and an error. -/
def ListQ (l : List Int) (E : Int) (w : World) (e : Ending) (w' : World) : Prop := (∃ v, e = .returned (.tuple #[v, .int .i64 E]) ∧ SlI w' v l) ∧ Ext w w'
theorem way_chk {c : Chn} {a b : Int} {l : List Int} {E : Int} (h : WayOf c a b l E) (hc : checkP c = false) : l = [] ∧ E = 60 := by
  unfold WayOf at h
  rw [hc] at h
  exact h
theorem way_has {c : Chn} {a b : Int} {l : List Int} {E : Int} (h : WayOf c a b l E) (hc : checkP c = true) (hn : (hasI c.houses a && hasI c.houses b) = false) : l = [] ∧ E = 6 := by
  unfold WayOf at h
  rw [hc, hn] at h
  exact h
theorem way_in {c : Chn} {a b : Int} {l : List Int} {E : Int} (h : WayOf c a b l E) (hc : checkP c = true) (hn : (hasI c.houses a && hasI c.houses b) = true) : (∃ d, Away c b d a ∧ l = wayG c b d a ∧ E = 0) ∨ ((∀ k, toB c b k a = false) ∧ l = [] ∧ E = 6) := by
  unfold WayOf at h
  rw [hc, hn] at h
  exact h
end Go.Proofs.YtafdbgielmlihaaDoor
/- The program's Way, part one: the list of ways in memory, and the region that puts a way behind it. -/
namespace Go.Proofs.YtafdbgielmlihaaDoor
open Go.RowKit Go.Shelf Go.Lib
set_option maxRecDepth 100000
set_option linter.unusedSimpArgs false

abbrev WyV := Int × Option Addr × Nat × Nat
def slV (u : Option Addr × Nat × Nat) : Value := .slice u.1 u.2.1 u.2.2
def encWy (e : WyV) : List Value := [.int .i64 e.1, slV e.2]
theorem encWy_1 : ∀ x, ∀ u ∈ encWy x, u.oneCell' = true := by
  intro x u hu
  simp only [encWy, List.mem_cons, List.not_mem_nil, or_false] at hu
  rcases hu with rfl | rfl <;> rfl
theorem info145x : (Tryd.prog.info? 145).map (fun i => (i.zero, i.size, i.bytes)) = some (some (.agg #[.int .i64 0, .slice none 0 0]), 2, 32) := by kernel_rfl
theorem own_diff {α β : Type} {enc : α → List Value} {enc' : β → List Value} {sz sz' base base' : Nat} {e e' : TypeId} {W W' : World} {v v' : Value} {l : List α} {l' : List β} (h : Own enc e sz W base v l) (h' : Own enc' e' sz' W base' v' l') (hne : e ≠ e') (k : W.grownBy W' v'.ownBlock) : Own enc e sz W' base v l := by
  refine own_same h fun g hg => ?_
  have hr := own_rng h hg
  refine k.block g hr.2 fun he => ?_
  rcases h.2 with ⟨rfl, -⟩ | ⟨g1, c1, cur1, rfl, -, hg1, -⟩
  · simp [Value.ownBlock] at hg
  · rcases h'.2 with ⟨rfl, -⟩ | ⟨g2, c2, cur2, rfl, -, hg2, -⟩
    · simp [Value.ownBlock] at he
    · have e1 : g1 = g := by simpa [Value.ownBlock] using hg
      have e2 : g = g2 := by simpa [Value.ownBlock] using he
      rw [e1] at hg1; rw [← e2, hg1] at hg2
      injection hg2 with hg2
      injection hg2 with _ hg2
      exact hne hg2
/-- A list of ways in memory. -/
def WLs (W : World) (B : Nat) (v : Value) (L : List Wy) : Prop :=
  ∃ Vs : List WyV, Own encWy 145 2 W B v Vs ∧ Vs.length = L.length ∧ ∀ (i : Nat) (u : WyV) (e : Wy), Vs[i]? = some u → L[i]? = some e → u.1 = e.1 ∧ Own encI 3 1 W 0 (slV u.2) e.2
theorem WLs.nil (W : World) (B : Nat) : WLs W B (.slice none 0 0) [] := ⟨[], Own.nil _ _, rfl, fun i u e h => by simp at h⟩
theorem WLs.ext {W W' : World} {B : Nat} {v : Value} {L : List Wy} (h : WLs W B v L) (k : Ext W W') : WLs W' B v L := by
  obtain ⟨Vs, h1, h2, h3⟩ := h
  exact ⟨Vs, h1.ext k, h2, fun i u e hu he => ⟨(h3 i u e hu he).1, (h3 i u e hu he).2.ext k⟩⟩
theorem WLs.offC {W W' : World} {B q : Nat} {v : Value} {L : List Wy} (h : WLs W B v L) (k : W.grownBy W' (some q)) (hq : NoC W q) : WLs W' B v L := by
  obtain ⟨Vs, h1, h2, h3⟩ := h
  exact ⟨Vs, own_offC h1 k hq, h2, fun i u e hu he => ⟨(h3 i u e hu he).1, own_offC (h3 i u e hu he).2 k hq⟩⟩
theorem WLs.mono {W : World} {B B' : Nat} {v : Value} {L : List Wy} (h : WLs W B v L) (hb : B' ≤ B) : WLs W B' v L := by
  obtain ⟨Vs, h1, h2, h3⟩ := h
  exact ⟨Vs, h1.mono hb, h2, h3⟩
theorem WLs.off {W W' : World} {B q : Nat} {v : Value} {L : List Wy} (h : WLs W B v L) (k : OffB (· = q) W W') (hq : NoC W q) : WLs W' B v L := by
  obtain ⟨Vs, h1, h2, h3⟩ := h
  have key : ∀ {α : Type} {enc : α → List Value} {e : TypeId} {sz base : Nat} {v : Value} {l : List α}, Own enc e sz W base v l → Own enc e sz W' base v l := by
    intro α enc e sz base v l h
    refine own_same h fun g hg => k.block g (own_rng h hg).2 fun e => ?_
    exact own_neC h hq (by rw [hg, e])
  exact ⟨Vs, key h1, h2, fun i u e hu he => ⟨(h3 i u e hu he).1, key (h3 i u e hu he).2⟩⟩
theorem MapB.noC {W : World} {m n : Nat} {g : Int → Bool} (h : MapB W m n g) : NoC W m := h.noCells
/-- A way of the list. -/
theorem WLs.at_ {W : World} {B : Nat} {A : Option Addr} {n cp : Nat} {L : List Wy} (h : WLs W B (.slice A n cp) L) {i : Nat} {e : Wy} (he : L[i]? = some e) :
    ∃ b off Av nv cv, A = some ⟨b, off, none⟩ ∧ (i : Int) < (n : Int) ∧ Own encI 3 1 W 0 (.slice Av nv cv) e.2 ∧ W.cell? ⟨b, off + i * 2, none⟩ = some (.int .i64 e.1) ∧ W.cell? ⟨b, off + i * 2 + 1, none⟩ = some (.slice Av nv cv) := by
  obtain ⟨Vs, h1, h2, h3⟩ := h
  have hl := (List.getElem?_eq_some_iff.1 he).1
  have hs := Own.sl (enc := encWy) (fun _ => rfl) h1
  obtain ⟨A', n', cp', e1, e2, -, -⟩ := hs.form
  injection e1 with e3 e4 e5
  subst e3 e4 e5
  have hn : n = L.length := by rw [← h2]; exact e2.out
  obtain ⟨b, off, u, rfl, hu, -, hc⟩ := hs.at_ (k := i) (by omega)
  obtain ⟨h4, h5⟩ := h3 i u e hu he
  refine ⟨b, off, u.2.1, u.2.2.1, u.2.2.2, rfl, by omega, h5, ?_, hc W (Ext.refl _) 1 _ rfl⟩
  have := hc W (Ext.refl _) 0 _ rfl
  rw [h4] at this
  simpa using this
theorem WLs.form {W : World} {B : Nat} {v : Value} {L : List Wy} (h : WLs W B v L) : ∃ A n c, v = .slice A n c ∧ Hid (n = L.length) := by
  obtain ⟨Vs, h1, h2, -⟩ := h
  obtain ⟨A, n, c, rfl, hn, -, -⟩ := (Own.sl (enc := encWy) (fun _ => rfl) h1).form
  exact ⟨A, n, c, rfl, Lib.hid (by have := hn.out; omega)⟩
/-- What is known while the region that draws its order is gone through. -/
structure LvI (B : Nat) (nums : List Int) (x y : Int) (L : Nat → Bool) (e : Nat → Value) (W : World) : Prop where
  o1 : L 9 = false → L 10 = false
  o2 : L 10 = false → L 11 = false
  a : L 9 = false → L 5 = true → Own encI 3 1 W B (e 81) nums
  b : L 9 = false → L 8 = true → ∃ g, e 84 = .slice (some ⟨g, 0, none⟩) 1 1 ∧ g < W.heap.size ∧ W.cell? ⟨g, 0, none⟩ = some (.int .i64 x)
  c : L 9 = true → ∃ g k d, e 85 = .slice (some ⟨g, 0, none⟩) k d ∧ Own encI 3 1 W B (.slice (some ⟨g, 0, none⟩) k d) (nums ++ [x])
  d : L 10 = true → e 86 = .agg #[.int .i64 y, e 85]
  f : L 11 = true → ∃ g, e 87 = .slice (some ⟨g, 0, none⟩) 1 1 ∧ Blk W g 145 #[.int .i64 y, e 85]
theorem LvI.start {B : Nat} {nums : List Int} {x y : Int} {e : Nat → Value} {W : World} : LvI B nums x y (fun _ => false) e W :=
  ⟨fun _ => rfl, fun _ => rfl, fun _ h => (by cases h), fun _ h => (by cases h), fun h => (by cases h), fun h => (by cases h), fun h => (by cases h)⟩
theorem LvI.keep {B : Nat} {nums : List Int} {x y : Int} {L : Nat → Bool} {e : Nat → Value} {W : World} (h : LvI B nums x y L e W) {i d : Nat} (hi : (5 ≠ i ∧ 8 ≠ i ∧ 9 ≠ i ∧ 10 ≠ i ∧ 11 ≠ i) ∧ 81 ≠ d ∧ 84 ≠ d ∧ 85 ≠ d ∧ 86 ≠ d ∧ 87 ≠ d) (v : Value) : LvI B nums x y (updD L i true) (updD e d v) W := by
  obtain ⟨⟨i5, i8, i9, i10, i11⟩, d1, d4, d5, d6, d7⟩ := hi
  obtain ⟨o1, o2, a, b, c, d, f⟩ := h
  rw [← updD_ne (f := L) (v := true) i9] at o1 a b c
  rw [← updD_ne (f := L) (v := true) i10] at o1 o2 d
  rw [← updD_ne (f := L) (v := true) i11] at o2 f
  rw [← updD_ne (f := L) (v := true) i5] at a
  rw [← updD_ne (f := L) (v := true) i8] at b
  rw [← updD_ne (f := e) (v := v) d1] at a
  rw [← updD_ne (f := e) (v := v) d4] at b
  rw [← updD_ne (f := e) (v := v) d5] at c d f
  rw [← updD_ne (f := e) (v := v) d6] at d
  rw [← updD_ne (f := e) (v := v) d7] at f
  exact ⟨o1, o2, a, b, c, d, f⟩
section
variable {B : Nat} {nums : List Int} {x y : Int} {L : Nat → Bool} {e : Nat → Value} {W W' : World}
theorem LvI.p5 (h : LvI B nums x y L e W) (hE : Ext W W') {v : Value} (hv : Own encI 3 1 W' B v nums) : LvI B nums x y (updD L 5 true) (updD e 81 v) W' where
  o1 := h.o1
  o2 := h.o2
  a := fun _ _ => hv
  b := fun h1 h2 => by
    obtain ⟨g, h3, h4, h5⟩ := h.b h1 h2
    exact ⟨g, h3, Nat.lt_of_lt_of_le h4 hE.size, (hE.cell (p := ⟨g, 0, none⟩) h4).trans h5⟩
  c := fun h1 => by
    obtain ⟨g, k, d, h2, h3⟩ := h.c h1
    exact ⟨g, k, d, h2, h3.ext hE⟩
  d := h.d
  f := fun h1 => by
    obtain ⟨g, h2, h3⟩ := h.f h1
    exact ⟨g, h2, h3.ext hE⟩
theorem LvI.p8 (h : LvI B nums x y L e W) : LvI B nums x y (updD L 8 true) (updD e 84 (.slice (some ⟨W.heap.size, 0, none⟩) 1 1)) (W.alloc (.cells #[.int .i64 x] 3)) where
  o1 := h.o1
  o2 := h.o2
  a := fun h1 h2 => (h.a h1 h2).alloc _
  b := fun h1 h2 => ⟨W.heap.size, rfl, by simp, by simp⟩
  c := fun h1 => by
    obtain ⟨g, k, d, h2, h3⟩ := h.c h1
    exact ⟨g, k, d, h2, h3.alloc _⟩
  d := h.d
  f := fun h1 => by
    obtain ⟨g, h2, h3⟩ := h.f h1
    exact ⟨g, h2, h3.alloc _⟩
theorem LvI.p9 (h : LvI B nums x y L e W) (h9 : L 9 = false) {g k d : Nat} (hv : Own encI 3 1 W' B (.slice (some ⟨g, 0, none⟩) k d) (nums ++ [x])) : LvI B nums x y (updD L 9 true) (updD e 85 (.slice (some ⟨g, 0, none⟩) k d)) W' where
  o1 := fun h1 => by cases h1
  o2 := h.o2
  a := fun h1 => by cases h1
  b := fun h1 => by cases h1
  c := fun _ => ⟨g, k, d, rfl, hv⟩
  d := fun h1 => by have h2 : L 10 = true := h1; rw [h.o1 h9] at h2; cases h2
  f := fun h1 => by have h2 : L 11 = true := h1; rw [h.o2 (h.o1 h9)] at h2; cases h2
theorem LvI.p10 (h : LvI B nums x y L e W) (h9 : L 9 = true) {u : Value} (hu : e 85 = u) : LvI B nums x y (updD L 10 true) (updD e 86 (.agg #[.int .i64 y, u])) W where
  o1 := fun h1 => by have h2 : L 9 = false := h1; rw [h9] at h2; cases h2
  o2 := fun h1 => by cases h1
  a := h.a
  b := h.b
  c := h.c
  d := fun _ => by subst hu; rfl
  f := h.f
theorem LvI.p11 (h : LvI B nums x y L e W) (h9 : L 10 = true) {u : Value} (hu : e 85 = u) : LvI B nums x y (updD L 11 true) (updD e 87 (.slice (some ⟨W.heap.size, 0, none⟩) 1 1)) (W.alloc (.cells #[.int .i64 y, u] 145)) where
  o1 := h.o1
  o2 := fun h1 => by have h2 : L 10 = false := h1; rw [h9] at h2; cases h2
  a := fun h1 h2 => (h.a h1 h2).alloc _
  b := fun h1 h2 => by
    obtain ⟨g, h3, h4, h5⟩ := h.b h1 h2
    exact ⟨g, h3, by simp; omega, ((Ext.al W _).cell (p := ⟨g, 0, none⟩) h4).trans h5⟩
  c := fun h1 => by
    obtain ⟨g, k, d, h2, h3⟩ := h.c h1
    exact ⟨g, k, d, h2, h3.alloc _⟩
  d := h.d
  f := fun h1 => ⟨W.heap.size, rfl, by subst hu; exact Blk.new _ _ _⟩
end
end Go.Proofs.YtafdbgielmlihaaDoor
/- The reference's SameHands; the law ChainHands: the walk. -/
namespace Go.Proofs.YtafdbgielmlihaaDoor
open Go.RowKit Go.Shelf Go.Lib
set_option maxRecDepth 100000
set_option linter.unusedSimpArgs false

theorem hnd_cells {b off i : Nat} {x : Hnd} {w W : World} (h : ∀ W, Ext w W → ∀ j u, (encHd x)[j]? = some u → W.cell? ⟨b, off + i * 3 + j, none⟩ = some u) (e : Ext w W) :
    W.cell? ⟨b, off + i * 3, none⟩ = some (.int .i64 x.a) ∧ W.cell? ⟨b, off + i * 3 + 1, none⟩ = some (.int .i64 x.b) ∧ W.cell? ⟨b, off + i * 3 + 2, none⟩ = some (.int .i64 x.n) :=
  ⟨by simpa using h W e 0 _ rfl, h W e 1 _ rfl, h W e 2 _ rfl⟩
theorem neq99s (a b x : Int) (w : World) : (binOp .neq 99 (.agg #[.int .i64 a, .int .i64 b, .int .i64 x]) (.agg #[.int .i64 a, .int .i64 b, .int .i64 x])).run Tryd.prog w = .ok (.bool false) w := by
  have u3 := Tryd.underlying3
  have a3 := Tryd.isAgg3
  have z3 := Tryd.sizeOf3
  rw [run_neq_struct, show (10000 : Nat) = 9999 + 1 from rfl, run_equalIn_agg w 9999 99 _ _ und99 held99]
  simp only [Program.fieldsOf, Tryd.underlying99]
  go_simp
theorem sameHands_any (l : List Hnd) (v v' : Value) (w : World) (h : Sl encHd 3 w v l) (h' : Sl encHd 3 w v' l) :
    Calls Tryd.prog 32 #[v, v'] w fun e w' => e = .returned (.bool true) ∧ Ext w w' := by
  have HA := Lib.hid h
  have HB := Lib.hid h'
  obtain ⟨A, n, cp, rfl, hn, hlc, hcm⟩ := h.form
  obtain ⟨A2, n2, cp2, rfl, hn2, hlc2, hcm2⟩ := h'.form
  have hnn : n2 = n := by have := hn.out; have := hn2.out; omega
  subst hnn
  have nq := fun a b x w => neq99s a b x w
  clear h h'
  go_enter Tryd.func32, Tryd.ntmps32
  go_wp2
  go_loopg [5] n2 (fun gg s wr => ∃ (k : Nat), k ≤ n2 ∧ n2 - k ≤ gg ∧ s = .int .i64 k ∧ Aside (Ext w wr))
  case atStart => exact ⟨0, by omega, by omega, rfl, Ext.refl _⟩
  case round =>
    obtain ⟨k, hk, hg, rfl, EW⟩ := hrel
    by_cases hlt : k < n2
    · have hjz : (k : Int) < (n2 : Int) := by omega
      obtain ⟨bb, off, x, rfl, hx, hb, hcell⟩ := HA.out.at_ hlt
      obtain ⟨bb', off', x', rfl, hx', hb', hcell'⟩ := HB.out.at_ hlt
      have hxx : x' = x := by rw [hx] at hx'; injection hx' with h; exact h.symm
      subst hxx
      have c0 := fun W (h : Ext wr W) => (hnd_cells hcell (EW.out.trans h)).1
      have c1 := fun W (h : Ext wr W) => (hnd_cells hcell (EW.out.trans h)).2.1
      have c2 := fun W (h : Ext wr W) => (hnd_cells hcell (EW.out.trans h)).2.2
      have d0 := fun W (h : Ext wr W) => (hnd_cells hcell' (EW.out.trans h)).1
      have d1 := fun W (h : Ext wr W) => (hnd_cells hcell' (EW.out.trans h)).2.1
      have d2 := fun W (h : Ext wr W) => (hnd_cells hcell' (EW.out.trans h)).2.2
      clear hx hx' hcell hcell'
      go_wp2
      refine wp_region_tame (fun W => Ext wr W) (fun W W' => Ext W W') (by kernel_rfl) 26 rfl (by decide +kernel) (Ext.refl _).drew ?_
      repeat (apply tame_q rfl; (intro ρ W hC hr hD; (obtain ⟨hrc, hrg, hrf, hrs⟩ := hr); (simp [go_sem] at hD); go_simp; first | exact ⟨⟨hC, Ext.refl _⟩, rfl⟩ | exact ⟨⟨hC, RS.refl _⟩, rfl⟩ | exact rfl); simp only [List.nil_append, List.cons_append])
      refine tame_end 26 rfl rfl (fun ρ W hC hr hF => ?_)
      obtain ⟨hrc, hrg, hrf, hrs⟩ := hr
      simp [go_sem] at hF
      apply frame_to
      · go_simp
        exact rfl
      clear hF hrs hrc hrg hrf
      have HC := Lib.hid hC; clear hC c0 c1 c2 d0 d1 d2
      go_wp2
      go_roundg (n2 - (k + 1))
      case measure => omega
      case rel => exact ⟨k + 1, by omega, by omega, rfl, EW.out.trans HC.out⟩
    · go_wp2
      go_ret
      exact ⟨rfl, EW.out⟩
end Go.Proofs.YtafdbgielmlihaaDoor
/- The law ChainProves: the walk. -/
namespace Go.Proofs.YtafdbgielmlihaaDoor
open Go.RowKit Go.Shelf Go.Lib
set_option maxRecDepth 100000
set_option linter.unusedSimpArgs false

theorem proofOf_exists {c : Chn} {l : List Int} (hcl : CloseOf c l) : ∃ P, ProofOf c l P := by
  cases hc : checkP c with
  | false => exact ⟨[], ⟨fun h => by (rw [hc] at h; cases h), fun _ => rfl⟩⟩
  | true =>
    obtain ⟨π, hT, h6⟩ := top_small (check_right hc).1 (check_right hc).2 (hcl.1 hc)
    obtain ⟨P, hP⟩ := pr_exists hT (fun v => (h6 v).1)
    exact ⟨P, ⟨fun _ => hP, fun h => by (rw [hc] at h; cases h)⟩⟩
end Go.Proofs.YtafdbgielmlihaaDoor
/- Sum, closes, and other small functions of the outright laws (layer 6). -/
namespace Go.Proofs.YtafdbgielmlihaaDoor
open Go.RowKit Go.Shelf Go.Lib
set_option maxRecDepth 100000
set_option linter.unusedSimpArgs false

/-- The examples hold. -/
def AliveT : Prop := ∀ w, Tab w → Calls Tryd.prog 55 #[] w fun e w' => e = .returned (.bool true) ∧ Ext w w'
theorem lawSum_any (l : List Int) (v : Value) (w : World) (h : SlI w v l) (hl : l.length ≤ 100) (hb : ∀ y ∈ l, -1000000000 ≤ y ∧ y ≤ 1000000000) :
    Calls Tryd.prog 62 #[v] w fun e w' => e = .returned (.int .i64 (sumI l)) ∧ Ext w w' := by
  have HS := Lib.hid h; have HL := Lib.hid hl; have HB := Lib.hid hb
  obtain ⟨A, n, cp, rfl, hn, hlc, hcm⟩ := h.form
  clear h hl hb
  go_enter Tryd.func62, Tryd.ntmps62
  go_wp2
  go_loopg [3, 8] n (fun gg a s wr => ∃ kk : Nat, kk ≤ n ∧ n - kk ≤ gg ∧ s = .int .i64 kk ∧ a = .int .i64 (sumI (l.take kk)) ∧ Aside (Ext w wr))
  case atStart => exact ⟨0, Nat.zero_le _, by omega, rfl, rfl, Ext.refl _⟩
  case round =>
    obtain ⟨kk, hle, hm2, rfl, rfl, EX⟩ := hrel
    have EX := Lib.hid EX.out
    have B1 := Lib.hid (sumI_bd (B := 1000000000) (by decide) (l.take kk) fun y hy => HB.out y (List.mem_of_mem_take hy))
    have hB1 : -100000000000 ≤ sumI (l.take kk) ∧ sumI (l.take kk) ≤ 100000000000 := by
      have := B1.out; have := HL.out; have h3 : (l.take kk).length ≤ l.length := by rw [List.length_take]; omega
      omega
    by_cases hlt : kk < n
    · have hltz : (kk : Int) < (n : Int) := by omega
      obtain ⟨b, off, x, rfl, hx, hbd, hcell⟩ := HS.out.at_ hlt
      have HY := Lib.hid (HB.out x (List.mem_of_getElem? hx))
      have hw1 : IntKind.i64.wrap (sumI (l.take kk) + x) = sumI (l.take kk) + x := by rw [IntKind.wrap_i64]; have := HY.out; omega
      have HST := Lib.hid (sumI_snoc hx)
      generalize sumI (l.take kk) = P at *
      have r0 : wr.cell? ⟨b, off + kk, none⟩ = some (.int .i64 x) := by simpa using hcell wr EX.out 0 _ rfl
      clear hx hcell
      go_wp2
      go_roundg (n - (kk + 1))
      case measure => omega
      case rel => exact ⟨kk + 1, by omega, by omega, by simp, by rw [HST.out], EX.out⟩
    · have HE := Lib.hid (show sumI (l.take kk) = sumI l by rw [List.take_of_length_le (by have := hn.out; omega)])
      rw [HE.out]
      go_wp2
      go_ret
      exact ⟨rfl, EX.out⟩
set_option maxHeartbeats 2000000 in
/-- Numbers that close the chain are taken for it. -/
theorem closes_any (c : Chn) (m : List Int) (hv sv mv : Value) (w : World) (hC : Closes c m) (hR : Right c) (hN : c.sales.length ≤ 10) (hh : SlI w hv c.houses) (hs : SlL w sv c.sales) (hm : SlI w mv m) :
    Calls Tryd.prog 61 #[valC hv sv, mv] w fun e w' => e = .returned (.bool true) ∧ Ext w w' := by
  have HH := Lib.hid hh; have HS := Lib.hid hs; have HM := Lib.hid hm; have HR := Lib.hid hR; have HC := Lib.hid hC; have HN := Lib.hid hN
  obtain ⟨A, n, cp, rfl, hn, hlc, hcm⟩ := hh.form
  obtain ⟨A2, n2, cp2, rfl, hn2, hlc2, hcm2⟩ := hs.form
  obtain ⟨A3, n3, cp3, rfl, hn3, hlc3, hcm3⟩ := hm.form
  have hn3e : n3 = n2 := by have := hn2.out; have := hn3.out; have := HC.out.len; omega
  subst hn3e
  clear hh hs hm hR hC hN
  have B0 := Lib.hid (show Blk (w.alloc (.cells #[.slice A n cp, .slice A2 n3 cp2] 25)) w.heap.size 25 #[.slice A n cp, .slice A2 n3 cp2] from Blk.new _ _ _)
  go_enter Tryd.func61, Tryd.ntmps61
  go_wp2
  go_loopg [15] n3 (fun gg s wr => ∃ kk : Nat, kk ≤ n3 ∧ n3 - kk ≤ gg ∧ s = .int .i64 kk ∧ Aside (Ext (w.alloc (.cells #[.slice A n cp, .slice A2 n3 cp2] 25)) wr))
  case atStart => exact ⟨0, Nat.zero_le _, by omega, rfl, Ext.refl _⟩
  case round =>
    obtain ⟨kk, hle, hm2, rfl, EX⟩ := hrel
    have EX := Lib.hid EX.out
    have EW := Lib.hid ((Ext.al w (.cells #[.slice A n cp, .slice A2 n3 cp2] 25)).trans EX.out)
    have BW := Lib.hid (B0.out.ext EX.out)
    by_cases hlt : kk < n3
    · have hltz : (kk : Int) < (n3 : Int) := by omega
      obtain ⟨b, off, x, rfl, hx, hbd, hcell⟩ := HS.out.at_ hlt
      obtain ⟨b3, off3, y, rfl, hy, hbd3, hcell3⟩ := HM.out.at_ hlt
      have HY := Lib.hid (HC.out.bd kk x y hx hy)
      have hy0 : ¬ y < 0 := by have := HY.out; omega
      have hy1 : ¬ x.bales < y := by have := HY.out; omega
      obtain ⟨c0, c1, c2, c3, c4⟩ := SlL.cells hcell EW.out
      have r1 : wr.cell? ⟨b3, off3 + kk, none⟩ = some (.int .i64 y) := by simpa using hcell3 wr EW.out 0 _ rfl
      clear hx hy hcell hcell3
      have t0 := BW.out.c2
      go_wp2
      go_roundg (n3 - (kk + 1))
      case measure => omega
      case rel => exact ⟨kk + 1, by omega, by omega, by simp, EX.out⟩
    · have m0 := fun W (h : Ext wr W) => (BW.out.ext h).c2
      go_wp2
      have h6 := HR.out.h6
      refine wp_region_tame (fun W => Ext wr W) (fun W W' => Ext W W') (by kernel_rfl) 41 rfl (by decide +kernel) (Ext.refl _).drew ?_
      repeat (apply tame_q rfl; (intro ρ W hC hr hD; (obtain ⟨hrc, hrg, hrf, hrs⟩ := hr); (simp [go_sem] at hD); go_simp; first | exact ⟨⟨hC, Ext.refl _⟩, rfl⟩ | exact ⟨⟨hC, RS.refl _⟩, rfl⟩ | exact rfl); simp only [List.nil_append, List.cons_append])
      apply tame_v rfl (fun v W => SlI W v (getsL c m)) (fun v W W' _ hE h => h.ext hE)
      · intro ρ W hC hr hD
        obtain ⟨hrc, hrg, hrf, hrs⟩ := hr
        simp [go_sem] at hD
        go_simp
        refine (refGets_any c m _ _ _ W (HH.out.ext (EW.out.trans hC)) (HS.out.ext (EW.out.trans hC)) (HM.out.ext (EW.out.trans hC)) HR.out (by have := HN.out; omega) HC.out.len (fun y hy => by have := closes_nine HR.out HC.out y hy; omega)).mono ?_
        rintro e w' ⟨⟨g, rfl, hg, hr⟩, hE⟩
        exact ⟨_, rfl, ⟨hC.trans hE, hE⟩, hr.sl (by unfold maxLen; simp [getsL]; omega)⟩
      simp only [List.nil_append, List.cons_append]
      repeat (apply tame_q rfl; (intro ρ W hC hr hD; (obtain ⟨hrc, hrg, hrf, hrs⟩ := hr); (simp [go_sem] at hD); go_simp; first | exact ⟨⟨hC, Ext.refl _⟩, rfl⟩ | exact ⟨⟨hC, RS.refl _⟩, rfl⟩ | exact rfl); simp only [List.nil_append, List.cons_append])
      apply tame_v rfl (fun v W => SlI W v (balesOf c)) (fun v W W' _ hE h => h.ext hE)
      · intro ρ W hC hr hD
        obtain ⟨hrc, hrg, hrf, hrs⟩ := hr
        simp [go_sem] at hD
        go_simp
        refine (f66_any c _ _ W (HH.out.ext (EW.out.trans hC)) (HS.out.ext (EW.out.trans hC)) (by have := HN.out; omega)).mono ?_
        rintro e w' ⟨⟨v', rfl, ho⟩, hE⟩
        exact ⟨_, rfl, ⟨hC.trans hE, hE⟩, ho.sl (fun _ => rfl)⟩
      simp only [List.nil_append, List.cons_append]
      apply tame_v rfl (fun v W => SlI W v (getsL c m)) (fun v W W' _ hE h => h.ext hE)
      · intro ρ W hC hr hD
        obtain ⟨hrc, hrg, hrf, hrs⟩ := hr
        simp [go_sem] at hD
        obtain ⟨d1, d3⟩ := hD
        go_simp
        refine (refGets_any c (balesOf c) _ _ _ W (HH.out.ext (EW.out.trans hC)) (HS.out.ext (EW.out.trans hC)) d3 HR.out (by have := HN.out; omega) (bales_len c) (bales_bd HR.out)).mono ?_
        rintro e w' ⟨⟨g, rfl, hg, hr⟩, hE⟩
        refine ⟨_, rfl, ⟨hC.trans hE, hE⟩, ?_⟩
        rw [closes_gets HC.out]
        exact hr.sl (by unfold maxLen; simp [getsL]; omega)
      simp only [List.nil_append, List.cons_append]
      apply tame_q rfl
      · intro ρ W hC hr hD
        obtain ⟨hrc, hrg, hrf, hrs⟩ := hr
        simp [go_sem] at hD
        obtain ⟨d1, d3⟩ := hD
        go_simp
        refine (sameInts_any _ _ _ _ d1 d3).mono ?_
        rintro e w' ⟨rfl, hE⟩
        exact ⟨_, rfl, ⟨hC.trans hE, hE⟩, rfl⟩
      simp only [List.nil_append, List.cons_append]
      repeat (apply tame_q rfl; (intro ρ W hC hr hD; (obtain ⟨hrc, hrg, hrf, hrs⟩ := hr); (simp [go_sem] at hD); go_simp; first | exact ⟨⟨hC, Ext.refl _⟩, rfl⟩ | exact ⟨⟨hC, RS.refl _⟩, rfl⟩ | exact rfl); simp only [List.nil_append, List.cons_append])
      refine tame_end_put rfl rfl (fun ρ W hC hr hF => ?_)
      simp [go_sem] at hF
      obtain ⟨f1, f2, -, f4, f5, -, -, f8, f9⟩ := hF
      simp only [putF, f1, f2, f4, f5, f8, f9, List.set_cons_succ, List.set_cons_zero]
      generalize ρ (Operand.tmp 35) = v35
      generalize ρ (Operand.tmp 38) = v38
      generalize ρ (Operand.tmp 39) = v39
      have EF := Lib.hid (EW.out.trans hC)
      clear f1 f2 f4 f5 f8 f9 hr hC m0
      go_wp2
      go_ret
      exact ⟨rfl, EF.out⟩
end Go.Proofs.YtafdbgielmlihaaDoor
/- The law ChainClosed: the walk. -/
namespace Go.Proofs.YtafdbgielmlihaaDoor
open Go.RowKit Go.Shelf Go.Lib
set_option maxRecDepth 100000
set_option linter.unusedSimpArgs false

set_option maxHeartbeats 8000000 in
theorem closedLaw_of (hA : AliveT) (c : Chn) (hv sv : Value) (w : World) (hT : Tab w) (hh : SlI w hv c.houses) (hs : SlL w sv c.sales) :
    Calls Tryd.prog 10 #[valC hv sv] w fun e w' => e = .returned (.bool true) ∧ Ext w w' := by
  have HT := Lib.hid hT; have HH := Lib.hid hh; have HS := Lib.hid hs
  obtain ⟨A, n, cp, rfl, hn, hlc, hcm⟩ := hh.form
  obtain ⟨A2, n2, cp2, rfl, hn2, hlc2, hcm2⟩ := hs.form
  obtain ⟨l, hcl⟩ := closeOf_exists c
  obtain ⟨P, hpr⟩ := proofOf_exists hcl
  have HCL := Lib.hid hcl; have HPR := Lib.hid hpr
  have B0 := Lib.hid (show Blk (w.alloc (.cells #[.slice A n cp, .slice A2 n2 cp2] 25)) w.heap.size 25 #[.slice A n cp, .slice A2 n2 cp2] from Blk.new _ _ _)
  have E0 := Lib.hid (Ext.al w (.cells #[.slice A n cp, .slice A2 n2 cp2] 25))
  clear hh hs hT hcl hpr
  go_enter Tryd.func10, Tryd.ntmps10
  go_wp2_with fail
  refine (hA _ (HT.out.ext E0.out)).mono ?_
  rintro e w1 ⟨rfl, hE⟩
  replace E0 := Lib.hid (E0.out.trans hE); replace B0 := Lib.hid (B0.out.ext hE); clear hE
  have t0 := B0.out.c2
  go_wp2_with fail
  refine (ready_any c _ _ _ (HH.out.ext E0.out) (HS.out.ext E0.out)).mono ?_
  rintro e w2 ⟨rfl, hE⟩
  replace E0 := Lib.hid (E0.out.trans hE); replace B0 := Lib.hid (B0.out.ext hE); clear hE t0
  cases hc : checkP c with
  | false =>
    clear hc
    go_wp2
    go_ret
    exact ⟨rfl, E0.out⟩
  | true =>
    have HC := Lib.hid hc; clear hc
    have HR := Lib.hid (check_right HC.out).1
    have HN := Lib.hid (check_right HC.out).2
    have HO := Lib.hid (HCL.out.1 HC.out)
    have t0 := B0.out.c2
    go_wp2_with fail
    refine (close_any c l _ _ _ HCL.out (HT.out.ext E0.out) (HH.out.ext E0.out) (HS.out.ext E0.out) (by have := HN.out; omega)).mono ?_
    rintro e w3 ⟨⟨v4, rfl, hu⟩, hE⟩
    rw [HC.out]
    dsimp only [errB, if_true]
    replace E0 := Lib.hid (E0.out.trans hE); replace B0 := Lib.hid (B0.out.ext hE)
    have L := Lib.hid hu; clear hE hu t0
    have t0 := B0.out.c2
    go_wp2_with fail
    refine (owed_any c _ _ _ (HT.out.ext E0.out) (HH.out.ext E0.out) (HS.out.ext E0.out) (by have := HN.out; omega)).mono ?_
    rintro e w4 ⟨⟨v7, rfl, hu⟩, hE⟩
    rw [HC.out]
    dsimp only [errB, if_true]
    replace E0 := Lib.hid (E0.out.trans hE); replace B0 := Lib.hid (B0.out.ext hE); replace L := Lib.hid (L.out.ext hE)
    have O := Lib.hid hu; clear hE hu t0
    have t0 := B0.out.c2
    go_wp2_with fail
    refine (proof_any c l P _ _ _ HCL.out HPR.out (HT.out.ext E0.out) (HH.out.ext E0.out) (HS.out.ext E0.out) (by have := HN.out; omega)).mono ?_
    rintro e w5 ⟨⟨v9, rfl, hu⟩, hE⟩
    rw [HC.out]
    dsimp only [errB, if_true]
    replace E0 := Lib.hid (E0.out.trans hE); replace B0 := Lib.hid (B0.out.ext hE); replace L := Lib.hid (L.out.ext hE); replace O := Lib.hid (O.out.ext hE)
    have PP := Lib.hid hu; clear hE hu t0
    have t0 := B0.out.c2
    go_wp2_with fail
    refine (closes_any c l _ _ _ _ (closes_close HO.out) HR.out HN.out (HH.out.ext E0.out) (HS.out.ext E0.out) L.out).mono ?_
    rintro e w6 ⟨rfl, hE⟩
    replace E0 := Lib.hid (E0.out.trans hE); replace B0 := Lib.hid (B0.out.ext hE); replace L := Lib.hid (L.out.ext hE); replace O := Lib.hid (O.out.ext hE); replace PP := Lib.hid (PP.out.ext hE)
    clear hE t0
    have t0 := B0.out.c2
    have HLN := Lib.hid (closes_close HO.out).len
    have H9 := Lib.hid (closes_nine HR.out (closes_close HO.out))
    go_wp2_with fail
    refine (lawSum_any l _ _ L.out (by have := HLN.out; have := HN.out; omega) (fun y hy => by have := H9.out y hy; omega)).mono ?_
    rintro e w7 ⟨rfl, hE⟩
    replace E0 := Lib.hid (E0.out.trans hE); replace B0 := Lib.hid (B0.out.ext hE); replace L := Lib.hid (L.out.ext hE); replace O := Lib.hid (O.out.ext hE); replace PP := Lib.hid (PP.out.ext hE)
    clear hE t0
    have t0 := B0.out.c2
    go_wp2_with fail
    refine (refGets_any c l _ _ _ _ (HH.out.ext E0.out) (HS.out.ext E0.out) L.out HR.out (by have := HN.out; omega) HLN.out (fun y hy => by have := H9.out y hy; omega)).mono ?_
    rintro e w8 ⟨⟨g68, rfl, -, hu⟩, hE⟩
    replace E0 := Lib.hid (E0.out.trans hE); replace B0 := Lib.hid (B0.out.ext hE); replace L := Lib.hid (L.out.ext hE); replace O := Lib.hid (O.out.ext hE); replace PP := Lib.hid (PP.out.ext hE)
    have h6 := HR.out.h6
    have G := Lib.hid (hu.sl (by unfold maxLen; simp [getsL]; omega))
    clear h6
    clear hE t0 hu
    have OE := Lib.hid (show owedL c = getsL c l by unfold owedL; rw [if_pos HC.out, closes_gets (closes_close HO.out)])
    rw [OE.out] at O
    go_wp2_with fail
    refine (sameInts_any _ _ _ _ O.out G.out).mono ?_
    rintro e w9 ⟨rfl, hE⟩
    replace E0 := Lib.hid (E0.out.trans hE); replace B0 := Lib.hid (B0.out.ext hE); replace L := Lib.hid (L.out.ext hE); replace PP := Lib.hid (PP.out.ext hE)
    clear hE O G
    have t0 := B0.out.c2
    have TP := Lib.hid (pr_topped HR.out (HPR.out.1 HC.out))
    have SM := Lib.hid (pr_smallZ HR.out HN.out HO.out (HPR.out.1 HC.out))
    obtain ⟨A4, n4, c4, rfl, hn4, -, -⟩ := L.out.form
    obtain ⟨A9, n9, c9, rfl, hn9, -, -⟩ := PP.out.form
    have hn4e : n4 = n2 := by have := hn2.out; have := hn4.out; have := HLN.out; omega
    have hn9e : n9 = n := by have := hn.out; have := hn9.out; have := TP.out.len; omega
    subst hn4e hn9e
    go_wp2
    go_loopg [82] n9 (fun gg s wr => ∃ kk : Nat, kk ≤ n9 ∧ n9 - kk ≤ gg ∧ s = .int .i64 kk ∧ Aside (Ext w9 wr))
    case atStart => exact ⟨0, Nat.zero_le _, by omega, rfl, Ext.refl _⟩
    case round =>
      obtain ⟨kk, hle, hm2, rfl, EX⟩ := hrel
      have EX := Lib.hid EX.out
      by_cases hlt : kk < n9
      · have hltz : (kk : Int) < (n9 : Int) := by omega
        obtain ⟨b, off, x, rfl, hx, hbd, hcell⟩ := PP.out.at_ hlt
        have hb := SM.out kk
        rw [hx] at hb
        have hx0 : ¬ x < 0 := by have := hb.1; simp at this; omega
        have hx1 : ¬ 1000 < x := by have := hb.2; simp at this; omega
        have r0 : wr.cell? ⟨b, off + kk, none⟩ = some (.int .i64 x) := by simpa using hcell wr EX.out 0 _ rfl
        clear hx hcell hb
        go_wp2
        go_roundg (n9 - (kk + 1))
        case measure => omega
        case rel => exact ⟨kk + 1, by omega, by omega, by simp, EX.out⟩
      · clear t0
        replace E0 := Lib.hid (E0.out.trans EX.out); replace B0 := Lib.hid (B0.out.ext EX.out); replace L := Lib.hid (L.out.ext EX.out); replace PP := Lib.hid (PP.out.ext EX.out)
        obtain ⟨wx, hwx⟩ : ∃ wx, wx = wr := ⟨_, rfl⟩
        subst hwx
        clear EX
        have t0 := B0.out.c2
        go_wp2
        clear t0
        go_loopg [96] n4 (fun gg s wr => ∃ kk : Nat, kk ≤ n4 ∧ n4 - kk ≤ gg ∧ s = .int .i64 kk ∧ Aside (Ext wx wr))
        case atStart => exact ⟨0, Nat.zero_le _, by omega, rfl, Ext.refl _⟩
        case round =>
          obtain ⟨kk, hle, hm2, rfl, EX⟩ := hrel
          have EX := Lib.hid EX.out
          replace E0 := Lib.hid (E0.out.trans EX.out); replace B0 := Lib.hid (B0.out.ext EX.out); replace L := Lib.hid (L.out.ext EX.out); replace PP := Lib.hid (PP.out.ext EX.out)
          by_cases hlt : kk < n4
          · have hltz : (kk : Int) < (n4 : Int) := by omega
            obtain ⟨b, off, x, rfl, hx, -, hcell⟩ := HS.out.at_ hlt
            obtain ⟨b4, off4, y, rfl, hy, -, hcy⟩ := L.out.at_ hlt
            obtain ⟨s, bb, hsi, hbi, hsl, hbl, hne⟩ := sale_at HR.out hx
            have hs9 : s < n9 := by have := hn.out; omega
            have hb9 : bb < n9 := by have := hn.out; omega
            have hs9z : (s : Int) < (n9 : Int) := by omega
            have hb9z : (bb : Int) < (n9 : Int) := by omega
            obtain ⟨b9, off9, ps, rfl, hps, -, hcs⟩ := PP.out.at_ hs9
            obtain ⟨b9', off9', pb, e9, hpb, -, hcb⟩ := PP.out.at_ hb9
            cases e9
            have hup := TP.out.up kk x y hx hy
            have hdn := TP.out.down kk x y hx hy
            have hsm := SM.out s
            rw [hsi, hbi, Int.toNat_natCast, Int.toNat_natCast, hps, hpb] at hup hdn
            rw [hps] at hsm
            simp only [Option.getD_some] at hup hdn hsm
            have hwp : IntKind.i64.wrap (ps + 1) = ps + 1 := by rw [IntKind.wrap_i64]; omega
            obtain ⟨c0, c1, c2, c3, c4⟩ := SlL.cells hcell E0.out
            have HSI := Lib.hid hsi; have HBI := Lib.hid hbi
            obtain ⟨w2, hw2⟩ : ∃ w2, w2 = wr.alloc (.cells #[.int .i64 x.number, .int .i64 x.seller, .int .i64 x.buyer, .int .i64 x.bales, .int .i64 x.price] 68) := ⟨_, rfl⟩
            have BX := Lib.hid (show Blk w2 wr.heap.size 68 #[.int .i64 x.number, .int .i64 x.seller, .int .i64 x.buyer, .int .i64 x.bales, .int .i64 x.price] from hw2 ▸ Blk.new _ _ _)
            have E2 := Lib.hid (show Ext w w2 from hw2 ▸ E0.out.alloc _)
            have EL := Lib.hid (show Ext wx w2 from hw2 ▸ EX.out.alloc _)
            have BC := Lib.hid (show Blk w2 w.heap.size 25 _ from hw2 ▸ B0.out.alloc _)
            have EW := Lib.hid (show Ext wr w2 from hw2 ▸ Ext.al _ _)
            go_wp2
            rw [← hw2]
            clear hw2 hcell c0 c1 c2 c3 c4 hsi hbi hx hy hps hpb
            have m0 := fun W (h : Ext w2 W) => (BC.out.ext h).c2
            have m1 := fun W (h : Ext w2 W) => (BX.out.ext h).c5
            have m2 := fun W (h : Ext w2 W) => (show W.cell? ⟨b9, off9 + s, none⟩ = some (.int .i64 ps) by simpa using hcs W (EW.out.trans h) 0 _ rfl)
            have m3 := fun W (h : Ext w2 W) => (show W.cell? ⟨b9, off9 + bb, none⟩ = some (.int .i64 pb) by simpa using hcb W (EW.out.trans h) 0 _ rfl)
            have m4 := fun W (h : Ext w2 W) => (show W.cell? ⟨b4, off4 + kk, none⟩ = some (.int .i64 y) by simpa using hcy W (EW.out.trans h) 0 _ rfl)
            refine wp_region_tame (fun W => Ext w2 W) (fun W W' => Ext W W') (by kernel_rfl) 142 rfl (by decide +kernel) (Ext.refl _).drew ?_
            repeat (apply tame_q rfl; (intro ρ W hC hr hD; (obtain ⟨hrc, hrg, hrf, hrs⟩ := hr); (simp [go_sem] at hD); go_simp; first | exact ⟨⟨hC, Ext.refl _⟩, rfl⟩ | exact ⟨⟨hC, RS.refl _⟩, rfl⟩ | exact rfl); simp only [List.nil_append, List.cons_append])
            apply tame_q rfl
            · intro ρ W hC hr hD
              obtain ⟨hrc, hrg, hrf, hrs⟩ := hr
              simp [go_sem] at hD
              go_simp
              refine (house_at c x.seller s _ _ W (HH.out.ext (E2.out.trans hC)) (HS.out.ext (E2.out.trans hC)) HSI.out).mono ?_
              rintro e w' ⟨rfl, hE⟩
              exact ⟨_, rfl, ⟨hC.trans hE, hE⟩, rfl⟩
            simp only [List.nil_append, List.cons_append]
            repeat (apply tame_q rfl; (intro ρ W hC hr hD; (obtain ⟨hrc, hrg, hrf, hrs⟩ := hr); (simp [go_sem] at hD); go_simp; first | exact ⟨⟨hC, Ext.refl _⟩, rfl⟩ | exact ⟨⟨hC, RS.refl _⟩, rfl⟩ | exact rfl); simp only [List.nil_append, List.cons_append])
            apply tame_q rfl
            · intro ρ W hC hr hD
              obtain ⟨hrc, hrg, hrf, hrs⟩ := hr
              simp [go_sem] at hD
              go_simp
              refine (house_at c x.buyer bb _ _ W (HH.out.ext (E2.out.trans hC)) (HS.out.ext (E2.out.trans hC)) HBI.out).mono ?_
              rintro e w' ⟨rfl, hE⟩
              exact ⟨_, rfl, ⟨hC.trans hE, hE⟩, rfl⟩
            simp only [List.nil_append, List.cons_append]
            repeat (apply tame_q rfl; (intro ρ W hC hr hD; (obtain ⟨hrc, hrg, hrf, hrs⟩ := hr); (simp [go_sem] at hD); go_simp; first | exact ⟨⟨hC, Ext.refl _⟩, rfl⟩ | exact ⟨⟨hC, RS.refl _⟩, rfl⟩ | exact rfl); simp only [List.nil_append, List.cons_append])
            refine tame_end_put rfl rfl (fun ρ W hC hr hF => ?_)
            simp [go_sem] at hF
            simp only [putF, hF, List.set_cons_succ, List.set_cons_zero]
            clear hF hr
            obtain ⟨w3, hw3⟩ : ∃ w3, w3 = W := ⟨_, rfl⟩
            subst hw3
            have n1 := fun V (h : Ext w3 V) => m1 V (hC.trans h)
            have n4' := fun V (h : Ext w3 V) => m4 V (hC.trans h)
            have EWx := Lib.hid (EL.out.trans hC)
            clear m0 m1 m2 m3 m4 hC BX E2 EL BC EW HSI HBI
            go_wp2
            by_cases h1 : 0 < y
            · have q1 : ¬ pb ≤ ps := by have := hup h1; omega
              by_cases h2 : y < x.bales
              · have q2 : ¬ ps + 1 < pb := by have := hdn h2; omega
                refine wp_region_tame (fun W => Ext w3 W) (fun W W' => Ext W W') (by kernel_rfl) 142 rfl (by decide +kernel) (Ext.refl _).drew ?_
                repeat (apply tame_q rfl; (intro ρ W hC hr hD; (obtain ⟨hrc, hrg, hrf, hrs⟩ := hr); (simp [go_sem] at hD); go_simp; first | exact ⟨⟨hC, Ext.refl _⟩, rfl⟩ | exact ⟨⟨hC, RS.refl _⟩, rfl⟩ | exact rfl); simp only [List.nil_append, List.cons_append])
                refine tame_end_put rfl rfl (fun ρ W hC hr hF => ?_)
                simp [go_sem] at hF
                simp only [putF, hF, List.set_cons_succ, List.set_cons_zero]
                clear hF hr
                have EF := Lib.hid (EWx.out.trans hC)
                clear hC n1 n4'
                go_wp2
                go_roundg (n4 - (kk + 1))
                case measure => omega
                case rel => exact ⟨kk + 1, by omega, by omega, by simp, EF.out⟩
              · skip
                refine wp_region_tame (fun W => Ext w3 W) (fun W W' => Ext W W') (by kernel_rfl) 142 rfl (by decide +kernel) (Ext.refl _).drew ?_
                repeat (apply tame_q rfl; (intro ρ W hC hr hD; (obtain ⟨hrc, hrg, hrf, hrs⟩ := hr); (simp [go_sem] at hD); go_simp; first | exact ⟨⟨hC, Ext.refl _⟩, rfl⟩ | exact ⟨⟨hC, RS.refl _⟩, rfl⟩ | exact rfl); simp only [List.nil_append, List.cons_append])
                refine tame_end_put rfl rfl (fun ρ W hC hr hF => ?_)
                simp [go_sem] at hF
                simp only [putF, hF, List.set_cons_succ, List.set_cons_zero]
                clear hF hr
                have EF := Lib.hid (EWx.out.trans hC)
                clear hC n1 n4'
                go_wp2
                go_roundg (n4 - (kk + 1))
                case measure => omega
                case rel => exact ⟨kk + 1, by omega, by omega, by simp, EF.out⟩
            · by_cases h2 : y < x.bales
              · have q2 : ¬ ps + 1 < pb := by have := hdn h2; omega
                refine wp_region_tame (fun W => Ext w3 W) (fun W W' => Ext W W') (by kernel_rfl) 142 rfl (by decide +kernel) (Ext.refl _).drew ?_
                repeat (apply tame_q rfl; (intro ρ W hC hr hD; (obtain ⟨hrc, hrg, hrf, hrs⟩ := hr); (simp [go_sem] at hD); go_simp; first | exact ⟨⟨hC, Ext.refl _⟩, rfl⟩ | exact ⟨⟨hC, RS.refl _⟩, rfl⟩ | exact rfl); simp only [List.nil_append, List.cons_append])
                refine tame_end_put rfl rfl (fun ρ W hC hr hF => ?_)
                simp [go_sem] at hF
                simp only [putF, hF, List.set_cons_succ, List.set_cons_zero]
                clear hF hr
                have EF := Lib.hid (EWx.out.trans hC)
                clear hC n1 n4'
                go_wp2
                go_roundg (n4 - (kk + 1))
                case measure => omega
                case rel => exact ⟨kk + 1, by omega, by omega, by simp, EF.out⟩
              · skip
                refine wp_region_tame (fun W => Ext w3 W) (fun W W' => Ext W W') (by kernel_rfl) 142 rfl (by decide +kernel) (Ext.refl _).drew ?_
                repeat (apply tame_q rfl; (intro ρ W hC hr hD; (obtain ⟨hrc, hrg, hrf, hrs⟩ := hr); (simp [go_sem] at hD); go_simp; first | exact ⟨⟨hC, Ext.refl _⟩, rfl⟩ | exact ⟨⟨hC, RS.refl _⟩, rfl⟩ | exact rfl); simp only [List.nil_append, List.cons_append])
                refine tame_end_put rfl rfl (fun ρ W hC hr hF => ?_)
                simp [go_sem] at hF
                simp only [putF, hF, List.set_cons_succ, List.set_cons_zero]
                clear hF hr
                have EF := Lib.hid (EWx.out.trans hC)
                clear hC n1 n4'
                go_wp2
                go_roundg (n4 - (kk + 1))
                case measure => omega
                case rel => exact ⟨kk + 1, by omega, by omega, by simp, EF.out⟩
          · go_wp2
            go_ret
            exact ⟨rfl, E0.out⟩
end Go.Proofs.YtafdbgielmlihaaDoor
