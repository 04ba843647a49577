/- ChainWay: the walk, but for alive. -/
import Derived.Test.YtafdbgielmlihaaDoorPkChWayCardA
import Derived.Test.YtafdbgielmlihaaDoorPkChLeastCardV
import Derived.Test.YtafdbgielmlihaaDoorPkChWayCardB
import Derived.Test.YtafdbgielmlihaaDoorPkChExamplesCardA
namespace Go.Proofs.YtafdbgielmlihaaDoor
open Go.RowKit Go.Shelf Go.Lib
set_option maxRecDepth 100000
set_option linter.unusedSimpArgs false
set_option linter.unusedVariables false

def FreshLW (B : Nat) (v : Value) (W : World) : Prop := ∃ g, v = .pointer (some ⟨g, 0, none⟩) ∧ B ≤ g ∧ Blk W g 68 #[.int .i64 0, .int .i64 0, .int .i64 0, .int .i64 0, .int .i64 0]
theorem FreshLW.ext {B : Nat} {v : Value} {W W' : World} (h : FreshLW B v W) (e : Ext W W') : FreshLW B v W' := by
  obtain ⟨g, h1, h2, h3⟩ := h
  exact ⟨g, h1, h2, h3.ext e⟩
set_option maxHeartbeats 8000000 in
theorem wayLaw_of (hA : AliveT) (c : Chn) (x1 x2 : Int) (by_ : List Int) (hv sv bv : Value) (w : World) (hT : Tab w) (hh : SlI w hv c.houses) (hs : SlL w sv c.sales) (hx1 : 0 ≤ x1 ∧ x1 ≤ 255) (hx2 : 0 ≤ x2 ∧ x2 ≤ 255) (hbs : Sl encU 1 w bv by_) (hb : ∀ k ∈ by_, 0 ≤ k ∧ k ≤ 255) (hbl : by_.length ≤ 1048576) :
    Calls Tryd.prog 16 #[valC hv sv, .int .u8 x1, .int .u8 x2, bv] w fun e w' => e = .returned (.bool true) ∧ Ext w w' := by
  have HT := Lib.hid hT; have HH := Lib.hid hh; have HS := Lib.hid hs; have HX1 := Lib.hid hx1; have HX2 := Lib.hid hx2; have HBS := Lib.hid hbs; have HB := Lib.hid hb; have HBL := Lib.hid hbl
  obtain ⟨A, n, cp, rfl, hn, hlc, hcm⟩ := hh.form
  obtain ⟨A2, n2, cp2, rfl, hn2, hlc2, hcm2⟩ := hs.form
  obtain ⟨Ab, nb, cb, rfl, hnb, hlb, hcb⟩ := hbs.form
  have B0 := Lib.hid (show Blk (w.alloc (.cells #[.slice A n cp, .slice A2 n2 cp2] 25)) w.heap.size 25 #[.slice A n cp, .slice A2 n2 cp2] from Blk.new _ _ _)
  have E0 := Lib.hid (Ext.al w (.cells #[.slice A n cp, .slice A2 n2 cp2] 25))
  clear hh hs hT hx1 hx2 hbs hb hbl
  go_enter Tryd.func16, Tryd.ntmps16
  go_wp2_with fail
  refine (hA _ (HT.out.ext E0.out)).mono ?_
  rintro e w1 ⟨rfl, hE⟩
  replace E0 := Lib.hid (E0.out.trans hE); replace B0 := Lib.hid (B0.out.ext hE); clear hE
  have t0 := B0.out.c2
  go_wp2_with fail
  refine (ready_any c _ _ _ (HH.out.ext E0.out) (HS.out.ext E0.out)).mono ?_
  rintro e w2 ⟨rfl, hE⟩
  replace E0 := Lib.hid (E0.out.trans hE); replace B0 := Lib.hid (B0.out.ext hE); clear hE t0
  cases hc : checkP c with
  | false =>
    clear hc
    go_wp2
    go_ret
    exact ⟨rfl, E0.out⟩
  | true =>
    have HC := Lib.hid hc; clear hc
    have HR := Lib.hid (check_right HC.out).1
    have HN := Lib.hid (check_right HC.out).2
    have t0 := B0.out.c2
    by_cases h0 : n = 0
    · have h0b : ((n : Int) == 0) = true := by simp [h0]
      clear h0
      go_wp2
      go_ret
      exact ⟨rfl, E0.out⟩
    · have h0b : ((n : Int) == 0) = false := by simp [h0]
      have h0z : ¬ (n : Int) = 0 := by omega
      obtain ⟨j1, hj1, hj1n⟩ := remz_nat HX1.out.1 (show 0 < n by omega)
      obtain ⟨j2, hj2, hj2n⟩ := remz_nat HX2.out.1 (show 0 < n by omega)
      have hj1z : (j1 : Int) < (n : Int) := by omega
      have hj2z : (j2 : Int) < (n : Int) := by omega
      have hw1 : IntKind.i64.wrap x1 = x1 := by rw [IntKind.wrap_i64]; have := HX1.out; omega
      have hw2 : IntKind.i64.wrap x2 = x2 := by rw [IntKind.wrap_i64]; have := HX2.out; omega
      obtain ⟨b1, o1, fr, rfl, hf1, -, hc1⟩ := HH.out.at_ hj1n
      obtain ⟨b2, o2, th, e2, hf2, -, hc2⟩ := HH.out.at_ hj2n
      injection e2 with e2
      injection e2 with e3 e4 _
      subst e3 e4
      have HF1 := Lib.hid (List.mem_of_getElem? hf1); have HF2 := Lib.hid (List.mem_of_getElem? hf2)
      have m0 := fun W (h : Ext w2 W) => (B0.out.ext h).c2
      have m1 := fun W (h : Ext w2 W) => (show W.cell? ⟨b1, o1 + j1, none⟩ = some (.int .i64 fr) by simpa using hc1 W (E0.out.trans h) 0 _ rfl)
      have m2 := fun W (h : Ext w2 W) => (show W.cell? ⟨b1, o1 + j2, none⟩ = some (.int .i64 th) by simpa using hc2 W (E0.out.trans h) 0 _ rfl)
      clear hf1 hf2 hc1 hc2
      go_wp2
      refine wp_region_tame (fun W => Ext w2 W) (fun W W' => Ext W W') (by kernel_rfl) 176 rfl (by decide +kernel) (Ext.refl _).drew ?_
      repeat (apply tame_q rfl; (intro ρ W hC hr hD; (obtain ⟨hrc, hrg, hrf, hrs⟩ := hr); (simp [go_sem] at hD); go_simp; first | exact ⟨⟨hC, Ext.refl _⟩, rfl⟩ | exact ⟨⟨hC, RS.refl _⟩, rfl⟩ | exact rfl); simp only [List.nil_append, List.cons_append])
      refine tame_end_put rfl rfl (fun ρ W hC hr hF => ?_)
      simp [go_sem] at hF
      simp only [putF, hF, List.set_cons_succ, List.set_cons_zero]
      clear hF hr
      replace E0 := Lib.hid (E0.out.trans hC); replace B0 := Lib.hid (B0.out.ext hC)
      obtain ⟨w3, hw3⟩ : ∃ w3, w3 = W := ⟨_, rfl⟩
      subst hw3
      clear hC m0 m1 m2 hj1 hj2 hj1z hj2z hw1 hw2 h0z t0
      obtain ⟨l, E, hwo⟩ := wayOf_existsX c fr th
      have HWO := Lib.hid hwo
      have t0 := B0.out.c2
      go_wp2_with fail
      refine (way_any c fr th l E _ _ _ HWO.out (HT.out.ext E0.out) (HH.out.ext E0.out) (HS.out.ext E0.out) (by have := HN.out; omega)).mono ?_
      rintro e w4 ⟨⟨v12, rfl, hL⟩, hE⟩
      replace E0 := Lib.hid (E0.out.trans hE); replace B0 := Lib.hid (B0.out.ext hE)
      have L0 := Lib.hid hL
      obtain ⟨Al, nl, cl, rfl, -, -, -⟩ := hL.form
      clear hE hL hwo t0
      have HW := Lib.hid (show (∃ d, Away c th d fr ∧ l = wayG c th d fr ∧ E = 0) ∨ ((∀ k, toB c th k fr = false) ∧ l = [] ∧ E = 6) from by
        have h := HWO.out
        unfold WayOf at h
        rw [if_pos HC.out, if_pos (by rw [hasI_iff.2 HF1.out, hasI_iff.2 HF2.out]; rfl)] at h
        exact h)
      clear HWO
      go_wp2
      refine wp_loop_ghost_k (fun g A' V => ∃ (kk : Nat) (a : Int) (G : List Int) (Ag : Option Addr) (ng cg : Nat), kk ≤ nb ∧ nb - kk ≤ g ∧ ng = G.length ∧ ng ≤ kk ∧ Fr 176 [(4, .pointer (some ⟨w.heap.size, 0, none⟩)), (9, .bool true), (10, .int .i64 fr), (11, .int .i64 th), (12, .slice Al nl cl), (13, .int .i64 E), (14, .int .i64 a), (15, .int .i64 (ng : Int)), (16, .slice Ag ng cg), (67, .slice Ab nb cb), (68, .int .i64 (nb : Int)), (69, .int .i64 (kk : Int))] [] A' ∧
        Ext w4 V ∧ GoesN c a fr G ∧ Own encI 3 1 V w4.heap.size (.slice Ag ng cg) G) nb ?_ ?_
      · exact ⟨0, fr, [], none, 0, 0, by omega, by omega, rfl, Nat.le_refl _, ⟨rfl, rfl, by simp [Act.eval]⟩, Ext.refl _, rfl, Own.nil _ _⟩
      · rintro g A' V ⟨kk, a, G, Ag, ng, cg, hkk, hg, hng, hnk, hF, hEV, hGo, hOw⟩ J K' hJ hK
        have HJ := Lib.hid hJ; have EV := Lib.hid hEV; have GO := Lib.hid hGo; have OW := Lib.hid hOw; have NG := Lib.hid hng; have NK := Lib.hid hnk
        obtain ⟨ρ, rfl, hρ⟩ := hF.open_
        simp only [List.forall_mem_cons] at hρ
        obtain ⟨r4, r9, r10, r11, r12, r13, r14, r15, r16, r67, r68, r69, -⟩ := hρ
        simp only [lst, Nat.reduceAdd, r4, r9, r10, r11, r12, r13, r14, r15, r16, r67, r68, r69]
        clear r4 r9 r10 r11 r12 r13 r14 r15 r16 r67 r68 r69 hF hJ hEV hGo hOw hng hnk
        have HW3 : ∀ a0, Fr 176 [(4, .pointer (some ⟨w.heap.size, 0, none⟩)), (9, .bool true), (10, .int .i64 fr), (11, .int .i64 th), (12, .slice Al nl cl), (13, .int .i64 E), (14, .int .i64 a), (15, .int .i64 (ng : Int)), (16, .slice Ag ng cg)] [] a0 →
          (subC [1, 1, 1, 1, 1, 1, 1, 1] (Tryd.f16.body.getD .skip)).wp Tryd.prog (bodyPost Tryd.prog Tryd.f16 fun e w' => e = .returned (.bool true) ∧ Ext w w') a0 V := fun a0 hF => way3_wp (c := c) (w := w) (W := V) (l := l) (G := G) HH.out HS.out HR.out HN.out (E0.out.trans EV.out) (B0.out.ext EV.out) (L0.out.ext EV.out) (OW.out.sl fun _ => rfl) GO.out NG.out HW.out hF
        delta Tryd.f16 at HW3
        simp only [subC, Option.getD_some] at HW3
        replace HW3 := Lib.hid HW3
        by_cases hlt : kk < nb
        · have hltz : (kk : Int) < (nb : Int) := by omega
          obtain ⟨bb, ob, k, eb, hkx, -, hcell⟩ := HBS.out.at_ hlt
          subst eb
          have hk := HB.out k (List.mem_of_getElem? hkx)
          have c0 : V.cell? ⟨bb, ob + kk, none⟩ = some (.int .u8 k) := by simpa using hcell V (E0.out.trans EV.out) 0 _ rfl
          by_cases hat : a = th
          · have hab : (a == th) = true := by simp [hat]
            iterate 48 (first | go_values | go_skip | go_guarded | go_step | go_upon | go_back | (simp only [Int.not_lt, Int.not_le] at *; go_simp))
            exact HW3.out _ ⟨rfl, rfl, by simp [Act.eval]⟩
          · have hab : (a == th) = false := by simp [hat]
            have t0 := (B0.out.ext EV.out).c2
            go_wp2
            clear t0 c0 hkx hcell HW3
            have HK := Lib.hid hk
            refine wp_loop_ghost_k (fun g A' U => ∃ (i : Nat), i ≤ n2 ∧ n2 - i ≤ g ∧ Fr 176 [(4, .pointer (some ⟨w.heap.size, 0, none⟩)), (9, .bool true), (10, .int .i64 fr), (11, .int .i64 th), (12, .slice Al nl cl), (13, .int .i64 E), (14, .int .i64 a), (15, .int .i64 (ng : Int)), (16, .slice Ag ng cg), (18, .int .u8 k), (67, .slice (some ⟨bb, ob, none⟩) nb cb), (68, .int .i64 (nb : Int)), (69, .int .i64 (kk : Int)), (77, .slice A2 n2 cp2), (78, .int .i64 (n2 : Int)), (79, .int .i64 (i : Int))] [] A' ∧ Ext V U) n2 ?_ ?_
            · exact ⟨0, by omega, by omega, ⟨rfl, rfl, by simp [Act.eval]⟩, Ext.refl _⟩
            · rintro g2 A2' U ⟨i, hi, hg2, hF, hEU⟩ J2 K2 hJ2 hK2
              have HJ2 := Lib.hid hJ2; have EU := Lib.hid (EV.out.trans hEU); have EVU := Lib.hid hEU
              obtain ⟨ρ, rfl, hρ⟩ := hF.open_
              simp only [List.forall_mem_cons] at hρ
              obtain ⟨r4, r9, r10, r11, r12, r13, r14, r15, r16, r18, r67, r68, r69, r77, r78, r79, -⟩ := hρ
              simp only [lst, Nat.reduceAdd, r4, r9, r10, r11, r12, r13, r14, r15, r16, r18, r67, r68, r69, r77, r78, r79]
              clear r4 r9 r10 r11 r12 r13 r14 r15 r16 r18 r67 r68 r69 r77 r78 r79 hF hJ2 hEU
              by_cases hil : i < n2
              · have hilz : (i : Int) < (n2 : Int) := by omega
                have hkw : IntKind.i64.wrap k = k := by rw [IntKind.wrap_i64]; have := HK.out; omega
                have hn10 : n2 ≤ 10 := by have := hn2.out; have := HN.out; omega
                have hiw : IntKind.i64.wrap ((i : Int) + k) = (i : Int) + k := by rw [IntKind.wrap_i64]; have := HK.out; omega
                have hNz : ¬ (n2 : Int) = 0 := by omega
                have hNq : ¬ n2 = 0 := by omega
                obtain ⟨j, hj, hjn⟩ := remz_nat (a := (i : Int) + k) (by have := HK.out; omega) (show 0 < n2 by omega)
                have hjz : (j : Int) < (n2 : Int) := by omega
                obtain ⟨bs, os, x, es, hxs, -, hcell⟩ := HS.out.at_ hjn
                subst es
                have HXS := Lib.hid hxs
                have m0 := fun W (h : Ext U W) => (B0.out.ext (EU.out.trans h)).c2
                have m1 := fun W (h : Ext U W) => SlL.cells hcell ((E0.out.trans EU.out).trans h)
                clear hxs hcell
                go_wp2
                refine wp_region_tame_cut (fun W => Ext U W) (fun W W' => Ext W W') (by kernel_rfl) 176 rfl _ rfl (by decide +kernel) (by decide +kernel) (by decide +kernel) rfl (Ext.refl _).drew ?_
                simp only [List.dropLast]
                repeat (apply tame_q rfl; (intro ρ W hC hr hD; (obtain ⟨hrc, hrg, hrf, hrs⟩ := hr); (simp [go_sem] at hD); go_simp; first | exact ⟨⟨hC, Ext.refl _⟩, rfl⟩ | exact ⟨⟨hC, RS.refl _⟩, rfl⟩ | exact rfl); simp only [List.nil_append, List.cons_append])
                apply tame_v rfl (FreshLW U.heap.size) (fun v W W' _ hE h => h.ext hE)
                · intro ρ W hC hr hD
                  obtain ⟨hrc, hrg, hrf, hrs⟩ := hr
                  simp [go_sem] at hD
                  go_simp
                  exact ⟨⟨hC.alloc _, Ext.al _ _⟩, ⟨_, rfl, hC.size, Blk.new _ _ _⟩⟩
                simp only [List.nil_append, List.cons_append]
                refine tame_end_put rfl rfl (fun ρ W hC hr hF => ?_)
                simp [go_sem] at hF
                obtain ⟨f1, f2, f3, f4, f5, f6, f7, f8, f9, f10, f11, f12, ⟨g8, f13, hg8, hB8⟩⟩ := hF
                simp only [putF, f1, f2, f3, f4, f5, f6, f7, f8, f9, f10, f11, f12, f13, List.set_cons_succ, List.set_cons_zero]
                clear f1 f2 f3 f4 f5 f6 f7 f8 f9 f10 f11 f12 f13 hr
                have EC := Lib.hid hC
                have HB8 := Lib.hid hB8; have HG8 := Lib.hid hg8
                obtain ⟨w5, hw5⟩ : ∃ w5, w5 = W := ⟨_, rfl⟩
                subst hw5
                clear hC hB8 hg8 m0 m1 hkw hiw hNz hNq hj hjz
                refine wpList_storeB rfl rfl 68 (.tmp 20) (.tmp 93) rfl (n := 5) (by kernel_rfl) rfl rfl HB8.out rfl rfl (encL_1 x) ?_
                intro w6 hB6 hG
                have XB := Lib.hid (show Blk w6 g8 68 #[.int .i64 x.number, .int .i64 x.seller, .int .i64 x.buyer, .int .i64 x.bales, .int .i64 x.price] from hB6)
                have E6 := Lib.hid (show Ext U w6 from ext_grownP EC.out hG HG8.out)
                clear hB6 hG EC HB8 HG8
                obtain ⟨t0, t1, t2, t3, t4, tf, tl⟩ := XB.out.c5
                by_cases hse : x.seller = a
                · have hsb : (x.seller == a) = true := by simp [hse]
                  have GO2 := Lib.hid (show GoesN c x.buyer fr (G ++ [x.number]) from goesN_snoc (List.mem_of_getElem? HXS.out) (by rw [hse]; exact GO.out))
                  have HLG := Lib.hid (show G.length < 100000000000 by have := NG.out; have := NK.out; have := hnb.out; have := HBL.out; omega)
                  have hngw : IntKind.i64.wrap ((ng : Int) + 1) = (ng : Int) + 1 := by rw [IntKind.wrap_i64]; have := NG.out; have := HLG.out; omega
                  have OW6 := Lib.hid (show Own encI 3 1 w6 w4.heap.size (.slice Ag ng cg) G from OW.out.ext (EVU.out.trans E6.out))
                  clear hse
                  go_wp2_with (at_builtin; refine wpList_app encI 22 3 1 _ 8 Tryd.underlying22 info3x rfl (by decide) (by decide) (fun _ => rfl) encI_one rfl (.tmp 100) (.tmp 103) rfl w4.heap.size _ G rfl (OW6.out.alloc _) w6.heap.size 1 x.number rfl (cells1 (by simp [go_sem])) HLG.out (by have := (EU.out.trans E6.out).size; simp; omega) ?_)
                  intro gb cap w7 hown hgb hbel hgr
                  rw [← NG.out] at hown ⊢
                  have O7 := Lib.hid hown
                  have E7 := Lib.hid (show Ext w4 w7 from ext_belowX ((EU.out.trans E6.out).alloc _) hbel (Nat.le_refl _) hgr.size)
                  clear hown hgb hbel hgr t0 t1 t2 t3 t4 tf tl XB
                  go_wp2
                  exact Handed.intro (nb - (kk + 1)) (by omega) (HJ.out _ _ _ ⟨kk + 1, x.buyer, G ++ [x.number], some ⟨gb, 0, none⟩, ng + 1, cap, by omega, Nat.le_refl _, by simp [NG.out], by have := NK.out; omega, ⟨rfl, rfl, by simp [Act.eval]⟩, E7.out, GO2.out, O7.out⟩)
                · have hsb : (x.seller == a) = false := by simp [hse]
                  clear hse
                  go_wp2
                  exact Handed.intro (n2 - (i + 1)) (by omega) (HJ2.out _ _ _ ⟨i + 1, by omega, Nat.le_refl _, ⟨rfl, rfl, by simp [Act.eval]⟩, EVU.out.trans E6.out⟩)
              · have hilz : ¬ (i : Int) < (n2 : Int) := by omega
                go_wp2
                exact Handed.intro (nb - (kk + 1)) (by omega) (HJ.out _ _ _ ⟨kk + 1, a, G, Ag, ng, cg, by omega, Nat.le_refl _, NG.out, by have := NK.out; omega, ⟨rfl, rfl, by simp [Act.eval]⟩, EU.out, GO.out, OW.out.ext EVU.out⟩)
        · have hltz : ¬ (kk : Int) < (nb : Int) := by omega
          iterate 13 (first | go_values | go_skip | go_guarded | go_step | go_upon | go_back | (simp only [Int.not_lt, Int.not_le] at *; go_simp))
          exact HW3.out _ ⟨rfl, rfl, by simp [Act.eval]⟩
end Go.Proofs.YtafdbgielmlihaaDoor
