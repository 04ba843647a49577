/- The reference's closing, Close and Owed. -/
import Derived.Test.YtafdbgielmlihaaDoorPkChHandsCardA
import Derived.Test.YtafdbgielmlihaaDoorPkChTellsCardN
namespace Go.Proofs.YtafdbgielmlihaaDoor
open Go.RowKit Go.Shelf Go.Lib
set_option maxRecDepth 100000
set_option linter.unusedSimpArgs false

theorem range_at (N i : Nat) : (List.range N)[i]? = if i < N then some i else none := by
  by_cases h : i < N <;> simp [h]
/-- The costs of the closing, of which the last j are set. -/
def kTo (N j : Nat) : List Int := (List.range N).map fun i => if N - j ≤ i then refF N i else 0
theorem kTo_len (N j : Nat) : (kTo N j).length = N := by simp [kTo]
theorem kTo_zero (N : Nat) : kTo N 0 = List.replicate N 0 := by
  apply List.ext_getElem?
  intro i
  unfold kTo
  rw [List.getElem?_map, range_at, List.getElem?_replicate]
  split
  · rw [Option.map_some, if_neg (by omega)]
  · rfl
theorem kTo_succ {N j : Nat} (h : j < N) : kTo N (j + 1) = (kTo N j).set (N - 1 - j) (10000000000000 + 10 ^ j) := by
  apply List.ext_getElem?
  intro i
  rw [List.getElem?_set, kTo_len]
  unfold kTo
  rw [List.getElem?_map, List.getElem?_map, range_at]
  by_cases hi : i < N
  · rw [if_pos hi, Option.map_some]
    by_cases e : N - 1 - j = i
    · rw [if_pos e, if_pos (by omega), if_pos (by omega)]
      unfold refF
      rw [show N - 1 - i = j by omega]
    · rw [if_neg e, Option.map_some]
      by_cases e2 : N - j ≤ i
      · rw [if_pos e2, if_pos (by omega)]
      · rw [if_neg e2, if_neg (by omega)]
  · rw [if_neg hi]
    rw [if_neg (by omega)]
    rfl
theorem kTo_all {N : Nat} : ∀ (i : Nat) (y : Int), (kTo N N)[i]? = some y → y = refF N i := by
  intro i y h
  unfold kTo at h
  rw [List.getElem?_map] at h
  obtain ⟨k, hk, hy⟩ := Option.map_eq_some_iff.1 h
  rw [range_at] at hk
  split at hk
  · injection hk with hk
    subst hk
    rw [if_pos (by omega)] at hy
    exact hy.symm
  · cases hk
theorem refF_bd {N : Nat} (h : N ≤ 11) (i : Nat) : -20000000000000 ≤ refF N i ∧ refF N i ≤ 20000000000000 := by
  have h1 := pow10_le (n := N - 1 - i) (by omega)
  have h2 := Int.pow_pos (n := 10) (m := N - 1 - i) (by decide)
  unfold refF
  omega
set_option maxHeartbeats 2000000 in
theorem refclosing_own (c : Chn) (l : List Int) (hv sv : Value) (w : World) (hcl : IsClose c l) (hR : Right c) (hs11 : c.sales.length ≤ 11) (hh : SlI w hv c.houses) (hs : SlL w sv c.sales) :
    Calls Tryd.prog 76 #[valC hv sv] w fun e w' => (∃ v, e = .returned v ∧ OwnM w.heap.size v l w') ∧ Ext w w' := by
  have HCLO := Lib.hid hcl; have HR := Lib.hid hR; have HS11 := Lib.hid hs11; have HH := Lib.hid hh; have HS := Lib.hid hs
  obtain ⟨A, n, cp, rfl, hn, hlc, hcm⟩ := hh.form
  obtain ⟨A2, n2, cp2, rfl, hn2, hlc2, hcm2⟩ := hs.form
  have hn11 : n2 ≤ 11 := by have := hn2.out; omega
  clear hh hs hR hs11 hcl
  have B0 := Lib.hid (show Blk (w.alloc (.cells #[.slice A n cp, .slice A2 n2 cp2] 25)) w.heap.size 25 #[.slice A n cp, .slice A2 n2 cp2] from Blk.new _ _ _)
  dsimp only [valC]
  go_enter Tryd.func76, Tryd.ntmps76
  go_wp2
  go_loopg [3, 9] n2 (fun gg la s wr => ∃ (kk : Nat) (A1 : Option Addr) (n1 d1 : Nat), kk ≤ n2 ∧ n2 - kk ≤ gg ∧ s = .int .i64 kk ∧ la = .slice A1 n1 d1 ∧ Aside (Own encI 3 1 wr (w.heap.size + 1) (.slice A1 n1 d1) (List.replicate kk 0)) ∧ Aside (Blk wr w.heap.size 25 #[.slice A n cp, .slice A2 n2 cp2]) ∧ Aside (Ext w wr))
  case atStart => exact ⟨0, none, 0, 0, Nat.zero_le _, by omega, rfl, rfl, Own.nil _ _, B0.out, Ext.al w _⟩
  case round =>
    obtain ⟨kk, A1, n1, d1, hkk, hg, rfl, rfl, OW, B1, BW⟩ := hrel
    by_cases hlt : kk < n2
    · have hltz : (kk : Int) < (n2 : Int) := by omega
      have hz := BW.out.size
      have hb1 := B1.out.lt
      go_wp2_with (at_builtin; refine wpList_app encI 22 3 1 _ 8 Tryd.underlying22 info3x rfl (by decide) (by decide) (fun _ => rfl) encI_one rfl (.tmp 11) (.tmp 12) rfl (w.heap.size + 1) _ (List.replicate kk 0) rfl (OW.out.alloc _) wr.heap.size 1 0 rfl (cells1 (by simp [go_sem])) (by simp; omega) (by simp; omega) ?_)
      intro g cap w1 hown hg1 hbel hgr
      have HO := Lib.hid (show Own encI 3 1 w1 (w.heap.size + 1) (.slice (some ⟨g, 0, none⟩) (kk + 1) cap) (List.replicate (kk + 1) 0) from by
        have h := hown
        rw [List.replicate_succ']
        simpa using h)
      have HB := Lib.hid (show Below (w.heap.size + 1) wr w1 from Below.trans ((Below.refl _ wr).alloc (by omega) _) hbel)
      clear hown hbel hgr
      go_wp2
      go_roundg (n2 - (kk + 1))
      case measure => omega
      case rel => exact ⟨kk + 1, _, _, _, by omega, by omega, by simp, rfl, HO.out, (HB.out.block _ (by omega)).trans B1.out, ⟨HB.out.os.trans BW.out.os, HB.out.tape.trans BW.out.tape, HB.out.output.trans BW.out.output, Nat.le_trans hz HB.out.size, fun i hi => (HB.out.block i (by omega)).trans (BW.out.block i hi)⟩⟩
    · have HE := Lib.hid (show kk = n2 by omega)
      have hz := BW.out.size
      have hb1 := B1.out.lt
      obtain ⟨cm, gm, hv', hcm, hcN, hgm, hrx⟩ : ∃ cm gm, n1 = n2 ∧ cm = d1 ∧ n2 ≤ d1 ∧ d1 ≤ maxLen ∧ (0 < n2 → A1 = some ⟨gm, 0, none⟩ ∧ w.heap.size < gm ∧ RowX wr gm (kTo n2 0)) := by
        have ho := OW.out
        rw [HE.out] at ho
        rcases rowX_own ho with ⟨h1, h2⟩ | ⟨g, c9, h1, h2, h3, h4, h5⟩
        · have h0 : n2 = 0 := by have := congrArg List.length h2; simpa using this
          injection h1 with e1 e2 e3
          subst e1 e2 e3
          exact ⟨0, 0, by omega, rfl, by omega, by decide, by omega⟩
        · rw [List.length_replicate] at h1 h3
          injection h1 with e1 e2 e3
          subst e1 e2 e3
          exact ⟨d1, g, rfl, rfl, h3, h4, fun _ => ⟨rfl, by omega, by rw [kTo_zero]; exact h5⟩⟩
      subst hv'
      have HRX := Lib.hid hrx
      clear hrx OW hcm
      have hpw : ((10 : Int) ^ 0) = 1 := rfl
      go_wp2
      refine wp_loop_ghost_k (fun g A' W => ∃ (j : Nat), j ≤ n1 ∧ n1 - j ≤ g ∧ Fr 32 [(1, .pointer (some ⟨w.heap.size, 0, none⟩)), (3, .slice A1 n1 d1), (4, .int .i64 (10 ^ j)), (5, .int .i64 ((n1 : Int) - 1 - (j : Int)))] [] A' ∧ Ext w W ∧ Blk W w.heap.size 25 #[.slice A n cp, .slice A2 n1 cp2] ∧
        (0 < n1 → A1 = some ⟨gm, 0, none⟩ ∧ w.heap.size < gm ∧ RowX W gm (kTo n1 j))) n1 ?_ ?_
      · exact ⟨0, by omega, by omega, ⟨rfl, rfl, by simp [Act.eval]⟩, BW.out, B1.out, HRX.out⟩
      · rintro g A' W ⟨j, hj, hg2, hF, hE, hB, hRx⟩ J K' hJ hK
        have HJ := Lib.hid hJ; have EW := Lib.hid hE; have B2 := Lib.hid hB; have RX := Lib.hid hRx
        obtain ⟨ρ, rfl, hρ⟩ := hF.open_
        simp only [List.forall_mem_cons] at hρ
        obtain ⟨r1, r3, r4, r5, -⟩ := hρ
        simp only [lst, Nat.reduceAdd, r1, r3, r4, r5]
        clear r1 r3 r4 r5 hF hE hB hRx hJ
        by_cases hjn : j < n1
        · obtain ⟨rfl, hgw, hrx⟩ := RX.out (by omega)
          obtain ⟨i, hi⟩ : ∃ i, n1 - 1 - j = i := ⟨_, rfl⟩
          have hix : (n1 : Int) - 1 - (j : Int) = (i : Int) := by omega
          have hin : (i : Int) < (n1 : Int) := by omega
          have hge : (0 : Int) ≤ (i : Int) := by omega
          obtain ⟨y, hy⟩ : ∃ y, (kTo n1 j)[i]? = some y := ⟨_, List.getElem?_eq_getElem (by rw [kTo_len]; omega)⟩
          have x0 := hrx.cell hy
          have xf := hrx.frozen
          have xl := hrx.lt
          have HRX2 := Lib.hid hrx
          have HST := Lib.hid (hi ▸ kTo_succ hjn)
          have hp1 := pow10_le (n := j) (by omega)
          have hp2 := Int.pow_pos (n := 10) (m := j) (by decide)
          have HPS := Lib.hid (show (10 : Int) ^ (j + 1) = 10 ^ j * 10 from Int.pow_succ _ _)
          obtain ⟨P, hP⟩ : ∃ P, P = (10 : Int) ^ j := ⟨_, rfl⟩
          rw [← hP] at hp1 hp2 HPS HST
          rw [hix, ← hP]
          clear hP hrx
          have hw0 : IntKind.i64.wrap (i : Int) = (i : Int) := by rw [IntKind.wrap_i64]; omega
          have hw1 : IntKind.i64.wrap (10000000000000 + P) = 10000000000000 + P := by rw [IntKind.wrap_i64]; omega
          have hw2 : IntKind.i64.wrap (P * 10) = P * 10 := by rw [IntKind.wrap_i64]; omega
          have hw3 : IntKind.i64.wrap ((i : Int) - 1) = (i : Int) - 1 := by rw [IntKind.wrap_i64]; omega
          go_wp2
          exact Handed.intro (n1 - (j + 1)) (by omega) (HJ.out _ _ _ ⟨j + 1, by omega, Nat.le_refl _, ⟨rfl, rfl, by simp [Act.eval, HPS.out]; omega⟩, EW.out.setCell (by dsimp only; omega) _, B2.out.far (by dsimp only; omega) _, fun _ => ⟨by trivial, hgw, by rw [HST.out]; exact HRX2.out.set _ _⟩⟩)
        · have HE2 := Lib.hid (show j = n1 by omega)
          have hix : (n1 : Int) - 1 - (j : Int) = -1 := by omega
          rw [hix]
          obtain ⟨b0, b1, bf, bl⟩ := B2.out.c2
          have HKS := Lib.hid (show SlI W (.slice A1 n1 d1) (kTo n1 n1) from by
            by_cases h0 : 0 < n1
            · obtain ⟨rfl, _, h2⟩ := RX.out h0
              rw [HE2.out] at h2
              have := h2.sl (c := d1) (by rw [kTo_len]; exact hcN) hgm
              rwa [kTo_len] at this
            · have : n1 = 0 := by omega
              subst this
              exact ⟨A1, d1, rfl, by simp [kTo], hgm, fun h => by simp [kTo] at h⟩)
          have HN := Lib.hid (show n1 = c.sales.length from hn2.out)
          go_wp2_with fail
          refine (cheapest_any (c := c) (f := refF c.sales.length) (Ks := kTo n1 n1) HR.out HS11.out (fun i y h => by rw [← HN.out]; exact kTo_all i y h) (by rw [kTo_len]; exact HN.out) (fun i => refF_bd HS11.out i) (HH.out.ext EW.out) (HS.out.ext EW.out) HKS.out).mono ?_
          rintro e W2 ⟨v, m, rfl, hE2, hsl, hO⟩
          have hm := close_ref HR.out HS11.out hO HCLO.out
          subst hm
          have EW2 := Lib.hid (EW.out.trans hE2); have HSL := Lib.hid (hsl.base EW.out.size)
          clear hE2 hsl hO b0 b1 bf bl
          go_wp2
          go_ret
          exact ⟨⟨_, rfl, HSL.out⟩, EW2.out⟩
theorem refclosing_any (c : Chn) (l : List Int) (hv sv : Value) (w : World) (hcl : IsClose c l) (hR : Right c) (hs11 : c.sales.length ≤ 11) (hh : SlI w hv c.houses) (hs : SlL w sv c.sales) :
    Calls Tryd.prog 76 #[valC hv sv] w fun e w' => (∃ v, e = .returned v ∧ SlI w' v l) ∧ Ext w w' := by
  refine (refclosing_own c l hv sv w hcl hR hs11 hh hs).mono ?_
  rintro e w' ⟨⟨v, h1, h2⟩, h3⟩
  exact ⟨⟨v, h1, h2.sl⟩, h3⟩
set_option maxHeartbeats 1000000 in
theorem refClose_any (c : Chn) (l : List Int) (hv sv : Value) (w : World) (hcl : CloseOf c l) (hh : SlI w hv c.houses) (hs : SlL w sv c.sales) :
    Calls Tryd.prog 23 #[valC hv sv] w (SumE l (errB (checkP c) 60) w) := by
  have HH := Lib.hid hh; have HS := Lib.hid hs
  obtain ⟨A, n, cp, rfl, -, -, -⟩ := hh.form
  obtain ⟨A2, n2, cp2, rfl, -, -, -⟩ := hs.form
  clear hh hs
  have B0 := Lib.hid (show Blk (w.alloc (.cells #[.slice A n cp, .slice A2 n2 cp2] 25)) w.heap.size 25 #[.slice A n cp, .slice A2 n2 cp2] from Blk.new _ _ _)
  go_enter Tryd.func23, Tryd.ntmps23
  go_wp2_with fail
  refine (refChain_any c _ _ _ (HH.out.ext (Ext.al _ _)) (HS.out.ext (Ext.al _ _))).mono ?_
  rintro e w1 ⟨rfl, hE⟩
  have E1 := Lib.hid ((Ext.al w _).trans hE)
  have B1 := Lib.hid (B0.out.ext hE)
  clear hE
  cases hc : checkP c with
  | false =>
    have HO := Lib.hid (hcl.2 hc)
    have HCK := Lib.hid hc
    clear hcl
    dsimp only [errB]
    go_wp2
    go_ret3
    exact ⟨⟨.slice none 0 0, by rw [HO.out, HCK.out]; rfl, by rw [HO.out]; exact Sl.nil _⟩, E1.out⟩
  | true =>
    have HO := Lib.hid (hcl.1 hc)
    have HCK := Lib.hid hc
    clear hcl
    have HR := Lib.hid (check_right hc).1
    have HS10 := Lib.hid (check_right hc).2
    obtain ⟨b0, b1, bf, bl⟩ := B1.out.c2
    clear hc
    dsimp only [errB]
    go_wp2_with fail
    refine (refclosing_any c l _ _ _ HO.out HR.out (by have := HS10.out; omega) (HH.out.ext E1.out) (HS.out.ext E1.out)).mono ?_
    rintro e w2 ⟨⟨v, rfl, hsl⟩, hE⟩
    have E2 := Lib.hid (E1.out.trans hE); have HSL := Lib.hid hsl
    clear hE hsl b0 b1 bf bl
    go_wp2_with fail
    refine (f77_any l _ _ HSL.out (close_mild HR.out HO.out (by have := HS10.out; omega))).mono ?_
    rintro e w3 ⟨rfl, hE⟩
    have E3 := Lib.hid (E2.out.trans hE); have HSL3 := Lib.hid (HSL.out.ext hE)
    clear hE
    go_wp2
    go_ret3
    exact ⟨⟨_, by rw [HCK.out]; rfl, HSL3.out⟩, E3.out⟩
set_option maxHeartbeats 1000000 in
theorem refOwed_any (c : Chn) (hv sv : Value) (w : World) (hh : SlI w hv c.houses) (hs : SlL w sv c.sales) :
    Calls Tryd.prog 21 #[valC hv sv] w (ListE (owedL c) (errB (checkP c) 60) w) := by
  have HH := Lib.hid hh; have HS := Lib.hid hs
  obtain ⟨A, n, cp, rfl, -, -, -⟩ := hh.form
  obtain ⟨A2, n2, cp2, rfl, -, -, -⟩ := hs.form
  clear hh hs
  have B0 := Lib.hid (show Blk (w.alloc (.cells #[.slice A n cp, .slice A2 n2 cp2] 25)) w.heap.size 25 #[.slice A n cp, .slice A2 n2 cp2] from Blk.new _ _ _)
  go_enter Tryd.func21, Tryd.ntmps21
  go_wp2_with fail
  refine (refChain_any c _ _ _ (HH.out.ext (Ext.al _ _)) (HS.out.ext (Ext.al _ _))).mono ?_
  rintro e w1 ⟨rfl, hE⟩
  have E1 := Lib.hid ((Ext.al w _).trans hE)
  have B1 := Lib.hid (B0.out.ext hE)
  clear hE
  cases hc : checkP c with
  | false =>
    have HO := Lib.hid (show owedL c = [] by unfold owedL; rw [hc]; rfl)
    have HCK := Lib.hid hc
    clear hc
    dsimp only [errB]
    go_wp2
    go_ret2
    exact ⟨⟨.slice none 0 0, by rw [HCK.out]; rfl, by rw [HO.out]; exact Sl.nil _⟩, E1.out⟩
  | true =>
    have HO := Lib.hid (show owedL c = getsL c (balesOf c) by unfold owedL; rw [hc]; rfl)
    have HCK := Lib.hid hc
    have HR := Lib.hid (check_right hc).1
    have HS10 := Lib.hid (check_right hc).2
    clear hc
    dsimp only [errB]
    have m0 := fun W (h : Ext w1 W) => (B1.out.ext h).c2
    go_wp2
    refine wp_region_tame (fun W => Ext w1 W) (fun W W' => Ext W W') (by kernel_rfl) 11 rfl (by decide +kernel) (Ext.refl _).drew ?_
    repeat (apply tame_q rfl; (intro ρ W hC hr hD; (obtain ⟨hrc, hrg, hrf, hrs⟩ := hr); (simp [go_sem] at hD); go_simp; first | exact ⟨⟨hC, Ext.refl _⟩, rfl⟩ | exact ⟨⟨hC, RS.refl _⟩, rfl⟩ | exact rfl); simp only [List.nil_append, List.cons_append])
    apply tame_v rfl (fun v W => SlI W v (balesOf c)) (fun v W W' _ hE h => h.ext hE)
    · intro ρ W hC hr hD
      obtain ⟨hrc, hrg, hrf, hrs⟩ := hr
      simp [go_sem] at hD
      go_simp
      refine (f66_any c _ _ W (HH.out.ext (E1.out.trans hC)) (HS.out.ext (E1.out.trans hC)) (by have := HS10.out; omega)).mono ?_
      rintro e w' ⟨⟨v', rfl, ho⟩, hE⟩
      exact ⟨_, rfl, ⟨hC.trans hE, hE⟩, ho.sl (fun _ => rfl)⟩
    simp only [List.nil_append, List.cons_append]
    apply tame_v rfl (RowV w1.heap.size (getsL c (balesOf c))) (fun v W W' _ hE h => h.ext hE)
    · intro ρ W hC hr hD
      obtain ⟨hrc, hrg, hrf, hrs⟩ := hr
      simp [go_sem] at hD
      obtain ⟨d1, d3⟩ := hD
      have hz := hC.size
      clear m0
      go_simp
      refine (refGets_any c (balesOf c) _ _ _ W (HH.out.ext (E1.out.trans hC)) (HS.out.ext (E1.out.trans hC)) d3 HR.out (by have := HS10.out; omega) (bales_len c) (bales_bd HR.out)).mono ?_
      rintro e w' ⟨⟨g, rfl, hg, hr⟩, hE⟩
      exact ⟨_, rfl, ⟨hC.trans hE, hE⟩, ⟨g, rfl, by omega, hr⟩⟩
    simp only [List.nil_append, List.cons_append]
    apply tame_v rfl (RowV w1.heap.size (getsL c (balesOf c))) (fun v W W' _ hE h => h.ext hE)
    · intro ρ W hC hr hD
      obtain ⟨hrc, hrg, hrf, hrs⟩ := hr
      simp [go_sem] at hD
      go_simp
      exact ⟨hC, Ext.refl _⟩
    simp only [List.nil_append, List.cons_append]
    repeat (apply tame_q rfl; (intro ρ W hC hr hD; (obtain ⟨hrc, hrg, hrf, hrs⟩ := hr); (simp [go_sem] at hD); go_simp; first | exact ⟨⟨hC, Ext.refl _⟩, rfl⟩ | exact ⟨⟨hC, RS.refl _⟩, rfl⟩ | exact rfl); simp only [List.nil_append, List.cons_append])
    refine tame_end_put rfl rfl (fun ρ W hC hr hF => ?_)
    simp [go_sem] at hF
    obtain ⟨f1, f2, f3, f4, ⟨g, f7, -, hRL⟩, f8⟩ := hF
    simp only [putF, f1, f2, f7, f8, List.set_cons_succ, List.set_cons_zero]
    generalize ρ (Operand.tmp 9) = v12
    generalize ρ (Operand.tmp 10) = v14
    have EW := Lib.hid (E1.out.trans hC)
    have RL := Lib.hid hRL
    clear f1 f2 f7 f8 hr hC hRL m0
    have h6 := HR.out.h6
    go_wp2
    go_ret2
    exact ⟨⟨.slice (some ⟨g, 0, none⟩) (getsL c (balesOf c)).length (getsL c (balesOf c)).length, by rw [HCK.out]; rfl, by rw [HO.out]; exact RL.out.sl (by unfold maxLen; simp [getsL]; omega)⟩, EW.out⟩
end Go.Proofs.YtafdbgielmlihaaDoor
/- Passes: the houses that both sell and buy in the closing; the reference's. -/
namespace Go.Proofs.YtafdbgielmlihaaDoor
open Go.RowKit Go.Shelf Go.Lib
set_option maxRecDepth 100000
set_option linter.unusedSimpArgs false

def buysB (P : List (Sale × Int)) (h : Int) : Bool := P.any fun p => decide (0 < p.2) && decide (p.1.buyer = h)
def sellsB (P : List (Sale × Int)) (h : Int) : Bool := P.any fun p => decide (0 < p.2) && decide (p.1.seller = h)
def passB (c : Chn) (l : List Int) (h : Int) : Bool := sellsB (c.sales.zip l) h && buysB (c.sales.zip l) h
def passL (c : Chn) (l : List Int) : List Int := c.houses.filter (passB c l)
def passesL (c : Chn) (l : List Int) : List Int := if checkP c then passL c l else []
theorem zip_snoc {c : Chn} {l : List Int} {i : Nat} {x : Sale} {y : Int} (hx : c.sales[i]? = some x) (hy : l[i]? = some y) : (c.sales.zip l).take (i + 1) = (c.sales.zip l).take i ++ [(x, y)] := by
  rw [List.take_add_one, List.getElem?_zip_eq_some (z := (x, y)) |>.2 ⟨hx, hy⟩]
  rfl
theorem buys_snoc {c : Chn} {l : List Int} {i : Nat} {x : Sale} {y : Int} (h : Int) (hx : c.sales[i]? = some x) (hy : l[i]? = some y) : buysB ((c.sales.zip l).take (i + 1)) h = (buysB ((c.sales.zip l).take i) h || (decide (0 < y) && decide (x.buyer = h))) := by
  rw [zip_snoc hx hy]
  simp [buysB]
theorem sells_snoc {c : Chn} {l : List Int} {i : Nat} {x : Sale} {y : Int} (h : Int) (hx : c.sales[i]? = some x) (hy : l[i]? = some y) : sellsB ((c.sales.zip l).take (i + 1)) h = (sellsB ((c.sales.zip l).take i) h || (decide (0 < y) && decide (x.seller = h))) := by
  rw [zip_snoc hx hy]
  simp [sellsB]
theorem zip_all {c : Chn} {l : List Int} {i : Nat} (h : c.sales.length ≤ i) : (c.sales.zip l).take i = c.sales.zip l := List.take_of_length_le (by rw [List.length_zip]; omega)
theorem pass_snoc {c : Chn} {l : List Int} {k : Nat} {h : Int} (hk : c.houses[k]? = some h) : (c.houses.take (k + 1)).filter (passB c l) = (c.houses.take k).filter (passB c l) ++ (if passB c l h then [h] else []) := by
  rw [List.take_add_one, hk, List.filter_append]
  simp [List.filter_cons]
set_option maxHeartbeats 8000000 in
theorem refPasses_any (c : Chn) (l : List Int) (hv sv : Value) (w : World) (hcl : CloseOf c l) (hh : SlI w hv c.houses) (hs : SlL w sv c.sales) :
    Calls Tryd.prog 29 #[valC hv sv] w (ListE (passesL c l) (errB (checkP c) 60) w) := by
  have HH := Lib.hid hh; have HS := Lib.hid hs
  obtain ⟨A, n, cp, rfl, hn, hlc, hcm⟩ := hh.form
  obtain ⟨A2, n2, cp2, rfl, hn2, hlc2, hcm2⟩ := hs.form
  clear hh hs
  have B0 := Lib.hid (show Blk (w.alloc (.cells #[.slice A n cp, .slice A2 n2 cp2] 25)) w.heap.size 25 #[.slice A n cp, .slice A2 n2 cp2] from Blk.new _ _ _)
  go_enter Tryd.func29, Tryd.ntmps29
  go_wp2_with fail
  refine (refChain_any c _ _ _ (HH.out.ext (Ext.al _ _)) (HS.out.ext (Ext.al _ _))).mono ?_
  rintro e w1 ⟨rfl, hE⟩
  have E1 := Lib.hid ((Ext.al w _).trans hE)
  have B1 := Lib.hid (B0.out.ext hE)
  clear hE
  cases hc : checkP c with
  | false =>
    have HO := Lib.hid (show passesL c l = [] by unfold passesL; rw [hc]; rfl)
    have HCK := Lib.hid hc
    clear hcl hc
    dsimp only [errB]
    go_wp2
    go_ret2
    exact ⟨⟨.slice none 0 0, by rw [HCK.out]; rfl, by rw [HO.out]; exact Sl.nil _⟩, E1.out⟩
  | true =>
    have HPL := Lib.hid (show passesL c l = passL c l by unfold passesL; rw [hc]; rfl)
    have HO := Lib.hid (hcl.1 hc)
    have HCK := Lib.hid hc
    have HR := Lib.hid (check_right hc).1
    have HS10 := Lib.hid (check_right hc).2
    clear hcl hc
    obtain ⟨b0, b1, bf, bl⟩ := B1.out.c2
    dsimp only [errB]
    go_wp2_with fail
    refine (refclosing_any c l _ _ _ HO.out HR.out (by have := HS10.out; omega) (HH.out.ext E1.out) (HS.out.ext E1.out)).mono ?_
    rintro e w2 ⟨⟨v, rfl, hsl⟩, hE⟩
    have E2 := Lib.hid (E1.out.trans hE); have B2 := Lib.hid (B1.out.ext hE); have HSL := Lib.hid hsl
    clear hE b0 b1 bf bl
    have HLN := Lib.hid (close_len HO.out)
    obtain ⟨A3, n3, cp3, rfl, hn3, hlc3, hcm3⟩ := hsl.form
    clear hsl
    have h32 : n3 = n2 := by have := hn2.out; have := hn3.out; have := HLN.out; omega
    subst h32
    have h6 : n ≤ 6 := by have := HR.out.h6; have := hn.out; omega
    have h10 : n3 ≤ 10 := by have := HS10.out; have := hn2.out; omega
    obtain ⟨b0, b1, bf, bl⟩ := B2.out.c2
    go_wp2
    clear b0 b1 bf bl
    have hb2 := B2.out.lt
    refine wp_loop_ghost_k (fun g A' W => ∃ (kk : Nat) (A1 : Option Addr) (n1 d1 : Nat), kk ≤ n ∧ n - kk ≤ g ∧ Fr 71 [(1, .pointer (some ⟨w.heap.size, 0, none⟩)), (4, .slice A3 n3 cp3), (5, .slice A1 n1 d1), (18, .slice A n cp), (19, .int .i64 (n : Int)), (20, .int .i64 (kk : Int))] [] A' ∧
      Ext w2 W ∧ Own encI 3 1 W w2.heap.size (.slice A1 n1 d1) ((c.houses.take kk).filter (passB c l))) n ?_ ?_
    · exact ⟨0, none, 0, 0, by omega, by omega, ⟨rfl, rfl, by simp [Act.eval]⟩, Ext.refl _, by simpa using Own.nil _ _⟩
    · rintro g A' W ⟨kk, A1, n1, d1, hkk, hg, hF, hE, hOw⟩ J K' hJ hK
      have HJ := Lib.hid hJ; have EW := Lib.hid hE; have OW := Lib.hid hOw
      obtain ⟨ρ, rfl, hρ⟩ := hF.open_
      simp only [List.forall_mem_cons] at hρ
      obtain ⟨r1, r4, r5, r18, r19, r20, -⟩ := hρ
      simp only [lst, Nat.reduceAdd, r1, r4, r5, r18, r19, r20]
      clear r1 r4 r5 r18 r19 r20 hF hE hOw hJ
      by_cases hlt : kk < n
      · have hltz : (kk : Int) < (n : Int) := by omega
        obtain ⟨b9, off9, h, rfl, hx9, -, hcell9⟩ := HH.out.at_ hlt
        have c9 := SlI.cell hcell9 (E2.out.trans EW.out)
        obtain ⟨b0, b1, bf, bl⟩ := (B2.out.ext EW.out).c2
        have HPS := Lib.hid (pass_snoc (l := l) hx9)
        clear hx9 hcell9
        go_wp2
        clear b0 b1 bf bl c9
        refine wp_loop_ghost_k (fun g A' W' => ∃ (i : Nat) (b s : Bool), i ≤ n3 ∧ n3 - i ≤ g ∧ Fr 71 [(1, .pointer (some ⟨w.heap.size, 0, none⟩)), (4, .slice A3 n3 cp3), (5, .slice A1 n1 d1), (7, .int .i64 h), (8, .bool b), (9, .bool s), (18, .slice (some ⟨b9, off9, none⟩) n cp), (19, .int .i64 (n : Int)), (20, .int .i64 (kk : Int)), (25, .slice A2 n3 cp2), (26, .int .i64 (n3 : Int)), (27, .int .i64 (i : Int))] [] A' ∧
          Ext W W' ∧ buysB ((c.sales.zip l).take i) h = b ∧ sellsB ((c.sales.zip l).take i) h = s) n3 ?_ ?_
        · exact ⟨0, false, false, by omega, by omega, ⟨rfl, rfl, by simp [Act.eval]⟩, Ext.refl _, rfl, rfl⟩
        · rintro g2 A'2 W3 ⟨i, b, s, hi, hg2, hF, hE, hb, hs⟩ J2 K2 hJ2 hK2
          have HJ2 := Lib.hid hJ2; have EW3 := Lib.hid hE; have HB := Lib.hid hb; have HSS := Lib.hid hs
          obtain ⟨ρ, rfl, hρ⟩ := hF.open_
          simp only [List.forall_mem_cons] at hρ
          obtain ⟨r1, r4, r5, r7, r8, r9, r18, r19, r20, r25, r26, r27, -⟩ := hρ
          simp only [lst, Nat.reduceAdd, r1, r4, r5, r7, r8, r9, r18, r19, r20, r25, r26, r27]
          clear r1 r4 r5 r7 r8 r9 r18 r19 r20 r25 r26 r27 hF hE hb hs hJ2
          by_cases hin : i < n3
          · have hiz : (i : Int) < (n3 : Int) := by omega
            obtain ⟨bx, ox, x, rfl, hx, -, hcellx⟩ := HS.out.at_ hin
            obtain ⟨by_, oy, y, rfl, hy, -, hcelly⟩ := HSL.out.at_ hin
            have ex : Ext w W3 := (E2.out.trans EW.out).trans EW3.out
            obtain ⟨c0, c1, c2, c3, c4⟩ := SlL.cells hcellx ex
            have cy := SlI.cell hcelly ((EW.out.trans EW3.out).trans (Ext.al W3 (.cells #[.int .i64 x.number, .int .i64 x.seller, .int .i64 x.buyer, .int .i64 x.bales, .int .i64 x.price] 68)))
            have HB2 := Lib.hid (buys_snoc h hx hy); have HS2 := Lib.hid (sells_snoc h hx hy)
            clear hx hy hcellx hcelly ex
            obtain ⟨p, hp⟩ : ∃ p, decide (0 < y) = p := ⟨_, rfl⟩
            obtain ⟨q, hq, hq2⟩ : ∃ q, decide (x.buyer = h) = q ∧ (x.buyer == h) = q := ⟨_, rfl, by cases hh : (x.buyer == h) <;> simp_all⟩
            obtain ⟨r, hr, hr2⟩ : ∃ q, decide (x.seller = h) = q ∧ (x.seller == h) = q := ⟨_, rfl, by cases hh : (x.seller == h) <;> simp_all⟩
            have HP := Lib.hid hp; have HQ1 := Lib.hid hq; have HR1 := Lib.hid hr
            cases p <;> cases q <;> cases r <;> cases b <;> cases s <;> (
              go_wp2
              exact Handed.intro (n3 - (i + 1)) (by omega) (HJ2.out _ _ _ ⟨i + 1, _, _, by omega, Nat.le_refl _, ⟨rfl, rfl, by simp [Act.eval]; first | done | exact ⟨rfl, rfl⟩⟩, EW3.out.alloc _, by rw [HB2.out, HB.out, HP.out, HQ1.out]; rfl, by rw [HS2.out, HSS.out, HP.out, HR1.out]; rfl⟩))
          · have HZ := Lib.hid (show (c.sales.zip l).take i = c.sales.zip l from zip_all (by have := hn2.out; omega))
            have HPB := Lib.hid (show passB c l h = (s && b) by unfold passB; rw [← HB.out, ← HSS.out, HZ.out])
            have hz3 := EW3.out.size
            have hzW := EW.out.size
            cases s <;> cases b
            · go_wp2
              exact Handed.intro (n - (kk + 1)) (by omega) (HJ.out _ _ _ ⟨kk + 1, A1, n1, d1, by omega, Nat.le_refl _, ⟨rfl, rfl, by simp [Act.eval]⟩, EW.out.trans EW3.out, by rw [HPS.out, HPB.out]; simpa using OW.out.ext EW3.out⟩)
            · go_wp2
              exact Handed.intro (n - (kk + 1)) (by omega) (HJ.out _ _ _ ⟨kk + 1, A1, n1, d1, by omega, Nat.le_refl _, ⟨rfl, rfl, by simp [Act.eval]⟩, EW.out.trans EW3.out, by rw [HPS.out, HPB.out]; simpa using OW.out.ext EW3.out⟩)
            · go_wp2
              exact Handed.intro (n - (kk + 1)) (by omega) (HJ.out _ _ _ ⟨kk + 1, A1, n1, d1, by omega, Nat.le_refl _, ⟨rfl, rfl, by simp [Act.eval]⟩, EW.out.trans EW3.out, by rw [HPS.out, HPB.out]; simpa using OW.out.ext EW3.out⟩)
            · obtain ⟨F, hF⟩ : ∃ F, F = (c.houses.take kk).filter (passB c l) := ⟨_, rfl⟩
              rw [← hF] at HPS OW
              have hFl : F.length ≤ kk := by rw [hF]; exact Nat.le_trans (List.length_filter_le _ _) (by rw [List.length_take]; omega)
              clear hF
              have OW3 := Lib.hid (OW.out.ext EW3.out)
              go_wp2_with (at_builtin; refine wpList_app encI 22 3 1 _ 8 Tryd.underlying22 info3x rfl (by decide) (by decide) (fun _ => rfl) encI_one rfl (.tmp 65) (.tmp 67) rfl w2.heap.size _ F rfl (OW3.out.alloc _) W3.heap.size 1 h rfl (cells1 (by simp [go_sem])) (by omega) (by simp; omega) ?_)
              intro g9 cap w9 hown hg9 hbel hgr
              have HO9 := Lib.hid hown
              have HB9 := Lib.hid (show Ext w2 w9 from Below.trans ((EW.out.trans EW3.out).alloc _) hbel)
              clear hown hbel hgr
              go_wp2
              exact Handed.intro (n - (kk + 1)) (by omega) (HJ.out _ _ _ ⟨kk + 1, _, _, _, by omega, Nat.le_refl _, ⟨rfl, rfl, by simp [Act.eval]; first | done | exact ⟨rfl, rfl, rfl⟩⟩, HB9.out, by rw [HPS.out, HPB.out]; exact HO9.out⟩)
      · have HE := Lib.hid (show kk = n by omega)
        go_wp2
        go_ret2
        refine ⟨⟨.slice A1 n1 d1, by rw [HCK.out]; rfl, ?_⟩, E2.out.trans EW.out⟩
        have := OW.out
        rw [List.take_of_length_le (by have := HE.out; have := hn.out; omega)] at this
        rw [HPL.out]
        exact this.sl (fun _ => rfl)
end Go.Proofs.YtafdbgielmlihaaDoor
/- Hands, plain; the reference's on. -/
namespace Go.Proofs.YtafdbgielmlihaaDoor
open Go.RowKit Go.Shelf Go.Lib
set_option maxRecDepth 100000
set_option linter.unusedSimpArgs false

/-- The first sale of the house that still has bales. -/
def onB (h : Int) (p : Sale × Int) : Bool := decide (p.1.seller = h) && decide (0 < p.2)
def onK (c : Chn) (m : List Int) (h : Int) : Option Nat := (c.sales.zip m).findIdx? (onB h)
def onI (c : Chn) (m : List Int) (h : Int) : Int := match onK c m h with
  | some i => i
  | none => -1
theorem on_some {c : Chn} {m : List Int} {h : Int} {i : Nat} {x : Sale} {y : Int} (hx : c.sales[i]? = some x) (hy : m[i]? = some y) (hb : ((c.sales.zip m).take i).any (onB h) = false) (h1 : x.seller = h) (h2 : 0 < y) : onK c m h = some i := by
  unfold onK
  have hz : (c.sales.zip m)[i]? = some (x, y) := List.getElem?_zip_eq_some.2 ⟨hx, hy⟩
  obtain ⟨hi, he⟩ := List.getElem?_eq_some_iff.1 hz
  rw [List.findIdx?_eq_some_iff_getElem]
  refine ⟨hi, by rw [he]; simp [onB, h1, h2], fun j hj => ?_⟩
  have hm : (c.sales.zip m)[j] ∈ (c.sales.zip m).take i := by
    rw [List.mem_iff_getElem?]
    exact ⟨j, by rw [List.getElem?_take, if_pos hj]; exact List.getElem?_eq_getElem (by omega)⟩
  have := List.any_eq_false.1 hb _ hm
  simpa using this
theorem on_none {c : Chn} {m : List Int} {h : Int} {i : Nat} (hi : c.sales.length ≤ i) (hb : ((c.sales.zip m).take i).any (onB h) = false) : onK c m h = none := by
  unfold onK
  rw [zip_all hi] at hb
  rw [List.findIdx?_eq_none_iff]
  intro p hp
  have := List.any_eq_false.1 hb p hp
  simpa using this
theorem on_snoc {c : Chn} {m : List Int} {h : Int} {i : Nat} {x : Sale} {y : Int} (hx : c.sales[i]? = some x) (hy : m[i]? = some y) : ((c.sales.zip m).take (i + 1)).any (onB h) = (((c.sales.zip m).take i).any (onB h) || (decide (x.seller = h) && decide (0 < y))) := by
  rw [zip_snoc hx hy]
  simp [onB]
set_option maxHeartbeats 4000000 in
theorem on_any (c : Chn) (m : List Int) (h : Int) (hv sv mv : Value) (w : World) (hh : SlI w hv c.houses) (hs : SlL w sv c.sales) (hm : SlI w mv m) (hml : m.length = c.sales.length) (hl : c.sales.length ≤ 1000) :
    Calls Tryd.prog 81 #[valC hv sv, mv, .int .i64 h] w fun e w' => e = .returned (.int .i64 (onI c m h)) ∧ Ext w w' := by
  have HS := Lib.hid hs; have HM := Lib.hid hm; have HML := Lib.hid hml
  obtain ⟨A, n, cp, rfl, hn, hlc, hcm⟩ := hh.form
  obtain ⟨A2, n2, cp2, rfl, hn2, hlc2, hcm2⟩ := hs.form
  obtain ⟨A3, n3, cp3, rfl, hn3, hlc3, hcm3⟩ := hm.form
  have h32 : n3 = n2 := by have := hn2.out; have := hn3.out; omega
  subst h32
  have h1000 : n3 ≤ 1000 := by have := hn2.out; omega
  clear hh hs hm hml hl
  go_enter Tryd.func81, Tryd.ntmps81
  go_wp2
  refine wp_loop_ghost_k (fun g A' W => ∃ (i : Nat), i ≤ n3 ∧ n3 - i ≤ g ∧ Fr 30 [(1, .slice A3 n3 cp3), (2, .int .i64 h), (10, .slice A2 n3 cp2), (11, .int .i64 (n3 : Int)), (12, .int .i64 (i : Int))] [] A' ∧ Ext w W ∧ ((c.sales.zip m).take i).any (onB h) = false) n3 ?_ ?_
  · exact ⟨0, by omega, by omega, ⟨rfl, rfl, by simp [Act.eval]⟩, Ext.al _ _, by simp⟩
  · rintro g A' W ⟨i, hi, hg, hF, hE, hA⟩ J K' hJ hK
    have HJ := Lib.hid hJ; have EW := Lib.hid hE; have HA := Lib.hid hA
    obtain ⟨ρ, rfl, hρ⟩ := hF.open_
    simp only [List.forall_mem_cons] at hρ
    obtain ⟨r1, r2, r10, r11, r12, -⟩ := hρ
    simp only [lst, Nat.reduceAdd, r1, r2, r10, r11, r12]
    clear r1 r2 r10 r11 r12 hF hE hA hJ
    by_cases hin : i < n3
    · have hiz : (i : Int) < (n3 : Int) := by omega
      obtain ⟨bx, ox, x, rfl, hx, -, hcellx⟩ := HS.out.at_ hin
      obtain ⟨by_, oy, y, rfl, hy, -, hcelly⟩ := HM.out.at_ hin
      obtain ⟨c0, c1, c2, c3, c4⟩ := SlL.cells hcellx EW.out
      have cy := SlI.cell hcelly (EW.out.trans (Ext.al W (.cells #[.int .i64 x.number, .int .i64 x.seller, .int .i64 x.buyer, .int .i64 x.bales, .int .i64 x.price] 68)))
      have HX := Lib.hid hx; have HY := Lib.hid hy
      have HSN := Lib.hid (on_snoc (h := h) hx hy)
      clear hx hy hcellx hcelly
      obtain ⟨p, hp⟩ : ∃ p, decide (0 < y) = p := ⟨_, rfl⟩
      obtain ⟨q, hq, hq2⟩ : ∃ q, decide (x.seller = h) = q ∧ (x.seller == h) = q := ⟨_, rfl, by cases hh : (x.seller == h) <;> simp_all⟩
      have HP := Lib.hid hp; have HQ1 := Lib.hid hq
      cases p <;> cases q
      · go_wp2
        exact Handed.intro (n3 - (i + 1)) (by omega) (HJ.out _ _ _ ⟨i + 1, by omega, Nat.le_refl _, ⟨rfl, rfl, by simp [Act.eval]⟩, EW.out.alloc _, by rw [HSN.out, HA.out, HP.out, HQ1.out]; rfl⟩)
      · go_wp2
        exact Handed.intro (n3 - (i + 1)) (by omega) (HJ.out _ _ _ ⟨i + 1, by omega, Nat.le_refl _, ⟨rfl, rfl, by simp [Act.eval]⟩, EW.out.alloc _, by rw [HSN.out, HA.out, HP.out, HQ1.out]; rfl⟩)
      · go_wp2
        exact Handed.intro (n3 - (i + 1)) (by omega) (HJ.out _ _ _ ⟨i + 1, by omega, Nat.le_refl _, ⟨rfl, rfl, by simp [Act.eval]⟩, EW.out.alloc _, by rw [HSN.out, HA.out, HP.out, HQ1.out]; rfl⟩)
      · have HO := Lib.hid (show onI c m h = (i : Int) by unfold onI; rw [on_some HX.out HY.out HA.out (of_decide_eq_true HQ1.out) (of_decide_eq_true HP.out)])
        go_wp2
        go_ret
        exact ⟨ret_int HO.out.symm, EW.out.alloc _⟩
    · have HE := Lib.hid (show i = n3 by omega)
      have HO := Lib.hid (show onI c m h = -1 by unfold onI; rw [on_none (i := i) (by have := hn2.out; omega) HA.out])
      go_wp2
      go_ret
      exact ⟨ret_int HO.out.symm, EW.out⟩
end Go.Proofs.YtafdbgielmlihaaDoor
/- Hands, plain: a bale's way to where it stays, and what each house hands to each. -/
namespace Go.Proofs.YtafdbgielmlihaaDoor
open Go.RowKit Go.Shelf

def mu (m : List Int) : Nat := (m.map Int.toNat).sum
theorem mu_set : ∀ (m : List Int) (i : Nat) (y : Int), m[i]? = some y → 0 < y → mu (m.set i (y - 1)) + 1 = mu m
  | [], _, _, h, _ => by simp at h
  | z :: m, 0, y, h, hy => by
    simp at h
    subst h
    simp only [mu, List.set_cons_zero, List.map_cons, List.sum_cons]
    omega
  | z :: m, i + 1, y, h, hy => by
    have := mu_set m i y (by simpa using h) hy
    simp only [mu, List.set_cons_succ, List.map_cons, List.sum_cons] at this ⊢
    omega
theorem on_ok {c : Chn} {m : List Int} {h : Int} {i : Nat} (hk : onK c m h = some i) : ∃ x y, c.sales[i]? = some x ∧ m[i]? = some y ∧ x.seller = h ∧ 0 < y := by
  unfold onK at hk
  rw [List.findIdx?_eq_some_iff_getElem] at hk
  obtain ⟨hi, hp, -⟩ := hk
  have hz : (c.sales.zip m)[i]? = some ((c.sales.zip m)[i]) := List.getElem?_eq_getElem hi
  obtain ⟨h1, h2⟩ := List.getElem?_zip_eq_some.1 hz
  unfold onB at hp
  simp at hp
  exact ⟨_, _, h1, h2, by simpa using hp.1, by simpa using hp.2⟩
/-- One bale goes on until no sale takes it further. -/
def followF (c : Chn) : Nat → List Int → Int → List Int × Int
  | 0, m, h => (m, h)
  | k + 1, m, h => match onK c m h with
    | none => (m, h)
    | some i => match c.sales[i]?, m[i]? with
      | some x, some y => followF c k (m.set i (y - 1)) x.buyer
      | _, _ => (m, h)
def follow (c : Chn) (m : List Int) (h : Int) : List Int × Int := followF c (mu m) m h
theorem follow_fuel {c : Chn} : ∀ (k : Nat) (m : List Int) (h : Int), mu m ≤ k → followF c k m h = follow c m h := by
  have key : ∀ (k j : Nat) (m : List Int) (h : Int), mu m ≤ k → mu m ≤ j → followF c k m h = followF c j m h := by
    intro k
    induction k with
    | zero =>
      intro j m h hk hj
      cases j with
      | zero => rfl
      | succ j =>
        unfold followF
        cases ho : onK c m h with
        | none => rfl
        | some i =>
          obtain ⟨x, y, h1, h2, -, h4⟩ := on_ok ho
          have := mu_set m i y h2 h4
          omega
    | succ k ih =>
      intro j m h hk hj
      cases ho : onK c m h with
      | none =>
        have e1 : followF c (k + 1) m h = (m, h) := by unfold followF; rw [ho]
        rw [e1]
        cases j with
        | zero => rfl
        | succ j => unfold followF; rw [ho]
      | some i =>
        obtain ⟨x, y, h1, h2, -, h4⟩ := on_ok ho
        have hm := mu_set m i y h2 h4
        cases j with
        | zero => omega
        | succ j =>
          unfold followF
          rw [ho]
          simp only [h1, h2]
          exact ih j _ _ (by omega) (by omega)
  intro k m h hk
  exact key k (mu m) m h hk (Nat.le_refl _)
theorem follow_stop {c : Chn} {m : List Int} {h : Int} (ho : onK c m h = none) : follow c m h = (m, h) := by
  rw [← follow_fuel (mu m + 1) m h (by omega)]
  unfold followF
  rw [ho]
theorem follow_step {c : Chn} {m : List Int} {h : Int} {i : Nat} {x : Sale} {y : Int} (ho : onK c m h = some i) (hx : c.sales[i]? = some x) (hy : m[i]? = some y) : follow c m h = follow c (m.set i (y - 1)) x.buyer := by
  obtain ⟨x', y', h1, h2, -, h4⟩ := on_ok ho
  rw [hy] at h2
  injection h2 with h2
  subst h2
  have hm := mu_set m i y hy h4
  rw [← follow_fuel (mu (m.set i (y - 1)) + 1) m h (by omega)]
  unfold followF
  rw [ho]
  simp only [hx, hy]
  rfl
/-- What holds at each step holds at the end. -/
theorem follow_ind {c : Chn} {P : List Int → Int → Prop} (hs : ∀ (m : List Int) (h : Int) (i : Nat) (x : Sale) (y : Int), onK c m h = some i → c.sales[i]? = some x → m[i]? = some y → 0 < y → P m h → P (m.set i (y - 1)) x.buyer) :
    ∀ (k : Nat) (m : List Int) (h : Int), mu m ≤ k → P m h → P (follow c m h).1 (follow c m h).2 := by
  intro k
  induction k with
  | zero =>
    intro m h hk hP
    cases ho : onK c m h with
    | none => rw [follow_stop ho]; exact hP
    | some i =>
      obtain ⟨x, y, h1, h2, -, h4⟩ := on_ok ho
      have := mu_set m i y h2 h4
      omega
  | succ k ih =>
    intro m h hk hP
    cases ho : onK c m h with
    | none => rw [follow_stop ho]; exact hP
    | some i =>
      obtain ⟨x, y, h1, h2, -, h4⟩ := on_ok ho
      have hm := mu_set m i y h2 h4
      rw [follow_step ho h1 h2]
      exact ih _ _ (by omega) (hs m h i x y ho h1 h2 h4 hP)
/-- Moves stay moves; a house stays a house. -/
structure Mvs (c : Chn) (m : List Int) : Prop where
  l : m.length = c.sales.length
  b : ∀ y ∈ m, 0 ≤ y ∧ y ≤ 9
theorem follow_ok {c : Chn} (hR : Right c) {m : List Int} {h : Int} (hm : Mvs c m) (hh : h ∈ c.houses) : Mvs c (follow c m h).1 ∧ (follow c m h).2 ∈ c.houses := by
  refine follow_ind (P := fun m h => Mvs c m ∧ h ∈ c.houses) ?_ (mu m) m h (Nat.le_refl _) ⟨hm, hh⟩
  rintro m h i x y ho hx hy h0 ⟨h1, h2⟩
  refine ⟨⟨by rw [List.length_set]; exact h1.l, fun z hz => ?_⟩, (hR.sale x (List.mem_of_getElem? hx)).2.2.1⟩
  rcases List.mem_or_eq_of_mem_set hz with hz | rfl
  · exact h1.b z hz
  · have := h1.b y (List.mem_of_getElem? hy)
    omega
end Go.Proofs.YtafdbgielmlihaaDoor
/- The reference's Hands, part one: a bale's way. -/
namespace Go.Proofs.YtafdbgielmlihaaDoor
open Go.RowKit Go.Shelf Go.Lib
set_option maxRecDepth 100000
set_option linter.unusedSimpArgs false

theorem RowX.alloc {w : World} {g : Nat} {m : List Int} (h : RowX w g m) (o : Obj) : RowX (w.alloc o) g m := h.ext (Ext.al _ _)
set_option maxHeartbeats 4000000 in
theorem way_wp {c : Chn} {m0 : List Int} {h0 : Int} {b3 gm N : Nat} {A : Option Addr} {n cp : Nat} {A2 : Option Addr} {n2 cp2 cm : Nat} {w : World} {a0 : Act} {v5 v6 v7 v8 v9 v10 v24 v25 v26 : Value} {Q : Exit → Act → World → Prop}
    (hl : c.sales.length ≤ 1000) (hN : N = c.sales.length) (hcm : N ≤ cm) (hcM : cm ≤ maxLen) (hm : Mvs c m0)
    (hF : Fr 97 [(1, .pointer (some ⟨b3, 0, none⟩)), (4, .slice (some ⟨gm, 0, none⟩) N cm), (5, v5), (6, v6), (7, v7), (8, v8), (9, v9), (10, v10), (11, .int .i64 h0), (12, .int .i64 (onI c m0 h0)), (24, v24), (25, v25), (26, v26)] [] a0)
    (hB : Blk w b3 25 #[.slice A n cp, .slice A2 n2 cp2]) (hh : SlI w (.slice A n cp) c.houses) (hs : SlL w (.slice A2 n2 cp2) c.sales) (hX : RowX w gm m0) (x0 : b3 ≠ gm)
    (xh : 0 < c.houses.length → ∀ b o, A = some ⟨b, o, none⟩ → b ≠ gm) (xs : 0 < c.sales.length → ∀ b o, A2 = some ⟨b, o, none⟩ → b ≠ gm)
    (hQ : ∀ A' W', Fr 97 [(1, .pointer (some ⟨b3, 0, none⟩)), (4, .slice (some ⟨gm, 0, none⟩) N cm), (5, v5), (6, v6), (7, v7), (8, v8), (9, v9), (10, v10), (11, .int .i64 (follow c m0 h0).2), (24, v24), (25, v25), (26, v26)] [] A' →
      w.grownBy W' (some gm) → RowX W' gm (follow c m0 h0).1 → Q .normal A' W') :
    (subC [1, 1, 1, 1, 1, 0, 1, 2, 3, 1, 1, 0, 2, 1, 1, 0, 1, 2, 3, 1, 0, 2, 1, 0, 1] (Tryd.f31.body.getD .skip)).wp Tryd.prog Q a0 w := by
  have HB := Lib.hid hB; have HH := Lib.hid hh; have HS := Lib.hid hs; have HX := Lib.hid hX; have HQ := Lib.hid hQ; have HN := Lib.hid hN; have HM := Lib.hid hm
  have hN1 : N ≤ 1000 := by omega
  obtain ⟨A2', n2', cp2', e2, hn2, hlc2, hcm2⟩ := hs.form
  injection e2 with e2 e3 e4
  subst e2 e3 e4
  have h2N : N = n2 := by have := hn2.out; omega
  subst h2N
  clear hB hh hs hX hQ hN hm
  delta Tryd.f31
  simp only [subC, Option.getD_some]
  obtain ⟨ρ, rfl, hρ⟩ := hF.open_
  simp only [List.forall_mem_cons] at hρ
  obtain ⟨r1, r4, r5, r6, r7, r8, r9, r10, r11, r12, r24, r25, r26, -⟩ := hρ
  simp only [lst, Nat.reduceAdd, r1, r4, r5, r6, r7, r8, r9, r10, r11, r12, r24, r25, r26]
  clear r1 r4 r5 r6 r7 r8 r9 r10 r11 r12 r24 r25 r26 hF
  go_wp2
  refine wp_loop_ghost_k (fun g A' W => ∃ (m : List Int) (h : Int), mu m ≤ g ∧ Mvs c m ∧ follow c m0 h0 = follow c m h ∧ Fr 97 [(1, .pointer (some ⟨b3, 0, none⟩)), (4, .slice (some ⟨gm, 0, none⟩) N cm), (5, v5), (6, v6), (7, v7), (8, v8), (9, v9), (10, v10), (11, .int .i64 h), (12, .int .i64 (onI c m h)), (24, v24), (25, v25), (26, v26)] [] A' ∧
    w.grownBy W (some gm) ∧ RowX W gm m) (mu m0) ?_ ?_
  · exact ⟨m0, h0, Nat.le_refl _, HM.out, rfl, ⟨rfl, rfl, by simp [Act.eval]⟩, World.grownBy.refl _ _, HX.out⟩
  · rintro g A' W ⟨m, h, hg, hm, hfo, hF, hG, hX⟩ J K' hJ hK
    have HJ := Lib.hid hJ; have HG := Lib.hid hG; have HX1 := Lib.hid hX; have HFO := Lib.hid hfo; have HM1 := Lib.hid hm
    have hg' := hg
    obtain ⟨ρ, rfl, hρ⟩ := hF.open_
    simp only [List.forall_mem_cons] at hρ
    obtain ⟨r1, r4, r5, r6, r7, r8, r9, r10, r11, r12, r24, r25, r26, -⟩ := hρ
    simp only [lst, Nat.reduceAdd, r1, r4, r5, r6, r7, r8, r9, r10, r11, r12, r24, r25, r26]
    clear r1 r4 r5 r6 r7 r8 r9 r10 r11 r12 r24 r25 r26 hF hG hX hfo hm hJ HX HM
    cases ho : onK c m h with
    | none =>
      have HO := Lib.hid (show onI c m h = -1 by unfold onI; rw [ho])
      have HST := Lib.hid (follow_stop ho)
      rw [HO.out]
      go_wp2
      exact HQ.out _ _ ⟨rfl, rfl, by rw [HFO.out, HST.out]; simp [Act.eval]⟩ HG.out (by rw [HFO.out, HST.out]; exact HX1.out)
    | some i =>
      have HO := Lib.hid (show onI c m h = (i : Int) by unfold onI; rw [ho])
      obtain ⟨x, y, hx, hy, -, hy0⟩ := on_ok ho
      have hyb := HM1.out.b y (List.mem_of_getElem? hy)
      have hiN : i < N := by have := (List.getElem?_eq_some_iff.1 hx).1; have := HN.out; omega
      have hiz : (i : Int) < (N : Int) := by omega
      have hi0 : (0 : Int) ≤ (i : Int) := by omega
      have HST := Lib.hid (follow_step ho hx hy)
      have hmu := mu_set m i y hy hy0
      have hm2 : Mvs c (m.set i (y - 1)) := ⟨by rw [List.length_set]; exact HM1.out.l, fun z hz => by
        rcases List.mem_or_eq_of_mem_set hz with hz | rfl
        · exact HM1.out.b z hz
        · omega⟩
      have HM2 := Lib.hid hm2
      have HS1 := Lib.hid (HS.out.grown HG.out xs); have HH1 := Lib.hid (HH.out.grown HG.out xh)
      have HB1 := Lib.hid (HB.out.grown HG.out (by intro e; injection e with e; exact x0 e))
      have HS2 := Lib.hid (HS.out.grown (grown_set HG.out (p := ⟨gm, i, none⟩) (.inl rfl) (.int .i64 (y - 1))) xs); have HH2 := Lib.hid (HH.out.grown (grown_set HG.out (p := ⟨gm, i, none⟩) (.inl rfl) (.int .i64 (y - 1))) xh)
      have HB2 := Lib.hid (HB.out.grown (grown_set HG.out (p := ⟨gm, i, none⟩) (.inl rfl) (.int .i64 (y - 1))) (by intro e; injection e with e; exact x0 e))
      obtain ⟨bx, ox, x', e', hx', -, hcell⟩ := HS2.out.at_ hiN
      rw [hx] at hx'
      injection hx' with hx'
      subst hx'
      subst e'
      have k0 := HX1.out.cell hy
      have kf := HX1.out.frozen
      have kl := HX1.out.lt
      have HX2 := Lib.hid (HX1.out.set i (y - 1))
      have hw1 : IntKind.i64.wrap (y - 1) = y - 1 := by rw [IntKind.wrap_i64]; omega
      obtain ⟨c0, c1, c2, c3, c4⟩ := SlL.cells hcell (Ext.refl _)
      obtain ⟨z0, z1, zf, zl⟩ := HB1.out.c2
      obtain ⟨y0, y1, yf, yl⟩ := HB2.out.c2
      rw [HO.out]
      clear hx hy hcell ho hm2 c0 c1 c3 c4
      have HSL := Lib.hid (show SlI (W.setCell ⟨gm, i, none⟩ (.int .i64 (y - 1))) (.slice (some ⟨gm, 0, none⟩) N cm) (m.set i (y - 1)) from by
        have hlen : (m.set i (y - 1)).length = N := by rw [HM2.out.l]; exact HN.out.symm
        have := HX2.out.sl (c := cm) (by rw [hlen]; exact hcm) hcM
        rwa [hlen] at this)
      go_wp2_with fail
      refine (on_any c (m.set i (y - 1)) x.buyer _ _ _ _ HH2.out HS2.out HSL.out HM2.out.l (by have := HN.out; omega)).mono ?_
      rintro e W2 ⟨rfl, hE⟩
      have HG2 := Lib.hid (grown_ext (grown_set HG.out (p := ⟨gm, i, none⟩) (.inl rfl) (.int .i64 (y - 1))) hE)
      have HX3 := Lib.hid (HX2.out.ext hE)
      clear hE y0 y1 yf yl z0 z1 zf zl k0 kf kl c2
      go_wp2
      exact Handed.intro (mu (m.set i (y - 1))) (by omega) (HJ.out _ _ _ ⟨m.set i (y - 1), x.buyer, Nat.le_refl _, HM2.out, by rw [HFO.out, HST.out], ⟨rfl, rfl, by simp [Act.eval]⟩, HG2.out, HX3.out⟩)
end Go.Proofs.YtafdbgielmlihaaDoor
/- The reference's Hands, part two: one bale, from its house to where it stays. -/
namespace Go.Proofs.YtafdbgielmlihaaDoor
open Go.RowKit Go.Shelf Go.Lib
set_option maxRecDepth 100000
set_option linter.unusedSimpArgs false

set_option maxHeartbeats 4000000 in
theorem bale_wp {c : Chn} {m0 row : List Int} {h0 : Int} {b3 gm gr N k : Nat} {y : Int} {A : Option Addr} {n cp : Nat} {A2 : Option Addr} {n2 cp2 cm : Nat} {w : World} {a0 : Act} {v5 v6 v7 v10 v24 v25 v26 : Value} {Q : Exit → Act → World → Prop}
    (hl : c.sales.length ≤ 1000) (hN : N = c.sales.length) (hcm : N ≤ cm) (hcM : cm ≤ maxLen) (hm : Mvs c m0) (hrl : row.length = n) (hk : houseI c (follow c m0 h0).2 = k) (hy : row[k]? = some y) (hyb : 0 ≤ y ∧ y ≤ 100000)
    (hF : Fr 97 [(1, .pointer (some ⟨b3, 0, none⟩)), (4, .slice (some ⟨gm, 0, none⟩) N cm), (5, v5), (6, v6), (7, v7), (8, .int .i64 h0), (9, .slice (some ⟨gr, 0, none⟩) n n), (10, v10), (24, v24), (25, v25), (26, v26)] [] a0)
    (hB : Blk w b3 25 #[.slice A n cp, .slice A2 n2 cp2]) (hh : SlI w (.slice A n cp) c.houses) (hs : SlL w (.slice A2 n2 cp2) c.sales) (hX : RowX w gm m0) (hRw : RowI w gr row) (x0 : b3 ≠ gm) (x1 : gr ≠ gm)
    (xh : 0 < c.houses.length → ∀ b o, A = some ⟨b, o, none⟩ → b ≠ gm) (xs : 0 < c.sales.length → ∀ b o, A2 = some ⟨b, o, none⟩ → b ≠ gm)
    (hQ : ∀ A' W1 W', Fr 97 [(1, .pointer (some ⟨b3, 0, none⟩)), (4, .slice (some ⟨gm, 0, none⟩) N cm), (5, v5), (6, v6), (7, v7), (8, .int .i64 h0), (9, .slice (some ⟨gr, 0, none⟩) n n), (10, v10), (24, v24), (25, v25), (26, v26)] [] A' →
      w.grownBy W1 (some gm) → W1.grownBy W' (some gr) → RowX W' gm (follow c m0 h0).1 → RowI W' gr (row.set k (y + 1)) → Q .normal A' W') :
    (subC [1, 1, 1, 1, 1, 0, 1, 2, 3, 1, 1, 0, 2, 1, 1, 0, 1, 2, 3, 1, 0] (Tryd.f31.body.getD .skip)).wp Tryd.prog Q a0 w := by
  have HB := Lib.hid hB; have HH := Lib.hid hh; have HS := Lib.hid hs; have HX := Lib.hid hX; have HQ := Lib.hid hQ; have HN := Lib.hid hN; have HM := Lib.hid hm; have HRW := Lib.hid hRw; have HK := Lib.hid hk; have HY := Lib.hid hy
  have hkn : k < n := by have := (List.getElem?_eq_some_iff.1 hy).1; omega
  have hkz : (k : Int) < (n : Int) := by omega
  have HSL0 := Lib.hid (show SlI w (.slice (some ⟨gm, 0, none⟩) N cm) m0 from by
    have hlen : m0.length = N := by rw [hm.l]; exact hN.symm
    have := hX.sl (c := cm) (by rw [hlen]; exact hcm) hcM
    rwa [hlen] at this)
  obtain ⟨b0, b1, bf, bl⟩ := hB.c2
  clear hB hh hs hX hQ hN hm hRw hk hy
  delta Tryd.f31
  simp only [subC, Option.getD_some]
  obtain ⟨ρ, rfl, hρ⟩ := hF.open_
  simp only [List.forall_mem_cons] at hρ
  obtain ⟨r1, r4, r5, r6, r7, r8, r9, r10, r24, r25, r26, -⟩ := hρ
  simp only [lst, Nat.reduceAdd, r1, r4, r5, r6, r7, r8, r9, r10, r24, r25, r26]
  clear r1 r4 r5 r6 r7 r8 r9 r10 r24 r25 r26 hF
  go_wp2_with fail
  refine (on_any c m0 h0 _ _ _ _ HH.out HS.out HSL0.out HM.out.l hl).mono ?_
  rintro e W0 ⟨rfl, hE⟩
  have HB0 := Lib.hid (HB.out.ext hE); have HH0 := Lib.hid (HH.out.ext hE); have HS0 := Lib.hid (HS.out.ext hE); have HX0 := Lib.hid (HX.out.ext hE); have HR0 := Lib.hid (HRW.out.ext hE)
  have HG0 := Lib.hid (show w.grownBy W0 (some gm) from grown_ext (World.grownBy.refl _ _) hE)
  clear hE b0 b1 bf bl
  go_upto_block 4 with (fail)
  refine way_wp (c := c) (m0 := m0) (h0 := h0) (b3 := b3) (gm := gm) (N := N) (cm := cm) (v5 := v5) (v6 := v6) (v7 := v7) (v8 := .int .i64 h0) (v9 := .slice (some ⟨gr, 0, none⟩) n n) (v10 := v10) (v24 := v24) (v25 := v25) (v26 := v26) hl HN.out hcm hcM HM.out ⟨rfl, rfl, by simp [Act.eval]⟩ HB0.out HH0.out HS0.out HX0.out x0 xh xs ?_
  intro A1 W1 hF1 hG1 hX1
  have HX1 := Lib.hid hX1
  have HG1 := Lib.hid (grown_tr HG0.out hG1)
  have HB1 := Lib.hid (HB0.out.grown hG1 (by intro e; injection e with e; exact x0 e)); have HH1 := Lib.hid (HH0.out.grown hG1 xh); have HS1 := Lib.hid (HS0.out.grown hG1 xs)
  have HR1 := Lib.hid (show RowI W1 gr row from Blk.grown HR0.out hG1 (by intro e; injection e with e; exact x1 e))
  obtain ⟨ρ, rfl, hρ⟩ := hF1.open_
  simp only [List.forall_mem_cons] at hρ
  obtain ⟨r1, r4, r5, r6, r7, r8, r9, r10, r11, r24, r25, r26, -⟩ := hρ
  simp only [lst, Nat.reduceAdd, r1, r4, r5, r6, r7, r8, r9, r10, r11, r24, r25, r26]
  clear r1 r4 r5 r6 r7 r8 r9 r10 r11 r24 r25 r26 hF1 hG1 hX1
  obtain ⟨b0, b1, bf, bl⟩ := HB1.out.c2
  go_wp2_with fail
  refine (house_at c (follow c m0 h0).2 k _ _ _ HH1.out HS1.out HK.out).mono ?_
  rintro e W2 ⟨rfl, hE⟩
  have HR2 := Lib.hid (HR1.out.ext hE); have HX2 := Lib.hid (HX1.out.ext hE)
  have HG2 := Lib.hid (grown_ext HG1.out hE)
  clear hE b0 b1 bf bl
  have k0 := HR2.out.cell HY.out
  have kf := HR2.out.frozen
  have kl := HR2.out.lt
  have hw1 : IntKind.i64.wrap (y + 1) = y + 1 := by rw [IntKind.wrap_i64]; omega
  go_wp2
  exact HQ.out _ _ _ ⟨rfl, rfl, by simp [Act.eval]⟩ HG2.out (grown_set (World.grownBy.refl _ _) (p := ⟨gr, k, none⟩) (.inl rfl) _) (by
    obtain ⟨cur, h1, h2⟩ := HX2.out
    exact ⟨cur, h1.far (fun e => x1 e.symm) _, h2⟩) (HR2.out.set k (y + 1))
end Go.Proofs.YtafdbgielmlihaaDoor
/- Hands, plain: what each house hands to each. -/
namespace Go.Proofs.YtafdbgielmlihaaDoor
open Go.RowKit Go.Shelf

/-- So many bales of the house go on; a row counts where they stay. -/
def handRow (c : Chn) (h : Int) : Nat → List Int × List Int → List Int × List Int
  | 0, s => s
  | k + 1, s => ((follow c (handRow c h k s).1 h).1, bump (handRow c h k s).2 (houseI c (follow c (handRow c h k s).1 h).2).toNat 1)
structure Hnd where
  a : Int
  b : Int
  n : Int
def outRow (c : Chn) (h : Int) (row : List Int) : List Hnd := ((c.houses.zip row).filter fun p => decide (0 < p.2)).map fun p => ⟨h, p.1, p.2⟩
/-- The first k houses are through. -/
def handsTo (c : Chn) (l gets : List Int) : Nat → List Int × List Hnd
  | 0 => (l, [])
  | k + 1 => match c.houses[k]?, gets[k]? with
    | some h, some g => ((handRow c h (-g).toNat ((handsTo c l gets k).1, List.replicate c.houses.length 0)).1, (handsTo c l gets k).2 ++ outRow c h (handRow c h (-g).toNat ((handsTo c l gets k).1, List.replicate c.houses.length 0)).2)
    | _, _ => handsTo c l gets k
def handsL (c : Chn) (l : List Int) : List Hnd := if checkP c then (handsTo c l (getsL c l) c.houses.length).2 else []
theorem handRow_ok {c : Chn} (hR : Right c) {h : Int} (hh : h ∈ c.houses) {m : List Int} (hm : Mvs c m) {B : Int} {row : List Int} (hrl : row.length = c.houses.length) (hb : ∀ y ∈ row, 0 ≤ y ∧ y ≤ B) :
    ∀ k, Mvs c (handRow c h k (m, row)).1 ∧ (handRow c h k (m, row)).2.length = c.houses.length ∧ ∀ y ∈ (handRow c h k (m, row)).2, 0 ≤ y ∧ y ≤ B + k
  | 0 => ⟨hm, hrl, fun y hy => by have := hb y hy; omega⟩
  | k + 1 => by
    obtain ⟨h1, h2, h3⟩ := handRow_ok hR hh hm hrl hb k
    refine ⟨(follow_ok hR h1 hh).1, by rw [handRow, bump_len]; exact h2, fun y hy => ?_⟩
    rw [handRow] at hy
    obtain ⟨i, hi⟩ := List.getElem?_of_mem hy
    rw [bump_get] at hi
    obtain ⟨z, hz, rfl⟩ := Option.map_eq_some_iff.1 hi
    have := h3 z (List.mem_of_getElem? hz)
    split <;> omega
end Go.Proofs.YtafdbgielmlihaaDoor
/- Memory of which two blocks may turn. -/
namespace Go.Proofs.YtafdbgielmlihaaDoor
open Go.RowKit Go.Shelf Go.Lib

structure TwoG (g1 g2 : Nat) (A B : World) : Prop where
  os : B.os = A.os
  tape : B.tape = A.tape
  output : B.output = A.output
  size : A.heap.size ≤ B.heap.size
  block : ∀ i, i < A.heap.size → i ≠ g1 → i ≠ g2 → B.heap[i]? = A.heap[i]?
theorem TwoG.refl (g1 g2 : Nat) (A : World) : TwoG g1 g2 A A := ⟨rfl, rfl, rfl, Nat.le_refl _, fun _ _ _ _ => rfl⟩
theorem TwoG.one {g1 g2 g : Nat} {A B C : World} (h : TwoG g1 g2 A B) (k : B.grownBy C (some g)) (hg : g = g1 ∨ g = g2) : TwoG g1 g2 A C :=
  ⟨k.os.trans h.os, k.tape.trans h.tape, k.output.trans h.output, Nat.le_trans h.size k.size, fun i hi h1 h2 => (k.block i (Nat.lt_of_lt_of_le hi h.size) (by
    intro e; injection e with e
    rcases hg with rfl | rfl
    · exact h1 e
    · exact h2 e)).trans (h.block i hi h1 h2)⟩
theorem Blk.two {g1 g2 g : Nat} {A B : World} {t : TypeId} {cs : Array Value} (h : Blk A g t cs) (k : TwoG g1 g2 A B) (h1 : g ≠ g1) (h2 : g ≠ g2) : Blk B g t cs := (k.block g h.lt h1 h2).trans h
theorem Sl.two {α : Type} {enc : α → List Value} {sz g1 g2 : Nat} {A B : World} {a : Option Addr} {n c : Nat} {l : List α} (h : Sl enc sz A (.slice a n c) l) (k : TwoG g1 g2 A B) (hx : 0 < l.length → ∀ b o, a = some ⟨b, o, none⟩ → b ≠ g1 ∧ b ≠ g2) : Sl enc sz B (.slice a n c) l := by
  obtain ⟨a', c', hv, hl, hc, hcell⟩ := h
  injection hv with e1 e2 e3
  subst e1 e2 e3
  refine ⟨_, _, rfl, hl, hc, fun h0 => ?_⟩
  obtain ⟨b, off, hA, hb, hcell⟩ := hcell h0
  refine ⟨b, off, hA, Nat.lt_of_lt_of_le hb k.size, fun i x hi j u hu => ?_⟩
  exact (World.cell?_of_block (a := ⟨b, _, none⟩) (k.block b hb (hx h0 b off hA).1 (hx h0 b off hA).2)).trans (hcell i x hi j u hu)
end Go.Proofs.YtafdbgielmlihaaDoor
/- The reference's Hands, part three: all bales of a house. -/
namespace Go.Proofs.YtafdbgielmlihaaDoor
open Go.RowKit Go.Shelf Go.Lib
set_option maxRecDepth 100000
set_option linter.unusedSimpArgs false

set_option maxHeartbeats 4000000 in
theorem rows_wp {c : Chn} {m0 : List Int} {h0 g0 : Int} {b3 gm gr N : Nat} {A : Option Addr} {n cp : Nat} {A2 : Option Addr} {n2 cp2 cm : Nat} {w : World} {a0 : Act} {v5 v6 v7 v24 v25 v26 : Value} {Q : Exit → Act → World → Prop}
    (hR : Right c) (hl : c.sales.length ≤ 1000) (hN : N = c.sales.length) (hn : n = c.houses.length) (hh0 : h0 ∈ c.houses) (hcm : N ≤ cm) (hcM : cm ≤ maxLen) (hm : Mvs c m0) (hg : -10000 ≤ g0 ∧ g0 ≤ 10000)
    (hF : Fr 97 [(1, .pointer (some ⟨b3, 0, none⟩)), (4, .slice (some ⟨gm, 0, none⟩) N cm), (5, v5), (6, v6), (7, v7), (8, .int .i64 h0), (9, .slice (some ⟨gr, 0, none⟩) n n), (10, .int .i64 g0), (24, v24), (25, v25), (26, v26)] [] a0)
    (hB : Blk w b3 25 #[.slice A n cp, .slice A2 n2 cp2]) (hh : SlI w (.slice A n cp) c.houses) (hs : SlL w (.slice A2 n2 cp2) c.sales) (hX : RowX w gm m0) (hRw : RowI w gr (List.replicate n 0)) (x0 : b3 ≠ gm) (x1 : gr ≠ gm) (x2 : b3 ≠ gr)
    (xh : 0 < c.houses.length → ∀ b o, A = some ⟨b, o, none⟩ → b ≠ gm ∧ b ≠ gr) (xs : 0 < c.sales.length → ∀ b o, A2 = some ⟨b, o, none⟩ → b ≠ gm ∧ b ≠ gr)
    (hQ : ∀ A' W', Fr 97 [(1, .pointer (some ⟨b3, 0, none⟩)), (4, .slice (some ⟨gm, 0, none⟩) N cm), (5, v5), (6, v6), (7, v7), (8, .int .i64 h0), (9, .slice (some ⟨gr, 0, none⟩) n n), (24, v24), (25, v25), (26, v26)] [] A' →
      TwoG gm gr w W' → RowX W' gm (handRow c h0 (-g0).toNat (m0, List.replicate n 0)).1 → RowI W' gr (handRow c h0 (-g0).toNat (m0, List.replicate n 0)).2 → Q .normal A' W') :
    (subC [1, 1, 1, 1, 1, 0, 1, 2, 3, 1, 1, 0, 2, 1, 1, 0, 1] (Tryd.f31.body.getD .skip)).wp Tryd.prog Q a0 w := by
  have HR := Lib.hid hR; have HB := Lib.hid hB; have HH := Lib.hid hh; have HS := Lib.hid hs; have HX := Lib.hid hX; have HQ := Lib.hid hQ; have HN := Lib.hid hN; have HM := Lib.hid hm; have HRW := Lib.hid hRw; have HNN := Lib.hid hn; have HH0 := Lib.hid hh0
  obtain ⟨K, hK⟩ : ∃ K, K = (-g0).toNat := ⟨_, rfl⟩
  rw [← hK] at HQ
  clear hR hB hh hs hX hQ hN hm hRw hn hh0
  delta Tryd.f31
  simp only [subC, Option.getD_some]
  obtain ⟨ρ, rfl, hρ⟩ := hF.open_
  simp only [List.forall_mem_cons] at hρ
  obtain ⟨r1, r4, r5, r6, r7, r8, r9, r10, r24, r25, r26, -⟩ := hρ
  simp only [lst, Nat.reduceAdd, r1, r4, r5, r6, r7, r8, r9, r10, r24, r25, r26]
  clear r1 r4 r5 r6 r7 r8 r9 r10 r24 r25 r26 hF
  go_wp2
  refine wp_loop_ghost_k (fun g A' W => ∃ (k : Nat), k ≤ K ∧ K - k ≤ g ∧ Fr 97 [(1, .pointer (some ⟨b3, 0, none⟩)), (4, .slice (some ⟨gm, 0, none⟩) N cm), (5, v5), (6, v6), (7, v7), (8, .int .i64 h0), (9, .slice (some ⟨gr, 0, none⟩) n n), (10, .int .i64 (g0 + (k : Int))), (24, v24), (25, v25), (26, v26)] [] A' ∧
    TwoG gm gr w W ∧ RowX W gm (handRow c h0 k (m0, List.replicate n 0)).1 ∧ RowI W gr (handRow c h0 k (m0, List.replicate n 0)).2) K ?_ ?_
  · exact ⟨0, by omega, by omega, ⟨rfl, rfl, by simp [Act.eval]⟩, TwoG.refl _ _ _, HX.out, HRW.out⟩
  · rintro g A' W ⟨k, hk, hg2, hF, hG, hX, hRw⟩ J K' hJ hK'
    have HJ := Lib.hid hJ; have HG := Lib.hid hG; have HX1 := Lib.hid hX; have HR1 := Lib.hid hRw
    obtain ⟨ρ, rfl, hρ⟩ := hF.open_
    simp only [List.forall_mem_cons] at hρ
    obtain ⟨r1, r4, r5, r6, r7, r8, r9, r10, r24, r25, r26, -⟩ := hρ
    simp only [lst, Nat.reduceAdd, r1, r4, r5, r6, r7, r8, r9, r10, r24, r25, r26]
    clear r1 r4 r5 r6 r7 r8 r9 r10 r24 r25 r26 hF hG hX hRw hJ
    obtain ⟨o1, o2, o3⟩ := handRow_ok HR.out HH0.out HM.out (B := 0) (row := List.replicate n 0) (by simp; exact HNN.out) (fun y hy => by have := List.eq_of_mem_replicate hy; omega) k
    by_cases hkK : k < K
    · have hz : g0 + (k : Int) < 0 := by omega
      have hw1 : IntKind.i64.wrap (g0 + (k : Int) + 1) = g0 + (k : Int) + 1 := by rw [IntKind.wrap_i64]; omega
      have hfo := (follow_ok HR.out o1 HH0.out).2
      have hho := houseI_lt hfo
      obtain ⟨q, hq⟩ : ∃ q : Nat, houseI c (follow c (handRow c h0 k (m0, List.replicate n 0)).1 h0).2 = q := ⟨_, (Int.toNat_of_nonneg hho.1).symm⟩
      obtain ⟨y, hy⟩ : ∃ y, (handRow c h0 k (m0, List.replicate n 0)).2[q]? = some y := ⟨_, List.getElem?_eq_getElem (by omega)⟩
      have hyb := o3 y (List.mem_of_getElem? hy)
      have HNX := Lib.hid (show (handRow c h0 (k + 1) (m0, List.replicate n 0)).2 = (handRow c h0 k (m0, List.replicate n 0)).2.set q (y + 1) by
        rw [handRow, hq]
        exact bump_set (by simpa using hy))
      have HO1 := Lib.hid o1; have HO2 := Lib.hid o2
      go_upto_block 3 with (fail)
      refine bale_wp (c := c) (m0 := (handRow c h0 k (m0, List.replicate n 0)).1) (row := (handRow c h0 k (m0, List.replicate n 0)).2) (k := q) (y := y) (h0 := h0) (b3 := b3) (gm := gm) (gr := gr) (N := N) (n := n) (cm := cm) (v5 := v5) (v6 := v6) (v7 := v7) (v10 := .int .i64 (g0 + (k : Int))) (v24 := v24) (v25 := v25) (v26 := v26)
        hl HN.out hcm hcM HO1.out (by rw [HO2.out]; exact HNN.out.symm) hq hy (by omega) ⟨rfl, rfl, by simp [Act.eval]⟩ (HB.out.two HG.out x0 x2) (HH.out.two HG.out xh) (HS.out.two HG.out xs) HX1.out HR1.out x0 x1 (fun h b o e => (xh h b o e).1) (fun h b o e => (xs h b o e).1) ?_
      intro A1 W1 W2 hF1 hG1 hG2 hX2 hR2
      have HG2 := Lib.hid ((HG.out.one hG1 (.inl rfl)).one hG2 (.inr rfl)); have HX2 := Lib.hid hX2; have HR2 := Lib.hid hR2
      clear hG1 hG2 hX2 hR2 hq hy o1 o2 o3 hfo hho
      obtain ⟨ρ, rfl, hρ⟩ := hF1.open_
      simp only [List.forall_mem_cons] at hρ
      obtain ⟨r1, r4, r5, r6, r7, r8, r9, r10, r24, r25, r26, -⟩ := hρ
      simp only [lst, Nat.reduceAdd, r1, r4, r5, r6, r7, r8, r9, r10, r24, r25, r26]
      clear r1 r4 r5 r6 r7 r8 r9 r10 r24 r25 r26 hF1
      go_wp2
      exact Handed.intro (K - (k + 1)) (by omega) (HJ.out _ _ _ ⟨k + 1, by omega, Nat.le_refl _, ⟨rfl, rfl, by simp [Act.eval]; first | done | omega⟩, HG2.out, HX2.out, by rw [HNX.out]; exact HR2.out⟩)
    · have HE := Lib.hid (show k = K by omega)
      have hz : ¬ g0 + (k : Int) < 0 := by omega
      clear o1 o2 o3
      go_wp2
      have h1 := HX1.out; have h2 := HR1.out
      rw [HE.out] at h1 h2
      exact HQ.out _ _ ⟨rfl, rfl, by simp [Act.eval]⟩ HG.out h1 h2
end Go.Proofs.YtafdbgielmlihaaDoor
/- The reference's Hands, part four: a house's row is put out. -/
namespace Go.Proofs.YtafdbgielmlihaaDoor
open Go.RowKit Go.Shelf Go.Lib
set_option maxRecDepth 100000
set_option linter.unusedSimpArgs false

def encHd (x : Hnd) : List Value := [.int .i64 x.a, .int .i64 x.b, .int .i64 x.n]
theorem encHd_1 : ∀ x, ∀ u ∈ encHd x, u.oneCell' = true := by
  intro x u hu
  simp only [encHd, List.mem_cons, List.not_mem_nil, or_false] at hu
  rcases hu with rfl | rfl | rfl <;> rfl
theorem info99x : (Tryd.prog.info? 99).map (fun i => (i.zero, i.size, i.bytes)) = some (some (.agg #[.int .i64 0, .int .i64 0, .int .i64 0]), 3, 24) := by kernel_rfl
theorem cells3h {w : World} {b : Nat} {x y z : Value} (h0 : w.cell? ⟨b, 0, none⟩ = some x) (h1 : w.cell? ⟨b, 1, none⟩ = some y) (h2 : w.cell? ⟨b, 2, none⟩ = some z) : ∀ (j : Nat) (u : Value), [x, y, z][j]? = some u → w.cell? ⟨b, j, none⟩ = some u := by
  intro j u hu
  match j, hu with
  | 0, hu => simp at hu; subst hu; exact h0
  | 1, hu => simp at hu; subst hu; exact h1
  | 2, hu => simp at hu; subst hu; exact h2
  | j + 3, hu => simp at hu
def outTo (c : Chn) (h : Int) (row : List Int) (k : Nat) : List Hnd := (((c.houses.zip row).take k).filter fun p => decide (0 < p.2)).map fun p => ⟨h, p.1, p.2⟩
theorem outTo_succ {c : Chn} {h : Int} {row : List Int} {k : Nat} {t y : Int} (ht : c.houses[k]? = some t) (hy : row[k]? = some y) : outTo c h row (k + 1) = outTo c h row k ++ (if 0 < y then [⟨h, t, y⟩] else []) := by
  unfold outTo
  rw [List.take_add_one, (List.getElem?_zip_eq_some (z := (t, y))).2 ⟨ht, hy⟩, Option.toList_some, List.filter_append, List.map_append]
  congr 1
  by_cases h0 : 0 < y <;> simp [h0]
theorem outTo_all {c : Chn} {h : Int} {row : List Int} {k : Nat} (hk : c.houses.length ≤ k) : outTo c h row k = outRow c h row := by
  unfold outTo outRow
  rw [List.take_of_length_le (by rw [List.length_zip]; omega)]
theorem outTo_len (c : Chn) (h : Int) (row : List Int) (k : Nat) : (outTo c h row k).length ≤ k := by
  unfold outTo
  rw [List.length_map]
  refine Nat.le_trans (List.length_filter_le _ _) ?_
  rw [List.length_take]
  omega
end Go.Proofs.YtafdbgielmlihaaDoor
/- The reference's Hands, part five: the walk of a house's row. -/
namespace Go.Proofs.YtafdbgielmlihaaDoor
open Go.RowKit Go.Shelf Go.Lib
set_option maxRecDepth 100000
set_option linter.unusedSimpArgs false

theorem own_ne {α : Type} {enc : α → List Value} {sz base g : Nat} {e : TypeId} {W : World} {v : Value} {l : List α} {m : List Int} (h : Own enc e sz W base v l) (hr : RowI W g m) (he : e ≠ 3) : some g ≠ v.ownBlock := by
  rcases own_form h with ⟨rfl, -⟩ | ⟨g', cap, cur, rfl, -, h3, -⟩
  · simp [Value.ownBlock]
  · intro hk
    have : g = g' := by simpa [Value.ownBlock] using hk
    subst this
    unfold RowI Blk at hr
    rw [hr] at h3
    injection h3 with h3
    injection h3 with _ h3 _
    exact he h3.symm
theorem Sl.below {α : Type} {enc : α → List Value} {sz B : Nat} {V W : World} {a : Option Addr} {n c : Nat} {l : List α} (h : Sl enc sz V (.slice a n c) l) (k : Below B V W) (hx : 0 < l.length → ∀ b o, a = some ⟨b, o, none⟩ → b < B) : Sl enc sz W (.slice a n c) l := by
  obtain ⟨a', c', hv, hl, hc, hcell⟩ := h
  injection hv with e1 e2 e3
  subst e1 e2 e3
  refine ⟨_, _, rfl, hl, hc, fun h0 => ?_⟩
  obtain ⟨b, off, hA, hb, hcell⟩ := hcell h0
  refine ⟨b, off, hA, Nat.lt_of_lt_of_le hb k.size, fun i x hi j u hu => ?_⟩
  exact (World.cell?_of_block (a := ⟨b, _, none⟩) (k.block b (hx h0 b off hA))).trans (hcell i x hi j u hu)
set_option maxHeartbeats 4000000 in
theorem out6_wp {c : Chn} {row : List Int} {out0 : List Hnd} {h0 : Int} {b3 gr B : Nat} {A : Option Addr} {n cp : Nat} {v2 : Value} {A0 : Option Addr} {n0 d0 : Nat} {w : World} {a0 : Act} {v4 v5 v7 v24 v25 v26 : Value} {Q : Exit → Act → World → Prop}
    (hn : n = c.houses.length) (hn6 : n ≤ 6) (hrl : row.length = n) (hol : out0.length ≤ 1000) (hBw : B ≤ w.heap.size) (hb3 : b3 < B)
    (hF : Fr 97 [(1, .pointer (some ⟨b3, 0, none⟩)), (4, v4), (5, v5), (6, .slice A0 n0 d0), (7, v7), (8, .int .i64 h0), (24, v24), (25, v25), (26, v26), (74, .slice (some ⟨gr, 0, none⟩) n n), (75, .int .i64 (n : Int)), (76, .int .i64 0)] [] a0)
    (hB : Blk w b3 25 #[.slice A n cp, v2]) (hh : SlI w (.slice A n cp) c.houses) (hhB : 0 < c.houses.length → ∀ b o, A = some ⟨b, o, none⟩ → b < B) (hRw : RowI w gr row) (hO : Own encHd 99 3 w B (.slice A0 n0 d0) out0)
    (hQ : ∀ A' W' A1 n1 d1, Fr 97 [(1, .pointer (some ⟨b3, 0, none⟩)), (4, v4), (5, v5), (6, .slice A1 n1 d1), (7, v7), (8, .int .i64 h0), (24, v24), (25, v25), (26, v26)] [] A' →
      Below B w W' → Own encHd 99 3 W' B (.slice A1 n1 d1) (out0 ++ outRow c h0 row) → Q .normal A' W') :
    (subC [1, 1, 1, 1, 1, 0, 1, 2, 3, 1, 1, 0, 2, 1, 1, 1, 1] (Tryd.f31.body.getD .skip)).wp Tryd.prog Q a0 w := by
  have HB := Lib.hid hB; have HH := Lib.hid hh; have HHB := Lib.hid hhB; have HRW := Lib.hid hRw; have HO := Lib.hid hO; have HQ := Lib.hid hQ; have HN := Lib.hid hn
  clear hB hh hhB hRw hO hQ hn
  delta Tryd.f31
  simp only [subC, Option.getD_some]
  obtain ⟨ρ, rfl, hρ⟩ := hF.open_
  simp only [List.forall_mem_cons] at hρ
  obtain ⟨r1, r4, r5, r6, r7, r8, r24, r25, r26, r74, r75, r76, -⟩ := hρ
  simp only [lst, Nat.reduceAdd, r1, r4, r5, r6, r7, r8, r24, r25, r26, r74, r75, r76]
  clear r1 r4 r5 r6 r7 r8 r24 r25 r26 r74 r75 r76 hF
  go_wp2
  refine wp_loop_ghost_k (fun g A' W => ∃ (k : Nat) (A1 : Option Addr) (n1 d1 : Nat), k ≤ n ∧ n - k ≤ g ∧ Fr 97 [(1, .pointer (some ⟨b3, 0, none⟩)), (4, v4), (5, v5), (6, .slice A1 n1 d1), (7, v7), (8, .int .i64 h0), (24, v24), (25, v25), (26, v26), (74, .slice (some ⟨gr, 0, none⟩) n n), (75, .int .i64 (n : Int)), (76, .int .i64 (k : Int))] [] A' ∧
    Below B w W ∧ RowI W gr row ∧ Own encHd 99 3 W B (.slice A1 n1 d1) (out0 ++ outTo c h0 row k)) n ?_ ?_
  · exact ⟨0, A0, n0, d0, by omega, by omega, ⟨rfl, rfl, by simp [Act.eval]⟩, Below.refl _ _, HRW.out, by simpa [outTo] using HO.out⟩
  · rintro g A' W ⟨k, A1, n1, d1, hk, hg, hF, hE, hRw, hO⟩ J K' hJ hK
    have HJ := Lib.hid hJ; have EW := Lib.hid hE; have RW := Lib.hid hRw; have OW := Lib.hid hO
    obtain ⟨ρ, rfl, hρ⟩ := hF.open_
    simp only [List.forall_mem_cons] at hρ
    obtain ⟨r1, r4, r5, r6, r7, r8, r24, r25, r26, r74, r75, r76, -⟩ := hρ
    simp only [lst, Nat.reduceAdd, r1, r4, r5, r6, r7, r8, r24, r25, r26, r74, r75, r76]
    clear r1 r4 r5 r6 r7 r8 r24 r25 r26 r74 r75 r76 hF hE hRw hO hJ
    have hz := EW.out.size
    by_cases hkn : k < n
    · have hkz : (k : Int) < (n : Int) := by omega
      obtain ⟨y, hy⟩ : ∃ y, row[k]? = some y := ⟨_, List.getElem?_eq_getElem (by omega)⟩
      have HHW := Lib.hid (HH.out.below EW.out HHB.out)
      obtain ⟨bh, oh, th, rfl, hth, -, hcell⟩ := HHW.out.at_ hkn
      have ch := SlI.cell hcell (Ext.refl _)
      have HST := Lib.hid (outTo_succ (h := h0) hth hy)
      have hrc := RW.out.cell hy
      have hrf := RW.out.frozen
      have hrg := RW.out.lt
      obtain ⟨b0, b1, bf, bl⟩ := (show Blk W b3 _ _ from (EW.out.block b3 hb3).trans HB.out).c2
      have hlen := outTo_len c h0 row k
      clear hcell hth hy
      by_cases h0y : 0 < y
      · have HYP := Lib.hid h0y
        go_wp2_with (at_builtin; refine wpList_app encHd 41 99 3 _ 24 Tryd.underlying41 info99x rfl (by decide) (by decide) (fun _ => rfl) encHd_1 rfl (.tmp 83) (.tmp 92) rfl B _ (out0 ++ outTo c h0 row k) rfl (OW.out.alloc _) W.heap.size 1 ⟨h0, th, y⟩ rfl (cells3h (by simp [go_sem]) (by simp [go_sem]) (by simp [go_sem])) (by simp; omega) (by simp; omega) ?_)
        intro g9 cap w9 hown hg9 hbel hgr
        have HO9 := Lib.hid hown
        have HE9 := Lib.hid (show Below B w w9 from (EW.out.alloc (by omega) _).trans hbel)
        have HR9 := Lib.hid (show RowI w9 gr row from Blk.grown (RW.out.alloc _) hgr (own_ne OW.out RW.out (by decide)))
        clear hown hbel hgr b0 b1 bf bl ch hrc hrf hrg
        go_wp2
        exact Handed.intro (n - (k + 1)) (by omega) (HJ.out _ _ _ ⟨k + 1, _, _, _, by omega, Nat.le_refl _, ⟨rfl, rfl, by simp [Act.eval]; first | done | exact ⟨rfl, rfl, rfl⟩⟩, HE9.out, HR9.out, by rw [HST.out, if_pos HYP.out]; exact HO9.out⟩)
      · have h0d : decide (0 < y) = false := decide_eq_false h0y
        have HYP := Lib.hid h0y
        go_wp2
        exact Handed.intro (n - (k + 1)) (by omega) (HJ.out _ _ _ ⟨k + 1, A1, n1, d1, by omega, Nat.le_refl _, ⟨rfl, rfl, by simp [Act.eval]⟩, EW.out, RW.out, by rw [HST.out, if_neg (c := 0 < y) (by have := HYP.out; omega), List.append_nil]; exact OW.out⟩)
    · have HE := Lib.hid (show k = n by omega)
      go_wp2
      have ho := OW.out
      rw [outTo_all (by have := HE.out; have := HN.out; omega)] at ho
      exact HQ.out _ _ A1 n1 d1 ⟨rfl, rfl, by simp [Act.eval]⟩ EW.out ho
end Go.Proofs.YtafdbgielmlihaaDoor
/- The reference's Hands, part six: a house that owes nothing hands nothing on. -/
namespace Go.Proofs.YtafdbgielmlihaaDoor
open Go.RowKit Go.Shelf Go.Lib
set_option maxRecDepth 100000
set_option linter.unusedSimpArgs false

set_option maxHeartbeats 4000000 in
theorem rows0_wp {g0 : Int} {w : World} {a0 : Act} {v1 v4 v5 v6 v7 v8 v9 v24 v25 v26 : Value} {Q : Exit → Act → World → Prop}
    (hg : 0 ≤ g0)
    (hF : Fr 97 [(1, v1), (4, v4), (5, v5), (6, v6), (7, v7), (8, v8), (9, v9), (10, .int .i64 g0), (24, v24), (25, v25), (26, v26)] [] a0)
    (hQ : ∀ A', Fr 97 [(1, v1), (4, v4), (5, v5), (6, v6), (7, v7), (8, v8), (9, v9), (24, v24), (25, v25), (26, v26)] [] A' → Q .normal A' w) :
    (subC [1, 1, 1, 1, 1, 0, 1, 2, 3, 1, 1, 0, 2, 1, 1, 0, 1] (Tryd.f31.body.getD .skip)).wp Tryd.prog Q a0 w := by
  have HQ := Lib.hid hQ
  clear hQ
  delta Tryd.f31
  simp only [subC, Option.getD_some]
  obtain ⟨ρ, rfl, hρ⟩ := hF.open_
  simp only [List.forall_mem_cons] at hρ
  obtain ⟨r1, r4, r5, r6, r7, r8, r9, r10, r24, r25, r26, -⟩ := hρ
  simp only [lst, Nat.reduceAdd, r1, r4, r5, r6, r7, r8, r9, r10, r24, r25, r26]
  clear r1 r4 r5 r6 r7 r8 r9 r10 r24 r25 r26 hF
  have hz : ¬ g0 < 0 := by omega
  go_wp2
  refine wp_loop_ghost_k (fun g A' W => W = w ∧ Fr 97 [(1, v1), (4, v4), (5, v5), (6, v6), (7, v7), (8, v8), (9, v9), (10, .int .i64 g0), (24, v24), (25, v25), (26, v26)] [] A') 0 ?_ ?_
  · exact ⟨rfl, ⟨rfl, rfl, by simp [Act.eval]⟩⟩
  · rintro g A' W ⟨rfl, hF⟩ J K' hJ hK
    obtain ⟨ρ, rfl, hρ⟩ := hF.open_
    simp only [List.forall_mem_cons] at hρ
    obtain ⟨r1, r4, r5, r6, r7, r8, r9, r10, r24, r25, r26, -⟩ := hρ
    simp only [lst, Nat.reduceAdd, r1, r4, r5, r6, r7, r8, r9, r10, r24, r25, r26]
    clear r1 r4 r5 r6 r7 r8 r9 r10 r24 r25 r26 hF
    go_wp2
    exact HQ.out _ ⟨rfl, rfl, by simp [Act.eval]⟩
end Go.Proofs.YtafdbgielmlihaaDoor
/- The reference's Hands, part seven: what the loop over the houses keeps. -/
namespace Go.Proofs.YtafdbgielmlihaaDoor
open Go.RowKit Go.Shelf Go.Lib
set_option maxRecDepth 100000
set_option linter.unusedSimpArgs false

theorem own_same {α : Type} {enc : α → List Value} {e : TypeId} {sz base : Nat} {W W' : World} {v : Value} {l : List α} (h : Own enc e sz W base v l) (hs : ∀ g, v.ownBlock = some g → W'.heap[g]? = W.heap[g]?) : Own enc e sz W' base v l := by
  refine ⟨h.1, ?_⟩
  rcases h.2 with h2 | ⟨g, cap, cur, e1, hb, hg, h5⟩
  · exact .inl h2
  · exact .inr ⟨g, cap, cur, e1, hb, (hs g (by rw [e1]; rfl)).trans hg, h5⟩
theorem own_rng {α : Type} {enc : α → List Value} {e : TypeId} {sz base : Nat} {W : World} {v : Value} {l : List α} (h : Own enc e sz W base v l) {g : Nat} (hg : v.ownBlock = some g) : base ≤ g ∧ g < W.heap.size := World.ownsRow.lt h g hg
/-- A list in own memory, where only an older block and a newer one turn. -/
theorem own_two {α : Type} {enc : α → List Value} {e : TypeId} {sz base g1 g2 : Nat} {W W' : World} {v : Value} {l : List α} (h : Own enc e sz W base v l) (k : TwoG g1 g2 W W') (h1 : g1 < base) (h2 : ∀ g, v.ownBlock = some g → g ≠ g2) : Own enc e sz W' base v l :=
  own_same h fun g hg => k.block g (own_rng h hg).2 (by have := (own_rng h hg).1; omega) (h2 g hg)
theorem TwoG.far {w A B : World} {g1 g2 : Nat} (h : w.grownBy A (some g1)) (k : TwoG g1 g2 A B) (hg : w.heap.size ≤ g2) : w.grownBy B (some g1) :=
  ⟨k.os.trans h.os, k.tape.trans h.tape, k.output.trans h.output, Nat.le_trans h.size k.size, fun i hi hne => (k.block i (Nat.lt_of_lt_of_le hi h.size) (fun e => hne (by rw [e])) (by omega)).trans (h.block i hi hne)⟩
theorem TwoG.ofAl {w A : World} (o : Obj) (g1 g2 : Nat) (h : TwoG g1 g2 (w.alloc o) A) : TwoG g1 g2 w A :=
  ⟨h.os, h.tape, h.output, Nat.le_trans (by simp) h.size, fun i hi h1 h2 => (h.block i (by simp; omega) h1 h2).trans ((Ext.al w o).block i hi)⟩
theorem RowX.at_ {w w' : World} {g : Nat} {m : List Int} (h : RowX w g m) (e : w'.heap[g]? = w.heap[g]?) : RowX w' g m := by
  obtain ⟨cur, h, h1⟩ := h
  exact ⟨cur, e.trans h, h1⟩
theorem handsTo_succ {c : Chn} {l gets : List Int} {k : Nat} {h g : Int} (hh : c.houses[k]? = some h) (hg : gets[k]? = some g) :
    handsTo c l gets (k + 1) = ((handRow c h (-g).toNat ((handsTo c l gets k).1, List.replicate c.houses.length 0)).1, (handsTo c l gets k).2 ++ outRow c h (handRow c h (-g).toNat ((handsTo c l gets k).1, List.replicate c.houses.length 0)).2) := by
  rw [handsTo]
  simp only [hh, hg]
theorem outRow_len (c : Chn) (h : Int) (row : List Int) : (outRow c h row).length ≤ c.houses.length := by
  unfold outRow
  rw [List.length_map]
  refine Nat.le_trans (List.length_filter_le _ _) ?_
  rw [List.length_zip]
  omega
theorem rep_zero (n : Nat) : ∀ y ∈ List.replicate n (0 : Int), 0 ≤ y ∧ y ≤ 0 := fun y hy => by have := List.eq_of_mem_replicate hy; omega
theorem handsTo_ok {c : Chn} {l gets : List Int} (hR : Right c) (hm : Mvs c l) (hgl : gets.length = c.houses.length) : ∀ k, k ≤ c.houses.length → Mvs c (handsTo c l gets k).1 ∧ (handsTo c l gets k).2.length ≤ 6 * k
  | 0, _ => ⟨hm, Nat.le_refl _⟩
  | k + 1, hk => by
    obtain ⟨h1, h2⟩ := handsTo_ok hR hm hgl k (by omega)
    have hh := List.getElem?_eq_getElem (l := c.houses) (i := k) (by omega)
    rw [handsTo_succ hh (List.getElem?_eq_getElem (by omega))]
    refine ⟨(handRow_ok hR (List.mem_of_getElem? hh) h1 (B := 0) (row := List.replicate c.houses.length 0) (by simp) (rep_zero _) _).1, ?_⟩
    dsimp only
    rw [List.length_append]
    have := outRow_len c (c.houses[k]'(by omega)) (handRow c (c.houses[k]'(by omega)) (-gets[k]'(by omega)).toNat ((handsTo c l gets k).1, List.replicate c.houses.length 0)).2
    have := hR.h6
    omega
theorem gets_len (c : Chn) (l : List Int) : (getsL c l).length = c.houses.length := by simp [getsL]
theorem gets_bd {c : Chn} {l : List Int} (hm : Mvs c l) (h10 : c.sales.length ≤ 10) : ∀ g ∈ getsL c l, -100 ≤ g ∧ g ≤ 100 := by
  intro g hg
  unfold getsL at hg
  obtain ⟨v, -, rfl⟩ := List.mem_map.1 hg
  have h1 := net_bd (B := 9) v (by decide) (salsOf c) l (fun y hy => by have := hm.b y hy; omega)
  have h2 := hm.l
  omega
theorem gets_nil {c : Chn} {l : List Int} (h0 : c.sales.length = 0) : ∀ g ∈ getsL c l, g = 0 := by
  intro g hg
  unfold getsL at hg
  obtain ⟨v, -, rfl⟩ := List.mem_map.1 hg
  have : salsOf c = [] := List.eq_nil_of_length_eq_zero (by rw [sals_len]; exact h0)
  rw [this]
  rfl
theorem Sl.blk {α : Type} {enc : α → List Value} {sz : Nat} {w : World} {a : Option Addr} {n c : Nat} {l : List α} (h : Sl enc sz w (.slice a n c) l) (h0 : 0 < l.length) : ∀ b o, a = some ⟨b, o, none⟩ → b < w.heap.size := by
  obtain ⟨a', c', hv, hl, hc, hcell⟩ := h
  injection hv with e1 e2 e3
  subst e1
  obtain ⟨b, off, hA, hb, -⟩ := hcell h0
  intro b' o' e
  rw [hA] at e
  injection e with e
  injection e with e
  omega
/-- All bales of a house, whether it owes or not. -/
theorem rowsX_wp {c : Chn} {m0 : List Int} {h0 g0 : Int} {b3 gm gr N : Nat} {Am : Option Addr} {A : Option Addr} {n cp : Nat} {A2 : Option Addr} {n2 cp2 cm : Nat} {w : World} {a0 : Act} {v5 v6 v7 v24 v25 v26 : Value} {Q : Exit → Act → World → Prop}
    (hR : Right c) (hl : c.sales.length ≤ 1000) (hN : N = c.sales.length) (hn : n = c.houses.length) (hh0 : h0 ∈ c.houses) (hcm : N ≤ cm) (hcM : cm ≤ maxLen) (hm : Mvs c m0) (hg : -10000 ≤ g0 ∧ g0 ≤ 10000) (hg0 : g0 < 0 → 0 < N)
    (hF : Fr 97 [(1, .pointer (some ⟨b3, 0, none⟩)), (4, .slice Am N cm), (5, v5), (6, v6), (7, v7), (8, .int .i64 h0), (9, .slice (some ⟨gr, 0, none⟩) n n), (10, .int .i64 g0), (24, v24), (25, v25), (26, v26)] [] a0)
    (hB : Blk w b3 25 #[.slice A n cp, .slice A2 n2 cp2]) (hh : SlI w (.slice A n cp) c.houses) (hs : SlL w (.slice A2 n2 cp2) c.sales) (hX : 0 < N → Am = some ⟨gm, 0, none⟩ ∧ RowX w gm m0) (hRw : RowI w gr (List.replicate n 0)) (x0 : b3 ≠ gm) (x1 : 0 < N → gr ≠ gm) (x2 : b3 ≠ gr)
    (xh : 0 < c.houses.length → ∀ b o, A = some ⟨b, o, none⟩ → b ≠ gm ∧ b ≠ gr) (xs : 0 < c.sales.length → ∀ b o, A2 = some ⟨b, o, none⟩ → b ≠ gm ∧ b ≠ gr)
    (hQ : ∀ A' W', Fr 97 [(1, .pointer (some ⟨b3, 0, none⟩)), (4, .slice Am N cm), (5, v5), (6, v6), (7, v7), (8, .int .i64 h0), (9, .slice (some ⟨gr, 0, none⟩) n n), (24, v24), (25, v25), (26, v26)] [] A' →
      TwoG gm gr w W' → (N = 0 → W' = w) → (0 < N → RowX W' gm (handRow c h0 (-g0).toNat (m0, List.replicate n 0)).1) → RowI W' gr (handRow c h0 (-g0).toNat (m0, List.replicate n 0)).2 → Q .normal A' W') :
    (subC [1, 1, 1, 1, 1, 0, 1, 2, 3, 1, 1, 0, 2, 1, 1, 0, 1] (Tryd.f31.body.getD .skip)).wp Tryd.prog Q a0 w := by
  by_cases h : 0 ≤ g0
  · have hz : (-g0).toNat = 0 := by omega
    rw [hz] at hQ
    refine rows0_wp h hF fun A' hF' => hQ A' w hF' (TwoG.refl _ _ _) (fun _ => rfl) (fun h => (hX h).2) hRw
  · have h0 := hg0 (by omega)
    obtain ⟨rfl, hx⟩ := hX h0
    exact rows_wp hR hl hN hn hh0 hcm hcM hm hg hF hB hh hs hx hRw x0 (x1 h0) x2 xh xs fun A' W' a b c d => hQ A' W' a b (fun h => by omega) (fun _ => c) d
end Go.Proofs.YtafdbgielmlihaaDoor
/- The program's Hands, plain: where bales stay is counted in a map. -/
namespace Go.Proofs.YtafdbgielmlihaaDoor
open Go.RowKit Go.Shelf
set_option linter.unusedSimpArgs false

/-- A house's place. -/
theorem house_idx {c : Chn} (hR : Right c) {i : Nat} {t : Int} (hi : c.houses[i]? = some t) : houseI c t = i := by
  unfold houseI
  rcases idxF_cases (fun h => decide (h = t)) c.houses with ⟨-, h⟩ | ⟨k, x, e, hx, hp, -⟩
  · have := h t (List.mem_of_getElem? hi)
    simp at this
  · have hxt : x = t := of_decide_eq_true hp
    subst hxt
    rw [e]
    have hp := List.pairwise_iff_getElem.1 (rising_pair hR.hr)
    obtain ⟨h1, h2⟩ := List.getElem?_eq_some_iff.1 hi
    obtain ⟨h3, h4⟩ := List.getElem?_eq_some_iff.1 hx
    rcases Nat.lt_trichotomy k i with h | h | h
    · have := hp k i h3 h1 h; omega
    · rw [h]
    · have := hp i k h1 h3 h; omega
/-- So many bales of the house go on; a map counts where they stay. -/
def cntTo (c : Chn) (h : Int) (m : List Int) : Nat → List Int × (Int → Int)
  | 0 => (m, fun _ => 0)
  | k + 1 => ((follow c (cntTo c h m k).1 h).1, fun x => if x = (follow c (cntTo c h m k).1 h).2 then (cntTo c h m k).2 x + 1 else (cntTo c h m k).2 x)
theorem cnt_bd (c : Chn) (h : Int) (m : List Int) : ∀ (k : Nat) (x : Int), 0 ≤ (cntTo c h m k).2 x ∧ (cntTo c h m k).2 x ≤ k
  | 0, x => by simp [cntTo]
  | k + 1, x => by
    have := cnt_bd c h m k x
    rw [cntTo]
    dsimp only
    split <;> omega
theorem cnt_row {c : Chn} (hR : Right c) {h : Int} (hh : h ∈ c.houses) {m : List Int} (hm : Mvs c m) : ∀ k, (cntTo c h m k).1 = (handRow c h k (m, List.replicate c.houses.length 0)).1 ∧
    ∀ (i : Nat) (t : Int), c.houses[i]? = some t → (handRow c h k (m, List.replicate c.houses.length 0)).2[i]? = some ((cntTo c h m k).2 t)
  | 0 => ⟨rfl, fun i t hi => by
      have := (List.getElem?_eq_some_iff.1 hi).1
      rw [handRow, cntTo, List.getElem?_replicate, if_pos this]⟩
  | k + 1 => by
    obtain ⟨h1, h2⟩ := cnt_row hR hh hm k
    obtain ⟨h3, -, -⟩ := handRow_ok hR hh hm (B := 0) (row := List.replicate c.houses.length 0) (by simp) (rep_zero _) k
    have hfo := (follow_ok hR h3 hh).2
    have hlt := houseI_lt hfo
    refine ⟨by rw [cntTo, handRow, h1], fun i t hi => ?_⟩
    rw [handRow, cntTo, bump_get, h2 i t hi, h1, Option.map_some]
    congr 1
    have key : ((houseI c (follow c (handRow c h k (m, List.replicate c.houses.length 0)).1 h).2).toNat = i) ↔ t = (follow c (handRow c h k (m, List.replicate c.houses.length 0)).1 h).2 := by
      constructor
      · intro e
        exact house_inj (house_idx hR hi) (by omega)
      · intro e
        rw [← e, house_idx hR hi]
        omega
    simp only [key]
/-- What each house owes, when the first k of them have handed out all, and the next one j bales. -/
def OweAt (c : Chn) (gets : List Int) (k j : Nat) (g : Int → Int) : Prop := ∀ (i : Nat) (t x : Int), k ≤ i → c.houses[i]? = some t → gets[i]? = some x → g t = ((-x).toNat : Int) - (if i = k then (j : Int) else 0)
/-- .. and while the map is filled. -/
def OweTo (c : Chn) (gets : List Int) (k : Nat) (g : Int → Int) : Prop := ∀ (i : Nat) (t x : Int), c.houses[i]? = some t → gets[i]? = some x → g t = if i < k then ((-x).toNat : Int) else 0
theorem owe_start (c : Chn) (gets : List Int) : OweTo c gets 0 fun _ => 0 := fun i t x _ _ => by simp
theorem owe_put {c : Chn} (hR : Right c) {gets : List Int} {k : Nat} {g : Int → Int} {t x : Int} (h : OweTo c gets k g) (ht : c.houses[k]? = some t) (hx : gets[k]? = some x) (h0 : x < 0) : OweTo c gets (k + 1) (fun y => if y = t then -x else g y) := by
  intro i t' x' ht' hx'
  by_cases e : i = k
  · subst e
    rw [ht] at ht'; rw [hx] at hx'
    injection ht' with ht'; injection hx' with hx'
    subst ht' hx'
    simp only [if_true]
    rw [if_pos (by omega)]
    omega
  · have hne : t' ≠ t := fun e2 => e (by subst e2; have := house_idx hR ht'; have := house_idx hR ht; omega)
    simp only [if_neg hne]
    rw [h i t' x' ht' hx']
    by_cases h1 : i < k
    · rw [if_pos h1, if_pos (by omega)]
    · rw [if_neg h1, if_neg (by omega)]
theorem owe_skip {c : Chn} {gets : List Int} {k : Nat} {g : Int → Int} {x : Int} (h : OweTo c gets k g) (hx : gets[k]? = some x) (h0 : ¬ x < 0) : OweTo c gets (k + 1) g := by
  intro i t' x' ht' hx'
  rw [h i t' x' ht' hx']
  by_cases e : i = k
  · subst e
    rw [hx] at hx'
    injection hx' with hx'
    subst hx'
    rw [if_neg (by omega), if_pos (by omega)]
    omega
  · by_cases h1 : i < k
    · rw [if_pos h1, if_pos (by omega)]
    · rw [if_neg h1, if_neg (by omega)]
theorem owe_full {c : Chn} {gets : List Int} {k : Nat} {g : Int → Int} (h : OweTo c gets k g) (hk : c.houses.length ≤ k) : OweAt c gets 0 0 g := fun i t x _ ht hx => by
  have := (List.getElem?_eq_some_iff.1 ht).1
  rw [h i t x ht hx, if_pos (by omega)]
  split <;> simp
theorem owe_step {c : Chn} (hR : Right c) {gets : List Int} {k j : Nat} {g g' : Int → Int} {t : Int} (h : OweAt c gets k j g) (ht : c.houses[k]? = some t) (h1 : g' t = g t - 1) (h2 : ∀ y, y ≠ t → g' y = g y) : OweAt c gets k (j + 1) g' := by
  intro i t' x' hi ht' hx'
  by_cases e : i = k
  · subst e
    rw [ht] at ht'
    injection ht' with ht'
    subst ht'
    rw [h1, h i t x' hi ht hx', if_pos rfl, if_pos rfl]
    omega
  · have hne : t' ≠ t := fun e2 => e (by subst e2; have := house_idx hR ht'; have := house_idx hR ht; omega)
    rw [h2 t' hne, h i t' x' hi ht' hx', if_neg e, if_neg e]
theorem owe_next {c : Chn} {gets : List Int} {k j : Nat} {g : Int → Int} (h : OweAt c gets k j g) : OweAt c gets (k + 1) 0 g := by
  intro i t x hi ht hx
  rw [h i t x (by omega) ht hx, if_neg (by omega)]
  split <;> simp
end Go.Proofs.YtafdbgielmlihaaDoor
