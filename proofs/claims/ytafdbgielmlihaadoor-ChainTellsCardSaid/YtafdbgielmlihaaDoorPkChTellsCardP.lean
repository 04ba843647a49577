/- The reference's closing, Close and Owed. -/
import Derived.Test.YtafdbgielmlihaaDoorPkChTellsCardO
import Derived.Test.YtafdbgielmlihaaDoorPkChTellsCardN
namespace Go.Proofs.YtafdbgielmlihaaDoor
open Go.RowKit Go.Shelf Go.Lib
set_option maxRecDepth 100000
set_option linter.unusedSimpArgs false

theorem range_at (N i : Nat) : (List.range N)[i]? = if i < N then some i else none := by
  by_cases h : i < N <;> simp [h]
/-- The costs of the closing, of which the last j are set. -/
def kTo (N j : Nat) : List Int := (List.range N).map fun i => if N - j ≤ i then refF N i else 0
theorem kTo_len (N j : Nat) : (kTo N j).length = N := by simp [kTo]
theorem kTo_zero (N : Nat) : kTo N 0 = List.replicate N 0 := by
  apply List.ext_getElem?
  intro i
  unfold kTo
  rw [List.getElem?_map, range_at, List.getElem?_replicate]
  split
  · rw [Option.map_some, if_neg (by omega)]
  · rfl
theorem kTo_succ {N j : Nat} (h : j < N) : kTo N (j + 1) = (kTo N j).set (N - 1 - j) (10000000000000 + 10 ^ j) := by
  apply List.ext_getElem?
  intro i
  rw [List.getElem?_set, kTo_len]
  unfold kTo
  rw [List.getElem?_map, List.getElem?_map, range_at]
  by_cases hi : i < N
  · rw [if_pos hi, Option.map_some]
    by_cases e : N - 1 - j = i
    · rw [if_pos e, if_pos (by omega), if_pos (by omega)]
      unfold refF
      rw [show N - 1 - i = j by omega]
    · rw [if_neg e, Option.map_some]
      by_cases e2 : N - j ≤ i
      · rw [if_pos e2, if_pos (by omega)]
      · rw [if_neg e2, if_neg (by omega)]
  · rw [if_neg hi]
    rw [if_neg (by omega)]
    rfl
theorem kTo_all {N : Nat} : ∀ (i : Nat) (y : Int), (kTo N N)[i]? = some y → y = refF N i := by
  intro i y h
  unfold kTo at h
  rw [List.getElem?_map] at h
  obtain ⟨k, hk, hy⟩ := Option.map_eq_some_iff.1 h
  rw [range_at] at hk
  split at hk
  · injection hk with hk
    subst hk
    rw [if_pos (by omega)] at hy
    exact hy.symm
  · cases hk
theorem refF_bd {N : Nat} (h : N ≤ 11) (i : Nat) : -20000000000000 ≤ refF N i ∧ refF N i ≤ 20000000000000 := by
  have h1 := pow10_le (n := N - 1 - i) (by omega)
  have h2 := Int.pow_pos (n := 10) (m := N - 1 - i) (by decide)
  unfold refF
  omega
set_option maxHeartbeats 2000000 in
theorem refclosing_any (c : Chn) (l : List Int) (hv sv : Value) (w : World) (hcl : IsClose c l) (hR : Right c) (hs11 : c.sales.length ≤ 11) (hh : SlI w hv c.houses) (hs : SlL w sv c.sales) :
    Calls Tryd.prog 76 #[valC hv sv] w fun e w' => (∃ v, e = .returned v ∧ SlI w' v l) ∧ Ext w w' := by
  have HCLO := Lib.hid hcl; have HR := Lib.hid hR; have HS11 := Lib.hid hs11; have HH := Lib.hid hh; have HS := Lib.hid hs
  obtain ⟨A, n, cp, rfl, hn, hlc, hcm⟩ := hh.form
  obtain ⟨A2, n2, cp2, rfl, hn2, hlc2, hcm2⟩ := hs.form
  have hn11 : n2 ≤ 11 := by have := hn2.out; omega
  clear hh hs hR hs11 hcl
  have B0 := Lib.hid (show Blk (w.alloc (.cells #[.slice A n cp, .slice A2 n2 cp2] 25)) w.heap.size 25 #[.slice A n cp, .slice A2 n2 cp2] from Blk.new _ _ _)
  dsimp only [valC]
  go_enter Tryd.func76, Tryd.ntmps76
  go_wp2
  go_loopg [3, 9] n2 (fun gg la s wr => ∃ (kk : Nat) (A1 : Option Addr) (n1 d1 : Nat), kk ≤ n2 ∧ n2 - kk ≤ gg ∧ s = .int .i64 kk ∧ la = .slice A1 n1 d1 ∧ Aside (Own encI 3 1 wr (w.heap.size + 1) (.slice A1 n1 d1) (List.replicate kk 0)) ∧ Aside (Blk wr w.heap.size 25 #[.slice A n cp, .slice A2 n2 cp2]) ∧ Aside (Ext w wr))
  case atStart => exact ⟨0, none, 0, 0, Nat.zero_le _, by omega, rfl, rfl, Own.nil _ _, B0.out, Ext.al w _⟩
  case round =>
    obtain ⟨kk, A1, n1, d1, hkk, hg, rfl, rfl, OW, B1, BW⟩ := hrel
    by_cases hlt : kk < n2
    · have hltz : (kk : Int) < (n2 : Int) := by omega
      have hz := BW.out.size
      have hb1 := B1.out.lt
      go_wp2_with (at_builtin; refine wpList_app encI 22 3 1 _ 8 Tryd.underlying22 info3x rfl (by decide) (by decide) (fun _ => rfl) encI_one rfl (.tmp 11) (.tmp 12) rfl (w.heap.size + 1) _ (List.replicate kk 0) rfl (OW.out.alloc _) wr.heap.size 1 0 rfl (cells1 (by simp [go_sem])) (by simp; omega) (by simp; omega) ?_)
      intro g cap w1 hown hg1 hbel hgr
      have HO := Lib.hid (show Own encI 3 1 w1 (w.heap.size + 1) (.slice (some ⟨g, 0, none⟩) (kk + 1) cap) (List.replicate (kk + 1) 0) from by
        have h := hown
        rw [List.replicate_succ']
        simpa using h)
      have HB := Lib.hid (show Below (w.heap.size + 1) wr w1 from Below.trans ((Below.refl _ wr).alloc (by omega) _) hbel)
      clear hown hbel hgr
      go_wp2
      go_roundg (n2 - (kk + 1))
      case measure => omega
      case rel => exact ⟨kk + 1, _, _, _, by omega, by omega, by simp, rfl, HO.out, (HB.out.block _ (by omega)).trans B1.out, ⟨HB.out.os.trans BW.out.os, HB.out.tape.trans BW.out.tape, HB.out.output.trans BW.out.output, Nat.le_trans hz HB.out.size, fun i hi => (HB.out.block i (by omega)).trans (BW.out.block i hi)⟩⟩
    · have HE := Lib.hid (show kk = n2 by omega)
      have hz := BW.out.size
      have hb1 := B1.out.lt
      obtain ⟨cm, gm, hv', hcm, hcN, hgm, hrx⟩ : ∃ cm gm, n1 = n2 ∧ cm = d1 ∧ n2 ≤ d1 ∧ d1 ≤ maxLen ∧ (0 < n2 → A1 = some ⟨gm, 0, none⟩ ∧ w.heap.size < gm ∧ RowX wr gm (kTo n2 0)) := by
        have ho := OW.out
        rw [HE.out] at ho
        rcases rowX_own ho with ⟨h1, h2⟩ | ⟨g, c9, h1, h2, h3, h4, h5⟩
        · have h0 : n2 = 0 := by have := congrArg List.length h2; simpa using this
          injection h1 with e1 e2 e3
          subst e1 e2 e3
          exact ⟨0, 0, by omega, rfl, by omega, by decide, by omega⟩
        · rw [List.length_replicate] at h1 h3
          injection h1 with e1 e2 e3
          subst e1 e2 e3
          exact ⟨d1, g, rfl, rfl, h3, h4, fun _ => ⟨rfl, by omega, by rw [kTo_zero]; exact h5⟩⟩
      subst hv'
      have HRX := Lib.hid hrx
      clear hrx OW hcm
      have hpw : ((10 : Int) ^ 0) = 1 := rfl
      go_wp2
      refine wp_loop_ghost_k (fun g A' W => ∃ (j : Nat), j ≤ n1 ∧ n1 - j ≤ g ∧ Fr 32 [(1, .pointer (some ⟨w.heap.size, 0, none⟩)), (3, .slice A1 n1 d1), (4, .int .i64 (10 ^ j)), (5, .int .i64 ((n1 : Int) - 1 - (j : Int)))] [] A' ∧ Ext w W ∧ Blk W w.heap.size 25 #[.slice A n cp, .slice A2 n1 cp2] ∧
        (0 < n1 → A1 = some ⟨gm, 0, none⟩ ∧ w.heap.size < gm ∧ RowX W gm (kTo n1 j))) n1 ?_ ?_
      · exact ⟨0, by omega, by omega, ⟨rfl, rfl, by simp [Act.eval]⟩, BW.out, B1.out, HRX.out⟩
      · rintro g A' W ⟨j, hj, hg2, hF, hE, hB, hRx⟩ J K' hJ hK
        have HJ := Lib.hid hJ; have EW := Lib.hid hE; have B2 := Lib.hid hB; have RX := Lib.hid hRx
        obtain ⟨ρ, rfl, hρ⟩ := hF.open_
        simp only [List.forall_mem_cons] at hρ
        obtain ⟨r1, r3, r4, r5, -⟩ := hρ
        simp only [lst, Nat.reduceAdd, r1, r3, r4, r5]
        clear r1 r3 r4 r5 hF hE hB hRx hJ
        by_cases hjn : j < n1
        · obtain ⟨rfl, hgw, hrx⟩ := RX.out (by omega)
          obtain ⟨i, hi⟩ : ∃ i, n1 - 1 - j = i := ⟨_, rfl⟩
          have hix : (n1 : Int) - 1 - (j : Int) = (i : Int) := by omega
          have hin : (i : Int) < (n1 : Int) := by omega
          have hge : (0 : Int) ≤ (i : Int) := by omega
          obtain ⟨y, hy⟩ : ∃ y, (kTo n1 j)[i]? = some y := ⟨_, List.getElem?_eq_getElem (by rw [kTo_len]; omega)⟩
          have x0 := hrx.cell hy
          have xf := hrx.frozen
          have xl := hrx.lt
          have HRX2 := Lib.hid hrx
          have HST := Lib.hid (hi ▸ kTo_succ hjn)
          have hp1 := pow10_le (n := j) (by omega)
          have hp2 := Int.pow_pos (n := 10) (m := j) (by decide)
          have HPS := Lib.hid (show (10 : Int) ^ (j + 1) = 10 ^ j * 10 from Int.pow_succ _ _)
          obtain ⟨P, hP⟩ : ∃ P, P = (10 : Int) ^ j := ⟨_, rfl⟩
          rw [← hP] at hp1 hp2 HPS HST
          rw [hix, ← hP]
          clear hP hrx
          have hw0 : IntKind.i64.wrap (i : Int) = (i : Int) := by rw [IntKind.wrap_i64]; omega
          have hw1 : IntKind.i64.wrap (10000000000000 + P) = 10000000000000 + P := by rw [IntKind.wrap_i64]; omega
          have hw2 : IntKind.i64.wrap (P * 10) = P * 10 := by rw [IntKind.wrap_i64]; omega
          have hw3 : IntKind.i64.wrap ((i : Int) - 1) = (i : Int) - 1 := by rw [IntKind.wrap_i64]; omega
          go_wp2
          exact Handed.intro (n1 - (j + 1)) (by omega) (HJ.out _ _ _ ⟨j + 1, by omega, Nat.le_refl _, ⟨rfl, rfl, by simp [Act.eval, HPS.out]; omega⟩, EW.out.setCell (by dsimp only; omega) _, B2.out.far (by dsimp only; omega) _, fun _ => ⟨by trivial, hgw, by rw [HST.out]; exact HRX2.out.set _ _⟩⟩)
        · have HE2 := Lib.hid (show j = n1 by omega)
          have hix : (n1 : Int) - 1 - (j : Int) = -1 := by omega
          rw [hix]
          obtain ⟨b0, b1, bf, bl⟩ := B2.out.c2
          have HKS := Lib.hid (show SlI W (.slice A1 n1 d1) (kTo n1 n1) from by
            by_cases h0 : 0 < n1
            · obtain ⟨rfl, _, h2⟩ := RX.out h0
              rw [HE2.out] at h2
              have := h2.sl (c := d1) (by rw [kTo_len]; exact hcN) hgm
              rwa [kTo_len] at this
            · have : n1 = 0 := by omega
              subst this
              exact ⟨A1, d1, rfl, by simp [kTo], hgm, fun h => by simp [kTo] at h⟩)
          have HN := Lib.hid (show n1 = c.sales.length from hn2.out)
          go_wp2_with fail
          refine (cheapest_any (c := c) (f := refF c.sales.length) (Ks := kTo n1 n1) HR.out HS11.out (fun i y h => by rw [← HN.out]; exact kTo_all i y h) (by rw [kTo_len]; exact HN.out) (fun i => refF_bd HS11.out i) (HH.out.ext EW.out) (HS.out.ext EW.out) HKS.out).mono ?_
          rintro e W2 ⟨v, m, rfl, hE2, hsl, hO⟩
          have hm := close_ref HR.out HS11.out hO HCLO.out
          subst hm
          have EW2 := Lib.hid (EW.out.trans hE2); have HSL := Lib.hid hsl
          clear hE2 hsl hO b0 b1 bf bl
          go_wp2
          go_ret
          exact ⟨⟨_, rfl, HSL.out⟩, EW2.out⟩
set_option maxHeartbeats 1000000 in
theorem refClose_any (c : Chn) (l : List Int) (hv sv : Value) (w : World) (hcl : CloseOf c l) (hh : SlI w hv c.houses) (hs : SlL w sv c.sales) :
    Calls Tryd.prog 23 #[valC hv sv] w (SumE l (errB (checkP c) 60) w) := by
  have HH := Lib.hid hh; have HS := Lib.hid hs
  obtain ⟨A, n, cp, rfl, -, -, -⟩ := hh.form
  obtain ⟨A2, n2, cp2, rfl, -, -, -⟩ := hs.form
  clear hh hs
  have B0 := Lib.hid (show Blk (w.alloc (.cells #[.slice A n cp, .slice A2 n2 cp2] 25)) w.heap.size 25 #[.slice A n cp, .slice A2 n2 cp2] from Blk.new _ _ _)
  go_enter Tryd.func23, Tryd.ntmps23
  go_wp2_with fail
  refine (refChain_any c _ _ _ (HH.out.ext (Ext.al _ _)) (HS.out.ext (Ext.al _ _))).mono ?_
  rintro e w1 ⟨rfl, hE⟩
  have E1 := Lib.hid ((Ext.al w _).trans hE)
  have B1 := Lib.hid (B0.out.ext hE)
  clear hE
  cases hc : checkP c with
  | false =>
    have HO := Lib.hid (hcl.2 hc)
    have HCK := Lib.hid hc
    clear hcl
    dsimp only [errB]
    go_wp2
    go_ret3
    exact ⟨⟨.slice none 0 0, by rw [HO.out, HCK.out]; rfl, by rw [HO.out]; exact Sl.nil _⟩, E1.out⟩
  | true =>
    have HO := Lib.hid (hcl.1 hc)
    have HCK := Lib.hid hc
    clear hcl
    have HR := Lib.hid (check_right hc).1
    have HS10 := Lib.hid (check_right hc).2
    obtain ⟨b0, b1, bf, bl⟩ := B1.out.c2
    clear hc
    dsimp only [errB]
    go_wp2_with fail
    refine (refclosing_any c l _ _ _ HO.out HR.out (by have := HS10.out; omega) (HH.out.ext E1.out) (HS.out.ext E1.out)).mono ?_
    rintro e w2 ⟨⟨v, rfl, hsl⟩, hE⟩
    have E2 := Lib.hid (E1.out.trans hE); have HSL := Lib.hid hsl
    clear hE hsl b0 b1 bf bl
    go_wp2_with fail
    refine (f77_any l _ _ HSL.out (close_mild HR.out HO.out (by have := HS10.out; omega))).mono ?_
    rintro e w3 ⟨rfl, hE⟩
    have E3 := Lib.hid (E2.out.trans hE); have HSL3 := Lib.hid (HSL.out.ext hE)
    clear hE
    go_wp2
    go_ret3
    exact ⟨⟨_, by rw [HCK.out]; rfl, HSL3.out⟩, E3.out⟩
set_option maxHeartbeats 1000000 in
theorem refOwed_any (c : Chn) (hv sv : Value) (w : World) (hh : SlI w hv c.houses) (hs : SlL w sv c.sales) :
    Calls Tryd.prog 21 #[valC hv sv] w (ListE (owedL c) (errB (checkP c) 60) w) := by
  have HH := Lib.hid hh; have HS := Lib.hid hs
  obtain ⟨A, n, cp, rfl, -, -, -⟩ := hh.form
  obtain ⟨A2, n2, cp2, rfl, -, -, -⟩ := hs.form
  clear hh hs
  have B0 := Lib.hid (show Blk (w.alloc (.cells #[.slice A n cp, .slice A2 n2 cp2] 25)) w.heap.size 25 #[.slice A n cp, .slice A2 n2 cp2] from Blk.new _ _ _)
  go_enter Tryd.func21, Tryd.ntmps21
  go_wp2_with fail
  refine (refChain_any c _ _ _ (HH.out.ext (Ext.al _ _)) (HS.out.ext (Ext.al _ _))).mono ?_
  rintro e w1 ⟨rfl, hE⟩
  have E1 := Lib.hid ((Ext.al w _).trans hE)
  have B1 := Lib.hid (B0.out.ext hE)
  clear hE
  cases hc : checkP c with
  | false =>
    have HO := Lib.hid (show owedL c = [] by unfold owedL; rw [hc]; rfl)
    have HCK := Lib.hid hc
    clear hc
    dsimp only [errB]
    go_wp2
    go_ret2
    exact ⟨⟨.slice none 0 0, by rw [HCK.out]; rfl, by rw [HO.out]; exact Sl.nil _⟩, E1.out⟩
  | true =>
    have HO := Lib.hid (show owedL c = getsL c (balesOf c) by unfold owedL; rw [hc]; rfl)
    have HCK := Lib.hid hc
    have HR := Lib.hid (check_right hc).1
    have HS10 := Lib.hid (check_right hc).2
    clear hc
    dsimp only [errB]
    have m0 := fun W (h : Ext w1 W) => (B1.out.ext h).c2
    go_wp2
    refine wp_region_tame (fun W => Ext w1 W) (fun W W' => Ext W W') (by kernel_rfl) 11 rfl (by decide +kernel) (Ext.refl _).drew ?_
    repeat (apply tame_q rfl; (intro ρ W hC hr hD; (obtain ⟨hrc, hrg, hrf, hrs⟩ := hr); (simp [go_sem] at hD); go_simp; first | exact ⟨⟨hC, Ext.refl _⟩, rfl⟩ | exact ⟨⟨hC, RS.refl _⟩, rfl⟩ | exact rfl); simp only [List.nil_append, List.cons_append])
    apply tame_v rfl (fun v W => SlI W v (balesOf c)) (fun v W W' _ hE h => h.ext hE)
    · intro ρ W hC hr hD
      obtain ⟨hrc, hrg, hrf, hrs⟩ := hr
      simp [go_sem] at hD
      go_simp
      refine (f66_any c _ _ W (HH.out.ext (E1.out.trans hC)) (HS.out.ext (E1.out.trans hC)) (by have := HS10.out; omega)).mono ?_
      rintro e w' ⟨⟨v', rfl, ho⟩, hE⟩
      exact ⟨_, rfl, ⟨hC.trans hE, hE⟩, ho.sl (fun _ => rfl)⟩
    simp only [List.nil_append, List.cons_append]
    apply tame_v rfl (RowV w1.heap.size (getsL c (balesOf c))) (fun v W W' _ hE h => h.ext hE)
    · intro ρ W hC hr hD
      obtain ⟨hrc, hrg, hrf, hrs⟩ := hr
      simp [go_sem] at hD
      obtain ⟨d1, d3⟩ := hD
      have hz := hC.size
      clear m0
      go_simp
      refine (refGets_any c (balesOf c) _ _ _ W (HH.out.ext (E1.out.trans hC)) (HS.out.ext (E1.out.trans hC)) d3 HR.out (by have := HS10.out; omega) (bales_len c) (bales_bd HR.out)).mono ?_
      rintro e w' ⟨⟨g, rfl, hg, hr⟩, hE⟩
      exact ⟨_, rfl, ⟨hC.trans hE, hE⟩, ⟨g, rfl, by omega, hr⟩⟩
    simp only [List.nil_append, List.cons_append]
    apply tame_v rfl (RowV w1.heap.size (getsL c (balesOf c))) (fun v W W' _ hE h => h.ext hE)
    · intro ρ W hC hr hD
      obtain ⟨hrc, hrg, hrf, hrs⟩ := hr
      simp [go_sem] at hD
      go_simp
      exact ⟨hC, Ext.refl _⟩
    simp only [List.nil_append, List.cons_append]
    repeat (apply tame_q rfl; (intro ρ W hC hr hD; (obtain ⟨hrc, hrg, hrf, hrs⟩ := hr); (simp [go_sem] at hD); go_simp; first | exact ⟨⟨hC, Ext.refl _⟩, rfl⟩ | exact ⟨⟨hC, RS.refl _⟩, rfl⟩ | exact rfl); simp only [List.nil_append, List.cons_append])
    refine tame_end_put rfl rfl (fun ρ W hC hr hF => ?_)
    simp [go_sem] at hF
    obtain ⟨f1, f2, f3, f4, ⟨g, f7, -, hRL⟩, f8⟩ := hF
    simp only [putF, f1, f2, f7, f8, List.set_cons_succ, List.set_cons_zero]
    generalize ρ (Operand.tmp 9) = v12
    generalize ρ (Operand.tmp 10) = v14
    have EW := Lib.hid (E1.out.trans hC)
    have RL := Lib.hid hRL
    clear f1 f2 f7 f8 hr hC hRL m0
    have h6 := HR.out.h6
    go_wp2
    go_ret2
    exact ⟨⟨.slice (some ⟨g, 0, none⟩) (getsL c (balesOf c)).length (getsL c (balesOf c)).length, by rw [HCK.out]; rfl, by rw [HO.out]; exact RL.out.sl (by unfold maxLen; simp [getsL]; omega)⟩, EW.out⟩
end Go.Proofs.YtafdbgielmlihaaDoor
