/- Proof: the program's, whole. -/
import Derived.Test.YtafdbgielmlihaaDoorPkChLeastCardR
import Derived.Test.YtafdbgielmlihaaDoorPkChLeastCardQ
import Derived.Test.YtafdbgielmlihaaDoorPkChLeastCardN
import Derived.Test.YtafdbgielmlihaaDoorPkChLeastCardH
import Derived.Test.YtafdbgielmlihaaDoorPkChLeastCardE
import Derived.Test.YtafdbgielmlihaaDoorPkChLeastCardO
import Derived.Test.YtafdbgielmlihaaDoorPkChLeastCardA
import Derived.Test.YtafdbgielmlihaaDoorPkChLeastCardD
import Derived.ChangeKeysEq
namespace Go.Proofs.YtafdbgielmlihaaDoor
open Go.RowKit Go.Shelf Go.Lib
set_option maxRecDepth 100000
set_option linter.unusedSimpArgs false

/-- The numbers that prove a closing; none, where a chain is not valid. -/
def ProofOf (c : Chn) (l P : List Int) : Prop := (checkP c = true → IsPr c l P) ∧ (checkP c = false → P = [])
theorem pr_small {c : Chn} {l π : List Int} (hT : Top c l π) (h6 : ∀ v : Nat, 0 ≤ π[v]?.getD 0 ∧ π[v]?.getD 0 ≤ 6) (k i v : Nat) : 0 ≤ (prTo c l (prIt c l k) i)[v]?.getD 0 ∧ (prTo c l (prIt c l k) i)[v]?.getD 0 ≤ 6 := by
  have h1 := prTo_top hT (prIt_top hT (fun v => (h6 v).1) k) i v
  have h2 : ∀ (k v : Nat), 0 ≤ (prIt c l k)[v]?.getD 0 := by
    intro k
    induction k with
    | zero =>
      intro v
      unfold prIt
      rw [List.getElem?_replicate]
      split <;> simp
    | succ k ih =>
      intro v
      exact Int.le_trans (ih v) (prTo_up c l (prIt c l k) _ v)
  have h3 := prTo_up c l (prIt c l k) i v
  have h4 := h2 k v
  have h5 := h6 v
  omega
set_option maxHeartbeats 8000000 in
theorem proof_any (c : Chn) (l P : List Int) (hv sv : Value) (w : World) (hcl : CloseOf c l) (hpr : ProofOf c l P) (hT : Tab w) (hh : SlI w hv c.houses) (hs : SlL w sv c.sales) (hl : c.sales.length ≤ 1000) :
    Calls Tryd.prog 33 #[valC hv sv] w (ListE P (errB (checkP c) 60) w) := by
  have HT := Lib.hid hT; have HH := Lib.hid hh; have HS := Lib.hid hs; have HL := Lib.hid hl
  obtain ⟨A, n, cp, rfl, hn, hlc, hcm⟩ := hh.form
  obtain ⟨A2, n2, cp2, rfl, hn2, hlc2, hcm2⟩ := hs.form
  have B0 := Lib.hid (show Blk (w.alloc (.cells #[.slice A n cp, .slice A2 n2 cp2] 25)) w.heap.size 25 #[.slice A n cp, .slice A2 n2 cp2] from Blk.new _ _ _)
  clear hh hs hT hl
  cases hc : checkP c with
  | false =>
    have HO := Lib.hid (hpr.2 hc)
    have HCK := Lib.hid hc
    clear hcl hpr hc
    go_enter Tryd.func33, Tryd.ntmps33
    go_wp2_with fail
    refine (opened_no c _ _ _ (HT.out.ext (Ext.al _ _)) (HH.out.ext (Ext.al _ _)) (HS.out.ext (Ext.al _ _)) HL.out HCK.out).mono ?_
    rintro e w1 ⟨rfl, hE⟩
    have E1 := Lib.hid ((Ext.al w _).trans hE); clear hE
    go_wp2
    go_ret2
    exact ⟨⟨.slice none 0 0, by rfl, by rw [HO.out]; exact Sl.nil _⟩, E1.out⟩
  | true =>
    have HPR := Lib.hid (hpr.1 hc)
    have HO := Lib.hid (hcl.1 hc)
    have HCLO := Lib.hid hcl
    have HCK := Lib.hid hc
    have HR := Lib.hid (check_right hc).1
    have HS10 := Lib.hid (check_right hc).2
    obtain ⟨π, hTop, h6⟩ := top_small HR.out HS10.out HO.out
    have HTOP := Lib.hid hTop; have H06 := Lib.hid h6
    clear hcl hc hpr hTop h6
    go_enter Tryd.func33, Tryd.ntmps33
    go_wp2_with fail
    refine (opened_yes c l _ _ _ HCLO.out (HT.out.ext (Ext.al _ _)) (HH.out.ext (Ext.al _ _)) (HS.out.ext (Ext.al _ _)) HCK.out).mono ?_
    rintro e w3 ⟨mb, gm, hv', sv', cv', rfl, hE, h1, h2, h3, h4, h5, h6'⟩
    have E3 := Lib.hid ((Ext.al w _).trans hE); have B3 := Lib.hid (B0.out.ext hE)
    have hz3 := hE.size
    rw [World.size_alloc] at hz3
    obtain ⟨N2, hN2⟩ : ∃ N2, c.sales.length = N2 := ⟨_, rfl⟩
    rw [hN2] at h3
    have HLN := Lib.hid (close_len HO.out)
    have hnN : n2 = N2 := by have := hn2.out; omega
    subst hnN
    have HN2 := Lib.hid hN2
    have hmlt := h3.lt; have hglt := h4.lt
    obtain ⟨A3, n3, cp3, rfl, -, -, -⟩ := h5.form
    have BM := Lib.hid h3; have RM := Lib.hid h4; have HH' := Lib.hid h5
    have HAB := Lib.hid (fun h => HH'.out.lt h)
    have hn6 : n ≤ 6 := by have := HR.out.h6; have := hn.out; omega
    have hn10 : n2 ≤ 10 := by have := HS10.out; omega
    have hmk := fun w => run_makeI (n := n) (by omega) w
    clear hE h3 h4 h5 h6' hN2
    have HSB := Lib.hid (fun h => HS.out.lt (w := w) h)
    obtain ⟨w4, hw4⟩ : ∃ w4, w4 = w3.alloc (.cells (intsA (List.replicate n 0)) 3) := ⟨_, rfl⟩
    have E4 := Lib.hid (show Ext w3 w4 from hw4 ▸ Ext.al _ _)
    have R4 := Lib.hid (show RowI w4 w3.heap.size (List.replicate n 0) from hw4 ▸ Blk.new _ _ _)
    have hz4 : w4.heap.size = w3.heap.size + 1 := by rw [hw4]; simp
    have hbw := B3.out.lt
    have HZ := Lib.hid (show prIt c l 0 = List.replicate n 0 by rw [prIt, hn.out])
    have x0 := B3.out.c2
    go_wp2
    simp only [← hw4]
    clear x0 hmk hw4
    refine wp_loop_ghost_k (fun g A' W => ∃ (k : Nat) (vw : Value) (lw : List Int), (k = 0 ∧ lw = [] ∧ gap (prIt c l 0) π + 1 ≤ g ∨ ∃ j, k = j + 1 ∧ lw = prIt c l j ∧ gap (prIt c l j) π ≤ g) ∧
      Fr 90 [(1, .pointer (some ⟨w.heap.size, 0, none⟩)), (4, .pointer (some ⟨mb, 0, none⟩)), (6, .slice (some ⟨w3.heap.size, 0, none⟩) n n), (7, vw)] [] A' ∧
      w4.grownBy W (some w3.heap.size) ∧ RowI W w3.heap.size (prIt c l k) ∧ Own encI 3 1 W w4.heap.size vw lw) (gap (prIt c l 0) π + 1) ?_ ?_
    · exact ⟨0, _, _, .inl ⟨rfl, rfl, Nat.le_refl _⟩, ⟨rfl, rfl, by simp [Act.eval]⟩, World.grownBy.refl _ _, by rw [HZ.out]; exact R4.out, Own.nil _ _⟩
    · rintro g A' U ⟨k, vw, lw, hk, hF, hG, hRw, hOw⟩ J K' hJ hK
      have HJ := Lib.hid hJ; have HG := Lib.hid hG; have RW := Lib.hid hRw; have OW := Lib.hid hOw; have HK := Lib.hid hk
      obtain ⟨ρ, rfl, hρ⟩ := hF.open_
      simp only [List.forall_mem_cons] at hρ
      obtain ⟨r1, r4, r6, r7, -⟩ := hρ
      simp only [lst, Nat.reduceAdd, r1, r4, r6, r7]
      clear r1 r4 r6 r7 hF hG hRw hOw hJ hk
      have HPL := Lib.hid (show (prIt c l k).length = n by rw [prIt_len]; exact hn.out.symm)
      have HSR := Lib.hid (show SlI U (.slice (some ⟨w3.heap.size, 0, none⟩) n n) (prIt c l k) from by
        have := RW.out.sl (by rw [HPL.out]; unfold maxLen; omega)
        rwa [HPL.out] at this)
      go_wp2_with fail
      refine (equal_any lw (prIt c l k) _ _ U (OW.out.sl (fun _ => rfl)) HSR.out).mono ?_
      rintro e U1 ⟨rfl, hE⟩
      have RW1 := Lib.hid (RW.out.ext hE); have OW1 := Lib.hid (OW.out.ext hE); have HG1 := Lib.hid (grown_ext HG.out hE)
      clear hE
      cases hq : decide (lw = prIt c l k) with
      | true =>
        have HQ := Lib.hid (of_decide_eq_true hq)
        clear hq
        go_wp2
        go_ret2
        have hP : IsPr c l (prIt c l k) := by
          rcases HK.out with ⟨rfl, h1, -⟩ | ⟨j, rfl, h1, -⟩
          · refine ⟨0, rfl, ?_⟩
            have h0 : (prIt c l 0) = [] := by rw [← HQ.out]; exact h1
            have h2 := prTo_len c l (prIt c l 0) c.sales.length
            rw [h0] at h2 ⊢
            exact List.eq_nil_of_length_eq_zero h2
          · have h0 : prIt c l j = prIt c l (j + 1) := by rw [← h1]; exact HQ.out
            exact ⟨j, h0, by rw [← h0]; exact h0.symm⟩
        refine ⟨⟨.slice (some ⟨w3.heap.size, 0, none⟩) n n, by rfl, ?_⟩, ext_grown (E3.out.trans E4.out) HG1.out (by omega)⟩
        rw [pr_one HPR.out hP]
        have := RW1.out.sl (by rw [HPL.out]; unfold maxLen; omega)
        rwa [HPL.out] at this
      | false =>
        have HQ := Lib.hid (of_decide_eq_false hq)
        clear hq OW OW1
        have HSR1 := Lib.hid (show SlI U1 (.slice (some ⟨w3.heap.size, 0, none⟩) n n) (prIt c l k) from by
          have := RW1.out.sl (by rw [HPL.out]; unfold maxLen; omega)
          rwa [HPL.out] at this)
        go_wp2_with fail
        refine (cloneI_any _ (prIt c l k) U1 HSR1.out (by rw [HPL.out]; omega)).mono ?_
        rintro e U2 ⟨⟨vw2, rfl, ho⟩, hE⟩
        have RW2 := Lib.hid (RW1.out.ext hE); have HG2 := Lib.hid (grown_ext HG1.out hE)
        have hzU1 := HG1.out.size
        have OW2 := Lib.hid (show Own encI 3 1 U2 w4.heap.size vw2 (prIt c l k) from ho.mono hzU1)
        have B1U := Lib.hid ((B3.out.ext E4.out).grown HG2.out (by intro e; injection e with e; omega))
        clear hE ho RW RW1 HSR HSR1 HG HG1
        have x0 := B1U.out.c2
        go_wp2
        clear x0 B1U
        obtain ⟨o, ho⟩ : ∃ o, prIt c l k = o := ⟨_, rfl⟩
        have HOI := Lib.hid ho
        have HSM := Lib.hid (show ∀ i v : Nat, 0 ≤ (prTo c l o i)[v]?.getD 0 ∧ (prTo c l o i)[v]?.getD 0 ≤ 6 from by rw [← ho]; exact pr_small HTOP.out H06.out k)
        have HOL := Lib.hid (show o.length = n by rw [← ho]; exact HPL.out)
        rw [ho] at RW2 OW2
        clear ho
        refine wp_loop_ghost_k (fun g A' W => ∃ (i : Nat), i ≤ n2 ∧ n2 - i ≤ g ∧ Fr 90 [(1, .pointer (some ⟨w.heap.size, 0, none⟩)), (4, .pointer (some ⟨mb, 0, none⟩)), (6, .slice (some ⟨w3.heap.size, 0, none⟩) n n), (7, vw2), (31, .slice A2 n2 cp2), (32, .int .i64 (n2 : Int)), (33, .int .i64 (i : Int))] [] A' ∧
          w4.grownBy W (some w3.heap.size) ∧ RowI W w3.heap.size (prTo c l o i) ∧ Own encI 3 1 W w4.heap.size vw2 o) n2 ?_ ?_
        · exact ⟨0, by omega, by omega, ⟨rfl, rfl, by simp [Act.eval]⟩, HG2.out, RW2.out, OW2.out⟩
        · rintro g2 A2' U3 ⟨i, hi, hg2, hF, hG, hRw, hOw⟩ J2 K2 hJ2 hK2
          have HJ2 := Lib.hid hJ2; have HG := Lib.hid hG; have RW := Lib.hid hRw; have OW := Lib.hid hOw
          have hzU3 := hG.size
          obtain ⟨ρ, rfl, hρ⟩ := hF.open_
          simp only [List.forall_mem_cons] at hρ
          obtain ⟨r1, r4, r6, r7, r31, r32, r33, -⟩ := hρ
          simp only [lst, Nat.reduceAdd, r1, r4, r6, r7, r31, r32, r33]
          clear r1 r4 r6 r7 r31 r32 r33 hF hG hRw hOw hJ2 RW2 OW2 HG2
          by_cases hlt : i < n2
          · have hltz : (i : Int) < (n2 : Int) := by omega
            have HSW := Lib.hid (((HS.out.ext E3.out).ext E4.out).grown HG.out fun h b o e => by have := HSB.out h b o e; omega)
            obtain ⟨b, off, x, rfl, hx, -, hcell⟩ := HSW.out.at_ hlt
            obtain ⟨c0, c1, c2, c3, c4⟩ := SlL.cells hcell (Ext.refl _)
            obtain ⟨y, hy⟩ : ∃ y, l[i]? = some y := ⟨_, List.getElem?_eq_getElem (by have := HLN.out; have := HN2.out; omega)⟩
            obtain ⟨s, bb, hsi, hbi, hsl, hbl, hne⟩ := sale_at HR.out hx
            have HST := Lib.hid (prTo_succ (o := o) hx hy)
            have hlen : (prTo c l o i).length = n := by rw [prTo_len]; exact HOL.out
            obtain ⟨x0, hx0⟩ : ∃ x0, (prTo c l o i)[s]? = some x0 := ⟨_, List.getElem?_eq_getElem (by have := hn.out; omega)⟩
            obtain ⟨y0, hy0⟩ : ∃ y0, (prTo c l o i)[bb]? = some y0 := ⟨_, List.getElem?_eq_getElem (by have := hn.out; omega)⟩
            have hx0b := HSM.out i s
            have hy0b := HSM.out i bb
            rw [hx0] at hx0b
            rw [hy0] at hy0b
            simp only [Option.getD] at hx0b hy0b
            have HX0 := Lib.hid hx0; have HY0 := Lib.hid hy0; have HSI := Lib.hid hsi; have HBI := Lib.hid hbi; have HNE := Lib.hid hne; have HY := Lib.hid hy
            have hsz : (s : Int) < (n : Int) := by have := hn.out; omega
            have hbz : (bb : Int) < (n : Int) := by have := hn.out; omega
            have hsz' : s < n := by omega
            have hbz' : bb < n := by omega
            have hkn : i < n2 := hlt
            obtain ⟨wx, hwx⟩ : ∃ wx, wx = U3.alloc (.cells #[.int .i64 x.number, .int .i64 x.seller, .int .i64 x.buyer, .int .i64 x.bales, .int .i64 x.price] 68) := ⟨_, rfl⟩
            have BX := Lib.hid (show Blk wx U3.heap.size 68 #[.int .i64 x.number, .int .i64 x.seller, .int .i64 x.buyer, .int .i64 x.bales, .int .i64 x.price] from hwx ▸ Blk.new _ _ _)
            have GX := Lib.hid (show w4.grownBy wx (some w3.heap.size) from hwx ▸ grown_ext HG.out (Ext.al _ _))
            have RX := Lib.hid (show RowI wx w3.heap.size (prTo c l o i) from hwx ▸ RW.out.alloc _)
            have OX := Lib.hid (show Own encI 3 1 wx w4.heap.size vw2 o from hwx ▸ OW.out.alloc _)
            have BMX := Lib.hid ((BM.out.ext E4.out).grown GX.out (by intro e; injection e with e; omega))
            have RMX := Lib.hid (show RowI wx gm l from Blk.grown (RM.out.ext E4.out) GX.out (by intro e; injection e with e; omega))
            have HHX := Lib.hid ((HH'.out.ext E4.out).grown GX.out fun h b o e => by have := HAB.out h b o e; omega)
            have hzx : wx.heap.size = U3.heap.size + 1 := by rw [hwx]; simp
            have m1 := fun W (h : Ext wx W) => (BX.out.ext h).c5.2.1
            have m2 := fun W (h : Ext wx W) => (BX.out.ext h).c5.2.2.1
            clear hx hy hcell hsi hbi hne hx0 hy0
            go_wp2
            simp only [← hwx]
            clear hwx c0 c1 c2 c3 c4
            refine wp_region_tame (fun W => Ext wx W) (fun W W' => Ext W W') (by kernel_rfl) 90 rfl (by decide +kernel) (Ext.refl _).drew ?_
            repeat (apply tame_q rfl; (intro ρ W hC hr hD; (obtain ⟨hrc, hrg, hrf, hrs⟩ := hr); (simp [go_sem] at hD); go_simp; first | exact ⟨⟨hC, Ext.refl _⟩, rfl⟩ | exact ⟨⟨hC, RS.refl _⟩, rfl⟩ | exact rfl); simp only [List.nil_append, List.cons_append])
            apply tame_q rfl
            · intro ρ W hC hr hD
              obtain ⟨hrc, hrg, hrf, hrs⟩ := hr
              simp [go_sem] at hD
              go_simp
              refine (mhouse_any c x.seller s mb _ _ _ _ W (BMX.out.ext hC) (HHX.out.ext hC) HSI.out).mono ?_
              rintro e w' ⟨rfl, hE⟩
              exact ⟨_, rfl, ⟨hC.trans hE, hE⟩, rfl⟩
            simp only [List.nil_append, List.cons_append]
            repeat (apply tame_q rfl; (intro ρ W hC hr hD; (obtain ⟨hrc, hrg, hrf, hrs⟩ := hr); (simp [go_sem] at hD); go_simp; first | exact ⟨⟨hC, Ext.refl _⟩, rfl⟩ | exact ⟨⟨hC, RS.refl _⟩, rfl⟩ | exact rfl); simp only [List.nil_append, List.cons_append])
            apply tame_q rfl
            · intro ρ W hC hr hD
              obtain ⟨hrc, hrg, hrf, hrs⟩ := hr
              simp [go_sem] at hD
              go_simp
              refine (mhouse_any c x.buyer bb mb _ _ _ _ W (BMX.out.ext hC) (HHX.out.ext hC) HBI.out).mono ?_
              rintro e w' ⟨rfl, hE⟩
              exact ⟨_, rfl, ⟨hC.trans hE, hE⟩, rfl⟩
            simp only [List.nil_append, List.cons_append]
            repeat (apply tame_q rfl; (intro ρ W hC hr hD; (obtain ⟨hrc, hrg, hrf, hrs⟩ := hr); (simp [go_sem] at hD); go_simp; first | exact ⟨⟨hC, Ext.refl _⟩, rfl⟩ | exact ⟨⟨hC, RS.refl _⟩, rfl⟩ | exact rfl); simp only [List.nil_append, List.cons_append])
            refine tame_end_put rfl rfl (fun ρ V hC hr hF => ?_)
            simp [go_sem] at hF
            simp only [putF, hF, List.set_cons_succ, List.set_cons_zero]
            clear hF hr
            have HC := Lib.hid hC
            clear hC
            clear m1 m2
            have B5 := Lib.hid (BX.out.ext HC.out); have R5 := Lib.hid (RX.out.ext HC.out); have M5 := Lib.hid (BMX.out.ext HC.out); have RM5 := Lib.hid (RMX.out.ext HC.out); have G5 := Lib.hid (grown_ext GX.out HC.out); have OW5 := Lib.hid (OX.out.ext HC.out)
            have hzV := HC.out.size
            clear HC BX RX BMX RMX HHX GX OX
            have hmc := M5.out.c4
            have hyc := RM5.out.cell HY.out
            have hxb1 : IntKind.i64.wrap (x0 + 1) = x0 + 1 := by rw [IntKind.wrap_i64]; omega
            have HS0 := Lib.hid (show prTo c l o (i + 1) = prD s bb (decide (y < x.bales)) (prU s bb (decide (0 < y)) (prTo c l o i)) by
              rw [HST.out]; unfold prS; rw [HSI.out, HBI.out]; rfl)
            by_cases hyp : 0 < y
            · obtain ⟨y1, hy1⟩ : ∃ y1, max y0 (x0 + 1) = y1 := ⟨_, rfl⟩
              have HPS := Lib.hid (show prTo c l o (i + 1) = prD s bb (decide (y < x.bales)) ((prTo c l o i).set bb y1) by
                rw [HS0.out, decide_eq_true hyp, prU_on HX0.out HY0.out, hy1])
              obtain ⟨o1, ho1⟩ : ∃ o1, (prTo c l o i).set bb y1 = o1 := ⟨_, rfl⟩
              rw [ho1] at HPS
              have HX1 := Lib.hid (show o1[s]? = some x0 by rw [← ho1, List.getElem?_set, if_neg (Ne.symm HNE.out)]; exact HX0.out)
              have HY1 := Lib.hid (show o1[bb]? = some y1 by rw [← ho1, List.getElem?_set, if_pos rfl, if_pos (List.getElem?_eq_some_iff.1 HY0.out).1])
              have hw1 : IntKind.i64.wrap (y1 - 1) = y1 - 1 := by rw [IntKind.wrap_i64]; omega
              have rs := fun W (h : Ext V W) => (R5.out.ext h).cell HX0.out
              have rb := fun W (h : Ext V W) => (R5.out.ext h).cell HY0.out
              go_wp2
              clear hmc hyc
              refine wp_region_tame_cut (fun W => Ext V W) (fun W W' => Ext W W') (by kernel_rfl) 90 rfl _ rfl (by decide +kernel) (by decide +kernel) (by decide +kernel) rfl (Ext.refl _).drew ?_
              simp only [List.dropLast]
              repeat (apply tame_q rfl; (intro ρ W hC hr hD; (obtain ⟨hrc, hrg, hrf, hrs⟩ := hr); (simp [go_sem] at hD); go_simp; first | exact ⟨⟨hC, Ext.refl _⟩, rfl⟩ | exact ⟨⟨hC, RS.refl _⟩, rfl⟩ | exact rfl); simp only [List.nil_append, List.cons_append])
              refine tame_end 90 rfl rfl (fun ρ V4 hC hr hF => ?_)
              obtain ⟨hrc, hrg, hrf, hrs⟩ := hr
              simp [go_sem] at hF
              apply frame_to
              · go_simp
                exact rfl
              clear hF hrs hrc hrg hrf
              have HC := Lib.hid hC
              clear hC
              clear rs rb
              replace B5 := Lib.hid (B5.out.ext HC.out); replace R5 := Lib.hid (R5.out.ext HC.out); replace M5 := Lib.hid (M5.out.ext HC.out); replace RM5 := Lib.hid (RM5.out.ext HC.out); replace G5 := Lib.hid (grown_ext G5.out HC.out); replace OW5 := Lib.hid (OW5.out.ext HC.out)
              have hzV4 := HC.out.size
              clear HC
              obtain ⟨V5, hV5⟩ : ∃ V5, V5 = V4.setCell ⟨w3.heap.size, bb, none⟩ (.int .i64 y1) := ⟨_, rfl⟩
              have GS := Lib.hid (show V4.grownBy V5 (some w3.heap.size) from hV5 ▸ grown_set (World.grownBy.refl _ _) (p := ⟨w3.heap.size, bb, none⟩) (.inl rfl) _)
              have R5' := Lib.hid (show RowI V5 w3.heap.size o1 from hV5 ▸ ho1 ▸ R5.out.set bb y1)
              replace B5 := Lib.hid (B5.out.grown GS.out (by intro e; injection e with e; omega)); replace M5 := Lib.hid (M5.out.grown GS.out (by intro e; injection e with e; omega))
              replace RM5 := Lib.hid (show RowI V5 gm l from Blk.grown RM5.out GS.out (by intro e; injection e with e; omega)); replace G5 := Lib.hid (grown_tr G5.out GS.out)
              replace OW5 := Lib.hid (show Own encI 3 1 V5 w4.heap.size vw2 o from own_kept OW5.out GS.out (by omega))
              have rf := R5.out.frozen
              have rl := R5.out.lt
              have rc := R5.out.cell HY0.out
              simp only [hy1]
              go_wp2
              simp only [← hV5]
              clear rf rl rc hV5 R5 ho1 hy1
              have R5 := R5'
              obtain ⟨x1, hx1⟩ : ∃ x1, x1 = x0 := ⟨_, rfl⟩
              rw [← hx1] at HX1
              clear hx1 R5'
              have m3 := fun W (h : Ext V5 W) => (B5.out.ext h).c5.2.2.2.1
              have mm := fun W (h : Ext V5 W) => (M5.out.ext h).c4
              have my := fun W (h : Ext V5 W) => (RM5.out.ext h).cell HY.out
              by_cases hyx : y < x.bales
              · have HSD := Lib.hid (show prTo c l o (i + 1) = o1.set s (max x1 (y1 - 1)) by rw [HPS.out, decide_eq_true hyx]; exact prD_on HX1.out HY1.out)
                refine wp_region_tame (fun W => Ext V5 W) (fun W W' => Ext W W') (by kernel_rfl) 90 rfl (by decide +kernel) (Ext.refl _).drew ?_
                repeat (apply tame_q rfl; (intro ρ W hC hr hD; (obtain ⟨hrc, hrg, hrf, hrs⟩ := hr); (simp [go_sem] at hD); go_simp; first | exact ⟨⟨hC, Ext.refl _⟩, rfl⟩ | exact ⟨⟨hC, RS.refl _⟩, rfl⟩ | exact rfl); simp only [List.nil_append, List.cons_append])
                refine tame_end_put rfl rfl (fun ρ V6 hC hr hF => ?_)
                simp [go_sem] at hF
                simp only [putF, hF, List.set_cons_succ, List.set_cons_zero]
                clear hF hr
                have HC := Lib.hid hC
                clear hC
                clear m3 mm my
                have R6 := Lib.hid (R5.out.ext HC.out); have G6 := Lib.hid (grown_ext G5.out HC.out); have OW6 := Lib.hid (OW5.out.ext HC.out)
                clear HC
                have rs := fun W (h : Ext V6 W) => (R6.out.ext h).cell HX1.out
                have rb := fun W (h : Ext V6 W) => (R6.out.ext h).cell HY1.out
                go_wp2
                refine wp_region_tame_cut (fun W => Ext V6 W) (fun W W' => Ext W W') (by kernel_rfl) 90 rfl _ rfl (by decide +kernel) (by decide +kernel) (by decide +kernel) rfl (Ext.refl _).drew ?_
                simp only [List.dropLast]
                repeat (apply tame_q rfl; (intro ρ W hC hr hD; (obtain ⟨hrc, hrg, hrf, hrs⟩ := hr); (simp [go_sem] at hD); go_simp; first | exact ⟨⟨hC, Ext.refl _⟩, rfl⟩ | exact ⟨⟨hC, RS.refl _⟩, rfl⟩ | exact rfl); simp only [List.nil_append, List.cons_append])
                refine tame_end 90 rfl rfl (fun ρ V7 hC hr hF => ?_)
                obtain ⟨hrc, hrg, hrf, hrs⟩ := hr
                simp [go_sem] at hF
                apply frame_to
                · go_simp
                  exact rfl
                clear hF hrs hrc hrg hrf
                have HC := Lib.hid hC
                clear hC
                clear rs rb
                have R7 := Lib.hid (R6.out.ext HC.out); have G7 := Lib.hid (grown_ext G6.out HC.out); have OW7 := Lib.hid (OW6.out.ext HC.out)
                clear HC
                have rs := R7.out.cell HX1.out
                have rf := R7.out.frozen
                have rl := R7.out.lt
                go_wp2
                exact Handed.intro (n2 - (i + 1)) (by omega) (HJ2.out _ _ _ ⟨i + 1, by omega, Nat.le_refl _, ⟨rfl, rfl, by simp [Act.eval]⟩, grown_set G7.out (p := ⟨w3.heap.size, s, none⟩) (.inl rfl) _, by rw [HSD.out]; exact R7.out.set s _, own_kept (g := w3.heap.size) OW7.out (grown_set (World.grownBy.refl _ _) (p := ⟨w3.heap.size, s, none⟩) (.inl rfl) _) (by omega)⟩)
              · have HSD := Lib.hid (show prTo c l o (i + 1) = o1 by rw [HPS.out, decide_eq_false hyx]; exact prD_off)
                refine wp_region_tame (fun W => Ext V5 W) (fun W W' => Ext W W') (by kernel_rfl) 90 rfl (by decide +kernel) (Ext.refl _).drew ?_
                repeat (apply tame_q rfl; (intro ρ W hC hr hD; (obtain ⟨hrc, hrg, hrf, hrs⟩ := hr); (simp [go_sem] at hD); go_simp; first | exact ⟨⟨hC, Ext.refl _⟩, rfl⟩ | exact ⟨⟨hC, RS.refl _⟩, rfl⟩ | exact rfl); simp only [List.nil_append, List.cons_append])
                refine tame_end_put rfl rfl (fun ρ V6 hC hr hF => ?_)
                simp [go_sem] at hF
                simp only [putF, hF, List.set_cons_succ, List.set_cons_zero]
                clear hF hr
                have HC := Lib.hid hC
                clear hC
                clear m3 mm my
                have R6 := Lib.hid (R5.out.ext HC.out); have G6 := Lib.hid (grown_ext G5.out HC.out); have OW6 := Lib.hid (OW5.out.ext HC.out)
                clear HC
                go_wp2
                exact Handed.intro (n2 - (i + 1)) (by omega) (HJ2.out _ _ _ ⟨i + 1, by omega, Nat.le_refl _, ⟨rfl, rfl, by simp [Act.eval]⟩, G6.out, by rw [HSD.out]; exact R6.out, OW6.out⟩)
            · have HPS := Lib.hid (show prTo c l o (i + 1) = prD s bb (decide (y < x.bales)) (prTo c l o i) by
                rw [HS0.out, decide_eq_false hyp, prU_off])
              obtain ⟨o1, ho1⟩ : ∃ o1, prTo c l o i = o1 := ⟨_, rfl⟩
              rw [ho1] at HPS R5 HX0 HY0
              obtain ⟨x1, hx1⟩ : ∃ x1, x1 = x0 := ⟨_, rfl⟩
              obtain ⟨y1, hy1⟩ : ∃ y1, y1 = y0 := ⟨_, rfl⟩
              have hw1 : IntKind.i64.wrap (y1 - 1) = y1 - 1 := by rw [IntKind.wrap_i64]; omega
              have HX1 := Lib.hid (show o1[s]? = some x1 by rw [hx1]; exact HX0.out)
              have HY1 := Lib.hid (show o1[bb]? = some y1 by rw [hy1]; exact HY0.out)
              clear hx1 hy1 ho1
              go_wp2
              clear hmc hyc
              have m3 := fun W (h : Ext V W) => (B5.out.ext h).c5.2.2.2.1
              have mm := fun W (h : Ext V W) => (M5.out.ext h).c4
              have my := fun W (h : Ext V W) => (RM5.out.ext h).cell HY.out
              by_cases hyx : y < x.bales
              · have HSD := Lib.hid (show prTo c l o (i + 1) = o1.set s (max x1 (y1 - 1)) by rw [HPS.out, decide_eq_true hyx]; exact prD_on HX1.out HY1.out)
                refine wp_region_tame (fun W => Ext V W) (fun W W' => Ext W W') (by kernel_rfl) 90 rfl (by decide +kernel) (Ext.refl _).drew ?_
                repeat (apply tame_q rfl; (intro ρ W hC hr hD; (obtain ⟨hrc, hrg, hrf, hrs⟩ := hr); (simp [go_sem] at hD); go_simp; first | exact ⟨⟨hC, Ext.refl _⟩, rfl⟩ | exact ⟨⟨hC, RS.refl _⟩, rfl⟩ | exact rfl); simp only [List.nil_append, List.cons_append])
                refine tame_end_put rfl rfl (fun ρ V6 hC hr hF => ?_)
                simp [go_sem] at hF
                simp only [putF, hF, List.set_cons_succ, List.set_cons_zero]
                clear hF hr
                have HC := Lib.hid hC
                clear hC
                clear m3 mm my
                have R6 := Lib.hid (R5.out.ext HC.out); have G6 := Lib.hid (grown_ext G5.out HC.out); have OW6 := Lib.hid (OW5.out.ext HC.out)
                clear HC
                have rs := fun W (h : Ext V6 W) => (R6.out.ext h).cell HX1.out
                have rb := fun W (h : Ext V6 W) => (R6.out.ext h).cell HY1.out
                go_wp2
                refine wp_region_tame_cut (fun W => Ext V6 W) (fun W W' => Ext W W') (by kernel_rfl) 90 rfl _ rfl (by decide +kernel) (by decide +kernel) (by decide +kernel) rfl (Ext.refl _).drew ?_
                simp only [List.dropLast]
                repeat (apply tame_q rfl; (intro ρ W hC hr hD; (obtain ⟨hrc, hrg, hrf, hrs⟩ := hr); (simp [go_sem] at hD); go_simp; first | exact ⟨⟨hC, Ext.refl _⟩, rfl⟩ | exact ⟨⟨hC, RS.refl _⟩, rfl⟩ | exact rfl); simp only [List.nil_append, List.cons_append])
                refine tame_end 90 rfl rfl (fun ρ V7 hC hr hF => ?_)
                obtain ⟨hrc, hrg, hrf, hrs⟩ := hr
                simp [go_sem] at hF
                apply frame_to
                · go_simp
                  exact rfl
                clear hF hrs hrc hrg hrf
                have HC := Lib.hid hC
                clear hC
                clear rs rb
                have R7 := Lib.hid (R6.out.ext HC.out); have G7 := Lib.hid (grown_ext G6.out HC.out); have OW7 := Lib.hid (OW6.out.ext HC.out)
                clear HC
                have rs := R7.out.cell HX1.out
                have rf := R7.out.frozen
                have rl := R7.out.lt
                go_wp2
                exact Handed.intro (n2 - (i + 1)) (by omega) (HJ2.out _ _ _ ⟨i + 1, by omega, Nat.le_refl _, ⟨rfl, rfl, by simp [Act.eval]⟩, grown_set G7.out (p := ⟨w3.heap.size, s, none⟩) (.inl rfl) _, by rw [HSD.out]; exact R7.out.set s _, own_kept (g := w3.heap.size) OW7.out (grown_set (World.grownBy.refl _ _) (p := ⟨w3.heap.size, s, none⟩) (.inl rfl) _) (by omega)⟩)
              · have HSD := Lib.hid (show prTo c l o (i + 1) = o1 by rw [HPS.out, decide_eq_false hyx]; exact prD_off)
                refine wp_region_tame (fun W => Ext V W) (fun W W' => Ext W W') (by kernel_rfl) 90 rfl (by decide +kernel) (Ext.refl _).drew ?_
                repeat (apply tame_q rfl; (intro ρ W hC hr hD; (obtain ⟨hrc, hrg, hrf, hrs⟩ := hr); (simp [go_sem] at hD); go_simp; first | exact ⟨⟨hC, Ext.refl _⟩, rfl⟩ | exact ⟨⟨hC, RS.refl _⟩, rfl⟩ | exact rfl); simp only [List.nil_append, List.cons_append])
                refine tame_end_put rfl rfl (fun ρ V6 hC hr hF => ?_)
                simp [go_sem] at hF
                simp only [putF, hF, List.set_cons_succ, List.set_cons_zero]
                clear hF hr
                have HC := Lib.hid hC
                clear hC
                clear m3 mm my
                have R6 := Lib.hid (R5.out.ext HC.out); have G6 := Lib.hid (grown_ext G5.out HC.out); have OW6 := Lib.hid (OW5.out.ext HC.out)
                clear HC
                go_wp2
                exact Handed.intro (n2 - (i + 1)) (by omega) (HJ2.out _ _ _ ⟨i + 1, by omega, Nat.le_refl _, ⟨rfl, rfl, by simp [Act.eval]⟩, G6.out, by rw [HSD.out]; exact R6.out, OW6.out⟩)
          · have HE := Lib.hid (show i = n2 by omega)
            go_wp2
            have hrw := RW.out
            rw [show prTo c l o i = prIt c l (k + 1) by rw [prIt, HOI.out, prPass]; congr 1; have := HE.out; have := HN2.out; omega] at hrw
            have hgap : gap o π < g := by
              rcases HK.out with ⟨rfl, -, h1⟩ | ⟨j, rfl, h1, h2⟩
              · rw [← HOI.out]; omega
              · have h3 : prPass c l (prIt c l j) ≠ prIt c l j := fun e => HQ.out (by rw [h1]; exact e.symm)
                have h4 := pr_step HTOP.out (fun v => (H06.out v).1) j h3
                rw [← HOI.out]; omega
            exact Handed.intro (gap o π) hgap (HJ.out _ _ _ ⟨k + 1, vw2, o, .inr ⟨k, rfl, HOI.out.symm, Nat.le_of_eq (by rw [HOI.out])⟩, ⟨rfl, rfl, by simp [Act.eval]⟩, HG.out, hrw, OW.out⟩)
end Go.Proofs.YtafdbgielmlihaaDoor
/- Adds: the program's and the reference's. -/
namespace Go.Proofs.YtafdbgielmlihaaDoor
open Go.RowKit Go.Shelf Go.Lib
set_option maxRecDepth 100000
set_option linter.unusedSimpArgs false

def addsE (c : Chn) (x : Sale) : Int := if checkP c then (if rightP (withC c x) then 0 else 61) else 60
/-- What a sale more adds: l closes the chain, m the chain with the sale. -/
def AddsOf (c : Chn) (x : Sale) (v : Int) : Prop := (addsE c x = 0 → ∃ l m, IsClose c l ∧ IsClose (withC c x) m ∧ v = sumI m - sumI l) ∧ (addsE c x ≠ 0 → v = 0)
/-- A number, and an error. -/
def NumE (v E : Int) (w : World) (e : Ending) (w' : World) : Prop := e = .returned (.tuple #[.int .i64 v, .int .i64 E]) ∧ Ext w w'
def MkA (l : List Int) (o : Nat) (v : Value) (W : World) : Prop := ∃ mb gm hv sv cv, v = .pointer (some ⟨mb, o, none⟩) ∧ Blk W mb 112 #[hv, sv, .slice (some ⟨gm, 0, none⟩) l.length l.length, cv] ∧ RowI W gm l
theorem MkA.ext {l : List Int} {o : Nat} {v : Value} {W W' : World} (h : MkA l o v W) (e : Ext W W') : MkA l o v W' := by
  obtain ⟨mb, gm, hv, sv, cv, h1, h2, h3⟩ := h
  exact ⟨mb, gm, hv, sv, cv, h1, h2.ext e, h3.ext e⟩
end Go.Proofs.YtafdbgielmlihaaDoor
/- The values of the chapter's examples (layer 6). -/
namespace Go.Proofs.YtafdbgielmlihaaDoor
open Go.RowKit Go.Shelf
set_option maxRecDepth 100000
set_option linter.unusedSimpArgs false

/-- What can move, asked by counting. -/
def feasB : List Sal → List Int → Bool
  | x :: S, y :: m => decide (0 ≤ y) && decide (y ≤ x.cap) && feasB S m
  | [], [] => true
  | _, _ => false
theorem feas_B : ∀ {S : List Sal} {m : List Int}, feasB S m = true → Feas S m
  | [], [], _ => trivial
  | x :: S, y :: m, h => by
    simp only [feasB, Bool.and_eq_true, decide_eq_true_eq] at h
    exact ⟨h.1, feas_B h.2⟩
  | [], _ :: _, h => by simp [feasB] at h
  | _ :: _, [], h => by simp [feasB] at h
def optB (S : List Sal) (n : Nat) (full m π : List Int) : Bool :=
  feasB S m && ((S.all fun x => decide (x.s < n) && decide (x.b < n)) && (((List.range n).all fun v => decide (net S m v = net S full v)) && (resArcs 0 S m).all fun a => decide (π[a.dst]?.getD 0 ≤ π[a.src]?.getD 0 + a.w)))
theorem opt_B {S : List Sal} {n : Nat} {full m π : List Int} (h : optB S n full m π = true) : Opt S full m := by
  unfold optB at h
  simp only [Bool.and_eq_true, List.all_eq_true, decide_eq_true_eq, List.mem_range] at h
  obtain ⟨h1, h2, h3, h4⟩ := h
  refine ⟨feas_B h1, fun v => ?_, fun v => π[v]?.getD 0, h4⟩
  by_cases hv : v < n
  · exact h3 v hv
  · rw [net_far (by omega) S m h2, net_far (by omega) S full h2]

/-- The chain of the examples. -/
def ringC : Chn := ⟨[1, 2, 3, 4], [⟨1, 1, 2, 5, 500⟩, ⟨2, 2, 3, 4, 510⟩, ⟨3, 3, 1, 3, 520⟩, ⟨4, 2, 4, 2, 505⟩, ⟨5, 1, 3, 2, 515⟩]⟩
def ring6 : Sale := ⟨6, 4, 1, 2, 500⟩
theorem ring_check : checkP ringC = true := by kernel_rfl
theorem ring_close : IsClose ringC [2, 1, 0, 2, 2] :=
  opt_B (n := 4) (π := [-20000000011000, -10000000001000, 0, 0]) (by kernel_rfl)
theorem ring_closeOf : CloseOf ringC [2, 1, 0, 2, 2] := ⟨fun _ => ring_close, fun h => by rw [ring_check] at h; cases h⟩
theorem ring6_close : IsClose (withC ringC ring6) [0, 1, 0, 0, 2, 0] :=
  opt_B (n := 4) (π := [-10000000000010, -10000000010000, 0, -9900]) (by kernel_rfl)
theorem ring_adds : AddsOf ringC ring6 (-4) :=
  ⟨fun _ => ⟨_, _, ring_close, ring6_close, by kernel_rfl⟩, fun h => absurd (by kernel_rfl) h⟩
theorem ring_range1 : RangeOf ringC 1 2 2 :=
  ⟨fun _ => ⟨⟨_, opt_B (m := [2, 1, 0, 2, 2]) (n := 4) (π := [-2001, -1000, 0, 0]) (by kernel_rfl), by kernel_rfl⟩, ⟨_, opt_B (m := [2, 1, 0, 2, 2]) (n := 4) (π := [-1999, -1000, 0, 0]) (by kernel_rfl), by kernel_rfl⟩⟩, fun h => absurd (by kernel_rfl) h⟩
theorem ring_range3 : RangeOf ringC 3 0 0 :=
  ⟨fun _ => ⟨⟨_, opt_B (m := [2, 1, 0, 2, 2]) (n := 4) (π := [-2000, -1000, 0, 0]) (by kernel_rfl), by kernel_rfl⟩, ⟨_, opt_B (m := [2, 1, 0, 2, 2]) (n := 4) (π := [-2000, -1000, 0, 0]) (by kernel_rfl), by kernel_rfl⟩⟩, fun h => absurd (by kernel_rfl) h⟩
theorem ring_range6 : RangeOf ringC 6 0 0 :=
  ⟨fun h => absurd h (by rw [show rangeE ringC 6 = 61 by kernel_rfl]; decide), fun _ => ⟨rfl, rfl⟩⟩
theorem ring_proof : ProofOf ringC [2, 1, 0, 2, 2] [0, 1, 2, 2] :=
  ⟨fun _ => ⟨4, by kernel_rfl, by kernel_rfl⟩, fun h => by rw [ring_check] at h; cases h⟩
theorem ring_owed : owedL ringC = [-4, -1, 3, 2] := by kernel_rfl
theorem ring_passes : passesL ringC [2, 1, 0, 2, 2] = [2] := by kernel_rfl
theorem ring_hands : handsL ringC [2, 1, 0, 2, 2] = [⟨1, 3, 3⟩, ⟨1, 4, 1⟩, ⟨2, 4, 1⟩] := by kernel_rfl
theorem ring_pays : paysL ringC [2, 1, 0, 2, 2] 505 = [-60, 30, 30, 0] := by kernel_rfl
theorem ring_loses : losesL ringC 2 ⟨500, 520⟩ = [⟨0, 0⟩, ⟨0, 0⟩, ⟨0, 40⟩, ⟨0, 30⟩] := by kernel_rfl
theorem ring_worst : worstP ringC ⟨500, 520⟩ = (1, 130) := by kernel_rfl
theorem ring_way : WayOf ringC 1 4 [1, 4] 0 := by
  unfold WayOf
  rw [if_pos ring_check, if_pos (by kernel_rfl)]
  exact .inl ⟨2, ⟨by kernel_rfl, fun j hj => by
    rcases j with _ | _ | j
    · kernel_rfl
    · kernel_rfl
    · omega⟩, by kernel_rfl, rfl⟩
theorem ring_way33 : WayOf ringC 3 3 [] 0 := by
  unfold WayOf
  rw [if_pos ring_check, if_pos (by kernel_rfl)]
  exact .inl ⟨0, ⟨by kernel_rfl, fun j hj => absurd hj (Nat.not_lt_zero _)⟩, by kernel_rfl, rfl⟩
theorem ring_way41 : WayOf ringC 4 1 [] 6 := by
  unfold WayOf
  rw [if_pos ring_check, if_pos (by kernel_rfl)]
  refine .inr ⟨fun k => ?_, rfl, rfl⟩
  cases h : toB ringC 1 k 4 with
  | false => rfl
  | true =>
    have := toB_full (check_right ring_check).1 (t := 1) (by decide) (v := 4) (by decide) h
    exact absurd this (by rw [show toB ringC 1 ringC.houses.length 4 = false by kernel_rfl]; decide)
theorem ring_way45 : WayOf ringC 4 5 [] 6 := by
  unfold WayOf
  rw [if_pos ring_check, if_neg (by rw [show (hasI ringC.houses 4 && hasI ringC.houses 5) = false by kernel_rfl]; decide)]
  exact ⟨rfl, rfl⟩
/-- Without the third sale. -/
def ring4 : Chn := ⟨[1, 2, 3, 4], [⟨1, 1, 2, 5, 500⟩, ⟨2, 2, 3, 4, 510⟩, ⟨4, 2, 4, 2, 505⟩, ⟨5, 1, 3, 2, 515⟩]⟩
theorem ring_strike : strikeC ringC [3] = ring4 := by kernel_rfl
theorem ring_strikeE : strikeE ringC [3] = 0 := by kernel_rfl
theorem ring_put : putC ring4 ⟨3, 3, 1, 3, 520⟩ = ringC := by kernel_rfl
theorem ring_putE : putE ring4 ⟨3, 3, 1, 3, 520⟩ = 0 := by kernel_rfl
theorem ring_stop : stopC ringC 2 = ⟨[1, 2, 3, 4], [⟨3, 3, 1, 3, 520⟩, ⟨5, 1, 3, 2, 515⟩]⟩ := by kernel_rfl
theorem ring_stopE : stopE ringC 2 = 0 := by kernel_rfl
end Go.Proofs.YtafdbgielmlihaaDoor
/- What stands still while a law of the chain runs. -/
namespace Go.Proofs.YtafdbgielmlihaaDoor
open Go.RowKit Go.Shelf Go.Lib
set_option maxRecDepth 100000

/-- What stands still while the law runs. -/
structure CsT (c : Chn) (w : World) (q : Nat) (hv sv h2 s2 : Value) (W : World) : Prop where
  e : Ext w W
  p : Blk W w.heap.size 25 #[hv, sv]
  q : Blk W q 25 #[h2, s2]
  t : Tab W
  a1 : SlI W hv c.houses
  a2 : SlL W sv c.sales
  b1 : SlI W h2 c.houses
  b2 : SlL W s2 c.sales
theorem CsT.ext {c : Chn} {w : World} {q : Nat} {hv sv h2 s2 : Value} {W W' : World} (h : CsT c w q hv sv h2 s2 W) (e : Ext W W') : CsT c w q hv sv h2 s2 W' :=
  ⟨h.e.trans e, h.p.ext e, h.q.ext e, h.t.ext e, h.a1.ext e, h.a2.ext e, h.b1.ext e, h.b2.ext e⟩
end Go.Proofs.YtafdbgielmlihaaDoor
/- The small functions of the outright laws: span, sale, ring, is, ready, sum. -/
namespace Go.Proofs.YtafdbgielmlihaaDoor
open Go.RowKit Go.Shelf Go.Lib
set_option maxRecDepth 100000
set_option linter.unusedSimpArgs false

theorem Own.lit {α : Type} {enc : α → List Value} {e : TypeId} {sz : Nat} {W : World} {base g : Nat} {l : List α} {cs : Array Value} (henc : ∀ x, (enc x).length = sz) (h : Blk W g e cs) (hcs : cs = (l.flatMap enc).toArray) (hb : base ≤ g) (hl : l.length ≤ 1000) : Own enc e sz W base (.slice (some ⟨g, 0, none⟩) l.length l.length) l := by
  have hlen := enc_len henc l
  subst hcs
  exact ⟨hlen, .inr ⟨g, l.length, _, rfl, hb, h, Nat.le_refl _, by unfold maxLen; omega, by simpa using hlen, by rw [← hlen, List.toList_toArray, List.take_length]⟩⟩
theorem span_any (a b : Int) (w : World) : Calls Tryd.prog 57 #[.int .i64 a, .int .i64 b] w fun e w' => e = .returned (valSp ⟨a, b⟩) ∧ Ext w w' := by
  go_enter Tryd.func57, Tryd.ntmps57
  go_wp2
  refine bodyPost_ret (v := valSp ⟨a, b⟩) (by simp [results, Tryd.results57, go_sem]) rfl ?_
  exact ⟨rfl, Ext.al _ _⟩
theorem sale_any (n s b k p : Int) (w : World) : Calls Tryd.prog 59 #[.int .i64 n, .int .i64 s, .int .i64 b, .int .i64 k, .int .i64 p] w fun e w' => e = .returned (valL ⟨n, s, b, k, p⟩) ∧ Ext w w' := by
  go_enter Tryd.func59, Tryd.ntmps59
  go_wp2
  refine bodyPost_ret (v := valL ⟨n, s, b, k, p⟩) (by simp [results, Tryd.results59, go_sem]) rfl ?_
  exact ⟨rfl, Ext.al _ _⟩
set_option maxHeartbeats 2000000 in
theorem ring_any (w : World) : Calls Tryd.prog 56 #[] w fun e w' => (∃ v, e = .returned v ∧ TwinC ringC w.heap.size v w') ∧ Ext w w' := by
  go_enter Tryd.func56, Tryd.ntmps56
  go_wp2_with fail
  generalize hw1 : (w.alloc (.cells #[.slice none 0 0, .slice none 0 0] 25)).alloc (.cells #[.int .i64 1, .int .i64 2, .int .i64 3, .int .i64 4] 3) = w1
  have E1 := Lib.hid (show Ext w w1 from hw1 ▸ (Ext.al _ _).alloc _)
  have B1 := Lib.hid (show Blk w1 w.heap.size 25 #[.slice none 0 0, .slice none 0 0] from hw1 ▸ (Blk.new _ _ _).alloc _)
  have B2 := Lib.hid (show Blk w1 (w.heap.size + 1) 3 #[.int .i64 1, .int .i64 2, .int .i64 3, .int .i64 4] from hw1 ▸ Blk.at_ (by simp))
  clear hw1
  refine (sale_any 1 1 2 5 500 _).mono ?_
  rintro e w2 ⟨rfl, hE⟩
  replace E1 := Lib.hid (E1.out.trans hE); replace B1 := Lib.hid (B1.out.ext hE); replace B2 := Lib.hid (B2.out.ext hE); clear hE
  go_wp2_with fail
  refine (sale_any 2 2 3 4 510 _).mono ?_
  rintro e w3 ⟨rfl, hE⟩
  replace E1 := Lib.hid (E1.out.trans hE); replace B1 := Lib.hid (B1.out.ext hE); replace B2 := Lib.hid (B2.out.ext hE); clear hE
  go_wp2_with fail
  refine (sale_any 3 3 1 3 520 _).mono ?_
  rintro e w4 ⟨rfl, hE⟩
  replace E1 := Lib.hid (E1.out.trans hE); replace B1 := Lib.hid (B1.out.ext hE); replace B2 := Lib.hid (B2.out.ext hE); clear hE
  go_wp2_with fail
  refine (sale_any 4 2 4 2 505 _).mono ?_
  rintro e w5 ⟨rfl, hE⟩
  replace E1 := Lib.hid (E1.out.trans hE); replace B1 := Lib.hid (B1.out.ext hE); replace B2 := Lib.hid (B2.out.ext hE); clear hE
  go_wp2_with fail
  refine (sale_any 5 1 3 2 515 _).mono ?_
  rintro e w6 ⟨rfl, hE⟩
  replace E1 := Lib.hid (E1.out.trans hE); replace B1 := Lib.hid (B1.out.ext hE); replace B2 := Lib.hid (B2.out.ext hE); clear hE
  have t0 := B1.out.c2
  go_wp2
  generalize hW : World.alloc _ _ = W
  have EW := Lib.hid (show Ext w W from hW ▸ ((E1.out.setCell (by dsimp only; omega) _).setCell (by dsimp only; omega) _).alloc _)
  have C1 := Lib.hid (show Blk W w.heap.size 25 #[.slice (some ⟨w.heap.size + 1, 0, none⟩) 4 4, .slice (some ⟨w6.heap.size, 0, none⟩) 5 5] from hW ▸ (B1.out.set2 _ _).alloc _)
  have C2 := Lib.hid (show Blk W (w.heap.size + 1) 3 #[.int .i64 1, .int .i64 2, .int .i64 3, .int .i64 4] from hW ▸ ((B2.out.far (by dsimp only; omega) _).far (by dsimp only; omega) _).alloc _)
  have C3 := Lib.hid (show Blk W w6.heap.size 68 #[.int .i64 1, .int .i64 1, .int .i64 2, .int .i64 5, .int .i64 500, .int .i64 2, .int .i64 2, .int .i64 3, .int .i64 4, .int .i64 510, .int .i64 3, .int .i64 3, .int .i64 1, .int .i64 3, .int .i64 520, .int .i64 4, .int .i64 2, .int .i64 4, .int .i64 2, .int .i64 505, .int .i64 5, .int .i64 1, .int .i64 3, .int .i64 2, .int .i64 515] from hW ▸ Blk.at_ (by simp [World.setCell]))
  clear hW
  have t1 := C1.out.c2
  obtain ⟨b0, b1, -, -⟩ := t1
  have HZ := Lib.hid (show w.heap.size ≤ w6.heap.size from E1.out.size)
  refine bodyPost_ret (v := valC (.slice (some ⟨w.heap.size + 1, 0, none⟩) 4 4) (.slice (some ⟨w6.heap.size, 0, none⟩) 5 5)) (by simp [results, Tryd.results56, go_sem, b0, b1]) rfl ?_
  exact ⟨⟨_, rfl, ⟨_, _, rfl, Own.lit (enc := encI) (l := ringC.houses) (fun _ => rfl) C2.out rfl (by omega) (by decide), Own.lit (enc := encL) (l := ringC.sales) (fun _ => rfl) C3.out rfl HZ.out (by decide)⟩⟩, EW.out⟩
theorem is_any (l : List Int) (v v' : Value) (w : World) (h : SlI w v l) (h' : SlI w v' l) :
    Calls Tryd.prog 58 #[v, .int .i64 0, v'] w fun e w' => e = .returned (.bool true) ∧ Ext w w' := by
  have H := Lib.hid h; have H' := Lib.hid h'
  clear h h'
  go_enter Tryd.func58, Tryd.ntmps58
  go_wp2_with fail
  refine (sameInts_any l _ _ _ H.out H'.out).mono ?_
  rintro e w2 ⟨rfl, hE⟩
  go_wp2
  go_ret
  exact ⟨rfl, hE⟩
theorem great_check {c : Chn} (h : checkP c = true) : greatB c = false := by
  obtain ⟨hR, hN⟩ := check_right h
  have := hR.h6
  unfold greatB
  simp
  omega
theorem ready_any (c : Chn) (hv sv : Value) (w : World) (hh : SlI w hv c.houses) (hs : SlL w sv c.sales) :
    Calls Tryd.prog 60 #[valC hv sv] w fun e w' => e = .returned (.bool (checkP c)) ∧ Ext w w' := by
  have HH := Lib.hid hh; have HS := Lib.hid hs
  obtain ⟨A, n, cp, rfl, hn, hlc, hcm⟩ := hh.form
  obtain ⟨A2, n2, cp2, rfl, hn2, hlc2, hcm2⟩ := hs.form
  have B0 := Lib.hid (show Blk (w.alloc (.cells #[.slice A n cp, .slice A2 n2 cp2] 25)) w.heap.size 25 #[.slice A n cp, .slice A2 n2 cp2] from Blk.new _ _ _)
  clear hh hs
  go_enter Tryd.func60, Tryd.ntmps60
  go_wp2_with fail
  refine (great_any c _ _ _ (HH.out.ext (Ext.al _ _)) (HS.out.ext (Ext.al _ _))).mono ?_
  rintro e w1 ⟨rfl, hE⟩
  have E1 := Lib.hid ((Ext.al w _).trans hE)
  have B1 := Lib.hid (B0.out.ext hE)
  clear hE
  have t0 := B1.out.c2
  cases hg : greatB c with
  | true =>
    have hc : checkP c = false := by
      cases hc : checkP c with
      | false => rfl
      | true => rw [great_check hc] at hg; cases hg
    have HC := Lib.hid hc
    clear hc hg
    go_wp2
    go_ret
    exact ⟨by rw [HC.out]; rfl, E1.out⟩
  | false =>
    clear hg
    go_wp2_with fail
    refine (refChain_any c _ _ _ (HH.out.ext E1.out) (HS.out.ext E1.out)).mono ?_
    rintro e w2 ⟨rfl, hE⟩
    go_wp2
    go_ret
    exact ⟨rfl, E1.out.trans hE⟩
end Go.Proofs.YtafdbgielmlihaaDoor
/- Range: the program's. -/
namespace Go.Proofs.YtafdbgielmlihaaDoor
open Go.RowKit Go.Shelf Go.Lib
set_option maxRecDepth 100000
set_option linter.unusedSimpArgs false

def costR (e : Int) (a i : Nat) : List Int := [1, if i = a then e else 0, 0, 0, 0, 0, 0, 0, 0, 0, 0, 0]
theorem costR_len (e : Int) (a i : Nat) : (costR e a i).length = 12 := rfl
theorem costs_range (N a : Nat) {e : Int} (he : e = 1 ∨ e = -1) : Costs (progR e a) ((List.range N).map (costR e a)) := by
  refine ⟨fun i d h => ?_⟩
  rw [List.getElem?_map] at h
  obtain ⟨j, hj, rfl⟩ := Option.map_eq_some_iff.1 h
  obtain ⟨hl, e1⟩ := List.getElem?_eq_some_iff.1 hj
  simp at hl e1
  subst e1
  unfold costR progR
  by_cases hi : i = a
  · simp only [if_pos hi]
    rcases he with rfl | rfl
    · exact ⟨rfl, fun x hx => by simp at hx; omega, by decide +kernel⟩
    · exact ⟨rfl, fun x hx => by simp at hx; omega, by decide +kernel⟩
  · simp only [if_neg hi]
    exact ⟨rfl, fun x hx => by simp at hx; omega, by decide +kernel⟩
theorem progR_pos {e : Int} (he : e = 1 ∨ e = -1) (a i : Nat) : 0 ≤ progR e a i := by
  unfold progR
  split <;> rcases he with rfl | rfl <;> decide +kernel
theorem idxF_map {α β : Type} (f : α → β) (p : β → Bool) (q : α → Bool) (h : ∀ x, p (f x) = q x) (l : List α) : idxF p (l.map f) = idxF q l := by
  unfold idxF
  rw [List.findIdx?_map]
  have : (p ∘ f) = q := funext h
  rw [this]
theorem idx_numbers (c : Chn) (x : Int) : idxF (fun y => decide (x = y)) (c.sales.map (·.number)) = saleI c x := by
  unfold saleI
  exact idxF_map _ _ _ (fun s => by by_cases h : x = s.number <;> simp [h, eq_comm]) _
set_option maxHeartbeats 8000000 in
theorem range_any (c : Chn) (x lo hi : Int) (hv sv : Value) (w : World) (hrg : RangeOf c x lo hi) (hT : Tab w) (hh : SlI w hv c.houses) (hs : SlL w sv c.sales) (hl : c.sales.length ≤ 1000) :
    Calls Tryd.prog 35 #[valC hv sv, .int .i64 x] w (SpanE lo hi (rangeE c x) w) := by
  have HT := Lib.hid hT; have HH := Lib.hid hh; have HS := Lib.hid hs; have HL := Lib.hid hl
  obtain ⟨A, n, cp, rfl, hn, hlc, hcm⟩ := hh.form
  obtain ⟨A2, n2, cp2, rfl, hn2, hlc2, hcm2⟩ := hs.form
  obtain ⟨w0, hw0⟩ : ∃ w0, w0 = (w.alloc (.cells #[.slice A n cp, .slice A2 n2 cp2] 25)).alloc (.cells #[.int .i64 0, .int .i64 0] 48) := ⟨_, rfl⟩
  have E0 := Lib.hid (show Ext w w0 from hw0 ▸ (Ext.al _ _).alloc _)
  have B0 := Lib.hid (show Blk w0 w.heap.size 25 #[.slice A n cp, .slice A2 n2 cp2] from hw0 ▸ (Blk.new _ _ _).alloc _)
  have C0 := Lib.hid (show Blk w0 (w.heap.size + 1) 48 #[.int .i64 0, .int .i64 0] from hw0 ▸ Blk.at_ (by simp))
  have hz0 : w0.heap.size = w.heap.size + 2 := by rw [hw0]; simp
  clear hh hs hT hl
  go_enter Tryd.func35, Tryd.ntmps35
  go_wp2_with fail
  simp only [← hw0]
  clear hw0
  refine (check_any c _ _ _ (HT.out.ext E0.out) (HH.out.ext E0.out) (HS.out.ext E0.out) HL.out).mono ?_
  rintro e w1 ⟨rfl, hE⟩
  have E1 := Lib.hid (E0.out.trans hE); have B1 := Lib.hid (B0.out.ext hE); have C1 := Lib.hid (C0.out.ext hE)
  have hz1 := hE.size
  clear hE
  cases hc : checkP c with
  | false =>
    have HE := Lib.hid (show rangeE c x = 60 by unfold rangeE; rw [hc]; rfl)
    have HZ := Lib.hid (hrg.2 (by rw [HE.out]; decide))
    clear hc hrg
    dsimp only [errB]
    obtain ⟨e0, e1, ef, el⟩ := C1.out.c2
    go_wp2
    refine ret_span rfl C1.out rfl rfl rfl fun W hG => ?_
    exact ⟨by rw [HZ.out.1, HZ.out.2, HE.out], ext_grown E1.out hG (by omega)⟩
  | true =>
    have HR := Lib.hid (check_right hc).1
    have HS10 := Lib.hid (check_right hc).2
    have HCK := Lib.hid hc
    clear hc
    dsimp only [errB]
    have x0 := B1.out.c2
    go_wp2_with fail
    clear x0
    refine (numbers_any c.sales _ _ (HS.out.ext E1.out) (by have := HS10.out; omega)).mono ?_
    rintro e w2 ⟨⟨v2, rfl, ho⟩, hE⟩
    have E2 := Lib.hid (E1.out.trans hE); have B2 := Lib.hid (B1.out.ext hE); have C2 := Lib.hid (C1.out.ext hE)
    have SN := Lib.hid (show SlI w2 v2 (c.sales.map (·.number)) from ho.sl (fun _ => rfl))
    have hz2 := hE.size
    clear hE ho
    go_wp2_with fail
    refine (f85_any _ x _ _ SN.out).mono ?_
    rintro e w3 ⟨rfl, hE⟩
    rw [idx_numbers]
    have E3 := Lib.hid (E2.out.trans hE); have B3 := Lib.hid (B2.out.ext hE); have C3 := Lib.hid (C2.out.ext hE)
    have hz3 := hE.size
    clear hE
    rcases idxF_cases (fun y : Sale => decide (y.number = x)) c.sales with ⟨hno, -⟩ | ⟨a, y, hya, hay, -, -⟩
    · have hsi : saleI c x = -1 := hno
      have HE := Lib.hid (show rangeE c x = 61 by unfold rangeE; rw [HCK.out, if_pos rfl, hsi]; rfl)
      have HZ := Lib.hid (hrg.2 (by rw [HE.out]; decide))
      obtain ⟨e0, e1, ef, el⟩ := C3.out.c2
      rw [hsi]
      clear hno hsi hrg
      go_wp2
      refine ret_span rfl C3.out rfl rfl rfl fun W hG => ?_
      exact ⟨by rw [HZ.out.1, HZ.out.2, HE.out], ext_grown E3.out hG (by omega)⟩
    · have hsi : saleI c x = (a : Int) := hya
      have ha : a < c.sales.length := (List.getElem?_eq_some_iff.1 hay).1
      have HE0 := Lib.hid (show rangeE c x = 0 by unfold rangeE; rw [HCK.out, if_pos rfl, hsi]; rfl)
      have hlh := hrg.1 HE0.out
      rw [hsi, Int.toNat_natCast] at hlh
      obtain ⟨vv, hvv⟩ : ∃ vv : Nat → Int, vv = fun k => if k = 0 then lo else hi := ⟨_, rfl⟩
      have HVV := Lib.hid (show ∀ k : Nat, k < 2 → IsRange c (1 - 2 * (k : Int)) a (vv k) from fun k hk => by
        rw [hvv]
        match k, hk with
        | 0, _ => exact hlh.1
        | 1, _ => exact hlh.2)
      have HV01 := Lib.hid (show vv 0 = lo ∧ vv 1 = hi by rw [hvv]; exact ⟨rfl, rfl⟩)
      rw [hsi]
      clear hya hsi hrg hlh hay hvv
      have han : a < n2 := by have := hn2.out; omega
      have hanz : (a : Int) < (n2 : Int) := by omega
      have ha0 : ¬ (a : Int) < 0 := by omega
      have hn10 : n2 ≤ 10 := by have := HS10.out; have := hn2.out; omega
      have HHA := Lib.hid ha
      clear ha
      have HAB := Lib.hid (fun h => HH.out.lt (w := w) h)
      have HSB := Lib.hid (fun h => HS.out.lt (w := w) h)
      obtain ⟨w4, hw4⟩ : ∃ w4, w4 = w3.alloc (.cells #[.int .i64 0, .int .i64 0] 123) := ⟨_, rfl⟩
      have E4 := Lib.hid (show Ext w3 w4 from hw4 ▸ Ext.al _ _)
      have D4 := Lib.hid (show Blk w4 w3.heap.size 123 #[.int .i64 0, .int .i64 0] from hw4 ▸ Blk.new _ _ _)
      have hz4 : w4.heap.size = w3.heap.size + 1 := by rw [hw4]; simp
      go_wp2
      simp only [← hw4]
      clear hw4
      refine wp_loop_ghost_k (fun g A' U => ∃ (k : Nat), k ≤ 2 ∧ 2 - k ≤ g ∧ Fr 75 [(2, .pointer (some ⟨w.heap.size, 0, none⟩)), (4, .pointer (some ⟨w.heap.size + 1, 0, none⟩)), (7, .int .i64 (a : Int)), (8, .pointer (some ⟨w3.heap.size, 0, none⟩)), (27, .int .i64 (k : Int))] [] A' ∧
        w4.grownBy U (some w3.heap.size) ∧ Blk U w3.heap.size 123 #[.int .i64 (if 0 < k then vv 0 else 0), .int .i64 (if 1 < k then vv 1 else 0)]) 2 ?_ ?_
      · exact ⟨0, by omega, by omega, ⟨rfl, rfl, by simp [Act.eval]⟩, World.grownBy.refl _ _, by simpa using D4.out⟩
      · rintro g A' U ⟨k, hk, hg, hF, hG, hD⟩ J K' hJ hK
        have HJ := Lib.hid hJ; have GU := Lib.hid hG; have DU := Lib.hid hD
        have hzU := hG.size
        obtain ⟨ρ, rfl, hρ⟩ := hF.open_
        simp only [List.forall_mem_cons] at hρ
        obtain ⟨r2, r4, r7, r8, r27, -⟩ := hρ
        simp only [lst, Nat.reduceAdd, r2, r4, r7, r8, r27]
        clear r2 r4 r7 r8 r27 hF hG hD hJ
        have HHU := Lib.hid (((HH.out.ext E3.out).ext E4.out).grown GU.out fun h b o e => by have := HAB.out h b o e; omega)
        have HSU := Lib.hid (((HS.out.ext E3.out).ext E4.out).grown GU.out fun h b o e => by have := HSB.out h b o e; omega)
        have BU := Lib.hid ((B3.out.ext E4.out).grown GU.out (by intro e; injection e with e; omega))
        have CU := Lib.hid ((C3.out.ext E4.out).grown GU.out (by intro e; injection e with e; omega))
        by_cases hlt : k < 2
        · have hltz : (k : Int) < 2 := by omega
          have x0 := (BU.out.alloc (.cells #[.slice A n cp, .slice A2 n2 cp2, .slice none 0 0, .slice none 0 0] 112)).c2
          have y0 := BU.out.c2
          obtain ⟨e, he⟩ : ∃ e : Int, e = 1 - 2 * (k : Int) := ⟨_, rfl⟩
          have he2 : e = 1 ∨ e = -1 := by omega
          have HE2 := Lib.hid he2; have HEK := Lib.hid he
          obtain ⟨U1, hU1⟩ : ∃ U1, U1 = U.alloc (.cells #[.slice A n cp, .slice A2 n2 cp2, .slice none 0 0, .slice none 0 0] 112) := ⟨_, rfl⟩
          have BM1 := Lib.hid (show Blk U1 U.heap.size 112 #[.slice A n cp, .slice A2 n2 cp2, .slice none 0 0, .slice none 0 0] from hU1 ▸ Blk.new _ _ _)
          have EU1 := Lib.hid (show Ext U U1 from hU1 ▸ Ext.al _ _)
          go_wp2
          simp only [← hU1]
          clear x0 y0 hU1
          obtain ⟨mb, hmb⟩ : ∃ mb, U.heap.size = mb := ⟨_, rfl⟩
          rw [hmb] at BM1
          simp only [hmb]
          refine wp_loop_ghost_k (fun g A' V => ∃ (i : Nat) (cvv : Value), i ≤ n2 ∧ n2 - i ≤ g ∧ Fr 75 [(2, .pointer (some ⟨w.heap.size, 0, none⟩)), (4, .pointer (some ⟨w.heap.size + 1, 0, none⟩)), (7, .int .i64 (a : Int)), (8, .pointer (some ⟨w3.heap.size, 0, none⟩)), (9, .int .i64 (k : Int)), (10, .pointer (some ⟨mb, 0, none⟩)), (27, .int .i64 (k : Int)), (34, .slice A2 n2 cp2), (35, .int .i64 (n2 : Int)), (36, .int .i64 (i : Int))] [] A' ∧
            Ext U V ∧ Blk V mb 112 #[.slice A n cp, .slice A2 n2 cp2, .slice none 0 0, cvv] ∧ NewF enc12 12 125 (mb + 1) ((List.range i).map (costR e a)) cvv V) n2 ?_ ?_
          · exact ⟨0, .slice none 0 0, by omega, by omega, ⟨rfl, rfl, by simp [Act.eval]⟩, EU1.out, BM1.out, ⟨Own.nil _ _, none, 0, rfl, fun _ => rfl⟩⟩
          · rintro g2 A2' wr ⟨i, cvv, hiN, hg2, hF, hE, hBM, hCN⟩ J2 K2 hJ2 hK2
            have HJ2 := Lib.hid hJ2; have EX := Lib.hid hE; have BM := Lib.hid hBM; have CN := Lib.hid hCN
            have hzr := hE.size
            have hmlt := hBM.lt
            obtain ⟨ρ, rfl, hρ⟩ := hF.open_
            simp only [List.forall_mem_cons] at hρ
            obtain ⟨r2, r4, r7, r8, r9, r10, r27, r34, r35, r36, -⟩ := hρ
            simp only [lst, Nat.reduceAdd, r2, r4, r7, r8, r9, r10, r27, r34, r35, r36]
            clear r2 r4 r7 r8 r9 r10 r27 r34 r35 r36 hF hE hBM hCN hJ2
            by_cases hin : i < n2
            · have hinz : (i : Int) < (n2 : Int) := by omega
              obtain ⟨w6, hw6⟩ : ∃ w6, w6 = wr.alloc (.cells #[.int .i64 1, .int .i64 (if i = a then e else 0), .int .i64 0, .int .i64 0, .int .i64 0, .int .i64 0, .int .i64 0, .int .i64 0, .int .i64 0, .int .i64 0, .int .i64 0, .int .i64 0] 125) := ⟨_, rfl⟩
              have E6 := Lib.hid (show Ext wr w6 from hw6 ▸ Ext.al _ _)
              have BX6 := Lib.hid (show Blk w6 wr.heap.size 125 (enc12 (costR e a i)).toArray from by
                rw [enc12_eq (costR_len e a i), hw6]
                exact Blk.new _ _ _)
              have hz3 := E6.out.size
              have HB6 := Lib.hid (show mb + 1 ≤ w6.heap.size by omega)
              have BM6 := Lib.hid (BM.out.ext E6.out)
              have CC6 := Lib.hid (show CApp (mb + 1) w6 wr.heap.size (costR e a i) ((List.range i).map (costR e a)) cvv w6 from ⟨Below.refl _ _, BX6.out, ⟨CN.out.1.ext E6.out, CN.out.2⟩⟩)
              by_cases hia : i = a
              · rw [if_pos hia, he] at hw6
                have hiz : ((i : Int) == (a : Int)) = true := by rw [hia]; simp
                clear hia
                go_wp2
                simp only [← hw6]
                clear hw6 hiz he
                obtain ⟨q0, q1, q2, q3, q4, q5, q6, q7, q8, q9, q10, q11, hqe⟩ := twelve (show ((costR e a i)).length = 12 from by exact costR_len _ _ _)
                have HQE := Lib.hid (show enc12 (costR e a i) = [.int .i64 q0, .int .i64 q1, .int .i64 q2, .int .i64 q3, .int .i64 q4, .int .i64 q5, .int .i64 q6, .int .i64 q7, .int .i64 q8, .int .i64 q9, .int .i64 q10, .int .i64 q11] by rw [hqe]; rfl)
                clear hqe
                have mm := fun (V : World) (h : CApp (mb + 1) w6 wr.heap.size (costR e a i) ((List.range i).map (costR e a)) cvv V) => (show Blk V mb _ _ from (h.b.block mb (by omega)).trans BM6.out).c4
                have kx0 := fun (V : World) (h : CApp (mb + 1) w6 wr.heap.size (costR e a i) ((List.range i).map (costR e a)) cvv V) => (show V.cell? ⟨wr.heap.size, 0, none⟩ = some (.int .i64 q0) from by have h1 := h.x.cell 0; rw [HQE.out] at h1; exact h1)
                have kx1 := fun (V : World) (h : CApp (mb + 1) w6 wr.heap.size (costR e a i) ((List.range i).map (costR e a)) cvv V) => (show V.cell? ⟨wr.heap.size, 1, none⟩ = some (.int .i64 q1) from by have h1 := h.x.cell 1; rw [HQE.out] at h1; exact h1)
                have kx2 := fun (V : World) (h : CApp (mb + 1) w6 wr.heap.size (costR e a i) ((List.range i).map (costR e a)) cvv V) => (show V.cell? ⟨wr.heap.size, 2, none⟩ = some (.int .i64 q2) from by have h1 := h.x.cell 2; rw [HQE.out] at h1; exact h1)
                have kx3 := fun (V : World) (h : CApp (mb + 1) w6 wr.heap.size (costR e a i) ((List.range i).map (costR e a)) cvv V) => (show V.cell? ⟨wr.heap.size, 3, none⟩ = some (.int .i64 q3) from by have h1 := h.x.cell 3; rw [HQE.out] at h1; exact h1)
                have kx4 := fun (V : World) (h : CApp (mb + 1) w6 wr.heap.size (costR e a i) ((List.range i).map (costR e a)) cvv V) => (show V.cell? ⟨wr.heap.size, 4, none⟩ = some (.int .i64 q4) from by have h1 := h.x.cell 4; rw [HQE.out] at h1; exact h1)
                have kx5 := fun (V : World) (h : CApp (mb + 1) w6 wr.heap.size (costR e a i) ((List.range i).map (costR e a)) cvv V) => (show V.cell? ⟨wr.heap.size, 5, none⟩ = some (.int .i64 q5) from by have h1 := h.x.cell 5; rw [HQE.out] at h1; exact h1)
                have kx6 := fun (V : World) (h : CApp (mb + 1) w6 wr.heap.size (costR e a i) ((List.range i).map (costR e a)) cvv V) => (show V.cell? ⟨wr.heap.size, 6, none⟩ = some (.int .i64 q6) from by have h1 := h.x.cell 6; rw [HQE.out] at h1; exact h1)
                have kx7 := fun (V : World) (h : CApp (mb + 1) w6 wr.heap.size (costR e a i) ((List.range i).map (costR e a)) cvv V) => (show V.cell? ⟨wr.heap.size, 7, none⟩ = some (.int .i64 q7) from by have h1 := h.x.cell 7; rw [HQE.out] at h1; exact h1)
                have kx8 := fun (V : World) (h : CApp (mb + 1) w6 wr.heap.size (costR e a i) ((List.range i).map (costR e a)) cvv V) => (show V.cell? ⟨wr.heap.size, 8, none⟩ = some (.int .i64 q8) from by have h1 := h.x.cell 8; rw [HQE.out] at h1; exact h1)
                have kx9 := fun (V : World) (h : CApp (mb + 1) w6 wr.heap.size (costR e a i) ((List.range i).map (costR e a)) cvv V) => (show V.cell? ⟨wr.heap.size, 9, none⟩ = some (.int .i64 q9) from by have h1 := h.x.cell 9; rw [HQE.out] at h1; exact h1)
                have kx10 := fun (V : World) (h : CApp (mb + 1) w6 wr.heap.size (costR e a i) ((List.range i).map (costR e a)) cvv V) => (show V.cell? ⟨wr.heap.size, 10, none⟩ = some (.int .i64 q10) from by have h1 := h.x.cell 10; rw [HQE.out] at h1; exact h1)
                have kx11 := fun (V : World) (h : CApp (mb + 1) w6 wr.heap.size (costR e a i) ((List.range i).map (costR e a)) cvv V) => (show V.cell? ⟨wr.heap.size, 11, none⟩ = some (.int .i64 q11) from by have h1 := h.x.cell 11; rw [HQE.out] at h1; exact h1)
                refine wp_region_tame_cut (CApp (mb + 1) w6 wr.heap.size (costR e a i) ((List.range i).map (costR e a)) cvv) (RF enc12 12 125 ((mb + 1)) (((List.range i).map (costR e a)) ++ [(costR e a i)]) (costR e a i)) (by kernel_rfl) 75 rfl _ rfl (by decide +kernel) (by decide +kernel) (by decide +kernel) rfl (CC6.out.ext (Ext.refl _).drew HB6.out) ?_
                simp only [List.dropLast]
                repeat (apply tame_q rfl; (intro ρ W hC hr hD; (obtain ⟨hrc, hrg, hrf, hrs⟩ := hr); (simp [go_sem] at hD); go_simp; first | exact ⟨⟨hC, RF.refl _⟩, rfl⟩ | exact rfl); simp only [List.nil_append, List.cons_append])
                apply tame_v rfl (OneF enc12 125 (costR e a i)) (fun v V V' _ hR h => by obtain ⟨g, h1, h2⟩ := h; exact ⟨g, h1, hR.2.2.1 g h2⟩)
                · intro ρ V hC hr hD
                  obtain ⟨hrc, hrg, hrf, hrs⟩ := hr
                  simp [go_sem] at hD
                  go_simp
                  exact ⟨⟨hC.ext (Ext.al _ _) (Nat.le_trans HB6.out hC.b.size), RF.ext (Ext.al _ _)⟩, ⟨_, rfl, by rw [HQE.out]; exact Blk.new _ _ _⟩⟩
                simp only [List.nil_append, List.cons_append]
                apply tame_v rfl (NewF enc12 12 125 ((mb + 1)) (((List.range i).map (costR e a)) ++ [(costR e a i)])) (fun v V V' _ hR h => ⟨hR.2.1 _ (List.prefix_refl _) v h.1, h.2⟩)
                · intro ρ V hC hr hD
                  obtain ⟨hrc, hrg, hrf, hrs⟩ := hr
                  simp [go_sem] at hD
                  obtain ⟨d1, g, d2, d3⟩ := hD
                  obtain ⟨v', V', hrun, hnew, hR, hB⟩ := run_appF (t := 110) (ty := 110) (enc := enc12) (sz := 12) (m := [(costR e a i)]) (y := (costR e a i)) Tryd.underlying110 info125x rfl (by decide) (by decide) enc12_len enc12_1 hC.c (F := ((List.range i).map (costR e a)) ++ [(costR e a i)]) (List.prefix_refl _) (by simp; omega) (Nat.le_trans HB6.out hC.b.size) (Sl.single (c := 1) d3 (Nat.le_refl _) (by decide))
                  rw [← d2, ← d1] at hrun
                  show opGives _ _ _ _ _ _ _
                  unfold opGives execOp
                  simp only [resolve, invoke, builtin, Sem.run_bind, Sem.run_pure, Result.andThen_ok, List.map_toArray, List.map_cons, List.map_nil, hrun]
                  exact ⟨⟨⟨hC.b.trans hB, hR.2.2.1 _ hC.x, ⟨hR.2.1 _ (List.prefix_append _ _) _ hC.c.1, hC.c.2⟩⟩, hR⟩, hnew⟩
                simp only [List.nil_append, List.cons_append]
                repeat (apply tame_q rfl; (intro ρ W hC hr hD; (obtain ⟨hrc, hrg, hrf, hrs⟩ := hr); (simp [go_sem] at hD); go_simp; first | exact ⟨⟨hC, RF.refl _⟩, rfl⟩ | exact rfl); simp only [List.nil_append, List.cons_append])
                refine tame_end_put rfl rfl (fun ρ V hC hr hF => ?_)
                simp [go_sem] at hF
                obtain ⟨f1, f2, f3, f4, f5, f6, ⟨g25, f7, -⟩, hN, f9, f10⟩ := hF
                simp only [putF, f1, f2, f3, f4, f5, f6, f7, f9, f10, List.set_cons_succ, List.set_cons_zero]
                generalize ρ (Operand.tmp 54) = cv2 at *
                obtain ⟨A9, c9, e9, -⟩ := hN.2
                rw [show (((List.range i).map (costR e a)) ++ [(costR e a i)]).length = (i + 1) by simp] at e9
                subst e9
                have CN2 := Lib.hid hN
                have BM7 := Lib.hid (show Blk V mb _ _ from (hC.b.block mb (by omega)).trans BM6.out)
                have EB7 := Lib.hid hC.b
                clear f1 f2 f3 f4 f5 f6 f7 f9 f10 hN hr hC mm kx0 kx1 kx2 kx3 kx4 kx5 kx6 kx7 kx8 kx9 kx10 kx11
                have x0 := BM7.out.c4
                go_wp2
                have hbsz := EB7.out.size
                have HEV := Lib.hid (show Ext U V from ⟨EB7.out.os.trans (E6.out.os.trans EX.out.os), EB7.out.tape.trans (E6.out.tape.trans EX.out.tape), EB7.out.output.trans (E6.out.output.trans EX.out.output), by omega, fun i hi => (EB7.out.block i (by omega)).trans (((EX.out.trans E6.out)).block i hi)⟩)
                refine Handed.intro (n2 - (i + 1)) (by omega) (HJ2.out _ _ _ ⟨i + 1, .slice A9 (i + 1) c9, by omega, Nat.le_refl _, ⟨rfl, rfl, by simp [Act.eval]⟩, HEV.out.setCell (by dsimp only; omega) _, ?_, ?_⟩)
                · have := BM7.out.set_ 3 (.slice A9 (i + 1) c9)
                  simpa using this
                · have hc := CN2.out
                  rw [List.range_succ, List.map_append]
                  exact ⟨own_far hc.1 (by dsimp only; omega) _, hc.2⟩
              · rw [if_neg hia] at hw6
                have hiz : ((i : Int) == (a : Int)) = false := by simpa using fun e : (i : Int) = a => hia (by omega)
                clear hia
                go_wp2
                simp only [← hw6]
                clear hw6 hiz he
                obtain ⟨q0, q1, q2, q3, q4, q5, q6, q7, q8, q9, q10, q11, hqe⟩ := twelve (show ((costR e a i)).length = 12 from by exact costR_len _ _ _)
                have HQE := Lib.hid (show enc12 (costR e a i) = [.int .i64 q0, .int .i64 q1, .int .i64 q2, .int .i64 q3, .int .i64 q4, .int .i64 q5, .int .i64 q6, .int .i64 q7, .int .i64 q8, .int .i64 q9, .int .i64 q10, .int .i64 q11] by rw [hqe]; rfl)
                clear hqe
                have mm := fun (V : World) (h : CApp (mb + 1) w6 wr.heap.size (costR e a i) ((List.range i).map (costR e a)) cvv V) => (show Blk V mb _ _ from (h.b.block mb (by omega)).trans BM6.out).c4
                have kx0 := fun (V : World) (h : CApp (mb + 1) w6 wr.heap.size (costR e a i) ((List.range i).map (costR e a)) cvv V) => (show V.cell? ⟨wr.heap.size, 0, none⟩ = some (.int .i64 q0) from by have h1 := h.x.cell 0; rw [HQE.out] at h1; exact h1)
                have kx1 := fun (V : World) (h : CApp (mb + 1) w6 wr.heap.size (costR e a i) ((List.range i).map (costR e a)) cvv V) => (show V.cell? ⟨wr.heap.size, 1, none⟩ = some (.int .i64 q1) from by have h1 := h.x.cell 1; rw [HQE.out] at h1; exact h1)
                have kx2 := fun (V : World) (h : CApp (mb + 1) w6 wr.heap.size (costR e a i) ((List.range i).map (costR e a)) cvv V) => (show V.cell? ⟨wr.heap.size, 2, none⟩ = some (.int .i64 q2) from by have h1 := h.x.cell 2; rw [HQE.out] at h1; exact h1)
                have kx3 := fun (V : World) (h : CApp (mb + 1) w6 wr.heap.size (costR e a i) ((List.range i).map (costR e a)) cvv V) => (show V.cell? ⟨wr.heap.size, 3, none⟩ = some (.int .i64 q3) from by have h1 := h.x.cell 3; rw [HQE.out] at h1; exact h1)
                have kx4 := fun (V : World) (h : CApp (mb + 1) w6 wr.heap.size (costR e a i) ((List.range i).map (costR e a)) cvv V) => (show V.cell? ⟨wr.heap.size, 4, none⟩ = some (.int .i64 q4) from by have h1 := h.x.cell 4; rw [HQE.out] at h1; exact h1)
                have kx5 := fun (V : World) (h : CApp (mb + 1) w6 wr.heap.size (costR e a i) ((List.range i).map (costR e a)) cvv V) => (show V.cell? ⟨wr.heap.size, 5, none⟩ = some (.int .i64 q5) from by have h1 := h.x.cell 5; rw [HQE.out] at h1; exact h1)
                have kx6 := fun (V : World) (h : CApp (mb + 1) w6 wr.heap.size (costR e a i) ((List.range i).map (costR e a)) cvv V) => (show V.cell? ⟨wr.heap.size, 6, none⟩ = some (.int .i64 q6) from by have h1 := h.x.cell 6; rw [HQE.out] at h1; exact h1)
                have kx7 := fun (V : World) (h : CApp (mb + 1) w6 wr.heap.size (costR e a i) ((List.range i).map (costR e a)) cvv V) => (show V.cell? ⟨wr.heap.size, 7, none⟩ = some (.int .i64 q7) from by have h1 := h.x.cell 7; rw [HQE.out] at h1; exact h1)
                have kx8 := fun (V : World) (h : CApp (mb + 1) w6 wr.heap.size (costR e a i) ((List.range i).map (costR e a)) cvv V) => (show V.cell? ⟨wr.heap.size, 8, none⟩ = some (.int .i64 q8) from by have h1 := h.x.cell 8; rw [HQE.out] at h1; exact h1)
                have kx9 := fun (V : World) (h : CApp (mb + 1) w6 wr.heap.size (costR e a i) ((List.range i).map (costR e a)) cvv V) => (show V.cell? ⟨wr.heap.size, 9, none⟩ = some (.int .i64 q9) from by have h1 := h.x.cell 9; rw [HQE.out] at h1; exact h1)
                have kx10 := fun (V : World) (h : CApp (mb + 1) w6 wr.heap.size (costR e a i) ((List.range i).map (costR e a)) cvv V) => (show V.cell? ⟨wr.heap.size, 10, none⟩ = some (.int .i64 q10) from by have h1 := h.x.cell 10; rw [HQE.out] at h1; exact h1)
                have kx11 := fun (V : World) (h : CApp (mb + 1) w6 wr.heap.size (costR e a i) ((List.range i).map (costR e a)) cvv V) => (show V.cell? ⟨wr.heap.size, 11, none⟩ = some (.int .i64 q11) from by have h1 := h.x.cell 11; rw [HQE.out] at h1; exact h1)
                refine wp_region_tame_cut (CApp (mb + 1) w6 wr.heap.size (costR e a i) ((List.range i).map (costR e a)) cvv) (RF enc12 12 125 ((mb + 1)) (((List.range i).map (costR e a)) ++ [(costR e a i)]) (costR e a i)) (by kernel_rfl) 75 rfl _ rfl (by decide +kernel) (by decide +kernel) (by decide +kernel) rfl (CC6.out.ext (Ext.refl _).drew HB6.out) ?_
                simp only [List.dropLast]
                repeat (apply tame_q rfl; (intro ρ W hC hr hD; (obtain ⟨hrc, hrg, hrf, hrs⟩ := hr); (simp [go_sem] at hD); go_simp; first | exact ⟨⟨hC, RF.refl _⟩, rfl⟩ | exact rfl); simp only [List.nil_append, List.cons_append])
                apply tame_v rfl (OneF enc12 125 (costR e a i)) (fun v V V' _ hR h => by obtain ⟨g, h1, h2⟩ := h; exact ⟨g, h1, hR.2.2.1 g h2⟩)
                · intro ρ V hC hr hD
                  obtain ⟨hrc, hrg, hrf, hrs⟩ := hr
                  simp [go_sem] at hD
                  go_simp
                  exact ⟨⟨hC.ext (Ext.al _ _) (Nat.le_trans HB6.out hC.b.size), RF.ext (Ext.al _ _)⟩, ⟨_, rfl, by rw [HQE.out]; exact Blk.new _ _ _⟩⟩
                simp only [List.nil_append, List.cons_append]
                apply tame_v rfl (NewF enc12 12 125 ((mb + 1)) (((List.range i).map (costR e a)) ++ [(costR e a i)])) (fun v V V' _ hR h => ⟨hR.2.1 _ (List.prefix_refl _) v h.1, h.2⟩)
                · intro ρ V hC hr hD
                  obtain ⟨hrc, hrg, hrf, hrs⟩ := hr
                  simp [go_sem] at hD
                  obtain ⟨d1, g, d2, d3⟩ := hD
                  obtain ⟨v', V', hrun, hnew, hR, hB⟩ := run_appF (t := 110) (ty := 110) (enc := enc12) (sz := 12) (m := [(costR e a i)]) (y := (costR e a i)) Tryd.underlying110 info125x rfl (by decide) (by decide) enc12_len enc12_1 hC.c (F := ((List.range i).map (costR e a)) ++ [(costR e a i)]) (List.prefix_refl _) (by simp; omega) (Nat.le_trans HB6.out hC.b.size) (Sl.single (c := 1) d3 (Nat.le_refl _) (by decide))
                  rw [← d2, ← d1] at hrun
                  show opGives _ _ _ _ _ _ _
                  unfold opGives execOp
                  simp only [resolve, invoke, builtin, Sem.run_bind, Sem.run_pure, Result.andThen_ok, List.map_toArray, List.map_cons, List.map_nil, hrun]
                  exact ⟨⟨⟨hC.b.trans hB, hR.2.2.1 _ hC.x, ⟨hR.2.1 _ (List.prefix_append _ _) _ hC.c.1, hC.c.2⟩⟩, hR⟩, hnew⟩
                simp only [List.nil_append, List.cons_append]
                repeat (apply tame_q rfl; (intro ρ W hC hr hD; (obtain ⟨hrc, hrg, hrf, hrs⟩ := hr); (simp [go_sem] at hD); go_simp; first | exact ⟨⟨hC, RF.refl _⟩, rfl⟩ | exact rfl); simp only [List.nil_append, List.cons_append])
                refine tame_end_put rfl rfl (fun ρ V hC hr hF => ?_)
                simp [go_sem] at hF
                obtain ⟨f1, f2, f3, f4, f5, f6, ⟨g25, f7, -⟩, hN, f9, f10⟩ := hF
                simp only [putF, f1, f2, f3, f4, f5, f6, f7, f9, f10, List.set_cons_succ, List.set_cons_zero]
                generalize ρ (Operand.tmp 54) = cv2 at *
                obtain ⟨A9, c9, e9, -⟩ := hN.2
                rw [show (((List.range i).map (costR e a)) ++ [(costR e a i)]).length = (i + 1) by simp] at e9
                subst e9
                have CN2 := Lib.hid hN
                have BM7 := Lib.hid (show Blk V mb _ _ from (hC.b.block mb (by omega)).trans BM6.out)
                have EB7 := Lib.hid hC.b
                clear f1 f2 f3 f4 f5 f6 f7 f9 f10 hN hr hC mm kx0 kx1 kx2 kx3 kx4 kx5 kx6 kx7 kx8 kx9 kx10 kx11
                have x0 := BM7.out.c4
                go_wp2
                have hbsz := EB7.out.size
                have HEV := Lib.hid (show Ext U V from ⟨EB7.out.os.trans (E6.out.os.trans EX.out.os), EB7.out.tape.trans (E6.out.tape.trans EX.out.tape), EB7.out.output.trans (E6.out.output.trans EX.out.output), by omega, fun i hi => (EB7.out.block i (by omega)).trans (((EX.out.trans E6.out)).block i hi)⟩)
                refine Handed.intro (n2 - (i + 1)) (by omega) (HJ2.out _ _ _ ⟨i + 1, .slice A9 (i + 1) c9, by omega, Nat.le_refl _, ⟨rfl, rfl, by simp [Act.eval]⟩, HEV.out.setCell (by dsimp only; omega) _, ?_, ?_⟩)
                · have := BM7.out.set_ 3 (.slice A9 (i + 1) c9)
                  simpa using this
                · have hc := CN2.out
                  rw [List.range_succ, List.map_append]
                  exact ⟨own_far hc.1 (by dsimp only; omega) _, hc.2⟩
            · have HE := Lib.hid (show i = n2 by omega)
              have HCL := Lib.hid (show ((List.range i).map (costR e a)).length = c.sales.length by rw [HE.out]; simp; exact hn2.out)
              obtain ⟨A9, c9, e9, -⟩ := CN.out.2
              subst e9
              go_wp2_with fail
              refine (closed_any (c := c) (f := progR e a) (C := (List.range i).map (costR e a)) HR.out (by have := HS10.out; omega) (costs_range i a HE2.out) HCL.out (progR_pos HE2.out a) BM.out (HHU.out.ext EX.out) (HSU.out.ext EX.out) (Own.sl enc12_len CN.out.1) ?_ ?_ ?_).mono ?_
              · intro h0 b o e
                have := HAB.out h0 b o e
                omega
              · intro h0 b o e
                have := HSB.out h0 b o e
                omega
              · intro h0 b o e
                rcases own_form CN.out.1 with ⟨_, h1⟩ | ⟨g, cap, cur, h1, h2, h3, _⟩
                · rw [h1] at h0; simp at h0
                · rw [e] at h1
                  injection h1 with h1
                  injection h1 with h1
                  injection h1 with h1 _ _
                  omega
              rintro e' w' ⟨gm, m, ⟨v, rfl⟩, hG, hB, hgm, hRM, hO⟩
              have hml : m.length = c.sales.length := by rw [feas_len hO.1, at_len]
              have hv := range_prog HR.out HE2.out HHA.out hO (HEK.out ▸ HVV.out k hlt)
              have hva : m[a]? = some (vv k) := by
                have h1 : a < m.length := by rw [hml]; exact HHA.out
                rw [List.getElem?_eq_getElem h1] at hv ⊢
                exact congrArg some hv
              have hmn : a < m.length := by rw [hml]; exact HHA.out
              have hmz : (a : Int) < (m.length : Int) := by omega
              have HG := Lib.hid hG; have HB := Lib.hid hB; have HRM := Lib.hid hRM
              have DW := Lib.hid ((DU.out.ext EX.out).grown hG (by intro e; injection e with e; omega))
              have G4 := Lib.hid (show w4.grownBy w' (some w3.heap.size) from grown_far (grown_ext GU.out EX.out) hG (by omega))
              obtain ⟨b0, b1, b2, b3, bf, bl⟩ := hB.c4
              have cm := hRM.cell hva
              obtain ⟨d0, d1, df, dl⟩ := DW.out.c2
              obtain ⟨uk, duk⟩ : ∃ u, w'.cell? ⟨w3.heap.size, k, none⟩ = some u := by
                match k, hlt, d0, d1 with
                | 0, _, d0, _ => exact ⟨_, d0⟩
                | 1, _, _, d1 => exact ⟨_, d1⟩
              have HKN := Lib.hid (show Blk (w'.setCell ⟨w3.heap.size, k, none⟩ (.int .i64 (vv k))) w3.heap.size 123 #[.int .i64 (if 0 < k + 1 then vv 0 else 0), .int .i64 (if 1 < k + 1 then vv 1 else 0)] from by
                have h := DW.out.set_ k (.int .i64 (vv k))
                match k, hlt with
                | 0, _ => simpa using h
                | 1, _ => simpa using h)
              clear hG hB hRM hO hv hva d0 d1
              go_wp2
              exact Handed.intro (2 - (k + 1)) (by omega) (HJ.out _ _ _ ⟨k + 1, by omega, Nat.le_refl _, ⟨rfl, rfl, by simp [Act.eval]⟩, grown_set G4.out (p := ⟨w3.heap.size, k, none⟩) (.inl rfl) _, HKN.out⟩)
        · have HE := Lib.hid (show k = 2 by omega)
          obtain ⟨d0, d1, -, -⟩ := DU.out.c2
          obtain ⟨e0, e1, ef, el⟩ := CU.out.c2
          rw [HE.out] at d0 d1
          simp only [if_pos (show 0 < 2 by omega), if_pos (show 1 < 2 by omega), HV01.out.1, HV01.out.2] at d0 d1
          go_wp2
          refine ret_span rfl CU.out rfl rfl rfl fun W hG => ?_
          rw [HE0.out]
          exact ⟨rfl, ext_grown (ext_grown (E3.out.trans E4.out) GU.out (by omega)) hG (by omega)⟩
end Go.Proofs.YtafdbgielmlihaaDoor
/- Passes: the program's. -/
namespace Go.Proofs.YtafdbgielmlihaaDoor
open Go.RowKit Go.Shelf Go.Lib
set_option maxRecDepth 100000
set_option linter.unusedSimpArgs false

theorem und116a : Tryd.prog.underlying 116 = some (.array 2 4) := by kernel_rfl
theorem info4a : (Tryd.prog.info? 4).isSome = true := by kernel_rfl
theorem und4a : Tryd.prog.underlying 4 = some .bool := by kernel_rfl
theorem cells4a : Tryd.prog.cellsOf 4 = 1 := by kernel_rfl
theorem eqBB (s b : Bool) (w : World) : (Op.equalIn 10000 116 (.agg #[.bool s, .bool b]) (.agg #[.bool true, .bool true])).run Tryd.prog w = .ok (s && b) w := by
  obtain ⟨i, hi⟩ := Option.isSome_iff_exists.1 info4a
  have h := run_equalIn_array (w := w) 9999 #[.bool s, .bool b] #[.bool true, .bool true] und116a hi
  rw [show (10000 : Nat) = 9999 + 1 from rfl, h, cells4a]
  have u := und4a
  have a := Tryd.isAgg4
  simp only [show List.range 2 = [0, 1] from rfl]
  cases s <;> cases b <;> simp [Op.eqItems, go_sem, u, a]
/-- A list in new memory, and an error. -/
def ListN (l : List Int) (E : Int) (w : World) (e : Ending) (w' : World) : Prop := (∃ v, e = .returned (.tuple #[v, .int .i64 E]) ∧ SlI w' v l ∧ NewAt w.heap.size v) ∧ Ext w w'
set_option maxHeartbeats 8000000 in
theorem passes_own (c : Chn) (l : List Int) (hv sv : Value) (w : World) (hcl : CloseOf c l) (hT : Tab w) (hh : SlI w hv c.houses) (hs : SlL w sv c.sales) (hl : c.sales.length ≤ 1000) :
    Calls Tryd.prog 28 #[valC hv sv] w (ListN (passesL c l) (errB (checkP c) 60) w) := by
  have HT := Lib.hid hT; have HH := Lib.hid hh; have HS := Lib.hid hs; have HL := Lib.hid hl
  obtain ⟨A, n, cp, rfl, hn, hlc, hcm⟩ := hh.form
  obtain ⟨A2, n2, cp2, rfl, hn2, hlc2, hcm2⟩ := hs.form
  clear hh hs hT hl
  cases hc : checkP c with
  | false =>
    have HO := Lib.hid (show passesL c l = [] by unfold passesL; rw [hc]; rfl)
    have HCK := Lib.hid hc
    clear hcl hc
    go_enter Tryd.func28, Tryd.ntmps28
    go_wp2_with fail
    refine (opened_no c _ _ _ (HT.out.ext (Ext.al _ _)) (HH.out.ext (Ext.al _ _)) (HS.out.ext (Ext.al _ _)) HL.out HCK.out).mono ?_
    rintro e w1 ⟨rfl, hE⟩
    have E1 := Lib.hid ((Ext.al w _).trans hE); clear hE
    go_wp2
    go_ret2
    exact ⟨⟨.slice none 0 0, by rfl, by rw [HO.out]; exact Sl.nil _, NewAt.nil _ _⟩, E1.out⟩
  | true =>
    have HPL := Lib.hid (show passesL c l = passL c l by unfold passesL; rw [hc]; rfl)
    have HO := Lib.hid (hcl.1 hc)
    have HCLO := Lib.hid hcl
    have HCK := Lib.hid hc
    have HR := Lib.hid (check_right hc).1
    have HS10 := Lib.hid (check_right hc).2
    have B0 := Lib.hid (show Blk (w.alloc (.cells #[.slice A n cp, .slice A2 n2 cp2] 25)) w.heap.size 25 #[.slice A n cp, .slice A2 n2 cp2] from Blk.new _ _ _)
    clear hcl hc
    go_enter Tryd.func28, Tryd.ntmps28
    go_wp2_with fail
    refine (opened_yes c l _ _ _ HCLO.out (HT.out.ext (Ext.al _ _)) (HH.out.ext (Ext.al _ _)) (HS.out.ext (Ext.al _ _)) HCK.out).mono ?_
    rintro e w2 ⟨mb, gm, hv', sv', cv', rfl, hE, h1, h2, h3, h4, h5, h6'⟩
    have HLN := Lib.hid (close_len HO.out)
    have E2 := Lib.hid ((Ext.al w _).trans hE); have B2 := Lib.hid (B0.out.ext hE)
    have BM := Lib.hid h3; have RM := Lib.hid h4
    clear hE h3 h4 h5 h6'
    have hN : c.sales.length = n2 := by have := hn2.out; omega
    rw [hN] at BM
    have h6 : n ≤ 6 := by have := HR.out.h6; have := hn.out; omega
    have h10 : n2 ≤ 10 := by have := HS10.out; omega
    obtain ⟨b0, b1, bf, bl⟩ := B2.out.c2
    clear hN
    go_wp2
    clear b0 b1 bf bl
    have hb2 := B2.out.lt
    have hbm := BM.out.lt
    have hrm := RM.out.lt
    refine wp_loop_ghost_k (fun g A' W => ∃ (kk : Nat) (A1 : Option Addr) (n1 d1 : Nat), kk ≤ n ∧ n - kk ≤ g ∧ Fr 83 [(1, .pointer (some ⟨w.heap.size, 0, none⟩)), (4, .pointer (some ⟨mb, 0, none⟩)), (6, .slice A1 n1 d1), (21, .slice A n cp), (22, .int .i64 (n : Int)), (23, .int .i64 (kk : Int))] [] A' ∧
      Ext w2 W ∧ Own encI 3 1 W w2.heap.size (.slice A1 n1 d1) ((c.houses.take kk).filter (passB c l))) n ?_ ?_
    · exact ⟨0, none, 0, 0, by omega, by omega, ⟨rfl, rfl, by simp [Act.eval]⟩, Ext.refl _, by simpa using Own.nil _ _⟩
    · rintro g A' W ⟨kk, A1, n1, d1, hkk, hg, hF, hE, hOw⟩ J K' hJ hK
      have HJ := Lib.hid hJ; have EW := Lib.hid hE; have OW := Lib.hid hOw
      obtain ⟨ρ, rfl, hρ⟩ := hF.open_
      simp only [List.forall_mem_cons] at hρ
      obtain ⟨r1, r4, r6, r21, r22, r23, -⟩ := hρ
      simp only [lst, Nat.reduceAdd, r1, r4, r6, r21, r22, r23]
      clear r1 r4 r6 r21 r22 r23 hF hE hOw hJ
      by_cases hlt : kk < n
      · have hltz : (kk : Int) < (n : Int) := by omega
        obtain ⟨b9, off9, h, rfl, hx9, -, hcell9⟩ := HH.out.at_ hlt
        have c9 := SlI.cell hcell9 (E2.out.trans EW.out)
        have HPS := Lib.hid (pass_snoc (l := l) hx9)
        obtain ⟨b0, b1, bf, bl⟩ := ((B2.out.ext EW.out).alloc (.cells #[.bool false, .bool false] 116)).c2
        have hzW0 := EW.out.size
        clear hx9 hcell9
        go_wp2
        clear b0 b1 bf bl c9
        refine wp_loop_ghost_k (fun g A' W' => ∃ (i : Nat) (b s : Bool), i ≤ n2 ∧ n2 - i ≤ g ∧ Fr 83 [(1, .pointer (some ⟨w.heap.size, 0, none⟩)), (4, .pointer (some ⟨mb, 0, none⟩)), (6, .slice A1 n1 d1), (8, .int .i64 h), (9, .pointer (some ⟨W.heap.size, 0, none⟩)), (21, .slice (some ⟨b9, off9, none⟩) n cp), (22, .int .i64 (n : Int)), (23, .int .i64 (kk : Int)), (28, .slice A2 n2 cp2), (29, .int .i64 (n2 : Int)), (30, .int .i64 (i : Int))] [] A' ∧
          Ext W W' ∧ Blk W' W.heap.size 116 #[.bool s, .bool b] ∧ buysB ((c.sales.zip l).take i) h = b ∧ sellsB ((c.sales.zip l).take i) h = s) n2 ?_ ?_
        · exact ⟨0, false, false, by omega, by omega, ⟨rfl, rfl, by simp [Act.eval]⟩, Ext.al _ _, Blk.new _ _ _, rfl, rfl⟩
        · rintro g2 A'2 W3 ⟨i, b, s, hi, hg2, hF, hE, hB9, hb, hs⟩ J2 K2 hJ2 hK2
          have HJ2 := Lib.hid hJ2; have EW3 := Lib.hid hE; have HB := Lib.hid hb; have HSS := Lib.hid hs; have B9 := Lib.hid hB9
          have hz3 := EW3.out.size
          have hb9 := B9.out.lt
          obtain ⟨ρ, rfl, hρ⟩ := hF.open_
          simp only [List.forall_mem_cons] at hρ
          obtain ⟨r1, r4, r6, r8, r9, r21, r22, r23, r28, r29, r30, -⟩ := hρ
          simp only [lst, Nat.reduceAdd, r1, r4, r6, r8, r9, r21, r22, r23, r28, r29, r30]
          clear r1 r4 r6 r8 r9 r21 r22 r23 r28 r29 r30 hF hE hb hs hJ2 hB9
          by_cases hin : i < n2
          · have hiz : (i : Int) < (n2 : Int) := by omega
            obtain ⟨bx, ox, x, rfl, hx, -, hcellx⟩ := HS.out.at_ hin
            obtain ⟨y, hy⟩ : ∃ y, l[i]? = some y := ⟨_, List.getElem?_eq_getElem (by have := HLN.out; have := hn2.out; omega)⟩
            have ex : Ext w W3 := (E2.out.trans EW.out).trans EW3.out
            obtain ⟨c0, c1, c2, c3, c4⟩ := SlL.cells hcellx ex
            have e23 : Ext w2 W3 := EW.out.trans EW3.out
            obtain ⟨v0, v1, v2, v3, vf, vl⟩ := (BM.out.ext e23).c4
            have cy := (RM.out.ext e23).cell hy
            have cy2 := (RM.out.ext (e23.trans (Ext.al W3 (.cells #[.int .i64 x.number, .int .i64 x.seller, .int .i64 x.buyer, .int .i64 x.bales, .int .i64 x.price] 68)))).cell hy
            have cyf := (RM.out.ext e23).frozen
            have cyl := (RM.out.ext e23).lt
            obtain ⟨u0, u1, uf, ul⟩ := B9.out.c2
            have HB2 := Lib.hid (buys_snoc h hx hy); have HS2 := Lib.hid (sells_snoc h hx hy)
            have n1 : ¬ mb = W.heap.size := by omega
            have n2' : ¬ gm = W.heap.size := by omega
            have n3' : ¬ W3.heap.size = W.heap.size := by omega
            clear hx hy hcellx ex e23
            obtain ⟨p, hp⟩ : ∃ p, decide (0 < y) = p := ⟨_, rfl⟩
            obtain ⟨q, hq, hq2⟩ : ∃ q, decide (x.buyer = h) = q ∧ (x.buyer == h) = q := ⟨_, rfl, by cases hh : (x.buyer == h) <;> simp_all⟩
            obtain ⟨r, hr, hr2⟩ : ∃ q, decide (x.seller = h) = q ∧ (x.seller == h) = q := ⟨_, rfl, by cases hh : (x.seller == h) <;> simp_all⟩
            have HP := Lib.hid hp; have HQ1 := Lib.hid hq; have HR1 := Lib.hid hr
            cases p <;> cases q <;> cases r <;> cases b <;> cases s <;> (
              go_wp2
              exact Handed.intro (n2 - (i + 1)) (by omega) (HJ2.out _ _ _ ⟨i + 1, buysB ((c.sales.zip l).take (i + 1)) h, sellsB ((c.sales.zip l).take (i + 1)) h, by omega, Nat.le_refl _, ⟨rfl, rfl, by simp [Act.eval]⟩, by first | exact ((EW3.out.setCell (Nat.le_refl _) _).setCell (Nat.le_refl _) _).alloc _ | exact ((EW3.out.alloc _).setCell (Nat.le_refl _) _).setCell (Nat.le_refl _) _,
                by rw [HB2.out, HS2.out, HB.out, HSS.out, HP.out, HQ1.out, HR1.out]; first | exact ((B9.out.set_ 0 _).set_ 1 _).alloc _ | exact ((B9.out.alloc _).set_ 0 _).set_ 1 _, rfl, rfl⟩))
          · have HZ := Lib.hid (show (c.sales.zip l).take i = c.sales.zip l from zip_all (by have := hn2.out; omega))
            have HPB := Lib.hid (show passB c l h = (s && b) by unfold passB; rw [← HB.out, ← HSS.out, HZ.out])
            have hzW := EW.out.size
            obtain ⟨u0, u1, uf, ul⟩ := B9.out.c2
            have heq := fun w => eqBB s b w
            cases s <;> cases b
            · go_wp2
              exact Handed.intro (n - (kk + 1)) (by omega) (HJ.out _ _ _ ⟨kk + 1, A1, n1, d1, by omega, Nat.le_refl _, ⟨rfl, rfl, by simp [Act.eval]⟩, EW.out.trans EW3.out, by rw [HPS.out, HPB.out]; simpa using OW.out.ext EW3.out⟩)
            · go_wp2
              exact Handed.intro (n - (kk + 1)) (by omega) (HJ.out _ _ _ ⟨kk + 1, A1, n1, d1, by omega, Nat.le_refl _, ⟨rfl, rfl, by simp [Act.eval]⟩, EW.out.trans EW3.out, by rw [HPS.out, HPB.out]; simpa using OW.out.ext EW3.out⟩)
            · go_wp2
              exact Handed.intro (n - (kk + 1)) (by omega) (HJ.out _ _ _ ⟨kk + 1, A1, n1, d1, by omega, Nat.le_refl _, ⟨rfl, rfl, by simp [Act.eval]⟩, EW.out.trans EW3.out, by rw [HPS.out, HPB.out]; simpa using OW.out.ext EW3.out⟩)
            · obtain ⟨F, hF⟩ : ∃ F, F = (c.houses.take kk).filter (passB c l) := ⟨_, rfl⟩
              rw [← hF] at HPS OW
              have hFl : F.length ≤ kk := by rw [hF]; exact Nat.le_trans (List.length_filter_le _ _) (by rw [List.length_take]; omega)
              clear hF
              have OW3 := Lib.hid (OW.out.ext EW3.out)
              go_wp2_with (at_builtin; refine wpList_app encI 22 3 1 _ 8 Tryd.underlying22 info3x rfl (by decide) (by decide) (fun _ => rfl) encI_one rfl (.tmp 77) (.tmp 79) rfl w2.heap.size _ F rfl (OW3.out.alloc _) W3.heap.size 1 h rfl (cells1 (by simp [go_sem])) (by omega) (by simp; omega) ?_)
              intro g9 cap w9 hown hg9 hbel hgr
              have HO9 := Lib.hid hown
              have HB9 := Lib.hid (show Ext w2 w9 from Below.trans ((EW.out.trans EW3.out).alloc _) hbel)
              clear hown hbel hgr u0 u1 uf ul
              go_wp2
              exact Handed.intro (n - (kk + 1)) (by omega) (HJ.out _ _ _ ⟨kk + 1, _, _, _, by omega, Nat.le_refl _, ⟨rfl, rfl, by simp [Act.eval]; first | done | exact ⟨rfl, rfl, rfl⟩⟩, HB9.out, by rw [HPS.out, HPB.out]; exact HO9.out⟩)
      · have HE := Lib.hid (show kk = n by omega)
        go_wp2
        go_ret2
        refine ⟨⟨.slice A1 n1 d1, by rfl, ?_, OW.out.newAt.mono E2.out.size⟩, E2.out.trans EW.out⟩
        have := OW.out
        rw [List.take_of_length_le (by have := HE.out; have := hn.out; omega)] at this
        rw [HPL.out]
        exact this.sl (fun _ => rfl)
theorem passes_any (c : Chn) (l : List Int) (hv sv : Value) (w : World) (hcl : CloseOf c l) (hT : Tab w) (hh : SlI w hv c.houses) (hs : SlL w sv c.sales) (hl : c.sales.length ≤ 1000) :
    Calls Tryd.prog 28 #[valC hv sv] w (ListE (passesL c l) (errB (checkP c) 60) w) :=
  (passes_own c l hv sv w hcl hT hh hs hl).mono fun _ _ ⟨⟨v, h1, h2, _⟩, h3⟩ => ⟨⟨v, h1, h2⟩, h3⟩
end Go.Proofs.YtafdbgielmlihaaDoor
