/- Way: the reference's. -/
import Derived.Test.YtafdbgielmlihaaDoorPkChAddsCardA
import Derived.Test.YtafdbgielmlihaaDoorPkChHandsCardB
namespace Go.Proofs.YtafdbgielmlihaaDoor
open Go.RowKit Go.Shelf Go.Lib
set_option maxRecDepth 100000
set_option linter.unusedSimpArgs false

/-- A list and an error. -/
def ListQ (l : List Int) (E : Int) (w : World) (e : Ending) (w' : World) : Prop := (∃ v, e = .returned (.tuple #[v, .int .i64 E]) ∧ SlI w' v l) ∧ Ext w w'
def fillF (n i : Nat) : List Int := List.replicate i farI ++ List.replicate (n - i) 0
theorem fillF_zero (n : Nat) : fillF n 0 = List.replicate n 0 := by simp [fillF]
theorem fillF_full (n : Nat) : fillF n n = List.replicate n farI := by simp [fillF]
theorem fillF_len {n i : Nat} (h : i ≤ n) : (fillF n i).length = n := by simp [fillF]; omega
theorem fillF_step {n i : Nat} (h : i < n) : (fillF n i).set i farI = fillF n (i + 1) := by
  unfold fillF
  rw [List.set_append_right _ _ (by simp), List.length_replicate, Nat.sub_self]
  rw [show n - i = (n - (i + 1)) + 1 by omega, List.replicate_succ, List.set_cons_zero, List.replicate_succ', List.append_assoc]
  rfl
theorem way_chk {c : Chn} {a b : Int} {l : List Int} {E : Int} (h : WayOf c a b l E) (hc : checkP c = false) : l = [] ∧ E = 60 := by
  unfold WayOf at h
  rw [hc] at h
  exact h
theorem way_has {c : Chn} {a b : Int} {l : List Int} {E : Int} (h : WayOf c a b l E) (hc : checkP c = true) (hn : (hasI c.houses a && hasI c.houses b) = false) : l = [] ∧ E = 6 := by
  unfold WayOf at h
  rw [hc, hn] at h
  exact h
theorem way_in {c : Chn} {a b : Int} {l : List Int} {E : Int} (h : WayOf c a b l E) (hc : checkP c = true) (hn : (hasI c.houses a && hasI c.houses b) = true) : (∃ d, Away c b d a ∧ l = wayG c b d a ∧ E = 0) ∨ ((∀ k, toB c b k a = false) ∧ l = [] ∧ E = 6) := by
  unfold WayOf at h
  rw [hc, hn] at h
  exact h
set_option maxHeartbeats 8000000 in
theorem refWay_any (c : Chn) (a b : Int) (l : List Int) (E : Int) (hv sv : Value) (w : World) (hw : WayOf c a b l E) (hh : SlI w hv c.houses) (hs : SlL w sv c.sales) :
    Calls Tryd.prog 54 #[valC hv sv, .int .i64 a, .int .i64 b] w (ListQ l E w) := by
  have HH := Lib.hid hh; have HS := Lib.hid hs
  obtain ⟨A, n, cp, rfl, hn, hlc, hcm⟩ := hh.form
  obtain ⟨A2, n2, cp2, rfl, hn2, hlc2, hcm2⟩ := hs.form
  have B0 := Lib.hid (show Blk (w.alloc (.cells #[.slice A n cp, .slice A2 n2 cp2] 25)) w.heap.size 25 #[.slice A n cp, .slice A2 n2 cp2] from Blk.new _ _ _)
  clear hh hs
  go_enter Tryd.func54, Tryd.ntmps54
  go_wp2_with fail
  refine (refChain_any c _ _ _ (HH.out.ext (Ext.al _ _)) (HS.out.ext (Ext.al _ _))).mono ?_
  rintro e w1 ⟨rfl, hE⟩
  have E1 := Lib.hid ((Ext.al w _).trans hE); have B1 := Lib.hid (B0.out.ext hE)
  clear hE
  cases hc : checkP c with
  | false =>
    have HO := Lib.hid (way_chk hw hc)
    clear hw hc
    go_wp2
    go_ret2
    exact ⟨⟨.slice none 0 0, by rw [HO.out.2]; rfl, by rw [HO.out.1]; exact Sl.nil _⟩, E1.out⟩
  | true =>
    have HR := Lib.hid (check_right hc).1
    have HS10 := Lib.hid (check_right hc).2
    have HCK := Lib.hid hc
    clear hc
    have x0 := B1.out.c2
    go_wp2_with fail
    clear x0
    refine (house_any c a _ _ _ (HH.out.ext E1.out) (HS.out.ext E1.out)).mono ?_
    rintro e w2 ⟨rfl, hE⟩
    have E2 := Lib.hid (E1.out.trans hE); have B2 := Lib.hid (B1.out.ext hE)
    clear hE
    have hixa : decide (0 ≤ houseI c a) = hasI c.houses a := hasI_idx c.houses a
    cases hqa : hasI c.houses a with
    | false =>
      have hneg : houseI c a < 0 := by rw [hqa] at hixa; simp at hixa; omega
      have HO := Lib.hid (way_has hw HCK.out (by rw [hqa]; rfl))
      clear hixa hqa hw
      go_wp2
      go_ret2
      exact ⟨⟨.slice none 0 0, by rw [HO.out.2]; rfl, by rw [HO.out.1]; exact Sl.nil _⟩, E2.out⟩
    | true =>
      have hnega : ¬ houseI c a < 0 := by rw [hqa] at hixa; simp at hixa; omega
      have HQA := Lib.hid hqa
      clear hixa hqa
      have x0 := B2.out.c2
      go_wp2_with fail
      clear x0
      refine (house_any c b _ _ _ (HH.out.ext E2.out) (HS.out.ext E2.out)).mono ?_
      rintro e w3 ⟨rfl, hE⟩
      have E3 := Lib.hid (E2.out.trans hE); have B3 := Lib.hid (B2.out.ext hE)
      clear hE
      have hixb : decide (0 ≤ houseI c b) = hasI c.houses b := hasI_idx c.houses b
      cases hqb : hasI c.houses b with
      | false =>
        have hneg : houseI c b < 0 := by rw [hqb] at hixb; simp at hixb; omega
        have HO := Lib.hid (way_has hw HCK.out (by rw [HQA.out, hqb]; rfl))
        clear hixb hqb hw
        go_wp2
        go_ret2
        exact ⟨⟨.slice none 0 0, by rw [HO.out.2]; rfl, by rw [HO.out.1]; exact Sl.nil _⟩, E3.out⟩
      | true =>
        have hnegb : ¬ houseI c b < 0 := by rw [hqb] at hixb; simp at hixb; omega
        have HWY := Lib.hid (way_in hw HCK.out (by rw [HQA.out, hqb]; rfl))
        have HMA := Lib.hid (hasI_iff.1 HQA.out); have HMB := Lib.hid (hasI_iff.1 hqb)
        clear hixb hqb hw
        have hn6 : n ≤ 6 := by have := HR.out.h6; have := hn.out; omega
        have hn10 : n2 ≤ 10 := by have := HS10.out; have := hn2.out; omega
        have hmk := fun w => run_makeI (n := n) (by omega) w
        have HAB := Lib.hid (fun h => HH.out.lt (w := w) h)
        have HSB := Lib.hid (fun h => HS.out.lt (w := w) h)
        obtain ⟨w4, hw4⟩ : ∃ w4, w4 = w3.alloc (.cells (intsA (List.replicate n 0)) 3) := ⟨_, rfl⟩
        have E4 := Lib.hid (show Ext w3 w4 from hw4 ▸ Ext.al _ _)
        have R4 := Lib.hid (show RowI w4 w3.heap.size (List.replicate n 0) from hw4 ▸ Blk.new _ _ _)
        have hz4 : w4.heap.size = w3.heap.size + 1 := by rw [hw4]; simp
        have hbw := B3.out.lt
        have hz3 := E3.out.size
        have x0 := B3.out.c2
        go_wp2
        simp only [← hw4]
        clear x0 hmk hw4
        refine wp_loop_ghost_k (fun g A' U => ∃ (i : Nat), i ≤ n ∧ n - i ≤ g ∧ Fr 135 [(1, .int .i64 a), (2, .int .i64 b), (3, .pointer (some ⟨w.heap.size, 0, none⟩)), (8, .slice (some ⟨w3.heap.size, 0, none⟩) n n), (9, .int .i64 (i : Int))] [] A' ∧
          w4.grownBy U (some w3.heap.size) ∧ RowI U w3.heap.size (fillF n i)) n ?_ ?_
        · exact ⟨0, by omega, by omega, ⟨rfl, rfl, by simp [Act.eval]⟩, World.grownBy.refl _ _, by rw [fillF_zero]; exact R4.out⟩
        · rintro g A' U ⟨i, hi, hg, hF, hG, hRw⟩ J K' hJ hK
          have HJ := Lib.hid hJ; have GU := Lib.hid hG; have RU := Lib.hid hRw
          obtain ⟨ρ, rfl, hρ⟩ := hF.open_
          simp only [List.forall_mem_cons] at hρ
          obtain ⟨r1, r2, r3, r8, r9, -⟩ := hρ
          simp only [lst, Nat.reduceAdd, r1, r2, r3, r8, r9]
          clear r1 r2 r3 r8 r9 hF hG hRw hJ
          by_cases hlt : i < n
          · have hltz : (i : Int) < (n : Int) := by omega
            have hlen := fillF_len (n := n) (i := i) (by omega)
            obtain ⟨y, hy⟩ : ∃ y, (fillF n i)[i]? = some y := ⟨_, List.getElem?_eq_getElem (by omega)⟩
            have rc := RU.out.cell hy
            have rf := RU.out.frozen
            have rl := RU.out.lt
            have HST := Lib.hid (fillF_step hlt)
            clear hy
            go_wp2
            exact Handed.intro (n - (i + 1)) (by omega) (HJ.out _ _ _ ⟨i + 1, by omega, Nat.le_refl _, ⟨rfl, rfl, by simp [Act.eval]⟩, grown_set GU.out (p := ⟨w3.heap.size, i, none⟩) (.inl rfl) _, by rw [← HST.out]; exact RU.out.set i farI⟩)
          · have HE := Lib.hid (show i = n by omega)
            have HFF := Lib.hid (show RowI U w3.heap.size (List.replicate n farI) from by have := RU.out; rwa [HE.out, fillF_full] at this)
            have hbb := houseI_lt HMB.out
            obtain ⟨ib, hib⟩ : ∃ ib : Nat, houseI c b = ib := ⟨_, (Int.toNat_of_nonneg hbb.1).symm⟩
            have HIB := Lib.hid hib
            have hibn : ib < n := by have := hn.out; omega
            have hibz : (ib : Int) < (n : Int) := by omega
            have HBU := Lib.hid ((B3.out.ext E4.out).grown GU.out (by intro e; injection e with e; omega))
            have HHU := Lib.hid (((HH.out.ext E3.out).ext E4.out).grown GU.out fun h b o e => by have := HAB.out h b o e; omega)
            have HSU := Lib.hid (((HS.out.ext E3.out).ext E4.out).grown GU.out fun h b o e => by have := HSB.out h b o e; omega)
            have x0 := HBU.out.c2
            clear hbb hib
            go_wp2_with fail
            clear x0
            refine (house_at c b ib _ _ U HHU.out HSU.out HIB.out).mono ?_
            rintro e U1 ⟨rfl, hE⟩
            have RF := Lib.hid (HFF.out.ext hE); have G1 := Lib.hid (grown_ext GU.out hE); have HB1 := Lib.hid (HBU.out.ext hE)
            clear hE
            have rc := RF.out.cell (show (List.replicate n farI)[ib]? = some farI by rw [List.getElem?_replicate, if_pos hibn])
            have rf := RF.out.frozen
            have rl := RF.out.lt
            obtain ⟨U2, hU2⟩ : ∃ U2, U2 = U1.setCell ⟨w3.heap.size, ib, none⟩ (.int .i64 0) := ⟨_, rfl⟩
            have R2 := Lib.hid (show RowI U2 w3.heap.size (rlIt c (rl0 c b) 0) from by
              have h := RF.out.set ib 0
              rw [hU2]
              show RowI _ _ (rl0 c b)
              unfold rl0
              rw [HIB.out, Int.toNat_natCast, ← hn.out]
              exact h)
            have GS := Lib.hid (show U1.grownBy U2 (some w3.heap.size) from hU2 ▸ grown_set (World.grownBy.refl _ _) (p := ⟨w3.heap.size, ib, none⟩) (.inl rfl) _)
            have G2 := Lib.hid (grown_tr G1.out GS.out)
            have HB2 := Lib.hid (HB1.out.grown GS.out (by intro e; injection e with e; omega))
            have x0 := HB2.out.c2
            rw [hU2] at x0
            go_wp2
            simp only [← hU2]
            clear rc rf rl x0 hU2 RU HFF RF GU G1 GS HBU HB1 HHU HSU
            refine wp_loop_ghost_k (fun g A' V => ∃ (kk : Nat), kk ≤ n ∧ n - kk ≤ g ∧ Fr 135 [(1, .int .i64 a), (2, .int .i64 b), (3, .pointer (some ⟨w.heap.size, 0, none⟩)), (8, .slice (some ⟨w3.heap.size, 0, none⟩) n n), (50, .int .i64 (n : Int)), (51, .int .i64 (kk : Int))] [] A' ∧
              w4.grownBy V (some w3.heap.size) ∧ RowI V w3.heap.size (rlIt c (rl0 c b) kk)) n ?_ ?_
            · exact ⟨0, by omega, by omega, ⟨rfl, rfl, by simp [Act.eval]⟩, G2.out, R2.out⟩
            · rintro g2 A2' V ⟨kk, hkk, hg2, hF, hG, hRw⟩ J2 K2 hJ2 hK2
              have HJ2 := Lib.hid hJ2; have GV := Lib.hid hG; have RV := Lib.hid hRw
              obtain ⟨ρ, rfl, hρ⟩ := hF.open_
              simp only [List.forall_mem_cons] at hρ
              obtain ⟨r1, r2, r3, r8, r50, r51, -⟩ := hρ
              simp only [lst, Nat.reduceAdd, r1, r2, r3, r8, r50, r51]
              clear r1 r2 r3 r8 r50 r51 hF hG hRw hJ2 G2 R2
              have HBV := Lib.hid ((B3.out.ext E4.out).grown GV.out (by intro e; injection e with e; omega))
              by_cases hlt2 : kk < n
              · have hltz : (kk : Int) < (n : Int) := by omega
                have x0 := HBV.out.c2
                obtain ⟨o, ho⟩ : ∃ o, rlIt c (rl0 c b) kk = o := ⟨_, rfl⟩
                have HLB := Lib.hid (show Lab c b kk o from ho ▸ lab_it HR.out HMB.out kk)
                have HOI := Lib.hid ho
                rw [ho] at RV
                clear ho
                go_wp2
                clear x0
                refine wp_loop_ghost_k (fun g A' X => ∃ (j : Nat), j ≤ n2 ∧ n2 - j ≤ g ∧ Fr 135 [(1, .int .i64 a), (2, .int .i64 b), (3, .pointer (some ⟨w.heap.size, 0, none⟩)), (8, .slice (some ⟨w3.heap.size, 0, none⟩) n n), (50, .int .i64 (n : Int)), (51, .int .i64 (kk : Int)), (54, .slice A2 n2 cp2), (55, .int .i64 (n2 : Int)), (56, .int .i64 (j : Int))] [] A' ∧
                  w4.grownBy X (some w3.heap.size) ∧ RowI X w3.heap.size (rlTo c o j)) n2 ?_ ?_
                · exact ⟨0, by omega, by omega, ⟨rfl, rfl, by simp [Act.eval]⟩, GV.out, RV.out⟩
                · rintro g3 A3' X ⟨j, hj, hg3, hF, hG, hRw⟩ J3 K3 hJ3 hK3
                  have HJ3 := Lib.hid hJ3; have GX := Lib.hid hG; have RX := Lib.hid hRw
                  have hzX := hG.size
                  obtain ⟨ρ, rfl, hρ⟩ := hF.open_
                  simp only [List.forall_mem_cons] at hρ
                  obtain ⟨r1, r2, r3, r8, r50, r51, r54, r55, r56, -⟩ := hρ
                  simp only [lst, Nat.reduceAdd, r1, r2, r3, r8, r50, r51, r54, r55, r56]
                  clear r1 r2 r3 r8 r50 r51 r54 r55 r56 hF hG hRw hJ3 RV GV HBV
                  by_cases hlt3 : j < n2
                  · have hltz3 : (j : Int) < (n2 : Int) := by omega
                    have HSX0 := Lib.hid (((HS.out.ext E3.out).ext E4.out).grown GX.out fun h b o e => by have := HSB.out h b o e; omega)
                    obtain ⟨bs, os, x, rfl, hx, -, hcell⟩ := HSX0.out.at_ hlt3
                    obtain ⟨c0, c1, c2, c3, c4⟩ := SlL.cells hcell (Ext.refl _)
                    obtain ⟨s, bb, hsi, hbi, hsl, hbl, hne⟩ := sale_at HR.out hx
                    obtain ⟨-, hms, hmb, -⟩ := HR.out.sale x (List.mem_of_getElem? hx)
                    have HL := lab_to HR.out HLB.out j
                    have HST := Lib.hid (rlTo_succ (o := o) hx)
                    have hb1 := HL.b _ hms
                    have hb2 := HL.b _ hmb
                    rw [hsi, Int.toNat_natCast] at hb1
                    rw [hbi, Int.toNat_natCast] at hb2
                    obtain ⟨y0, hy0⟩ : ∃ y0, (rlTo c o j)[s]? = some y0 := ⟨_, List.getElem?_eq_getElem (by rw [HL.l]; exact hsl)⟩
                    obtain ⟨z0, hz0⟩ : ∃ z0, (rlTo c o j)[bb]? = some z0 := ⟨_, List.getElem?_eq_getElem (by rw [HL.l]; exact hbl)⟩
                    have HRS := Lib.hid (show rlTo c o (j + 1) = if z0 + 1 < y0 then (rlTo c o j).set s (z0 + 1) else rlTo c o j by
                      rw [HST.out]; unfold rlS; rw [hsi, hbi, Int.toNat_natCast, Int.toNat_natCast, hy0, hz0]; rfl)
                    rw [hy0] at hb1
                    rw [hz0] at hb2
                    simp only [Option.getD, farI] at hb1 hb2
                    have HY0 := Lib.hid hy0; have HZ0 := Lib.hid hz0; have HSI := Lib.hid hsi; have HBI := Lib.hid hbi
                    have hsz : (s : Int) < (n : Int) := by have := hn.out; omega
                    have hbz : (bb : Int) < (n : Int) := by have := hn.out; omega
                    have hw1 : IntKind.i64.wrap (z0 + 1) = z0 + 1 := by rw [IntKind.wrap_i64]; omega
                    obtain ⟨wx, hwx⟩ : ∃ wx, wx = X.alloc (.cells #[.int .i64 x.number, .int .i64 x.seller, .int .i64 x.buyer, .int .i64 x.bales, .int .i64 x.price] 68) := ⟨_, rfl⟩
                    have BX := Lib.hid (show Blk wx X.heap.size 68 #[.int .i64 x.number, .int .i64 x.seller, .int .i64 x.buyer, .int .i64 x.bales, .int .i64 x.price] from hwx ▸ Blk.new _ _ _)
                    have GW := Lib.hid (show w4.grownBy wx (some w3.heap.size) from hwx ▸ grown_ext GX.out (Ext.al _ _))
                    have RW := Lib.hid (show RowI wx w3.heap.size (rlTo c o j) from hwx ▸ RX.out.alloc _)
                    have BCX := Lib.hid ((B3.out.ext E4.out).grown GW.out (by intro e; injection e with e; omega))
                    have HHX := Lib.hid (((HH.out.ext E3.out).ext E4.out).grown GW.out fun h b o e => by have := HAB.out h b o e; omega)
                    have HSX := Lib.hid (((HS.out.ext E3.out).ext E4.out).grown GW.out fun h b o e => by have := HSB.out h b o e; omega)
                    have m1 := fun W (h : Ext wx W) => (BX.out.ext h).c5.2.1
                    have m2 := fun W (h : Ext wx W) => (BX.out.ext h).c5.2.2.1
                    have mc := fun W (h : Ext wx W) => (BCX.out.ext h).c2
                    clear hx hcell hsi hbi hne hy0 hz0 hms hmb HL
                    go_wp2
                    simp only [← hwx]
                    clear hwx c0 c1 c2 c3 c4
                    refine wp_region_tame (fun W => Ext wx W) (fun W W' => Ext W W') (by kernel_rfl) 135 rfl (by decide +kernel) (Ext.refl _).drew ?_
                    repeat (apply tame_q rfl; (intro ρ W hC hr hD; (obtain ⟨hrc, hrg, hrf, hrs⟩ := hr); (simp [go_sem] at hD); go_simp; first | exact ⟨⟨hC, Ext.refl _⟩, rfl⟩ | exact ⟨⟨hC, RS.refl _⟩, rfl⟩ | exact rfl); simp only [List.nil_append, List.cons_append])
                    apply tame_q rfl
                    · intro ρ W hC hr hD
                      obtain ⟨hrc, hrg, hrf, hrs⟩ := hr
                      simp [go_sem] at hD
                      go_simp
                      refine (house_at c x.seller s _ _ W (HHX.out.ext hC) (HSX.out.ext hC) HSI.out).mono ?_
                      rintro e w' ⟨rfl, hE⟩
                      exact ⟨_, rfl, ⟨hC.trans hE, hE⟩, rfl⟩
                    simp only [List.nil_append, List.cons_append]
                    repeat (apply tame_q rfl; (intro ρ W hC hr hD; (obtain ⟨hrc, hrg, hrf, hrs⟩ := hr); (simp [go_sem] at hD); go_simp; first | exact ⟨⟨hC, Ext.refl _⟩, rfl⟩ | exact ⟨⟨hC, RS.refl _⟩, rfl⟩ | exact rfl); simp only [List.nil_append, List.cons_append])
                    apply tame_q rfl
                    · intro ρ W hC hr hD
                      obtain ⟨hrc, hrg, hrf, hrs⟩ := hr
                      simp [go_sem] at hD
                      go_simp
                      refine (house_at c x.buyer bb _ _ W (HHX.out.ext hC) (HSX.out.ext hC) HBI.out).mono ?_
                      rintro e w' ⟨rfl, hE⟩
                      exact ⟨_, rfl, ⟨hC.trans hE, hE⟩, rfl⟩
                    simp only [List.nil_append, List.cons_append]
                    repeat (apply tame_q rfl; (intro ρ W hC hr hD; (obtain ⟨hrc, hrg, hrf, hrs⟩ := hr); (simp [go_sem] at hD); go_simp; first | exact ⟨⟨hC, Ext.refl _⟩, rfl⟩ | exact ⟨⟨hC, RS.refl _⟩, rfl⟩ | exact rfl); simp only [List.nil_append, List.cons_append])
                    refine tame_end_put rfl rfl (fun ρ V5 hC hr hF => ?_)
                    simp [go_sem] at hF
                    simp only [putF, hF, List.set_cons_succ, List.set_cons_zero]
                    clear hF hr
                    have HC := Lib.hid hC
                    clear hC
                    clear m1 m2 mc
                    have R5 := Lib.hid (RW.out.ext HC.out); have G5 := Lib.hid (grown_ext GW.out HC.out)
                    clear HC BX GW RW BCX HHX HSX
                    have rs := fun W (h : Ext V5 W) => (R5.out.ext h).cell HY0.out
                    have rb := fun W (h : Ext V5 W) => (R5.out.ext h).cell HZ0.out
                    go_wp2
                    by_cases hzy : z0 + 1 < y0
                    · have HRN := Lib.hid (show rlTo c o (j + 1) = (rlTo c o j).set s (z0 + 1) by rw [HRS.out, if_pos hzy])
                      refine wp_region_tame (fun W => Ext V5 W) (fun W W' => Ext W W') (by kernel_rfl) 135 rfl (by decide +kernel) (Ext.refl _).drew ?_
                      repeat (apply tame_q rfl; (intro ρ W hC hr hD; (obtain ⟨hrc, hrg, hrf, hrs⟩ := hr); (simp [go_sem] at hD); go_simp; first | exact ⟨⟨hC, Ext.refl _⟩, rfl⟩ | exact ⟨⟨hC, RS.refl _⟩, rfl⟩ | exact rfl); simp only [List.nil_append, List.cons_append])
                      refine tame_end_put rfl rfl (fun ρ V6 hC hr hF => ?_)
                      simp [go_sem] at hF
                      simp only [putF, hF, List.set_cons_succ, List.set_cons_zero]
                      clear hF hr
                      have HC := Lib.hid hC
                      clear hC
                      clear rs rb
                      have R6 := Lib.hid (R5.out.ext HC.out); have G6 := Lib.hid (grown_ext G5.out HC.out)
                      clear HC
                      have rs := R6.out.cell HY0.out
                      have rb := R6.out.cell HZ0.out
                      have rf := R6.out.frozen
                      have rl := R6.out.lt
                      go_wp2
                      exact Handed.intro (n2 - (j + 1)) (by omega) (HJ3.out _ _ _ ⟨j + 1, by omega, Nat.le_refl _, ⟨rfl, rfl, by simp [Act.eval]⟩, grown_set G6.out (p := ⟨w3.heap.size, s, none⟩) (.inl rfl) _, by rw [HRN.out]; exact R6.out.set s (z0 + 1)⟩)
                    · have HRN := Lib.hid (show rlTo c o (j + 1) = rlTo c o j by rw [HRS.out, if_neg hzy])
                      refine wp_region_tame (fun W => Ext V5 W) (fun W W' => Ext W W') (by kernel_rfl) 135 rfl (by decide +kernel) (Ext.refl _).drew ?_
                      repeat (apply tame_q rfl; (intro ρ W hC hr hD; (obtain ⟨hrc, hrg, hrf, hrs⟩ := hr); (simp [go_sem] at hD); go_simp; first | exact ⟨⟨hC, Ext.refl _⟩, rfl⟩ | exact ⟨⟨hC, RS.refl _⟩, rfl⟩ | exact rfl); simp only [List.nil_append, List.cons_append])
                      refine tame_end_put rfl rfl (fun ρ V6 hC hr hF => ?_)
                      simp [go_sem] at hF
                      simp only [putF, hF, List.set_cons_succ, List.set_cons_zero]
                      clear hF hr
                      have HC := Lib.hid hC
                      clear hC
                      clear rs rb
                      have R6 := Lib.hid (R5.out.ext HC.out); have G6 := Lib.hid (grown_ext G5.out HC.out)
                      clear HC
                      go_wp2
                      exact Handed.intro (n2 - (j + 1)) (by omega) (HJ3.out _ _ _ ⟨j + 1, by omega, Nat.le_refl _, ⟨rfl, rfl, by simp [Act.eval]⟩, G6.out, by rw [HRN.out]; exact R6.out⟩)
                  · have HE3 := Lib.hid (show j = n2 by omega)
                    have HRN := Lib.hid (show rlTo c o j = rlIt c (rl0 c b) (kk + 1) by rw [rlIt, HOI.out, HE3.out, hn2.out])
                    go_wp2
                    exact Handed.intro (n - (kk + 1)) (by omega) (HJ2.out _ _ _ ⟨kk + 1, by omega, Nat.le_refl _, ⟨rfl, rfl, by simp [Act.eval]⟩, GX.out, by rw [← HRN.out]; exact RX.out⟩)
              · have HE2 := Lib.hid (show kk = n by omega)
                have HLAB := Lib.hid (show Lab c b c.houses.length (rlIt c (rl0 c b) n) from by rw [hn.out]; exact lab_it HR.out HMB.out _)
                obtain ⟨O, hO⟩ : ∃ O, rlIt c (rl0 c b) n = O := ⟨_, rfl⟩
                rw [hO] at HLAB
                have RO := Lib.hid (show RowI V w3.heap.size O from by have := RV.out; rwa [HE2.out, hO] at this)
                have HOL := Lib.hid (show O.length = n by rw [HLAB.out.l]; exact hn.out.symm)
                clear hO
                have haa := houseI_lt HMA.out
                obtain ⟨ia, hia⟩ : ∃ ia : Nat, houseI c a = ia := ⟨_, (Int.toNat_of_nonneg haa.1).symm⟩
                have HIA := Lib.hid hia
                have hian : ia < n := by have := hn.out; omega
                have hiaz : (ia : Int) < (n : Int) := by omega
                have HHV := Lib.hid (((HH.out.ext E3.out).ext E4.out).grown GV.out fun h b o e => by have := HAB.out h b o e; omega)
                have HSV := Lib.hid (((HS.out.ext E3.out).ext E4.out).grown GV.out fun h b o e => by have := HSB.out h b o e; omega)
                obtain ⟨la, hla⟩ : ∃ la, O[ia]? = some la := ⟨_, List.getElem?_eq_getElem (by rw [HOL.out]; exact hian)⟩
                have HLA := Lib.hid hla
                have x0 := HBV.out.c2
                clear haa hia hla
                go_wp2_with fail
                clear x0
                refine (house_at c a ia _ _ V HHV.out HSV.out HIA.out).mono ?_
                rintro e V1 ⟨rfl, hE⟩
                have RO1 := Lib.hid (RO.out.ext hE); have GV1 := Lib.hid (grown_ext GV.out hE); have EV1 := Lib.hid (ext_grown (E3.out.trans E4.out) (grown_ext GV.out hE) (by omega))
                have hzV1 := GV1.out.size
                clear hE RO GV RV
                have rc := RO1.out.cell HLA.out
                rcases lab_end HR.out HMB.out HLAB.out HMA.out with ⟨d, h1, h2, h3⟩ | ⟨h1, h2⟩
                · rw [HIA.out, Int.toNat_natCast, HLA.out] at h1
                  simp only [Option.getD] at h1
                  have HRES := Lib.hid (show l = wayG c b d a ∧ E = 0 by
                    rcases HWY.out with ⟨d', h4, h5, h6⟩ | ⟨h4, -, -⟩
                    · rw [h3.one h4]; exact ⟨h5, h6⟩
                    · have := h3.y; rw [h4 d] at this; cases this)
                  have HAW := Lib.hid h3
                  have hdf : ¬ (1152921504606846976 : Int) ≤ la := by have := HR.out.h6; omega
                  have hd6 : d ≤ 6 := by have := HR.out.h6; omega
                  clear h1 h2 h3
                  go_wp2
                  clear rc
                  have HB1V := Lib.hid ((B3.out.ext E4.out).grown GV1.out (by intro e; injection e with e; omega))
                  refine wp_loop_ghost_k (fun g A' W => ∃ (k : Nat) (v : Int) (l0 : List Int) (Ao : Option Addr) (no co : Nat), k ≤ g ∧ k ≤ d ∧ l0.length + k ≤ d ∧ v ∈ c.houses ∧ Away c b k v ∧ l0 ++ wayG c b k v = wayG c b d a ∧ Fr 135 [(1, .int .i64 v), (2, .int .i64 b), (3, .pointer (some ⟨w.heap.size, 0, none⟩)), (8, .slice (some ⟨w3.heap.size, 0, none⟩) n n), (14, .slice Ao no co)] [] A' ∧
                    Ext V1 W ∧ Own encI 3 1 W V1.heap.size (.slice Ao no co) l0) d ?_ ?_
                  · exact ⟨d, a, [], none, 0, 0, Nat.le_refl _, Nat.le_refl _, by simp, HMA.out, HAW.out, rfl, ⟨rfl, rfl, by simp [Act.eval]⟩, Ext.refl _, Own.nil _ _⟩
                  · rintro g4 A4' W ⟨k, v, l0, Ao, no, co, hk, hkd, hll, hvm, hvw, hcat, hF, hE, hOw⟩ J4 K4 hJ4 hK4
                    have HJ4 := Lib.hid hJ4; have EW := Lib.hid hE; have OW := Lib.hid hOw; have HVM := Lib.hid hvm; have HVW := Lib.hid hvw; have HCAT := Lib.hid hcat
                    obtain ⟨ρ, rfl, hρ⟩ := hF.open_
                    simp only [List.forall_mem_cons] at hρ
                    obtain ⟨r1, r2, r3, r8, r14, -⟩ := hρ
                    simp only [lst, Nat.reduceAdd, r1, r2, r3, r8, r14]
                    clear r1 r2 r3 r8 r14 hF hE hOw hJ4 hvm hvw hcat
                    by_cases hvb : v = b
                    · have hk0 := (away_zero HVW.out).1 hvb
                      have HRL := Lib.hid (show l = l0 by have := HCAT.out; rw [hk0] at this; rw [HRES.out.1, ← this]; simp [wayG])
                      have hvz : (v == b) = true := by simpa using hvb
                      subst hvb
                      go_wp2
                      go_ret2
                      refine ⟨⟨.slice Ao no co, by rw [HRES.out.2]; rfl, by rw [HRL.out]; exact OW.out.sl (fun _ => rfl)⟩, EV1.out.trans EW.out⟩
                    · have hvz : (v == b) = false := by simpa using hvb
                      obtain ⟨k', rfl⟩ : ∃ k', k = k' + 1 := ⟨k - 1, by
                        have : k ≠ 0 := fun e => hvb ((away_zero HVW.out).2 e)
                        omega⟩
                      have HVB := Lib.hid hvb
                      clear hvb
                      have HBW := Lib.hid (HB1V.out.ext EW.out)
                      have x0 := HBW.out.c2
                      go_wp2
                      clear x0
                      obtain ⟨i0, x0, hx0, hf0, hn0, hfr, hst⟩ := away_step HVW.out
                      have HX0 := Lib.hid hx0; have HF0 := Lib.hid hf0; have HN0 := Lib.hid hn0; have HFR := Lib.hid hfr; have HSTP := Lib.hid hst
                      have hi0 : i0 < n2 := by have := (List.getElem?_eq_some_iff.1 hx0).1; have := hn2.out; omega
                      clear hx0 hf0 hn0 hfr hst
                      refine wp_loop_ghost_k (fun g A' X => ∃ (j : Nat), j ≤ i0 ∧ i0 - j ≤ g ∧ Fr 135 [(1, .int .i64 v), (2, .int .i64 b), (3, .pointer (some ⟨w.heap.size, 0, none⟩)), (8, .slice (some ⟨w3.heap.size, 0, none⟩) n n), (14, .slice Ao no co), (99, .slice A2 n2 cp2), (100, .int .i64 (n2 : Int)), (101, .int .i64 (j : Int))] [] A' ∧
                        Ext V1 X ∧ Own encI 3 1 X V1.heap.size (.slice Ao no co) l0) i0 ?_ ?_
                      · exact ⟨0, by omega, by omega, ⟨rfl, rfl, by simp [Act.eval]⟩, EW.out, OW.out⟩
                      · rintro g5 A5' X ⟨j, hj, hg5, hF, hE, hOw⟩ J5 K5 hJ5 hK5
                        have HJ5 := Lib.hid hJ5; have EX := Lib.hid hE; have OX := Lib.hid hOw
                        obtain ⟨ρ, rfl, hρ⟩ := hF.open_
                        simp only [List.forall_mem_cons] at hρ
                        obtain ⟨r1, r2, r3, r8, r14, r99, r100, r101, -⟩ := hρ
                        simp only [lst, Nat.reduceAdd, r1, r2, r3, r8, r14, r99, r100, r101]
                        clear r1 r2 r3 r8 r14 r99 r100 r101 hF hE hOw hJ5 HBW OW EW
                        have hlt5 : j < n2 := by omega
                        have hltz5 : (j : Int) < (n2 : Int) := by omega
                        have HSX0 := Lib.hid (HS.out.ext (EV1.out.trans EX.out))
                        obtain ⟨bs, os, x, rfl, hx, -, hcell⟩ := HSX0.out.at_ hlt5
                        obtain ⟨c0, c1, c2, c3, c4⟩ := SlL.cells hcell (Ext.refl _)
                        obtain ⟨s, bb, hsi, hbi, hsl, hbl, hne⟩ := sale_at HR.out hx
                        have HXM := Lib.hid (List.mem_of_getElem? hx)
                        have HX := Lib.hid hx; have HSI := Lib.hid hsi; have HBI := Lib.hid hbi
                        have hsz : (s : Int) < (n : Int) := by have := hn.out; omega
                        have hbz : (bb : Int) < (n : Int) := by have := hn.out; omega
                        obtain ⟨wx, hwx⟩ : ∃ wx, wx = X.alloc (.cells #[.int .i64 x.number, .int .i64 x.seller, .int .i64 x.buyer, .int .i64 x.bales, .int .i64 x.price] 68) := ⟨_, rfl⟩
                        have BX := Lib.hid (show Blk wx X.heap.size 68 #[.int .i64 x.number, .int .i64 x.seller, .int .i64 x.buyer, .int .i64 x.bales, .int .i64 x.price] from hwx ▸ Blk.new _ _ _)
                        have EWX := Lib.hid (show Ext V1 wx from hwx ▸ EX.out.alloc _)
                        have OWX := Lib.hid (show Own encI 3 1 wx V1.heap.size (.slice Ao no co) l0 from hwx ▸ OX.out.alloc _)
                        have HNB := Lib.hid (show some X.heap.size ≠ (Value.slice Ao no co).ownBlock from fun e => by have := (own_rng OX.out e.symm).2; omega)
                        have HSX := Lib.hid (HS.out.ext (EV1.out.trans EWX.out))
                        have HHX := Lib.hid (HH.out.ext (EV1.out.trans EWX.out))
                        have BCX := Lib.hid (HB1V.out.ext EWX.out)
                        have RX := Lib.hid (RO1.out.ext EWX.out)
                        have m0 := fun W (h : Ext wx W) => (BX.out.ext h).c5.1
                        have m1 := fun W (h : Ext wx W) => (BX.out.ext h).c5.2.1
                        have m2 := fun W (h : Ext wx W) => (BX.out.ext h).c5.2.2.1
                        have mc := fun W (h : Ext wx W) => (BCX.out.ext h).c2
                        clear hx hcell hsi hbi hne
                        by_cases hsv : x.seller = v
                        · subst hsv
                          obtain ⟨yb, hyb⟩ : ∃ y, O[bb]? = some y := ⟨_, List.getElem?_eq_getElem (by rw [HLAB.out.l]; exact hbl)⟩
                          have HYB := Lib.hid hyb
                          have HYS := Lib.hid (show O[s]? = some ((k' : Int) + 1) from by
                            have h := away_label HR.out HMB.out HLAB.out HVM.out HVW.out
                            rw [HSI.out, Int.toNat_natCast] at h
                            have h2 : s < O.length := by rw [HLAB.out.l]; exact hsl
                            rw [List.getElem?_eq_getElem h2] at h ⊢
                            simp only [Option.getD] at h
                            rw [h]; simp)
                          have HNL := Lib.hid (show yb = (k' : Int) ↔ toB c b k' x.buyer = true from by
                            have h := near_label HR.out HMB.out HLAB.out HXM.out HVW.out
                            rw [HBI.out, Int.toNat_natCast, hyb] at h
                            exact h)
                          have rs := fun W (h : Ext wx W) => (RX.out.ext h).cell HYS.out
                          have rb := fun W (h : Ext wx W) => (RX.out.ext h).cell HYB.out
                          have hw1 : IntKind.i64.wrap ((k' : Int) + 1 - 1) = (k' : Int) := by have := HR.out.h6; have := hn.out; rw [IntKind.wrap_i64]; omega
                          have hw2 : IntKind.i64.wrap (k' : Int) = (k' : Int) := by have := HR.out.h6; have := hn.out; rw [IntKind.wrap_i64]; omega
                          clear hyb
                          go_wp2
                          simp only [← hwx]
                          clear hwx c0 c1 c2 c3 c4
                          by_cases hyk : yb = (k' : Int)
                          · have HNR := Lib.hid (HNL.out.1 hyk)
                            subst hyk
                            refine wp_region_tame (fun W => Ext wx W) (fun W W' => Ext W W') (by kernel_rfl) 135 rfl (by decide +kernel) (Ext.refl _).drew ?_
                            repeat (apply tame_q rfl; (intro ρ W hC hr hD; (obtain ⟨hrc, hrg, hrf, hrs⟩ := hr); (simp [go_sem] at hD); go_simp; first | exact ⟨⟨hC, Ext.refl _⟩, rfl⟩ | exact ⟨⟨hC, RS.refl _⟩, rfl⟩ | exact rfl); simp only [List.nil_append, List.cons_append])
                            apply tame_q rfl
                            · intro ρ W hC hr hD
                              obtain ⟨hrc, hrg, hrf, hrs⟩ := hr
                              simp [go_sem] at hD
                              go_simp
                              refine (house_at c x.buyer bb _ _ W (HHX.out.ext hC) (HSX.out.ext hC) HBI.out).mono ?_
                              rintro e w' ⟨rfl, hE⟩
                              exact ⟨_, rfl, ⟨hC.trans hE, hE⟩, rfl⟩
                            simp only [List.nil_append, List.cons_append]
                            repeat (apply tame_q rfl; (intro ρ W hC hr hD; (obtain ⟨hrc, hrg, hrf, hrs⟩ := hr); (simp [go_sem] at hD); go_simp; first | exact ⟨⟨hC, Ext.refl _⟩, rfl⟩ | exact ⟨⟨hC, RS.refl _⟩, rfl⟩ | exact rfl); simp only [List.nil_append, List.cons_append])
                            apply tame_q rfl
                            · intro ρ W hC hr hD
                              obtain ⟨hrc, hrg, hrf, hrs⟩ := hr
                              simp [go_sem] at hD
                              go_simp
                              refine (house_at c x.seller s _ _ W (HHX.out.ext hC) (HSX.out.ext hC) HSI.out).mono ?_
                              rintro e w' ⟨rfl, hE⟩
                              exact ⟨_, rfl, ⟨hC.trans hE, hE⟩, rfl⟩
                            simp only [List.nil_append, List.cons_append]
                            repeat (apply tame_q rfl; (intro ρ W hC hr hD; (obtain ⟨hrc, hrg, hrf, hrs⟩ := hr); (simp [go_sem] at hD); go_simp; first | exact ⟨⟨hC, Ext.refl _⟩, rfl⟩ | exact ⟨⟨hC, RS.refl _⟩, rfl⟩ | exact rfl); simp only [List.nil_append, List.cons_append])
                            refine tame_end_put rfl rfl (fun ρ V5 hC hr hF => ?_)
                            simp [go_sem] at hF
                            simp only [putF, hF, List.set_cons_succ, List.set_cons_zero]
                            clear hF hr
                            have HC := Lib.hid hC
                            clear hC
                            clear rs rb mc hw1 hw2
                            have EV5 := Lib.hid (EWX.out.trans HC.out)
                            have OW5 := Lib.hid (OWX.out.ext HC.out)
                            have BX5 := Lib.hid (BX.out.ext HC.out)
                            have hzV5 := EV5.out.size
                            have c0 := BX5.out.c5.1
                            have c0' := ((BX5.out.ext (Ext.al V5 (.cells #[.int .i64 x.number] 3))).c5).1
                            clear m0 m1 m2 HC
                            go_wp2_with (at_builtin; refine wpList_app encI 22 3 1 _ 8 Tryd.underlying22 info3x rfl (by decide) (by decide) (fun _ => rfl) encI_one rfl (.tmp 126) (.tmp 129) rfl V1.heap.size _ l0 rfl (OW5.out.alloc _) V5.heap.size 1 x.number rfl (cells1 (by simp [go_sem])) (by omega) (by simp; omega) ?_)
                            intro g9 cap w9 hown hg9 hbel hgr
                            have HO9 := Lib.hid hown
                            have HB9 := Lib.hid (show Ext V1 w9 from Below.trans (EV5.out.alloc _) hbel)
                            have BX9 := Lib.hid (Blk.grown (BX5.out.alloc _) hgr HNB.out)
                            clear hown hbel hgr c0 c0'
                            have c2 := BX9.out.c5.2.2.1
                            have HIJ := Lib.hid (show j = i0 from by
                              rcases Nat.lt_or_ge j i0 with h | h
                              · have := HFR.out j x h HX.out
                                rw [show nearB c b x.seller k' x = true by simp [nearB, HNR.out]] at this
                                cases this
                              · omega)
                            have HXX := Lib.hid (show x0 = x from by
                              have h1 := HX0.out; have h2 := HX.out
                              rw [HIJ.out, h1] at h2
                              injection h2)
                            have HBM := Lib.hid ((HR.out.sale x HXM.out).2.2.1)
                            have HWG := Lib.hid (show wayG c b (k' + 1) x.seller = x.number :: wayG c b k' x.buyer from by
                              rw [wayG, HF0.out, HXX.out])
                            go_wp2
                            exact Handed.intro k' (by omega) (HJ4.out _ _ _ ⟨k', x.buyer, l0 ++ [x.number], _, _, _, by omega, by omega, by simp; omega, HBM.out, by have := HSTP.out; rwa [HXX.out] at this, by have := HCAT.out; rw [HWG.out] at this; simpa using this, ⟨rfl, rfl, by simp [Act.eval]; first | done | exact ⟨rfl, rfl, rfl⟩⟩, HB9.out, HO9.out⟩)
                          · have HNR := Lib.hid (show nearB c b x.seller k' x = false from by
                              cases hb : toB c b k' x.buyer with
                              | true => exact absurd (HNL.out.2 hb) hyk
                              | false => simp [nearB, hb])
                            have hykf : (yb == (k' : Int)) = false := by simpa using hyk
                            refine wp_region_tame (fun W => Ext wx W) (fun W W' => Ext W W') (by kernel_rfl) 135 rfl (by decide +kernel) (Ext.refl _).drew ?_
                            repeat (apply tame_q rfl; (intro ρ W hC hr hD; (obtain ⟨hrc, hrg, hrf, hrs⟩ := hr); (simp [go_sem] at hD); go_simp; first | exact ⟨⟨hC, Ext.refl _⟩, rfl⟩ | exact ⟨⟨hC, RS.refl _⟩, rfl⟩ | exact rfl); simp only [List.nil_append, List.cons_append])
                            apply tame_q rfl
                            · intro ρ W hC hr hD
                              obtain ⟨hrc, hrg, hrf, hrs⟩ := hr
                              simp [go_sem] at hD
                              go_simp
                              refine (house_at c x.buyer bb _ _ W (HHX.out.ext hC) (HSX.out.ext hC) HBI.out).mono ?_
                              rintro e w' ⟨rfl, hE⟩
                              exact ⟨_, rfl, ⟨hC.trans hE, hE⟩, rfl⟩
                            simp only [List.nil_append, List.cons_append]
                            repeat (apply tame_q rfl; (intro ρ W hC hr hD; (obtain ⟨hrc, hrg, hrf, hrs⟩ := hr); (simp [go_sem] at hD); go_simp; first | exact ⟨⟨hC, Ext.refl _⟩, rfl⟩ | exact ⟨⟨hC, RS.refl _⟩, rfl⟩ | exact rfl); simp only [List.nil_append, List.cons_append])
                            apply tame_q rfl
                            · intro ρ W hC hr hD
                              obtain ⟨hrc, hrg, hrf, hrs⟩ := hr
                              simp [go_sem] at hD
                              go_simp
                              refine (house_at c x.seller s _ _ W (HHX.out.ext hC) (HSX.out.ext hC) HSI.out).mono ?_
                              rintro e w' ⟨rfl, hE⟩
                              exact ⟨_, rfl, ⟨hC.trans hE, hE⟩, rfl⟩
                            simp only [List.nil_append, List.cons_append]
                            repeat (apply tame_q rfl; (intro ρ W hC hr hD; (obtain ⟨hrc, hrg, hrf, hrs⟩ := hr); (simp [go_sem] at hD); go_simp; first | exact ⟨⟨hC, Ext.refl _⟩, rfl⟩ | exact ⟨⟨hC, RS.refl _⟩, rfl⟩ | exact rfl); simp only [List.nil_append, List.cons_append])
                            refine tame_end_put rfl rfl (fun ρ V5 hC hr hF => ?_)
                            simp [go_sem] at hF
                            simp only [putF, hF, List.set_cons_succ, List.set_cons_zero]
                            clear hF hr
                            have HC := Lib.hid hC
                            clear hC
                            clear rs rb mc m0 m1 m2 hw1 hw2
                            have EV5 := Lib.hid (EWX.out.trans HC.out)
                            have OW5 := Lib.hid (OWX.out.ext HC.out)
                            clear HC
                            have hne0 : j ≠ i0 := fun e => by
                              have h1 := HX0.out; have h2 := HX.out
                              rw [e, h1] at h2
                              injection h2 with h2
                              have := HN0.out
                              rw [h2, HNR.out] at this
                              cases this
                            go_wp2
                            exact Handed.intro (i0 - (j + 1)) (by omega) (HJ5.out _ _ _ ⟨j + 1, by omega, Nat.le_refl _, ⟨rfl, rfl, by simp [Act.eval]⟩, EV5.out, OW5.out⟩)
                        · have hsvf : (x.seller == v) = false := by simpa using hsv
                          go_wp2
                          simp only [← hwx]
                          clear hwx c0 c1 c2 c3 c4
                          refine wp_region_tame (fun W => Ext wx W) (fun W W' => Ext W W') (by kernel_rfl) 135 rfl (by decide +kernel) (Ext.refl _).drew ?_
                          repeat (apply tame_q rfl; (intro ρ W hC hr hD; (obtain ⟨hrc, hrg, hrf, hrs⟩ := hr); (simp [go_sem] at hD); go_simp; first | exact ⟨⟨hC, Ext.refl _⟩, rfl⟩ | exact ⟨⟨hC, RS.refl _⟩, rfl⟩ | exact rfl); simp only [List.nil_append, List.cons_append])
                          refine tame_end_put rfl rfl (fun ρ V5 hC hr hF => ?_)
                          simp [go_sem] at hF
                          simp only [putF, hF, List.set_cons_succ, List.set_cons_zero]
                          clear hF hr
                          have HC := Lib.hid hC
                          clear hC
                          clear mc m0 m1 m2
                          have EV5 := Lib.hid (EWX.out.trans HC.out)
                          have OW5 := Lib.hid (OWX.out.ext HC.out)
                          clear HC
                          have hne0 : j ≠ i0 := fun e => by
                            have h1 := HX0.out; have h2 := HX.out
                            rw [e, h1] at h2
                            injection h2 with h2
                            have := HN0.out
                            rw [h2] at this
                            simp [nearB, hsv] at this
                          go_wp2
                          exact Handed.intro (i0 - (j + 1)) (by omega) (HJ5.out _ _ _ ⟨j + 1, by omega, Nat.le_refl _, ⟨rfl, rfl, by simp [Act.eval]⟩, EV5.out, OW5.out⟩)
                · rw [HIA.out, Int.toNat_natCast, HLA.out] at h1
                  simp only [Option.getD, farI] at h1
                  subst h1
                  have HRES := Lib.hid (show l = [] ∧ E = 6 by
                    rcases HWY.out with ⟨d', h4, -, -⟩ | ⟨-, h5, h6⟩
                    · have := h4.y; rw [h2 d'] at this; cases this
                    · exact ⟨h5, h6⟩)
                  clear h2
                  go_wp2
                  go_ret2
                  exact ⟨⟨.slice none 0 0, by rw [HRES.out.2]; rfl, by rw [HRES.out.1]; exact Sl.nil _⟩, EV1.out⟩
end Go.Proofs.YtafdbgielmlihaaDoor
