/- The program's on: a bale goes on by the first sale of its house that still moves one; it calls itself by a boxed variable. -/
import Derived.Test.YtafdbgielmlihaaDoorPkChHandsCardB
import Derived.WalkMore
import Derived.ChangeKeysEq
namespace Go.Proofs.YtafdbgielmlihaaDoor
open Go.RowKit Go.Shelf Go.Lib
set_option maxRecDepth 100000
set_option linter.unusedSimpArgs false

/-- What the closure sees. -/
structure HopW (c : Chn) (b1 b4 b9 mb gm n2 cp2 N2 M2 : Nat) (A2 : Option Addr) (v1 hv' sv' cv' : Value) (m : List Int) (W : World) : Prop where
  ch : Blk W b1 25 #[v1, .slice A2 n2 cp2]
  mp : Blk W b4 109 #[.pointer (some ⟨mb, 0, none⟩)]
  mkt : Blk W mb 112 #[hv', sv', .slice (some ⟨gm, 0, none⟩) N2 M2, cv']
  fn : Blk W b9 118 #[.func (.func 80) #[] #[.pointer (some ⟨b1, 0, none⟩), .pointer (some ⟨b4, 0, none⟩), .pointer (some ⟨b9, 0, none⟩)]]
  row : RowI W gm m
  sl : SlL W (.slice A2 n2 cp2) c.sales
  x1 : b1 ≠ gm
  x4 : b4 ≠ gm
  xm : mb ≠ gm
  x9 : b9 ≠ gm
  xs : 0 < c.sales.length → ∀ b o, A2 = some ⟨b, o, none⟩ → b ≠ gm
section
variable {c : Chn} {b1 b4 b9 mb gm n2 cp2 N2 M2 : Nat} {A2 : Option Addr} {v1 hv' sv' cv' : Value} {m m' : List Int} {W W' : World}
theorem ne_some {a b : Nat} (h : a ≠ b) : some a ≠ some b := fun e => h (by injection e)
theorem HopW.grown (h : HopW c b1 b4 b9 mb gm n2 cp2 N2 M2 A2 v1 hv' sv' cv' m W) (k : W.grownBy W' (some gm)) (hr : RowI W' gm m') : HopW c b1 b4 b9 mb gm n2 cp2 N2 M2 A2 v1 hv' sv' cv' m' W' :=
  ⟨h.ch.grown k (ne_some h.x1), h.mp.grown k (ne_some h.x4), h.mkt.grown k (ne_some h.xm), h.fn.grown k (ne_some h.x9), hr, h.sl.grown k h.xs, h.x1, h.x4, h.xm, h.x9, h.xs⟩
theorem HopW.ext (h : HopW c b1 b4 b9 mb gm n2 cp2 N2 M2 A2 v1 hv' sv' cv' m W) (k : Ext W W') : HopW c b1 b4 b9 mb gm n2 cp2 N2 M2 A2 v1 hv' sv' cv' m W' :=
  h.grown (grown_ext (World.grownBy.refl _ _) k) (h.row.ext k)
end
set_option maxHeartbeats 4000000 in
theorem hop_any (c : Chn) {b1 b4 b9 mb gm n2 cp2 N2 M2 : Nat} {A2 : Option Addr} {v1 hv' sv' cv' : Value} (hl : c.sales.length ≤ 1000) (hN : N2 = c.sales.length) :
    ∀ (g : Nat) (m : List Int) (h : Int) (W : World), mu m ≤ g → Mvs c m → HopW c b1 b4 b9 mb gm n2 cp2 N2 M2 A2 v1 hv' sv' cv' m W →
      Calls Tryd.prog 80 #[.int .i64 h, .pointer (some ⟨b1, 0, none⟩), .pointer (some ⟨b4, 0, none⟩), .pointer (some ⟨b9, 0, none⟩)] W fun e W' => e = .returned (.int .i64 (follow c m h).2) ∧ W.grownBy W' (some gm) ∧ RowI W' gm (follow c m h).1 := by
  intro g
  induction g using Nat.strongRecOn with
  | ind g ih =>
    intro m h W hg hm hW
    have IH := Lib.hid ih; have HW := Lib.hid hW; have HM := Lib.hid hm; have HN := Lib.hid hN
    obtain ⟨A2', n2', cp2', e2, hn2, hlc2, hcm2⟩ := hW.sl.form
    injection e2 with e2 e3 e4
    subst e2 e3 e4
    have HN2 := Lib.hid (show N2 = n2 by have := hn2.out; omega)
    have hn2b : n2 ≤ 1000 := by have := hn2.out; omega
    obtain ⟨b0, b1', bf, bl⟩ := hW.ch.c2
    clear ih hW hm hN
    go_enter Tryd.func80, Tryd.ntmps80
    go_wp2
    go_step3
    go_wp2
    go_step3
    go_wp2
    clear b0 b1' bf bl
    refine wp_loop_ghost_k (fun gg A' V => ∃ (i : Nat), i ≤ n2 ∧ n2 - i ≤ gg ∧ Fr 45 [(0, .int .i64 h), (1, .pointer (some ⟨b1, 0, none⟩)), (2, .pointer (some ⟨b4, 0, none⟩)), (3, .pointer (some ⟨b9, 0, none⟩)), (9, .slice A2 n2 cp2), (10, .int .i64 (n2 : Int)), (11, .int .i64 (i : Int))] [] A' ∧
      Ext W V ∧ ((c.sales.zip m).take i).any (onB h) = false) n2 ?_ ?_
    · exact ⟨0, by omega, by omega, ⟨rfl, rfl, by simp [Act.eval]⟩, Ext.refl _, by simp⟩
    · rintro gg A' V ⟨i, hi, hgg, hF, hE, hany⟩ J K' hJ hK
      have HJ := Lib.hid hJ; have EV := Lib.hid hE; have HA := Lib.hid hany
      obtain ⟨ρ, rfl, hρ⟩ := hF.open_
      simp only [List.forall_mem_cons] at hρ
      obtain ⟨r0, r1, r2, r3, r9, r10, r11, -⟩ := hρ
      simp only [lst, Nat.reduceAdd, r0, r1, r2, r3, r9, r10, r11]
      clear r0 r1 r2 r3 r9 r10 r11 hF hE hany hJ
      have HV := Lib.hid (HW.out.ext EV.out)
      by_cases hin : i < n2
      · have hiz : (i : Int) < (n2 : Int) := by omega
        obtain ⟨bx, ox, x, rfl, hx, -, hcellx⟩ := HV.out.sl.at_ hin
        obtain ⟨y, hy⟩ : ∃ y, m[i]? = some y := ⟨_, List.getElem?_eq_getElem (by have := HM.out.l; have := hn2.out; omega)⟩
        obtain ⟨c0, c1, c2, c3, c4⟩ := SlL.cells hcellx (Ext.refl V)
        have hyb := HM.out.b y (List.mem_of_getElem? hy)
        obtain ⟨V2, hV2⟩ : ∃ V2, V2 = V.alloc (.cells #[.int .i64 x.number, .int .i64 x.seller, .int .i64 x.buyer, .int .i64 x.bales, .int .i64 x.price] 68) := ⟨_, rfl⟩
        have E2 := Lib.hid (show Ext V V2 from hV2 ▸ Ext.al _ _)
        have BX := Lib.hid (show Blk V2 V.heap.size 68 #[.int .i64 x.number, .int .i64 x.seller, .int .i64 x.buyer, .int .i64 x.bales, .int .i64 x.price] from hV2 ▸ Blk.new _ _ _)
        have HV2 := Lib.hid (HV.out.ext E2.out)
        obtain ⟨x0, x1, x2, x3, x4, xf, xl⟩ := BX.out.c5
        obtain ⟨m0, m1, m2, m3, mf, ml⟩ := HV2.out.mkt.c4
        obtain ⟨p0, pf, pl⟩ := HV2.out.mp.c1
        have cy := HV2.out.row.cell hy
        have cyf := HV2.out.row.frozen
        have cyl := HV2.out.row.lt
        have hiN : i < N2 := by have := HN2.out; omega
        have hiNz : (i : Int) < (N2 : Int) := by omega
        have HSN := Lib.hid (on_snoc (h := h) hx hy)
        have HX := Lib.hid hx; have HY := Lib.hid hy
        have HE2 := Lib.hid (EV.out.trans E2.out)
        subst hV2
        clear hcellx hx hy
        by_cases hs : x.seller = h
        · subst hs
          have HS := Lib.hid (rfl : x.seller = x.seller)
          by_cases h0 : y = 0
          · have h1 : (y == 0) = true := by simpa using h0
            have HA2 := Lib.hid (show ((c.sales.zip m).take (i + 1)).any (onB x.seller) = false by rw [HSN.out, HA.out, h0]; simp)
            have h2 : decide (y = 0) = true := decide_eq_true h0
            clear h0
            go_wp2
            exact Handed.intro (n2 - (i + 1)) (by omega) (HJ.out _ _ _ ⟨i + 1, by omega, Nat.le_refl _, ⟨rfl, rfl, by simp [Act.eval]⟩, HE2.out, HA2.out⟩)
          · have h1 : (y == 0) = false := by simpa using h0
            have hy0 : 0 < y := by omega
            have HO := Lib.hid (on_some HX.out HY.out HA.out HS.out hy0)
            have HST := Lib.hid (follow_step HO.out HX.out HY.out)
            have hmu := mu_set m i y HY.out hy0
            have hm2 : Mvs c (m.set i (y - 1)) := ⟨by rw [List.length_set]; exact HM.out.l, fun z hz => by
              rcases List.mem_or_eq_of_mem_set hz with hz | rfl
              · exact HM.out.b z hz
              · omega⟩
            have HM2 := Lib.hid hm2
            have hw1 : IntKind.i64.wrap (y - 1) = y - 1 := by rw [IntKind.wrap_i64]; omega
            have hgV := HV.out.row.lt
            have HG2 := Lib.hid (grown_set (grown_ext (World.grownBy.refl W (some gm)) EV.out) (p := ⟨gm, i, none⟩) (.inl rfl) (.int .i64 (y - 1)))
            have HG3 := Lib.hid (grown_ext HG2.out (Ext.al _ (.cells #[.int .i64 x.number, .int .i64 x.seller, .int .i64 x.buyer, .int .i64 x.bales, .int .i64 x.price] 68)))
            have HV3 := Lib.hid (HW.out.grown HG3.out ((HV.out.row.set i (y - 1)).alloc _))
            obtain ⟨q0, qf, ql⟩ := HV3.out.fn.c1
            have BX3 := Lib.hid (show Blk ((V.setCell ⟨gm, i, none⟩ (.int .i64 (y - 1))).alloc (.cells #[.int .i64 x.number, .int .i64 x.seller, .int .i64 x.buyer, .int .i64 x.bales, .int .i64 x.price] 68)) V.heap.size 68 #[.int .i64 x.number, .int .i64 x.seller, .int .i64 x.buyer, .int .i64 x.bales, .int .i64 x.price] from Blk.at_ (by simp))
            obtain ⟨z0, z1, z2, z3, z4, zf, zl⟩ := BX3.out.c5
            go_wp2_with fail
            refine (IH.out (mu (m.set i (y - 1))) (by omega) _ x.buyer _ (Nat.le_refl _) HM2.out HV3.out).mono ?_
            rintro e V5 ⟨rfl, hG5, hR5⟩
            have HG5 := Lib.hid (grown_tr HG3.out hG5); have HR5 := Lib.hid hR5
            clear hG5 hR5
            go_wp2
            try rw [Exit.noGoto_ret]
            go_ret
            rw [HST.out]
            exact ⟨rfl, HG5.out, HR5.out⟩
        · have hs1 : (x.seller == h) = false := by simpa using hs
          have HA2 := Lib.hid (show ((c.sales.zip m).take (i + 1)).any (onB h) = false by rw [HSN.out, HA.out]; simp [hs])
          go_wp2
          exact Handed.intro (n2 - (i + 1)) (by omega) (HJ.out _ _ _ ⟨i + 1, by omega, Nat.le_refl _, ⟨rfl, rfl, by simp [Act.eval]⟩, HE2.out, HA2.out⟩)
      · have HE := Lib.hid (show i = n2 by omega)
        have HST := Lib.hid (follow_stop (on_none (c := c) (m := m) (h := h) (i := i) (by have := HE.out; have := hn2.out; omega) HA.out))
        have HVR := Lib.hid HV.out.row
        go_wp2
        try rw [Exit.noGoto_ret]
        go_ret
        rw [HST.out]
        exact ⟨rfl, grown_ext (World.grownBy.refl _ _) EV.out, HVR.out⟩
end Go.Proofs.YtafdbgielmlihaaDoor
/- The reference's Hands, whole. -/
namespace Go.Proofs.YtafdbgielmlihaaDoor
open Go.RowKit Go.Shelf Go.Lib
set_option maxRecDepth 100000
set_option linter.unusedSimpArgs false

/-- What is handed, and an error. -/
def HandE (l : List Hnd) (E : Int) (w : World) (e : Ending) (w' : World) : Prop := (∃ v, e = .returned (.tuple #[v, .int .i64 E]) ∧ Sl encHd 3 w' v l) ∧ Ext w w'
set_option maxHeartbeats 4000000 in
theorem refHands_any (c : Chn) (l : List Int) (hv sv : Value) (w : World) (hcl : CloseOf c l) (hh : SlI w hv c.houses) (hs : SlL w sv c.sales) :
    Calls Tryd.prog 31 #[valC hv sv] w (HandE (handsL c l) (errB (checkP c) 60) w) := by
  have HH := Lib.hid hh; have HS := Lib.hid hs
  obtain ⟨A, n, cp, rfl, hn, hlc, hcm⟩ := hh.form
  obtain ⟨A2, n2, cp2, rfl, hn2, hlc2, hcm2⟩ := hs.form
  clear hh hs
  have B0 := Lib.hid (show Blk (w.alloc (.cells #[.slice A n cp, .slice A2 n2 cp2] 25)) w.heap.size 25 #[.slice A n cp, .slice A2 n2 cp2] from Blk.new _ _ _)
  go_enter Tryd.func31, Tryd.ntmps31
  go_wp2_with fail
  refine (refChain_any c _ _ _ (HH.out.ext (Ext.al _ _)) (HS.out.ext (Ext.al _ _))).mono ?_
  rintro e w1 ⟨rfl, hE⟩
  have E1 := Lib.hid ((Ext.al w _).trans hE)
  have B1 := Lib.hid (B0.out.ext hE)
  clear hE
  cases hc : checkP c with
  | false =>
    have HO := Lib.hid (show handsL c l = [] by unfold handsL; rw [hc]; rfl)
    have HCK := Lib.hid hc
    clear hcl hc
    dsimp only [errB]
    go_wp2
    go_ret2
    exact ⟨⟨.slice none 0 0, by rw [HCK.out]; rfl, by rw [HO.out]; exact Sl.nil _⟩, E1.out⟩
  | true =>
    have HPL := Lib.hid (show handsL c l = (handsTo c l (getsL c l) c.houses.length).2 by unfold handsL; rw [hc]; rfl)
    have HO := Lib.hid (hcl.1 hc)
    have HCK := Lib.hid hc
    have HR := Lib.hid (check_right hc).1
    have HS10 := Lib.hid (check_right hc).2
    clear hcl hc
    obtain ⟨b0, b1, bf, bl⟩ := B1.out.c2
    dsimp only [errB]
    go_wp2_with fail
    refine (refclosing_own c l _ _ _ HO.out HR.out (by have := HS10.out; omega) (HH.out.ext E1.out) (HS.out.ext E1.out)).mono ?_
    rintro e w2 ⟨⟨v, rfl, hom⟩, hE⟩
    have E2 := Lib.hid (E1.out.trans hE); have B2 := Lib.hid (B1.out.ext hE)
    have HSL := Lib.hid hom.sl
    have hz12 := hE.size
    clear hE b0 b1 bf bl
    have HLN := Lib.hid (close_len HO.out)
    obtain ⟨Am, cm, gm, rfl, hlcm, hcmM, hom3⟩ := hom
    have HOM := Lib.hid hom3
    clear hom3
    obtain ⟨b0, b1, bf, bl⟩ := B2.out.c2
    go_wp2_with fail
    refine (refGets_any c l _ _ _ w2 (HH.out.ext E2.out) (HS.out.ext E2.out) HSL.out HR.out (by have := HS10.out; omega) HLN.out (fun y hy => by have := close_nine HR.out HO.out y hy; omega)).mono ?_
    rintro e w3 ⟨⟨g5, rfl, hg5, hr5⟩, hE⟩
    have E3 := Lib.hid (E2.out.trans hE); have B3 := Lib.hid (B2.out.ext hE); have R5 := Lib.hid hr5
    have HOM3 := Lib.hid (fun h => (⟨(HOM.out h).1, (HOM.out h).2.1, (HOM.out h).2.2.ext hE⟩ : Am = some ⟨gm, 0, none⟩ ∧ w1.heap.size ≤ gm ∧ RowX w3 gm l))
    have hgm2 : 0 < l.length → gm < w2.heap.size := fun h => (HOM.out h).2.2.lt
    have hz2 := hE.size
    have hb1 := B1.out.lt
    have hz1 := E1.out.size
    have hg3 := hr5.lt
    obtain ⟨gx, hgx1, hgx5, HGX⟩ : ∃ gx, w1.heap.size ≤ gx ∧ g5 ≠ gx ∧ (0 < l.length → gx < w3.heap.size ∧ Am = some ⟨gx, 0, none⟩ ∧ RowX w3 gx l) := by
      by_cases h : 0 < l.length
      · exact ⟨gm, (HOM3.out h).2.1, by have := hgm2 h; omega, fun _ => ⟨by have := hgm2 h; omega, (HOM3.out h).1, (HOM3.out h).2.2⟩⟩
      · exact ⟨w3.heap.size, by omega, by omega, fun h' => absurd h' h⟩
    have HX3 := Lib.hid HGX
    clear hE b0 b1 bf bl hr5 HOM HOM3 HGX hgm2
    have hn6 : n ≤ 6 := by have := HR.out.h6; have := hn.out; omega
    have HMV := Lib.hid (show Mvs c l from ⟨HLN.out, close_nine HR.out HO.out⟩)
    have hgn : (getsL c l).length = n := by rw [gets_len]; exact hn.out.symm
    have hmk := fun w => run_makeI (n := n) (by omega) w
    have HNE := Lib.hid hn.out
    have HAB := Lib.hid (fun h => HH.out.blk (w := w) h)
    have HSB := Lib.hid (fun h => HS.out.blk (w := w) h)
    have HB3 := Lib.hid B3.out
    simp only [hgn]
    obtain ⟨b0, b1, bf, bl⟩ := B3.out.c2
    go_wp2
    clear b0 b1 bf bl
    refine wp_loop_ghost_k (fun g A' W => ∃ (k : Nat) (A1 : Option Addr) (n1 d1 : Nat), k ≤ n ∧ n - k ≤ g ∧ Fr 97 [(1, .pointer (some ⟨w.heap.size, 0, none⟩)), (4, .slice Am l.length cm), (5, .slice (some ⟨g5, 0, none⟩) n n), (6, .slice A1 n1 d1), (24, .slice A n cp), (25, .int .i64 (n : Int)), (26, .int .i64 (k : Int))] [] A' ∧
      w3.grownBy W (some gx) ∧ (0 < l.length → RowX W gx (handsTo c l (getsL c l) k).1) ∧ Own encHd 99 3 W w3.heap.size (.slice A1 n1 d1) (handsTo c l (getsL c l) k).2) n ?_ ?_
    · exact ⟨0, none, 0, 0, by omega, by omega, ⟨rfl, rfl, by simp [Act.eval]⟩, World.grownBy.refl _ _, fun h => (HX3.out h).2.2, Own.nil _ _⟩
    · rintro g A' W ⟨k, A1, n1, d1, hk, hg, hF, hG, hX, hOw⟩ J K' hJ hK
      have HJ := Lib.hid hJ; have HG := Lib.hid hG; have HX := Lib.hid hX; have OW := Lib.hid hOw
      have hzW := hG.size
      obtain ⟨ρ, rfl, hρ⟩ := hF.open_
      simp only [List.forall_mem_cons] at hρ
      obtain ⟨r1, r4, r5, r6, r24, r25, r26, -⟩ := hρ
      simp only [lst, Nat.reduceAdd, r1, r4, r5, r6, r24, r25, r26]
      clear r1 r4 r5 r6 r24 r25 r26 hF hG hX hOw hJ
      by_cases hkn : k < n
      · have hkz : (k : Int) < (n : Int) := by omega
        have HHW := Lib.hid ((HH.out.ext E3.out).grown HG.out fun h b o e => by have := HAB.out h b o e; omega)
        have HSW := Lib.hid ((HS.out.ext E3.out).grown HG.out fun h b o e => by have := HSB.out h b o e; omega)
        have HBW := Lib.hid (HB3.out.grown HG.out (by intro e; injection e with e; omega))
        have HRW := Lib.hid (show RowI W g5 (getsL c l) from Blk.grown R5.out HG.out (by intro e; injection e with e; omega))
        obtain ⟨bh, oh, h, rfl, hh, -, hcell⟩ := HHW.out.at_ hkn
        have ch := SlI.cell hcell (Ext.refl _)
        have hh' := Lib.hid hh
        obtain ⟨g0, hg0⟩ : ∃ g0, (getsL c l)[k]? = some g0 := ⟨_, List.getElem?_eq_getElem (by omega)⟩
        have hgb := gets_bd HMV.out (by have := HS10.out; omega) g0 (List.mem_of_getElem? hg0)
        have hgN : g0 < 0 → 0 < l.length := fun h => by
          rcases Nat.eq_zero_or_pos l.length with h0 | h0
          · have := gets_nil (c := c) (l := l) (by have := HLN.out; omega) g0 (List.mem_of_getElem? hg0); omega
          · exact h0
        have HHM := Lib.hid (List.mem_of_getElem? hh)
        obtain ⟨hto1, hto2⟩ := handsTo_ok HR.out HMV.out (gets_len c l) k (by have := HNE.out; omega)
        have HTO1 := Lib.hid hto1
        have HST := Lib.hid (handsTo_succ (c := c) (l := l) hh hg0)
        obtain ⟨hro1, hro2, hro3⟩ := handRow_ok HR.out HHM.out hto1 (B := 0) (row := List.replicate c.houses.length 0) (by simp) (rep_zero _) (-g0).toNat
        have HRL := Lib.hid hro2
        obtain ⟨b0, b1, bf, bl⟩ := HBW.out.c2
        have cg := (HRW.out.alloc (.cells (intsA (List.replicate n 0)) 3)).cell hg0
        clear hcell hh hg0 hto1 hro1 hro2 hro3
        go_upto_block 2 with (fail)
        clear b0 b1 bf bl cg ch
        refine rowsX_wp (c := c) (m0 := (handsTo c l (getsL c l) k).1) (h0 := h) (g0 := g0) (b3 := w.heap.size) (gm := gx) (gr := W.heap.size) (N := l.length) (Am := Am) (A := some ⟨bh, oh, none⟩) (n := n) (cp := cp) (A2 := A2) (n2 := n2) (cp2 := cp2) (cm := cm) (v5 := .slice (some ⟨g5, 0, none⟩) n n) (v6 := .slice A1 n1 d1) (v7 := .int .i64 (k : Int)) (v24 := .slice (some ⟨bh, oh, none⟩) n cp) (v25 := .int .i64 (n : Int)) (v26 := .int .i64 (k : Int))
          HR.out (by have := HS10.out; omega) HLN.out HNE.out HHM.out hlcm hcmM HTO1.out (by omega) hgN ⟨rfl, rfl, by simp [Act.eval]⟩ (HBW.out.alloc _) (HHW.out.ext (Ext.al _ _)) (HSW.out.ext (Ext.al _ _)) (fun h => ⟨(HX3.out h).2.1, (HX.out h).alloc _⟩) (Blk.new _ _ _) (by omega) (fun h => by have := (HX3.out h).1; omega) (by omega)
          (fun h b o e => by have := HAB.out h b o e; omega) (fun h b o e => by have := HSB.out h b o e; omega) ?_
        intro A2' W2 hF2 hT2 hS2 hX2 hR2
        have HT2 := Lib.hid hT2.ofAl; have HX2 := Lib.hid hX2; have HR2 := Lib.hid hR2
        have HG2 := Lib.hid (TwoG.far HG.out HT2.out (by omega))
        have HHW2 := Lib.hid ((HH.out.ext E3.out).grown HG2.out fun h b o e => by have := HAB.out h b o e; omega)
        have HBW2 := Lib.hid (HB3.out.grown HG2.out (by intro e; injection e with e; omega))
        have HOW2 := Lib.hid (show Own encHd 99 3 W2 w3.heap.size (.slice A1 n1 d1) (handsTo c l (getsL c l) k).2 from by
          by_cases h0 : 0 < l.length
          · exact own_two OW.out HT2.out (HX3.out h0).1 fun g hg => by have := (own_rng OW.out hg).2; omega
          · rw [hS2 (by omega)]; exact OW.out.alloc _)
        have hz2W := HT2.out.size
        obtain ⟨ρ, rfl, hρ⟩ := hF2.open_
        simp only [List.forall_mem_cons] at hρ
        obtain ⟨r1, r4, r5, r6, r7, r8, r9, r24, r25, r26, -⟩ := hρ
        simp only [lst, Nat.reduceAdd, r1, r4, r5, r6, r7, r8, r9, r24, r25, r26]
        clear r1 r4 r5 r6 r7 r8 r9 r24 r25 r26 hF2 hT2 hX2 hR2 hS2
        go_upto_block 6 with (fail)
        refine out6_wp (c := c) (row := (handRow c h (-g0).toNat ((handsTo c l (getsL c l) k).1, List.replicate n 0)).2) (out0 := (handsTo c l (getsL c l) k).2) (h0 := h) (b3 := w.heap.size) (gr := W.heap.size) (B := w3.heap.size) (A := some ⟨bh, oh, none⟩) (n := n) (cp := cp) (v2 := .slice A2 n2 cp2) (A0 := A1) (n0 := n1) (d0 := d1)
          (v4 := .slice Am l.length cm) (v5 := .slice (some ⟨g5, 0, none⟩) n n) (v7 := .int .i64 (k : Int)) (v24 := .slice (some ⟨bh, oh, none⟩) n cp) (v25 := .int .i64 (n : Int)) (v26 := .int .i64 (k : Int))
          HNE.out hn6 (by have := HRL.out; rw [← HNE.out] at this; exact this) (by omega) (by omega) (by omega) ⟨rfl, rfl, by simp [Act.eval]⟩ HBW2.out HHW2.out (fun h b o e => by have := HAB.out h b o e; omega) HR2.out HOW2.out ?_
        intro A3' W3 A4 n4 d4 hF3 hBel hO3
        have HG3 := Lib.hid (show w3.grownBy W3 (some gx) from grown_below HG2.out hBel)
        have HX3' := Lib.hid (show 0 < l.length → RowX W3 gx (handRow c h (-g0).toNat ((handsTo c l (getsL c l) k).1, List.replicate n 0)).1 from fun h => (HX2.out h).at_ (hBel.block gx (HX3.out h).1))
        have HO3 := Lib.hid hO3
        obtain ⟨ρ, rfl, hρ⟩ := hF3.open_
        simp only [List.forall_mem_cons] at hρ
        obtain ⟨r1, r4, r5, r6, r7, r8, r24, r25, r26, -⟩ := hρ
        simp only [lst, Nat.reduceAdd, r1, r4, r5, r6, r7, r8, r24, r25, r26]
        clear r1 r4 r5 r6 r7 r8 r24 r25 r26 hF3 hBel hO3
        go_wp2
        have hst := HST.out
        rw [← HNE.out] at hst
        exact Handed.intro (n - (k + 1)) (by omega) (HJ.out _ _ _ ⟨k + 1, A4, n4, d4, by omega, Nat.le_refl _, ⟨rfl, rfl, by simp [Act.eval]⟩, HG3.out, by rw [hst]; exact HX3'.out, by rw [hst]; exact HO3.out⟩)
      · have HE := Lib.hid (show k = n by omega)
        go_wp2
        go_ret2
        refine ⟨⟨.slice A1 n1 d1, by rw [HCK.out]; rfl, ?_⟩, ?_⟩
        · have := OW.out
          rw [HPL.out, ← HNE.out, ← HE.out]
          exact this.sl (fun _ => rfl)
        · exact ext_grown E3.out HG.out (by omega)
end Go.Proofs.YtafdbgielmlihaaDoor
/- Passes: the program's. -/
namespace Go.Proofs.YtafdbgielmlihaaDoor
open Go.RowKit Go.Shelf Go.Lib
set_option maxRecDepth 100000
set_option linter.unusedSimpArgs false

theorem und116a : Tryd.prog.underlying 116 = some (.array 2 4) := by kernel_rfl
theorem info4a : (Tryd.prog.info? 4).isSome = true := by kernel_rfl
theorem und4a : Tryd.prog.underlying 4 = some .bool := by kernel_rfl
theorem cells4a : Tryd.prog.cellsOf 4 = 1 := by kernel_rfl
theorem eqBB (s b : Bool) (w : World) : (Op.equalIn 10000 116 (.agg #[.bool s, .bool b]) (.agg #[.bool true, .bool true])).run Tryd.prog w = .ok (s && b) w := by
  obtain ⟨i, hi⟩ := Option.isSome_iff_exists.1 info4a
  have h := run_equalIn_array (w := w) 9999 #[.bool s, .bool b] #[.bool true, .bool true] und116a hi
  rw [show (10000 : Nat) = 9999 + 1 from rfl, h, cells4a]
  have u := und4a
  have a := Tryd.isAgg4
  simp only [show List.range 2 = [0, 1] from rfl]
  cases s <;> cases b <;> simp [Op.eqItems, go_sem, u, a]
set_option maxHeartbeats 8000000 in
theorem passes_any (c : Chn) (l : List Int) (hv sv : Value) (w : World) (hcl : CloseOf c l) (hT : Tab w) (hh : SlI w hv c.houses) (hs : SlL w sv c.sales) (hl : c.sales.length ≤ 1000) :
    Calls Tryd.prog 28 #[valC hv sv] w (ListE (passesL c l) (errB (checkP c) 60) w) := by
  have HT := Lib.hid hT; have HH := Lib.hid hh; have HS := Lib.hid hs; have HL := Lib.hid hl
  obtain ⟨A, n, cp, rfl, hn, hlc, hcm⟩ := hh.form
  obtain ⟨A2, n2, cp2, rfl, hn2, hlc2, hcm2⟩ := hs.form
  clear hh hs hT hl
  cases hc : checkP c with
  | false =>
    have HO := Lib.hid (show passesL c l = [] by unfold passesL; rw [hc]; rfl)
    have HCK := Lib.hid hc
    clear hcl hc
    go_enter Tryd.func28, Tryd.ntmps28
    go_wp2_with fail
    refine (opened_no c _ _ _ (HT.out.ext (Ext.al _ _)) (HH.out.ext (Ext.al _ _)) (HS.out.ext (Ext.al _ _)) HL.out HCK.out).mono ?_
    rintro e w1 ⟨rfl, hE⟩
    have E1 := Lib.hid ((Ext.al w _).trans hE); clear hE
    go_wp2
    go_ret2
    exact ⟨⟨.slice none 0 0, by rfl, by rw [HO.out]; exact Sl.nil _⟩, E1.out⟩
  | true =>
    have HPL := Lib.hid (show passesL c l = passL c l by unfold passesL; rw [hc]; rfl)
    have HO := Lib.hid (hcl.1 hc)
    have HCLO := Lib.hid hcl
    have HCK := Lib.hid hc
    have HR := Lib.hid (check_right hc).1
    have HS10 := Lib.hid (check_right hc).2
    have B0 := Lib.hid (show Blk (w.alloc (.cells #[.slice A n cp, .slice A2 n2 cp2] 25)) w.heap.size 25 #[.slice A n cp, .slice A2 n2 cp2] from Blk.new _ _ _)
    clear hcl hc
    go_enter Tryd.func28, Tryd.ntmps28
    go_wp2_with fail
    refine (opened_yes c l _ _ _ HCLO.out (HT.out.ext (Ext.al _ _)) (HH.out.ext (Ext.al _ _)) (HS.out.ext (Ext.al _ _)) HCK.out).mono ?_
    rintro e w2 ⟨mb, gm, hv', sv', cv', rfl, hE, h1, h2, h3, h4, h5, h6'⟩
    have HLN := Lib.hid (close_len HO.out)
    have E2 := Lib.hid ((Ext.al w _).trans hE); have B2 := Lib.hid (B0.out.ext hE)
    have BM := Lib.hid h3; have RM := Lib.hid h4
    clear hE h3 h4 h5 h6'
    have hN : c.sales.length = n2 := by have := hn2.out; omega
    rw [hN] at BM
    have h6 : n ≤ 6 := by have := HR.out.h6; have := hn.out; omega
    have h10 : n2 ≤ 10 := by have := HS10.out; omega
    obtain ⟨b0, b1, bf, bl⟩ := B2.out.c2
    clear hN
    go_wp2
    clear b0 b1 bf bl
    have hb2 := B2.out.lt
    have hbm := BM.out.lt
    have hrm := RM.out.lt
    refine wp_loop_ghost_k (fun g A' W => ∃ (kk : Nat) (A1 : Option Addr) (n1 d1 : Nat), kk ≤ n ∧ n - kk ≤ g ∧ Fr 83 [(1, .pointer (some ⟨w.heap.size, 0, none⟩)), (4, .pointer (some ⟨mb, 0, none⟩)), (6, .slice A1 n1 d1), (21, .slice A n cp), (22, .int .i64 (n : Int)), (23, .int .i64 (kk : Int))] [] A' ∧
      Ext w2 W ∧ Own encI 3 1 W w2.heap.size (.slice A1 n1 d1) ((c.houses.take kk).filter (passB c l))) n ?_ ?_
    · exact ⟨0, none, 0, 0, by omega, by omega, ⟨rfl, rfl, by simp [Act.eval]⟩, Ext.refl _, by simpa using Own.nil _ _⟩
    · rintro g A' W ⟨kk, A1, n1, d1, hkk, hg, hF, hE, hOw⟩ J K' hJ hK
      have HJ := Lib.hid hJ; have EW := Lib.hid hE; have OW := Lib.hid hOw
      obtain ⟨ρ, rfl, hρ⟩ := hF.open_
      simp only [List.forall_mem_cons] at hρ
      obtain ⟨r1, r4, r6, r21, r22, r23, -⟩ := hρ
      simp only [lst, Nat.reduceAdd, r1, r4, r6, r21, r22, r23]
      clear r1 r4 r6 r21 r22 r23 hF hE hOw hJ
      by_cases hlt : kk < n
      · have hltz : (kk : Int) < (n : Int) := by omega
        obtain ⟨b9, off9, h, rfl, hx9, -, hcell9⟩ := HH.out.at_ hlt
        have c9 := SlI.cell hcell9 (E2.out.trans EW.out)
        have HPS := Lib.hid (pass_snoc (l := l) hx9)
        obtain ⟨b0, b1, bf, bl⟩ := ((B2.out.ext EW.out).alloc (.cells #[.bool false, .bool false] 116)).c2
        have hzW0 := EW.out.size
        clear hx9 hcell9
        go_wp2
        clear b0 b1 bf bl c9
        refine wp_loop_ghost_k (fun g A' W' => ∃ (i : Nat) (b s : Bool), i ≤ n2 ∧ n2 - i ≤ g ∧ Fr 83 [(1, .pointer (some ⟨w.heap.size, 0, none⟩)), (4, .pointer (some ⟨mb, 0, none⟩)), (6, .slice A1 n1 d1), (8, .int .i64 h), (9, .pointer (some ⟨W.heap.size, 0, none⟩)), (21, .slice (some ⟨b9, off9, none⟩) n cp), (22, .int .i64 (n : Int)), (23, .int .i64 (kk : Int)), (28, .slice A2 n2 cp2), (29, .int .i64 (n2 : Int)), (30, .int .i64 (i : Int))] [] A' ∧
          Ext W W' ∧ Blk W' W.heap.size 116 #[.bool s, .bool b] ∧ buysB ((c.sales.zip l).take i) h = b ∧ sellsB ((c.sales.zip l).take i) h = s) n2 ?_ ?_
        · exact ⟨0, false, false, by omega, by omega, ⟨rfl, rfl, by simp [Act.eval]⟩, Ext.al _ _, Blk.new _ _ _, rfl, rfl⟩
        · rintro g2 A'2 W3 ⟨i, b, s, hi, hg2, hF, hE, hB9, hb, hs⟩ J2 K2 hJ2 hK2
          have HJ2 := Lib.hid hJ2; have EW3 := Lib.hid hE; have HB := Lib.hid hb; have HSS := Lib.hid hs; have B9 := Lib.hid hB9
          have hz3 := EW3.out.size
          have hb9 := B9.out.lt
          obtain ⟨ρ, rfl, hρ⟩ := hF.open_
          simp only [List.forall_mem_cons] at hρ
          obtain ⟨r1, r4, r6, r8, r9, r21, r22, r23, r28, r29, r30, -⟩ := hρ
          simp only [lst, Nat.reduceAdd, r1, r4, r6, r8, r9, r21, r22, r23, r28, r29, r30]
          clear r1 r4 r6 r8 r9 r21 r22 r23 r28 r29 r30 hF hE hb hs hJ2 hB9
          by_cases hin : i < n2
          · have hiz : (i : Int) < (n2 : Int) := by omega
            obtain ⟨bx, ox, x, rfl, hx, -, hcellx⟩ := HS.out.at_ hin
            obtain ⟨y, hy⟩ : ∃ y, l[i]? = some y := ⟨_, List.getElem?_eq_getElem (by have := HLN.out; have := hn2.out; omega)⟩
            have ex : Ext w W3 := (E2.out.trans EW.out).trans EW3.out
            obtain ⟨c0, c1, c2, c3, c4⟩ := SlL.cells hcellx ex
            have e23 : Ext w2 W3 := EW.out.trans EW3.out
            obtain ⟨v0, v1, v2, v3, vf, vl⟩ := (BM.out.ext e23).c4
            have cy := (RM.out.ext e23).cell hy
            have cy2 := (RM.out.ext (e23.trans (Ext.al W3 (.cells #[.int .i64 x.number, .int .i64 x.seller, .int .i64 x.buyer, .int .i64 x.bales, .int .i64 x.price] 68)))).cell hy
            have cyf := (RM.out.ext e23).frozen
            have cyl := (RM.out.ext e23).lt
            obtain ⟨u0, u1, uf, ul⟩ := B9.out.c2
            have HB2 := Lib.hid (buys_snoc h hx hy); have HS2 := Lib.hid (sells_snoc h hx hy)
            have n1 : ¬ mb = W.heap.size := by omega
            have n2' : ¬ gm = W.heap.size := by omega
            have n3' : ¬ W3.heap.size = W.heap.size := by omega
            clear hx hy hcellx ex e23
            obtain ⟨p, hp⟩ : ∃ p, decide (0 < y) = p := ⟨_, rfl⟩
            obtain ⟨q, hq, hq2⟩ : ∃ q, decide (x.buyer = h) = q ∧ (x.buyer == h) = q := ⟨_, rfl, by cases hh : (x.buyer == h) <;> simp_all⟩
            obtain ⟨r, hr, hr2⟩ : ∃ q, decide (x.seller = h) = q ∧ (x.seller == h) = q := ⟨_, rfl, by cases hh : (x.seller == h) <;> simp_all⟩
            have HP := Lib.hid hp; have HQ1 := Lib.hid hq; have HR1 := Lib.hid hr
            cases p <;> cases q <;> cases r <;> cases b <;> cases s <;> (
              go_wp2
              exact Handed.intro (n2 - (i + 1)) (by omega) (HJ2.out _ _ _ ⟨i + 1, buysB ((c.sales.zip l).take (i + 1)) h, sellsB ((c.sales.zip l).take (i + 1)) h, by omega, Nat.le_refl _, ⟨rfl, rfl, by simp [Act.eval]⟩, by first | exact ((EW3.out.setCell (Nat.le_refl _) _).setCell (Nat.le_refl _) _).alloc _ | exact ((EW3.out.alloc _).setCell (Nat.le_refl _) _).setCell (Nat.le_refl _) _,
                by rw [HB2.out, HS2.out, HB.out, HSS.out, HP.out, HQ1.out, HR1.out]; first | exact ((B9.out.set_ 0 _).set_ 1 _).alloc _ | exact ((B9.out.alloc _).set_ 0 _).set_ 1 _, rfl, rfl⟩))
          · have HZ := Lib.hid (show (c.sales.zip l).take i = c.sales.zip l from zip_all (by have := hn2.out; omega))
            have HPB := Lib.hid (show passB c l h = (s && b) by unfold passB; rw [← HB.out, ← HSS.out, HZ.out])
            have hzW := EW.out.size
            obtain ⟨u0, u1, uf, ul⟩ := B9.out.c2
            have heq := fun w => eqBB s b w
            cases s <;> cases b
            · go_wp2
              exact Handed.intro (n - (kk + 1)) (by omega) (HJ.out _ _ _ ⟨kk + 1, A1, n1, d1, by omega, Nat.le_refl _, ⟨rfl, rfl, by simp [Act.eval]⟩, EW.out.trans EW3.out, by rw [HPS.out, HPB.out]; simpa using OW.out.ext EW3.out⟩)
            · go_wp2
              exact Handed.intro (n - (kk + 1)) (by omega) (HJ.out _ _ _ ⟨kk + 1, A1, n1, d1, by omega, Nat.le_refl _, ⟨rfl, rfl, by simp [Act.eval]⟩, EW.out.trans EW3.out, by rw [HPS.out, HPB.out]; simpa using OW.out.ext EW3.out⟩)
            · go_wp2
              exact Handed.intro (n - (kk + 1)) (by omega) (HJ.out _ _ _ ⟨kk + 1, A1, n1, d1, by omega, Nat.le_refl _, ⟨rfl, rfl, by simp [Act.eval]⟩, EW.out.trans EW3.out, by rw [HPS.out, HPB.out]; simpa using OW.out.ext EW3.out⟩)
            · obtain ⟨F, hF⟩ : ∃ F, F = (c.houses.take kk).filter (passB c l) := ⟨_, rfl⟩
              rw [← hF] at HPS OW
              have hFl : F.length ≤ kk := by rw [hF]; exact Nat.le_trans (List.length_filter_le _ _) (by rw [List.length_take]; omega)
              clear hF
              have OW3 := Lib.hid (OW.out.ext EW3.out)
              go_wp2_with (at_builtin; refine wpList_app encI 22 3 1 _ 8 Tryd.underlying22 info3x rfl (by decide) (by decide) (fun _ => rfl) encI_one rfl (.tmp 77) (.tmp 79) rfl w2.heap.size _ F rfl (OW3.out.alloc _) W3.heap.size 1 h rfl (cells1 (by simp [go_sem])) (by omega) (by simp; omega) ?_)
              intro g9 cap w9 hown hg9 hbel hgr
              have HO9 := Lib.hid hown
              have HB9 := Lib.hid (show Ext w2 w9 from Below.trans ((EW.out.trans EW3.out).alloc _) hbel)
              clear hown hbel hgr u0 u1 uf ul
              go_wp2
              exact Handed.intro (n - (kk + 1)) (by omega) (HJ.out _ _ _ ⟨kk + 1, _, _, _, by omega, Nat.le_refl _, ⟨rfl, rfl, by simp [Act.eval]; first | done | exact ⟨rfl, rfl, rfl⟩⟩, HB9.out, by rw [HPS.out, HPB.out]; exact HO9.out⟩)
      · have HE := Lib.hid (show kk = n by omega)
        go_wp2
        go_ret2
        refine ⟨⟨.slice A1 n1 d1, by rfl, ?_⟩, E2.out.trans EW.out⟩
        have := OW.out
        rw [List.take_of_length_le (by have := HE.out; have := hn.out; omega)] at this
        rw [HPL.out]
        exact this.sl (fun _ => rfl)
end Go.Proofs.YtafdbgielmlihaaDoor
