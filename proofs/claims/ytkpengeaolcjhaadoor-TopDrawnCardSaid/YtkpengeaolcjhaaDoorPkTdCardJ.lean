/- The law TopDrawn: the walk. -/
import Derived.Test.YtkpengeaolcjhaaDoorPkTdCardG
import Derived.Test.YtkpengeaolcjhaaDoorPkTdCardI
namespace Go.Proofs.YtkpengeaolcjhaaDoor
open Go.RowKit Go.Shelf Go.Lib
set_option maxRecDepth 100000
set_option linter.unusedSimpArgs false

theorem wrap_u8 {x : Int} (h : 0 ≤ x ∧ x ≤ 255) : IntKind.i64.wrap x = x := by rw [IntKind.wrap_i64]; omega
/-- What stands still while the law runs. -/
structure TdT (lots size : Int) (l : List Rc) (w : World) (A : Option Addr) (n c : Nat) (W : World) : Prop where
  e : Ext w W
  p : Blk W w.heap.size 24 #[.int .i64 lots, .int .i64 size, .slice A n c]
  t : TabM W
  a : MlC W (.slice A n c) l
theorem TdT.ext {lots size : Int} {l : List Rc} {w : World} {A : Option Addr} {n c : Nat} {W W' : World} (h : TdT lots size l w A n c W) (e : Ext W W') : TdT lots size l w A n c W' := ⟨h.e.trans e, h.p.ext e, h.t.ext e, h.a.ext e⟩
/-- .. and a bale of it in a box. -/
structure TdU (lots size : Int) (l : List Rc) (w : World) (A : Option Addr) (n c : Nat) (g : Nat) (r : Rc) (W : World) : Prop where
  s : TdT lots size l w A n c W
  b : Blk W g 59 #[.int .i64 r.c.b.id, .int .i64 r.c.b.layers, .int .i64 r.c.b.dry.lo, .int .i64 r.c.b.dry.hi, .slice r.da r.dn r.dc, .slice r.wa r.wn r.wc]
  d : SlD W (.slice r.da r.dn r.dc) r.c.b.draws
  w : SlW W (.slice r.wa r.wn r.wc) r.c.b.weighs
theorem TdU.ext {lots size : Int} {l : List Rc} {w : World} {A : Option Addr} {n c g : Nat} {r : Rc} {W W' : World} (h : TdU lots size l w A n c g r W) (e : Ext W W') : TdU lots size l w A n c g r W' := ⟨h.s.ext e, h.b.ext e, h.d.ext e, h.w.ext e⟩
theorem TdU.cells {lots size : Int} {l : List Rc} {w : World} {A : Option Addr} {n c g : Nat} {r : Rc} {W : World} (h : TdU lots size l w A n c g r W) : W.cell? ⟨g, 0, none⟩ = some (.int .i64 r.c.b.id) ∧ W.cell? ⟨g, 1, none⟩ = some (.int .i64 r.c.b.layers) ∧ W.cell? ⟨g, 2, none⟩ = some (.int .i64 r.c.b.dry.lo) ∧ W.cell? ⟨g, 3, none⟩ = some (.int .i64 r.c.b.dry.hi) ∧ W.cell? ⟨g, 4, none⟩ = some (.slice r.da r.dn r.dc) ∧ W.cell? ⟨g, 5, none⟩ = some (.slice r.wa r.wn r.wc) ∧ (∀ i, W.frozen? ⟨g, i, none⟩ = false) ∧ g < W.heap.size :=
  ⟨h.b.cell 0, h.b.cell 1, h.b.cell 2, h.b.cell 3, h.b.cell 4, h.b.cell 5, h.b.frozen, h.b.lt⟩
theorem any_take {F : List Int} {j : Nat} {x a : Int} (hx : F[j]? = some x) : ((F.take (j + 1)).any fun z => decide (z = a)) = (((F.take j).any fun z => decide (z = a)) || decide (x = a)) := by
  rw [List.take_add_one, hx, List.any_append]
  simp
theorem freshN_bd : ∀ (l : List Int) (m : Int), m ≤ freshN l m ∧ freshN l m ≤ m + l.length
  | [], m => by unfold freshN; simp
  | x :: l, m => by
    have h1 := freshN_bd l m
    have h2 := freshN_bd l (m + 1)
    have e : freshN (x :: l) m = freshN l (if x = m then m + 1 else m) := rfl
    rw [e, List.length_cons]
    split <;> omega
theorem freshN_snoc (l : List Int) (x m : Int) : freshN (l ++ [x]) m = if x = freshN l m then freshN l m + 1 else freshN l m := by
  unfold freshN
  rw [List.foldl_append]
  rfl
set_option maxHeartbeats 8000000 in
theorem topDrawn_any (lots size : Int) (l : List Rc) (sv : Value) (x1 x2 x3 x4 x5 : Int) (w : World) (hT : TabM w) (hs : MlC w sv l) (hx1 : 0 ≤ x1 ∧ x1 ≤ 255) (hx2 : 0 ≤ x2 ∧ x2 ≤ 255) (hx3 : 0 ≤ x3 ∧ x3 ≤ 255) (hx4 : 0 ≤ x4 ∧ x4 ≤ 255) (hx5 : 0 ≤ x5 ∧ x5 ≤ 255) :
    Calls Tryd.prog 6 #[valM lots size sv, .int .u8 x1, .int .u8 x2, .int .u8 x3, .int .u8 x4, .int .u8 x5] w fun e w' => e = .returned (.bool true) ∧ Ext w w' := by
  have HX := Lib.hid (And.intro hx1 (And.intro hx2 (And.intro hx3 (And.intro hx4 hx5))))
  obtain ⟨A, n, c, rfl, hn, hlc, hcm⟩ := hs.1.form
  have HNL := Lib.hid (show l.length = n from hn.out.symm)
  have HT := Lib.hid hT; have HS := Lib.hid hs
  clear hT hs hx1 hx2 hx3 hx4 hx5 hn
  go_enter Tryd.func6, Tryd.ntmps6
  dsimp only [valM]
  go_wp2_with fail
  have S0 := Lib.hid (show TdT lots size l w A n c (w.alloc (.cells #[.int .i64 lots, .int .i64 size, .slice A n c] 24)) from ⟨Ext.al _ _, Blk.new _ _ _, HT.out.ext (Ext.al _ _), HS.out.ext (Ext.al _ _)⟩)
  refine (drawn_anyT _ S0.out.t).mono ?_
  rintro e w1 ⟨rfl, hE⟩
  replace S0 := Lib.hid (S0.out.ext hE)
  clear hE HT HS
  have x0 := S0.out.p.c3
  go_wp2_with fail
  clear x0
  refine (greatM_any lots size l _ _ S0.out.a).mono ?_
  rintro e w2 ⟨rfl, hE⟩
  replace S0 := Lib.hid (S0.out.ext hE)
  clear hE
  have x0 := S0.out.p.c3
  cases hg : greatM l with
  | true =>
    go_wp2
    go_ret
    exact ⟨rfl, S0.out.e⟩
  | false =>
    have HG := Lib.hid hg; clear hg
    go_wp2_with fail
    clear x0
    refine (refMill_any lots size l _ _ S0.out.a).mono ?_
    rintro e w3 ⟨rfl, hE⟩
    rw [millR_eq]
    replace S0 := Lib.hid (S0.out.ext hE)
    clear hE
    have x0 := S0.out.p.c3
    cases hc : checkM (mOf lots size l) with
    | false =>
      go_wp2
      go_ret
      exact ⟨rfl, S0.out.e⟩
    | true =>
      have HC := Lib.hid hc; clear hc
      by_cases hn0 : n = 0
      · subst hn0
        go_wp2
        go_ret
        exact ⟨rfl, S0.out.e⟩
      · have hnz : ((n : Int) == 0) = false := by simpa using hn0
        have hnz2 : ¬ (n : Int) = 0 := by omega
        obtain ⟨i, hi, hin⟩ : ∃ i : Nat, x1.tmod (n : Int) = (i : Int) ∧ i < n := by
          have h1 := HX.out.1
          refine ⟨(x1 % (n : Int)).toNat, ?_, ?_⟩
          · rw [Int.tmod_eq_emod_of_nonneg h1.1]
            have := Int.emod_nonneg x1 hnz2
            omega
          · have := Int.emod_nonneg x1 hnz2
            have := Int.emod_lt_of_pos x1 (show 0 < (n : Int) by omega)
            omega
        have hiz : (i : Int) < (n : Int) := by omega
        have hw1 := wrap_u8 HX.out.1
        obtain ⟨bo, off, r, rfl, hr, -, hcell⟩ := S0.out.a.1.at_ hin
        obtain ⟨c0, c1, c2, c3, c4, c5, c6, c7⟩ := SlC.cells hcell (Ext.refl _)
        have HR := Lib.hid hr
        clear hr hcell
        go_upto_region 6 with (fail)
        obtain ⟨w4, hw4⟩ : ∃ w4, w4 = w3.alloc (.cells #[.int .i64 r.c.b.id, .int .i64 r.c.b.layers, .int .i64 r.c.b.dry.lo, .int .i64 r.c.b.dry.hi, .slice r.da r.dn r.dc, .slice r.wa r.wn r.wc] 59) := ⟨_, rfl⟩
        rw [← hw4]
        have U := Lib.hid (show TdU lots size l w (some ⟨bo, off, none⟩) n c w3.heap.size r w4 from hw4 ▸ ⟨S0.out.ext (Ext.al _ _), Blk.new _ _ _, (S0.out.a.2 r (List.mem_of_getElem? HR.out)).1.ext (Ext.al _ _), (S0.out.a.2 r (List.mem_of_getElem? HR.out)).2.ext (Ext.al _ _)⟩)
        clear hw4 c0 c1 c2 c3 c4 c5 c6 c7 x0 hw1 S0
        have HLl := Lib.hid (show l.length ≤ 1000 by have h := (mok_of HC.out).n7; simp at h; omega)
        have x0 := U.out.s.p.c3
        go_wp2_with fail
        clear x0
        refine (fitM_any lots size l _ _ U.out.s.t U.out.s.a HLl.out).mono ?_
        rintro e w5 ⟨⟨v, rfl, hv⟩, hE⟩
        rw [HC.out]
        simp only [errB]
        replace U := Lib.hid (U.out.ext hE)
        obtain ⟨F, hF⟩ : ∃ F, fitR (mOf lots size l) = F := ⟨_, rfl⟩
        rw [hF] at hv
        have HV := Lib.hid hv
        obtain ⟨Av, nv, cv, rfl, hnv, -, -⟩ := HV.out.form
        have HFL := Lib.hid (show F.length = nv from hnv.out.symm)
        have HFI := Lib.hid (show (F.any fun z => decide (z = r.c.b.id)) = fitB r.c by
          rw [← hF, fitR_yes HC.out]
          have h := HC.out
          unfold checkM ck2 at h
          simp only [Bool.and_eq_true] at h
          exact fit_is (up_of _ h.1.2.1 h.1.2.2) (show (mOf lots size l).cots[i]? = some r.c by simp [HR.out]))
        have HFN := Lib.hid (show nv ≤ 1000 by
          have h1 : F.length ≤ l.length := by
            rw [← hF, fitR_yes HC.out]
            unfold fitIds
            rw [List.length_map]
            exact Nat.le_trans (List.length_filter_le _ _) (by simp)
          have := HFL.out; have := HLl.out; omega)
        have hnv1 := HFN.out
        clear hv hE hF hnv
        obtain ⟨k0, k1, k2, k3, k4, k5, kf, kl⟩ := U.out.cells
        go_wp2_with fail
        refine (kindC_any r.c.b 1 _ _ _ U.out.s.t.1 U.out.d U.out.w).mono ?_
        rintro e w6 ⟨rfl, hE⟩
        replace U := Lib.hid (U.out.ext hE)
        replace HV := Lib.hid (HV.out.ext hE)
        clear hE k0 k1 k2 k3 k4 k5 kf kl
        obtain ⟨d, hd, hd0, hd2⟩ : ∃ d : Int, x5.tmod 201 = d ∧ 0 ≤ d ∧ d ≤ 200 := by
          have h5 := HX.out.2.2.2.2
          exact ⟨x5 % 201, Int.tmod_eq_emod_of_nonneg h5.1, by omega, by omega⟩
        have hw5 := wrap_u8 HX.out.2.2.2.2
        obtain ⟨k0, k1, k2, k3, k4, k5, kf, kl⟩ := U.out.cells
        go_wp2_with fail
        refine (aside_any r.c.b d _ _ _ U.out.s.t.1 U.out.d U.out.w).mono ?_
        rintro e w7 ⟨rfl, hE⟩
        replace U := Lib.hid (U.out.ext hE)
        replace HV := Lib.hid (HV.out.ext hE)
        clear hE k0 k1 k2 k3 k4 k5 kf kl hw5
        have hvb := (mok_of HC.out).v r.c (List.mem_map_of_mem (List.mem_of_getElem? HR.out))
        have HVB := Lib.hid hvb
        have hid : inB 0 200 d = true := by unfold inB; simp; omega
        have HD := Lib.hid (And.intro hd0 hd2)
        cases ho : okB r.c.b with
        | false =>
          have e1 : askE r.c.b (inB 1 4 1) 32 = 8 := by unfold askE; rw [hvb, ho]; rfl
          have e2 : askE r.c.b (inB 0 200 d) 35 = 8 := by unfold askE; rw [hvb, ho, hid]; rfl
          have e3 : kindB r.c.b 1 = 0 := by unfold kindB; rw [e1]; rfl
          have e4 : asideB r.c.b d = 0 := by unfold asideB; rw [e2]; rfl
          have e5 : fitB r.c = false := by unfold fitB; rw [e1]; rfl
          rw [e1, e2, e3, e4]
          clear hvb hid ho e1 e2 e3 e4
          go_wp2
          go_loopg [22, 101] nv (fun gg s22 s101 wr => ∃ j : Nat, j ≤ nv ∧ nv - j ≤ gg ∧ s101 = .int .i64 (j : Int) ∧ s22 = .bool ((F.take j).any fun z => decide (z = r.c.b.id)) ∧ Aside (TdU lots size l w (some ⟨bo, off, none⟩) n c w3.heap.size r wr) ∧ Aside (SlI wr (.slice Av nv cv) F))
          case atStart => exact ⟨0, by omega, by omega, by simp, by simp, U.out, HV.out⟩
          case round =>
            obtain ⟨j, hj, hgg, rfl, rfl, UQ, VQ⟩ := hrel
            clear U HV
            by_cases hjn : j < nv
            · have hjz : (j : Int) < (nv : Int) := by omega
              obtain ⟨b2, off2, x, rfl, hx, -, hcell⟩ := VQ.out.at_ hjn
              have z0 := SlI.cell hcell (Ext.refl _)
              have HTK := Lib.hid (any_take (a := r.c.b.id) hx)
              obtain ⟨cb, hcb⟩ : ∃ cb, ((F.take j).any fun z => decide (z = r.c.b.id)) = cb := ⟨_, rfl⟩
              rw [hcb] at HTK ⊢
              obtain ⟨k0, k1, k2, k3, k4, k5, kf, kl⟩ := UQ.out.cells
              clear hcb hx hcell
              cases cb
              · go_wp2
                go_roundg (nv - (j + 1))
                case measure => omega
                case rel => exact ⟨j + 1, by omega, by omega, by simp, by rw [HTK.out, Bool.false_or]; rfl, UQ.out, VQ.out⟩
              · go_wp2
                go_roundg (nv - (j + 1))
                case measure => omega
                case rel => exact ⟨j + 1, by omega, by omega, by simp, by rw [HTK.out, Bool.true_or], UQ.out, VQ.out⟩
            · have hjn' : j = nv := by omega
              subst hjn'
              have HAN := Lib.hid (show ((F.take j).any fun z => decide (z = r.c.b.id)) = fitB r.c by
                rw [List.take_of_length_le (by have := HFL.out; omega)]
                exact HFI.out)
              rw [HAN.out]
              obtain ⟨k0, k1, k2, k3, k4, k5, kf, kl⟩ := UQ.out.cells
              rw [e5]
              go_wp2
              go_ret
              exact ⟨rfl, UQ.out.s.e⟩
        | true =>
          have e1 : askE r.c.b (inB 1 4 1) 32 = 0 := by unfold askE; rw [hvb, ho]; rfl
          have e2 : askE r.c.b (inB 0 200 d) 35 = 0 := by unfold askE; rw [hvb, ho, hid]; rfl
          have e3 : kindB r.c.b 1 = kindK (kindS r.c.b) 1 := by unfold kindB; rw [if_pos e1]
          have e4 : kindK (kindS r.c.b) 1 = 0 → asideB r.c.b d = 2 := by
            intro h
            rw [asideB_ok hvb ho hd0 hd2, aside_yes]
            right
            unfold kindK at h
            cases hh : (kindS r.c.b).has 1
            · rfl
            · rw [hh] at h; simp at h; split at h <;> cases h
          have e5 : fitB r.c = decide (kindK (kindS r.c.b) 1 = 2) := by unfold fitB; rw [e1, e3]; rfl
          have HE4 := Lib.hid e4; have HE5 := Lib.hid e5; have HO := Lib.hid ho
          rw [e1, e2, e3]
          generalize kindK (kindS r.c.b) 1 = kk at *
          generalize asideB r.c.b d = av at *
          clear hvb hid ho e1 e2 e3 e4 e5
          go_wp2
          go_loopg [22, 101] nv (fun gg s22 s101 wr => ∃ j : Nat, j ≤ nv ∧ nv - j ≤ gg ∧ s101 = .int .i64 (j : Int) ∧ s22 = .bool ((F.take j).any fun z => decide (z = r.c.b.id)) ∧ Aside (TdU lots size l w (some ⟨bo, off, none⟩) n c w3.heap.size r wr) ∧ Aside (SlI wr (.slice Av nv cv) F))
          case atStart => exact ⟨0, by omega, by omega, by simp, by simp, U.out, HV.out⟩
          case round =>
            obtain ⟨j, hj, hgg, rfl, rfl, UQ, VQ⟩ := hrel
            clear U HV
            by_cases hjn : j < nv
            · have hjz : (j : Int) < (nv : Int) := by omega
              obtain ⟨b2, off2, x, rfl, hx, -, hcell⟩ := VQ.out.at_ hjn
              have z0 := SlI.cell hcell (Ext.refl _)
              have HTK := Lib.hid (any_take (a := r.c.b.id) hx)
              obtain ⟨cb, hcb⟩ : ∃ cb, ((F.take j).any fun z => decide (z = r.c.b.id)) = cb := ⟨_, rfl⟩
              rw [hcb] at HTK ⊢
              obtain ⟨k0, k1, k2, k3, k4, k5, kf, kl⟩ := UQ.out.cells
              clear hcb hx hcell
              cases cb
              · go_wp2
                go_roundg (nv - (j + 1))
                case measure => omega
                case rel => exact ⟨j + 1, by omega, by omega, by simp, by rw [HTK.out, Bool.false_or]; rfl, UQ.out, VQ.out⟩
              · go_wp2
                go_roundg (nv - (j + 1))
                case measure => omega
                case rel => exact ⟨j + 1, by omega, by omega, by simp, by rw [HTK.out, Bool.true_or], UQ.out, VQ.out⟩
            · have hjn' : j = nv := by omega
              subst hjn'
              have HAN := Lib.hid (show ((F.take j).any fun z => decide (z = r.c.b.id)) = fitB r.c by
                rw [List.take_of_length_le (by have := HFL.out; omega)]
                exact HFI.out)
              rw [HAN.out]
              obtain ⟨k0, k1, k2, k3, k4, k5, kf, kl⟩ := UQ.out.cells
              rw [HE5.out]
              by_cases hkk : kk = 0
              · have hav := HE4.out hkk
                subst hkk hav
                go_upto_region 19 with (fail)
                obtain ⟨dn, hdn⟩ : ∃ dn, r.dn = dn := ⟨_, rfl⟩
                have hdl : r.c.b.draws.length = dn := by
                  obtain ⟨_, _, e, _⟩ := UQ.out.d
                  injection e with _ e _
                  rw [← hdn, e]
                have HDL := Lib.hid hdl
                by_cases h10 : dn = 10
                · have h10z : ((dn : Int) == 10) = true := by simp; omega
                  rw [hdn] at k4
                  go_wp2
                  go_ret
                  exact ⟨rfl, UQ.out.s.e⟩
                · have h10z : ((dn : Int) == 10) = false := by simp; omega
                  have HBD := Lib.hid (valid_bds HVB.out)
                  have hd10 : dn ≤ 10 := by have := HBD.out.nd; omega
                  obtain ⟨da, hda⟩ : ∃ a, r.da = a := ⟨_, rfl⟩
                  have HUD := Lib.hid (show SlD wr (.slice da dn r.dc) r.c.b.draws from hda ▸ hdn ▸ UQ.out.d)
                  rw [hdn, hda] at k4
                  have UR := Lib.hid UQ.out
                  have EX := Lib.hid (Ext.refl wr)
                  rename World => wO
                  clear hdl
                  go_wp2
                  go_loopg [25, 145] dn (fun gg s25 s145 wr => ∃ j : Nat, j ≤ dn ∧ dn - j ≤ gg ∧ s145 = .int .i64 (j : Int) ∧ s25 = .int .i64 (freshN ((r.c.b.draws.take j).map (·.number)) 1) ∧ Aside (Ext wO wr))
                  case atStart => exact ⟨0, by omega, by omega, by simp, rfl, EX.out⟩
                  case round =>
                    obtain ⟨j, hj, hgg, rfl, rfl, EQ⟩ := hrel
                    clear EX k0 k1 k2 k3 k4 k5 kf kl
                    by_cases hjn : j < dn
                    · have hjz : (j : Int) < (dn : Int) := by omega
                      obtain ⟨b2, off2, x, rfl, hx, -, hcell⟩ := HUD.out.at_ hjn
                      obtain ⟨z0, z1, z2, z3⟩ := SlD.cells hcell EQ.out
                      have HFS := Lib.hid (show freshN ((r.c.b.draws.take (j + 1)).map (·.number)) 1 = if x.number = freshN ((r.c.b.draws.take j).map (·.number)) 1 then freshN ((r.c.b.draws.take j).map (·.number)) 1 + 1 else freshN ((r.c.b.draws.take j).map (·.number)) 1 by
                        rw [List.take_add_one, hx, List.map_append]
                        exact freshN_snoc _ _ _)
                      have hfb := freshN_bd ((r.c.b.draws.take j).map (·.number)) 1
                      have hfl : ((r.c.b.draws.take j).map (·.number)).length ≤ 10 := by rw [List.length_map, List.length_take]; omega
                      generalize freshN ((r.c.b.draws.take j).map (·.number)) 1 = fn at *
                      have hwf : IntKind.i64.wrap (fn + 1) = fn + 1 := by rw [IntKind.wrap_i64]; omega
                      clear hx hcell
                      by_cases hxf : x.number = fn
                      · rw [if_pos hxf] at HFS
                        have hxz : (x.number == fn) = true := by simpa using hxf
                        go_wp2
                        go_roundg (dn - (j + 1))
                        case measure => omega
                        case rel => exact ⟨j + 1, by omega, by omega, by simp, by rw [HFS.out], EQ.out.alloc _⟩
                      · rw [if_neg hxf] at HFS
                        have hxz : (x.number == fn) = false := by simpa using hxf
                        go_wp2
                        go_roundg (dn - (j + 1))
                        case measure => omega
                        case rel => exact ⟨j + 1, by omega, by omega, by simp, by rw [HFS.out], EQ.out.alloc _⟩
                    · have hje : j = dn := by omega
                      subst hje
                      rw [show r.c.b.draws.take j = r.c.b.draws from List.take_of_length_le (by have := HDL.out; omega)]
                      have HNE := Lib.hid (show r.c.b.draws.length ≠ 10 by rw [HDL.out]; exact h10)
                      have US := Lib.hid (UR.out.ext EQ.out)
                      obtain ⟨nl, hnl⟩ : ∃ nl : Nat, r.c.b.layers = (nl : Int) := ⟨r.c.b.layers.toNat, by have := HBD.out.l1; omega⟩
                      obtain ⟨li, hli⟩ : ∃ li : Int, li = x2 % (nl : Int) := ⟨_, rfl⟩
                      obtain ⟨gr, hgr⟩ : ∃ gr : Int, gr = 1 + x3 % 9 := ⟨_, rfl⟩
                      obtain ⟨hh, hhh⟩ : ∃ hh : Int, hh = min 9 (gr + x4 % 4) := ⟨_, rfl⟩
                      have hnl1 : 1 ≤ nl := by have := HBD.out.l1; omega
                      have q1 := Int.emod_nonneg x2 (show (nl : Int) ≠ 0 by omega)
                      have q2 := Int.emod_lt_of_pos x2 (show 0 < (nl : Int) by omega)
                      have hxx := HX.out
                      have HPF := Lib.hid (put_fresh HVB.out HNE.out (i := li) (g := gr) (h := hh) (by omega) (by omega))
                      have r1 : x2.tmod r.c.b.layers = li := by rw [hnl, Int.tmod_eq_emod_of_nonneg hxx.2.1.1]; exact hli.symm
                      have r2 : x3.tmod 9 = gr - 1 := by rw [Int.tmod_eq_emod_of_nonneg hxx.2.2.1.1]; omega
                      have r3 : x4.tmod 4 = x4 % 4 := Int.tmod_eq_emod_of_nonneg hxx.2.2.2.1.1
                      have u1 := wrap_u8 hxx.2.1
                      have u2 := wrap_u8 hxx.2.2.1
                      have u3 := wrap_u8 hxx.2.2.2.1
                      have u4 : IntKind.i64.wrap (1 + (gr - 1)) = gr := by rw [IntKind.wrap_i64]; omega
                      have u5 : IntKind.i64.wrap (gr + x4 % 4) = gr + x4 % 4 := by rw [IntKind.wrap_i64]; omega
                      have u6 : min 9 (gr + x4 % 4) = hh := hhh.symm
                      have hlz : ¬ r.c.b.layers = 0 := by omega
                      clear hnl hli hgr hhh q1 q2 hxx
                      obtain ⟨B1, hB1⟩ : ∃ B1, putB r.c.b ⟨freshN (r.c.b.draws.map (·.number)) 1, li, ⟨gr, hh⟩⟩ = B1 := ⟨_, rfl⟩
                      rw [hB1] at HPF
                      have HB1 := Lib.hid hB1
                      clear hB1
                      obtain ⟨nb, hnb⟩ : ∃ nb, freshN (r.c.b.draws.map (·.number)) 1 = nb := ⟨_, rfl⟩
                      rw [hnb] at HPF HB1 ⊢
                      clear hnb
                      have v0 := fun V (h : Ext wr V) => (US.out.ext h).cells
                      rename World => wB
                      go_upto_region 29 with (fail)
                      refine wp_region_tameW (fun V => Ext wB V) (fun V V' => RX B1 wB.heap.size V V') 29 (by kernel_rfl) 242 rfl (by decide +kernel) (by decide +kernel) (by decide +kernel) (Ext.refl _).drew ?_
                      repeat (apply tameW_q rfl; (intro ρ W hC hr hD; (obtain ⟨hrc, hrg, hrf, hrs⟩ := hr); (simp [go_sem] at hD); go_simp; first | exact ⟨⟨hC, RX.refl _⟩, rfl⟩ | exact rfl); simp only [List.nil_append, List.cons_append])
                      apply tameW_v rfl (PutF B1 wB.heap.size) (fun v V V' _ hR h => h.rx hR)
                      · intro ρ V hC hr hD
                        obtain ⟨hrc, hrg, hrf, hrs⟩ := hr
                        simp [go_sem] at hD
                        go_simp
                        have hh2 := f44_any r.c.b ⟨nb, li, ⟨gr, hh⟩⟩ _ _ V (US.out.s.t.ext hC).1 (HUD.out.ext (EQ.out.trans hC)) (US.out.w.ext hC)
                        refine Calls.mono hh2 ?_
                        intro e w' hq
                        obtain ⟨v, he, tv⟩ := hq.1
                        rw [HPF.out.1] at he
                        rw [HB1.out] at tv
                        exact ⟨_, he, ⟨hC.trans hq.2, RX.ext hq.2⟩, _, rfl, tv.mono hC.size⟩
                      simp only [List.nil_append, List.cons_append]
                      apply tameW_v rfl (PutF B1 wB.heap.size) (fun v V V' _ hR h => h.rx hR)
                      · intro ρ V hC hr hD
                        obtain ⟨hrc, hrg, hrf, hrs⟩ := hr
                        simp [go_sem] at hD
                        go_simp
                        exact ⟨hC, RX.refl _⟩
                      simp only [List.nil_append, List.cons_append]
                      apply tameW_v rfl (fun v V => TwinV B1 wB.heap.size v V) (fun v V V' _ hR h => h.rx hR)
                      · intro ρ V hC hr hD
                        obtain ⟨hrc, hrg, hrf, hrs⟩ := hr
                        simp [go_sem] at hD
                        obtain ⟨u, e, tv⟩ := hD
                        go_simp
                        exact ⟨hC, RX.refl _⟩
                      simp only [List.nil_append, List.cons_append]
                      apply tameW_q rfl
                      · intro ρ V hC hr hD
                        obtain ⟨hrc, hrg, hrf, hrs⟩ := hr
                        simp [go_sem] at hD
                        have hP : PutF B1 wB.heap.size (ρ (.tmp 160)) V := by first | exact hD | exact hD.1 | exact hD.2 | exact hD.2.1
                        obtain ⟨u, e, tv⟩ := hP
                        go_simp
                        exact ⟨⟨hC, RX.refl _⟩, rfl⟩
                      simp only [List.nil_append, List.cons_append]
                      apply tameW_v rfl (BoxW wB.heap.size) (fun v V V' _ hR h => h.rx hR)
                      · intro ρ V hC hr hD
                        obtain ⟨hrc, hrg, hrf, hrs⟩ := hr
                        simp [go_sem] at hD
                        go_simp
                        exact ⟨⟨hC.alloc _, RX.ext (Ext.al _ _)⟩, _, rfl, hC.size, _, _, _, _, _, _, Blk.new _ _ _⟩
                      simp only [List.nil_append, List.cons_append]
                      apply tameW_s rfl rfl (FilV B1 wB.heap.size) (fun v V V' _ hR h => h.rx hR)
                      · intro ρ V hC hr hD
                        obtain ⟨hrc, hrg, hrf, hrs⟩ := hr
                        simp [go_sem] at hD
                        have hX : BoxW wB.heap.size (ρ (.tmp 29)) V := by first | exact hD.1 | exact hD.2.1 | exact hD.2.2.1 | exact hD
                        have hP : TwinV B1 wB.heap.size (ρ (.tmp 178)) V := by first | exact hD.1 | exact hD.2.1 | exact hD.2.2.1 | exact hD
                        clear hD
                        obtain ⟨q, e21, hq, y0, y1, y2, y3, y4, y5, hB⟩ := hX
                        obtain ⟨dvA, wvA, e96, o1, o2⟩ := hP
                        obtain ⟨Ad, nd, cd, rfl, -, -, -⟩ := (show SlD V dvA B1.draws from o1.sl (fun _ => rfl)).form
                        obtain ⟨Aw, nw, cw, rfl, -, -, -⟩ := (show SlW V wvA B1.weighs from o2.sl (fun _ => rfl)).form
                        have x0 := hB.cell 0
                        have x1' := hB.cell 1
                        have x2' := hB.cell 2
                        have x3' := hB.cell 3
                        have x4' := hB.cell 4
                        have x5' := hB.cell 5
                        have xf := hB.frozen
                        have xl := hB.lt
                        simp at x0 x1' x2' x3' x4' x5'
                        have HST := Lib.hid (box_store hB hq hC o1 o2)
                        dsimp only [valB] at e96
                        clear hB o1 o2 hC hq
                        go_simp
                        exact HST.out
                      simp only [List.nil_append, List.cons_append]
                      repeat (apply tameW_q rfl; (intro ρ W hC hr hD; (obtain ⟨hrc, hrg, hrf, hrs⟩ := hr); (simp [go_sem] at hD); go_simp; first | exact ⟨⟨hC, RX.refl _⟩, rfl⟩ | exact rfl); simp only [List.nil_append, List.cons_append])
                      refine tameW_end _ rfl rfl rfl (fun ρ w8 hC hr hF => ?_)
                      simp [go_sem] at hF
                      obtain ⟨f1, f2, f3, f4, f5, f6, f7, f8, f9, f10, f11, f12, f13, f14, f15, f16, -, -, -, f97, -, hst, f22⟩ := hF
                      simp only [putF, f1, f2, f3, f4, f5, f6, f7, f8, f9, f10, f11, f12, f13, f14, f15, f16, f97, f22, List.set_cons_succ, List.set_cons_zero]
                      generalize ρ (Operand.tmp 177) = v177
                      generalize ρ (Operand.tmp 160) = v160
                      generalize ρ (Operand.tmp 178) = v178
                      obtain ⟨q, e21, hq, dvA, wvA, hB, o1, o2⟩ := hst
                      rw [e21]
                      obtain ⟨A3, n3, c3, rfl, -, -, -⟩ := (show SlD w8 dvA B1.draws from o1.sl (fun _ => rfl)).form
                      obtain ⟨A4, n4, c4, rfl, -, -, -⟩ := (show SlW w8 wvA B1.weighs from o2.sl (fun _ => rfl)).form
                      have U8 := Lib.hid (US.out.s.ext hC)
                      have BB := Lib.hid hB
                      have DB := Lib.hid (show SlD w8 (.slice A3 n3 c3) B1.draws from o1.sl (fun _ => rfl))
                      have WB := Lib.hid (show SlW w8 (.slice A4 n4 c4) B1.weighs from o2.sl (fun _ => rfl))
                      clear f1 f2 f3 f4 f5 f6 f7 f8 f9 f10 f11 f12 f13 f14 f15 f16 f97 f22 e21 o1 o2 hr hC hB hq v0 r1 r2 r3 u1 u2 u3 u4 u5 u6 hlz
                      have k0 := BB.out.cell 0
                      have k1 := BB.out.cell 1
                      have k2 := BB.out.cell 2
                      have k3 := BB.out.cell 3
                      have k4 := BB.out.cell 4
                      have k5 := BB.out.cell 5
                      simp at k0 k1 k2 k3 k4 k5
                      go_wp2_with fail
                      refine (true_any B1 _ _ w8 HPF.out.2.1 DB.out WB.out).mono ?_
                      rintro e w9 ⟨rfl, hE⟩
                      replace U8 := Lib.hid (U8.out.ext hE); replace BB := Lib.hid (BB.out.ext hE); replace DB := Lib.hid (DB.out.ext hE); replace WB := Lib.hid (WB.out.ext hE)
                      clear hE k0 k1 k2 k3 k4 k5
                      cases hoy : okB B1 with
                      | false =>
                        go_wp2
                        go_ret
                        exact ⟨rfl, U8.out.e⟩
                      | true =>
                        have HOY := Lib.hid hoy
                        clear hoy
                        have x0 := U8.out.p.c3
                        go_wp2_with fail
                        clear x0
                        refine (twinM_any lots size l _ _ U8.out.a HG.out).mono ?_
                        rintro e w10 ⟨⟨v, L, rfl, tv⟩, hE⟩
                        have TW := Lib.hid tv
                        have HLM := Lib.hid tv.map
                        have E10 := Lib.hid hE
                        have HLN := Lib.hid (show L.length = n by have h := congrArg List.length tv.map; simp at h; have := HNL.out; omega)
                        obtain ⟨g2, cap, rfl, hbg, hgl⟩ : ∃ g2 cap, v = .slice (some ⟨g2, 0, none⟩) n cap ∧ w9.heap.size ≤ g2 ∧ ∃ cur, Blk w10 g2 61 cur := by
                          rcases own_formG tv.own with ⟨-, h2⟩ | ⟨g', cap, cur, h1, h3, h4, -⟩
                          · exact absurd (by rw [← HLN.out, h2]; rfl) hn0
                          · exact ⟨g', cap, by rw [h1, HLN.out], h3, cur, h4⟩
                        obtain ⟨cur, hcur⟩ := hgl
                        have HCU := Lib.hid hcur
                        have HBG := Lib.hid hbg
                        clear tv hE hcur
                        dsimp only [valM]
                        obtain ⟨x, hx⟩ : ∃ x, L[i]? = some x := ⟨_, List.getElem?_eq_getElem (by rw [HLN.out]; exact hin)⟩
                        have HLX := Lib.hid hx
                        have HXC := Lib.hid (show x.c = r.c by
                          have h := congrArg (fun z => z[i]?) HLM.out
                          simp only [List.getElem?_map, hx, HR.out] at h
                          simpa using h)
                        clear hx
                        go_upto_region 35 with (fail)
                        obtain ⟨w11, hw11⟩ : ∃ w11, w11 = w10.alloc (.cells #[.int .i64 lots, .int .i64 size, .slice (some ⟨g2, 0, none⟩) n cap] 24) := ⟨_, rfl⟩
                        rw [← hw11]
                        have E11 := Lib.hid (show Ext w10 w11 from hw11 ▸ Ext.al _ _)
                        have M11 := Lib.hid (show Blk w11 w10.heap.size 24 #[.int .i64 lots, .int .i64 size, .slice (some ⟨g2, 0, none⟩) n cap] from hw11 ▸ Blk.new _ _ _)
                        have TW11 := Lib.hid (TW.out.ext E11.out)
                        have CU11 := Lib.hid (HCU.out.ext E11.out)
                        have E911 := Lib.hid (E10.out.trans E11.out)
                        have HG2 := Lib.hid (show g2 < w10.heap.size from HCU.out.lt)
                        have BB11 := Lib.hid (BB.out.ext E911.out)
                        clear hw11 TW HCU E10
                        have k0 := BB11.out.cell 0
                        have k1 := BB11.out.cell 1
                        have k2 := BB11.out.cell 2
                        have k3 := BB11.out.cell 3
                        have k4 := BB11.out.cell 4
                        have k5 := BB11.out.cell 5
                        simp at k0 k1 k2 k3 k4 k5
                        obtain ⟨m0, m1, m2, mf, ml⟩ := M11.out.c3
                        obtain ⟨b3, off3, x', e3, hx', -, hcell⟩ := TW11.out.mlc.1.at_ hin
                        obtain ⟨rfl, rfl⟩ : g2 = b3 ∧ 0 = off3 := by simpa using e3
                        obtain rfl : x' = x := by rw [HLX.out] at hx'; injection hx' with h; exact h.symm
                        obtain ⟨c0, c1, c2', c3', c4', c5', c6, c7⟩ := SlC.cells hcell (Ext.refl _)
                        simp only [Nat.zero_add] at c0 c1 c2' c3' c4' c5' c6 c7
                        have gf := CU11.out.frozen
                        have gl := CU11.out.lt
                        clear hx' hcell e3
                        go_upto_region 36 with (fail)
                        obtain ⟨w12, hw12⟩ : ∃ w12, w12 = (((((w11.setCell ⟨g2, i * 8, none⟩ (.int .i64 B1.id)).setCell ⟨g2, i * 8 + 1, none⟩ (.int .i64 B1.layers)).setCell ⟨g2, i * 8 + 2, none⟩ (.int .i64 B1.dry.lo)).setCell ⟨g2, i * 8 + 3, none⟩ (.int .i64 B1.dry.hi)).setCell ⟨g2, i * 8 + 4, none⟩ (.slice A3 n3 c3)).setCell ⟨g2, i * 8 + 5, none⟩ (.slice A4 n4 c4) := ⟨_, rfl⟩
                        rw [← hw12]
                        replace hw12 : w12 = setB6 w11 g2 (i * 8) (.int .i64 B1.id) (.int .i64 B1.layers) (.int .i64 B1.dry.lo) (.int .i64 B1.dry.hi) (.slice A3 n3 c3) (.slice A4 n4 c4) := hw12
                        have E12 := Lib.hid (show Ext w9 w12 from hw12 ▸ extB6 E911.out HBG.out _ _ _ _ _ _ _)
                        have OF := Lib.hid (show OffX 61 w11 w12 from hw12 ▸ offB6 CU11.out _ _ _ _ _ _ _)
                        have M12 := Lib.hid (OF.out _ _ _ (by decide) M11.out)
                        have U12 := Lib.hid (U8.out.ext E12.out)
                        have SL12 := Lib.hid (show SlC w12 (.slice (some ⟨g2, 0, none⟩) n cap) (L.set i ⟨⟨B1, x'.c.len, x'.c.str⟩, A3, n3, c3, A4, n4, c4⟩) from hw12 ▸ slC_putB TW11.out.own HLX.out)
                        have ML2 := Lib.hid (show MlC w12 (.slice (some ⟨g2, 0, none⟩) n cap) (L.set i ⟨⟨B1, x'.c.len, x'.c.str⟩, A3, n3, c3, A4, n4, c4⟩) from ⟨SL12.out, fun z hz => by
                          rcases List.mem_or_eq_of_mem_set hz with hz | rfl
                          · have h := TW11.out.lists z hz
                            exact ⟨(h.1.offX OF.out (by decide)).sl (fun _ => rfl), (h.2.offX OF.out (by decide)).sl (fun _ => rfl)⟩
                          · exact ⟨DB.out.ext E12.out, WB.out.ext E12.out⟩⟩)
                        have HMS := Lib.hid (show mOf lots size (L.set i ⟨⟨B1, x'.c.len, x'.c.str⟩, A3, n3, c3, A4, n4, c4⟩) = setB (mOf lots size l) i ⟨B1, r.c.len, r.c.str⟩ by
                          unfold setB
                          show (⟨lots, size, (L.set i _).map (·.c)⟩ : Mll) = ⟨lots, size, (l.map (·.c)).set i _⟩
                          rw [List.map_set, HLM.out, HXC.out])
                        have HLL2 := Lib.hid (show (L.set i (⟨⟨B1, x'.c.len, x'.c.str⟩, A3, n3, c3, A4, n4, c4⟩ : Rc)).length ≤ 1000 by rw [List.length_set, HLN.out]; have := HLl.out; have := HNL.out; omega)
                        obtain ⟨L2, hL2⟩ : ∃ L2, L.set i (⟨⟨B1, x'.c.len, x'.c.str⟩, A3, n3, c3, A4, n4, c4⟩ : Rc) = L2 := ⟨_, rfl⟩
                        rw [hL2] at ML2 HMS HLL2
                        have HME := Lib.hid (more_even (i := i) (x := r.c) (y := ⟨B1, r.c.len, r.c.str⟩) HC.out (show (mOf lots size l).cots[i]? = some r.c by simp [HR.out]) HPF.out.2.2.2 rfl rfl HPF.out.2.2.1 HPF.out.2.1 HOY.out)
                        rw [← HMS.out] at HME
                        clear hw12 hL2 SL12 OF CU11 TW11 M11 E911 k0 k1 k2 k3 k4 k5 m0 m1 m2 mf ml c0 c1 c2' c3' c4' c5' c6 c7 gf gl BB11
                        have x0 := U12.out.p.c3
                        go_wp2_with fail
                        clear x0
                        refine (evenM_any lots size l _ w12 U12.out.t U12.out.a HLl.out).mono ?_
                        rintro e w13 ⟨rfl, hE⟩
                        replace U12 := Lib.hid (U12.out.ext hE); replace M12 := Lib.hid (M12.out.ext hE); replace ML2 := Lib.hid (ML2.out.ext hE)
                        clear hE
                        have x0 := M12.out.c3
                        go_wp2_with fail
                        clear x0
                        refine (evenM_any lots size L2 _ w13 U12.out.t ML2.out HLL2.out).mono ?_
                        rintro e w14 ⟨rfl, hE⟩
                        replace U12 := Lib.hid (U12.out.ext hE)
                        clear hE
                        generalize bestE (mOf lots size l) = e1 at *
                        generalize bestE (mOf lots size L2) = e2 at *
                        generalize evenU (mOf lots size l) = ua at *
                        generalize evenU (mOf lots size L2) = ub at *
                        by_cases he1 : e1 = 0
                        · obtain ⟨g1, g3⟩ := HME.out.2 he1
                          subst he1 g1
                          have hlu : ub.1 < ua.1 ∨ (ub.1 = ua.1 ∧ ub.2 ≤ ua.2) := by
                            unfold lessU at g3
                            simp only [Bool.or_eq_false_iff, Bool.and_eq_false_iff, decide_eq_false_iff_not] at g3
                            omega
                          clear g3
                          rcases hlu with hlu | ⟨hlu, hlv⟩
                          · go_wp2
                            go_ret
                            exact ⟨rfl, U12.out.e⟩
                          · have hnl : ¬ ub.1 < ua.1 := by omega
                            have hez : (ub.1 == ua.1) = true := by simpa using hlu
                            go_wp2
                            go_ret
                            exact ⟨rfl, U12.out.e⟩
                        · obtain ⟨g1, g3⟩ := HME.out.1 he1
                          subst g1
                          rcases g3 with g3 | g3
                          · subst g3
                            go_wp2
                            go_ret
                            exact ⟨rfl, U12.out.e⟩
                          · subst g3
                            go_wp2
                            go_ret
                            exact ⟨rfl, U12.out.e⟩
              · have hk0 : (kk == 0) = false := by simpa using hkk
                obtain ⟨kb, hkb⟩ : ∃ kb, (kk == 2) = kb := ⟨_, rfl⟩
                have hkd : decide (kk = 2) = kb := by rw [← hkb]; rfl
                rw [hkd]
                go_upto_region 19 with (fail)
                obtain ⟨dn, hdn⟩ : ∃ dn, r.dn = dn := ⟨_, rfl⟩
                have hdl : r.c.b.draws.length = dn := by
                  obtain ⟨_, _, e, _⟩ := UQ.out.d
                  injection e with _ e _
                  rw [← hdn, e]
                have HDL := Lib.hid hdl
                by_cases h10 : dn = 10
                · have h10z : ((dn : Int) == 10) = true := by simp; omega
                  rw [hdn] at k4
                  go_wp2
                  go_ret
                  exact ⟨rfl, UQ.out.s.e⟩
                · have h10z : ((dn : Int) == 10) = false := by simp; omega
                  have HBD := Lib.hid (valid_bds HVB.out)
                  have hd10 : dn ≤ 10 := by have := HBD.out.nd; omega
                  obtain ⟨da, hda⟩ : ∃ a, r.da = a := ⟨_, rfl⟩
                  have HUD := Lib.hid (show SlD wr (.slice da dn r.dc) r.c.b.draws from hda ▸ hdn ▸ UQ.out.d)
                  rw [hdn, hda] at k4
                  have UR := Lib.hid UQ.out
                  have EX := Lib.hid (Ext.refl wr)
                  rename World => wO
                  clear hdl
                  go_wp2
                  go_loopg [25, 145] dn (fun gg s25 s145 wr => ∃ j : Nat, j ≤ dn ∧ dn - j ≤ gg ∧ s145 = .int .i64 (j : Int) ∧ s25 = .int .i64 (freshN ((r.c.b.draws.take j).map (·.number)) 1) ∧ Aside (Ext wO wr))
                  case atStart => exact ⟨0, by omega, by omega, by simp, rfl, EX.out⟩
                  case round =>
                    obtain ⟨j, hj, hgg, rfl, rfl, EQ⟩ := hrel
                    clear EX k0 k1 k2 k3 k4 k5 kf kl
                    by_cases hjn : j < dn
                    · have hjz : (j : Int) < (dn : Int) := by omega
                      obtain ⟨b2, off2, x, rfl, hx, -, hcell⟩ := HUD.out.at_ hjn
                      obtain ⟨z0, z1, z2, z3⟩ := SlD.cells hcell EQ.out
                      have HFS := Lib.hid (show freshN ((r.c.b.draws.take (j + 1)).map (·.number)) 1 = if x.number = freshN ((r.c.b.draws.take j).map (·.number)) 1 then freshN ((r.c.b.draws.take j).map (·.number)) 1 + 1 else freshN ((r.c.b.draws.take j).map (·.number)) 1 by
                        rw [List.take_add_one, hx, List.map_append]
                        exact freshN_snoc _ _ _)
                      have hfb := freshN_bd ((r.c.b.draws.take j).map (·.number)) 1
                      have hfl : ((r.c.b.draws.take j).map (·.number)).length ≤ 10 := by rw [List.length_map, List.length_take]; omega
                      generalize freshN ((r.c.b.draws.take j).map (·.number)) 1 = fn at *
                      have hwf : IntKind.i64.wrap (fn + 1) = fn + 1 := by rw [IntKind.wrap_i64]; omega
                      clear hx hcell
                      by_cases hxf : x.number = fn
                      · rw [if_pos hxf] at HFS
                        have hxz : (x.number == fn) = true := by simpa using hxf
                        go_wp2
                        go_roundg (dn - (j + 1))
                        case measure => omega
                        case rel => exact ⟨j + 1, by omega, by omega, by simp, by rw [HFS.out], EQ.out.alloc _⟩
                      · rw [if_neg hxf] at HFS
                        have hxz : (x.number == fn) = false := by simpa using hxf
                        go_wp2
                        go_roundg (dn - (j + 1))
                        case measure => omega
                        case rel => exact ⟨j + 1, by omega, by omega, by simp, by rw [HFS.out], EQ.out.alloc _⟩
                    · have hje : j = dn := by omega
                      subst hje
                      rw [show r.c.b.draws.take j = r.c.b.draws from List.take_of_length_le (by have := HDL.out; omega)]
                      have HNE := Lib.hid (show r.c.b.draws.length ≠ 10 by rw [HDL.out]; exact h10)
                      have US := Lib.hid (UR.out.ext EQ.out)
                      obtain ⟨nl, hnl⟩ : ∃ nl : Nat, r.c.b.layers = (nl : Int) := ⟨r.c.b.layers.toNat, by have := HBD.out.l1; omega⟩
                      obtain ⟨li, hli⟩ : ∃ li : Int, li = x2 % (nl : Int) := ⟨_, rfl⟩
                      obtain ⟨gr, hgr⟩ : ∃ gr : Int, gr = 1 + x3 % 9 := ⟨_, rfl⟩
                      obtain ⟨hh, hhh⟩ : ∃ hh : Int, hh = min 9 (gr + x4 % 4) := ⟨_, rfl⟩
                      have hnl1 : 1 ≤ nl := by have := HBD.out.l1; omega
                      have q1 := Int.emod_nonneg x2 (show (nl : Int) ≠ 0 by omega)
                      have q2 := Int.emod_lt_of_pos x2 (show 0 < (nl : Int) by omega)
                      have hxx := HX.out
                      have HPF := Lib.hid (put_fresh HVB.out HNE.out (i := li) (g := gr) (h := hh) (by omega) (by omega))
                      have r1 : x2.tmod r.c.b.layers = li := by rw [hnl, Int.tmod_eq_emod_of_nonneg hxx.2.1.1]; exact hli.symm
                      have r2 : x3.tmod 9 = gr - 1 := by rw [Int.tmod_eq_emod_of_nonneg hxx.2.2.1.1]; omega
                      have r3 : x4.tmod 4 = x4 % 4 := Int.tmod_eq_emod_of_nonneg hxx.2.2.2.1.1
                      have u1 := wrap_u8 hxx.2.1
                      have u2 := wrap_u8 hxx.2.2.1
                      have u3 := wrap_u8 hxx.2.2.2.1
                      have u4 : IntKind.i64.wrap (1 + (gr - 1)) = gr := by rw [IntKind.wrap_i64]; omega
                      have u5 : IntKind.i64.wrap (gr + x4 % 4) = gr + x4 % 4 := by rw [IntKind.wrap_i64]; omega
                      have u6 : min 9 (gr + x4 % 4) = hh := hhh.symm
                      have hlz : ¬ r.c.b.layers = 0 := by omega
                      clear hnl hli hgr hhh q1 q2 hxx
                      obtain ⟨B1, hB1⟩ : ∃ B1, putB r.c.b ⟨freshN (r.c.b.draws.map (·.number)) 1, li, ⟨gr, hh⟩⟩ = B1 := ⟨_, rfl⟩
                      rw [hB1] at HPF
                      have HB1 := Lib.hid hB1
                      clear hB1
                      obtain ⟨nb, hnb⟩ : ∃ nb, freshN (r.c.b.draws.map (·.number)) 1 = nb := ⟨_, rfl⟩
                      rw [hnb] at HPF HB1 ⊢
                      clear hnb
                      have v0 := fun V (h : Ext wr V) => (US.out.ext h).cells
                      rename World => wB
                      go_upto_region 29 with (fail)
                      refine wp_region_tameW (fun V => Ext wB V) (fun V V' => RX B1 wB.heap.size V V') 29 (by kernel_rfl) 242 rfl (by decide +kernel) (by decide +kernel) (by decide +kernel) (Ext.refl _).drew ?_
                      repeat (apply tameW_q rfl; (intro ρ W hC hr hD; (obtain ⟨hrc, hrg, hrf, hrs⟩ := hr); (simp [go_sem] at hD); go_simp; first | exact ⟨⟨hC, RX.refl _⟩, rfl⟩ | exact rfl); simp only [List.nil_append, List.cons_append])
                      apply tameW_v rfl (PutF B1 wB.heap.size) (fun v V V' _ hR h => h.rx hR)
                      · intro ρ V hC hr hD
                        obtain ⟨hrc, hrg, hrf, hrs⟩ := hr
                        simp [go_sem] at hD
                        go_simp
                        have hh2 := f44_any r.c.b ⟨nb, li, ⟨gr, hh⟩⟩ _ _ V (US.out.s.t.ext hC).1 (HUD.out.ext (EQ.out.trans hC)) (US.out.w.ext hC)
                        refine Calls.mono hh2 ?_
                        intro e w' hq
                        obtain ⟨v, he, tv⟩ := hq.1
                        rw [HPF.out.1] at he
                        rw [HB1.out] at tv
                        exact ⟨_, he, ⟨hC.trans hq.2, RX.ext hq.2⟩, _, rfl, tv.mono hC.size⟩
                      simp only [List.nil_append, List.cons_append]
                      apply tameW_v rfl (PutF B1 wB.heap.size) (fun v V V' _ hR h => h.rx hR)
                      · intro ρ V hC hr hD
                        obtain ⟨hrc, hrg, hrf, hrs⟩ := hr
                        simp [go_sem] at hD
                        go_simp
                        exact ⟨hC, RX.refl _⟩
                      simp only [List.nil_append, List.cons_append]
                      apply tameW_v rfl (fun v V => TwinV B1 wB.heap.size v V) (fun v V V' _ hR h => h.rx hR)
                      · intro ρ V hC hr hD
                        obtain ⟨hrc, hrg, hrf, hrs⟩ := hr
                        simp [go_sem] at hD
                        obtain ⟨u, e, tv⟩ := hD
                        go_simp
                        exact ⟨hC, RX.refl _⟩
                      simp only [List.nil_append, List.cons_append]
                      apply tameW_q rfl
                      · intro ρ V hC hr hD
                        obtain ⟨hrc, hrg, hrf, hrs⟩ := hr
                        simp [go_sem] at hD
                        have hP : PutF B1 wB.heap.size (ρ (.tmp 160)) V := by first | exact hD | exact hD.1 | exact hD.2 | exact hD.2.1
                        obtain ⟨u, e, tv⟩ := hP
                        go_simp
                        exact ⟨⟨hC, RX.refl _⟩, rfl⟩
                      simp only [List.nil_append, List.cons_append]
                      apply tameW_v rfl (BoxW wB.heap.size) (fun v V V' _ hR h => h.rx hR)
                      · intro ρ V hC hr hD
                        obtain ⟨hrc, hrg, hrf, hrs⟩ := hr
                        simp [go_sem] at hD
                        go_simp
                        exact ⟨⟨hC.alloc _, RX.ext (Ext.al _ _)⟩, _, rfl, hC.size, _, _, _, _, _, _, Blk.new _ _ _⟩
                      simp only [List.nil_append, List.cons_append]
                      apply tameW_s rfl rfl (FilV B1 wB.heap.size) (fun v V V' _ hR h => h.rx hR)
                      · intro ρ V hC hr hD
                        obtain ⟨hrc, hrg, hrf, hrs⟩ := hr
                        simp [go_sem] at hD
                        have hX : BoxW wB.heap.size (ρ (.tmp 29)) V := by first | exact hD.1 | exact hD.2.1 | exact hD.2.2.1 | exact hD
                        have hP : TwinV B1 wB.heap.size (ρ (.tmp 178)) V := by first | exact hD.1 | exact hD.2.1 | exact hD.2.2.1 | exact hD
                        clear hD
                        obtain ⟨q, e21, hq, y0, y1, y2, y3, y4, y5, hB⟩ := hX
                        obtain ⟨dvA, wvA, e96, o1, o2⟩ := hP
                        obtain ⟨Ad, nd, cd, rfl, -, -, -⟩ := (show SlD V dvA B1.draws from o1.sl (fun _ => rfl)).form
                        obtain ⟨Aw, nw, cw, rfl, -, -, -⟩ := (show SlW V wvA B1.weighs from o2.sl (fun _ => rfl)).form
                        have x0 := hB.cell 0
                        have x1' := hB.cell 1
                        have x2' := hB.cell 2
                        have x3' := hB.cell 3
                        have x4' := hB.cell 4
                        have x5' := hB.cell 5
                        have xf := hB.frozen
                        have xl := hB.lt
                        simp at x0 x1' x2' x3' x4' x5'
                        have HST := Lib.hid (box_store hB hq hC o1 o2)
                        dsimp only [valB] at e96
                        clear hB o1 o2 hC hq
                        go_simp
                        exact HST.out
                      simp only [List.nil_append, List.cons_append]
                      repeat (apply tameW_q rfl; (intro ρ W hC hr hD; (obtain ⟨hrc, hrg, hrf, hrs⟩ := hr); (simp [go_sem] at hD); go_simp; first | exact ⟨⟨hC, RX.refl _⟩, rfl⟩ | exact rfl); simp only [List.nil_append, List.cons_append])
                      refine tameW_end _ rfl rfl rfl (fun ρ w8 hC hr hF => ?_)
                      simp [go_sem] at hF
                      obtain ⟨f1, f2, f3, f4, f5, f6, f7, f8, f9, f10, f11, f12, f13, f14, f15, f16, -, -, -, f97, -, hst, f22⟩ := hF
                      simp only [putF, f1, f2, f3, f4, f5, f6, f7, f8, f9, f10, f11, f12, f13, f14, f15, f16, f97, f22, List.set_cons_succ, List.set_cons_zero]
                      generalize ρ (Operand.tmp 177) = v177
                      generalize ρ (Operand.tmp 160) = v160
                      generalize ρ (Operand.tmp 178) = v178
                      obtain ⟨q, e21, hq, dvA, wvA, hB, o1, o2⟩ := hst
                      rw [e21]
                      obtain ⟨A3, n3, c3, rfl, -, -, -⟩ := (show SlD w8 dvA B1.draws from o1.sl (fun _ => rfl)).form
                      obtain ⟨A4, n4, c4, rfl, -, -, -⟩ := (show SlW w8 wvA B1.weighs from o2.sl (fun _ => rfl)).form
                      have U8 := Lib.hid (US.out.s.ext hC)
                      have BB := Lib.hid hB
                      have DB := Lib.hid (show SlD w8 (.slice A3 n3 c3) B1.draws from o1.sl (fun _ => rfl))
                      have WB := Lib.hid (show SlW w8 (.slice A4 n4 c4) B1.weighs from o2.sl (fun _ => rfl))
                      clear f1 f2 f3 f4 f5 f6 f7 f8 f9 f10 f11 f12 f13 f14 f15 f16 f97 f22 e21 o1 o2 hr hC hB hq v0 r1 r2 r3 u1 u2 u3 u4 u5 u6 hlz
                      have k0 := BB.out.cell 0
                      have k1 := BB.out.cell 1
                      have k2 := BB.out.cell 2
                      have k3 := BB.out.cell 3
                      have k4 := BB.out.cell 4
                      have k5 := BB.out.cell 5
                      simp at k0 k1 k2 k3 k4 k5
                      go_wp2_with fail
                      refine (true_any B1 _ _ w8 HPF.out.2.1 DB.out WB.out).mono ?_
                      rintro e w9 ⟨rfl, hE⟩
                      replace U8 := Lib.hid (U8.out.ext hE); replace BB := Lib.hid (BB.out.ext hE); replace DB := Lib.hid (DB.out.ext hE); replace WB := Lib.hid (WB.out.ext hE)
                      clear hE k0 k1 k2 k3 k4 k5
                      cases hoy : okB B1 with
                      | false =>
                        go_wp2
                        go_ret
                        exact ⟨rfl, U8.out.e⟩
                      | true =>
                        have HOY := Lib.hid hoy
                        clear hoy
                        have x0 := U8.out.p.c3
                        go_wp2_with fail
                        clear x0
                        refine (twinM_any lots size l _ _ U8.out.a HG.out).mono ?_
                        rintro e w10 ⟨⟨v, L, rfl, tv⟩, hE⟩
                        have TW := Lib.hid tv
                        have HLM := Lib.hid tv.map
                        have E10 := Lib.hid hE
                        have HLN := Lib.hid (show L.length = n by have h := congrArg List.length tv.map; simp at h; have := HNL.out; omega)
                        obtain ⟨g2, cap, rfl, hbg, hgl⟩ : ∃ g2 cap, v = .slice (some ⟨g2, 0, none⟩) n cap ∧ w9.heap.size ≤ g2 ∧ ∃ cur, Blk w10 g2 61 cur := by
                          rcases own_formG tv.own with ⟨-, h2⟩ | ⟨g', cap, cur, h1, h3, h4, -⟩
                          · exact absurd (by rw [← HLN.out, h2]; rfl) hn0
                          · exact ⟨g', cap, by rw [h1, HLN.out], h3, cur, h4⟩
                        obtain ⟨cur, hcur⟩ := hgl
                        have HCU := Lib.hid hcur
                        have HBG := Lib.hid hbg
                        clear tv hE hcur
                        dsimp only [valM]
                        obtain ⟨x, hx⟩ : ∃ x, L[i]? = some x := ⟨_, List.getElem?_eq_getElem (by rw [HLN.out]; exact hin)⟩
                        have HLX := Lib.hid hx
                        have HXC := Lib.hid (show x.c = r.c by
                          have h := congrArg (fun z => z[i]?) HLM.out
                          simp only [List.getElem?_map, hx, HR.out] at h
                          simpa using h)
                        clear hx
                        go_upto_region 35 with (fail)
                        obtain ⟨w11, hw11⟩ : ∃ w11, w11 = w10.alloc (.cells #[.int .i64 lots, .int .i64 size, .slice (some ⟨g2, 0, none⟩) n cap] 24) := ⟨_, rfl⟩
                        rw [← hw11]
                        have E11 := Lib.hid (show Ext w10 w11 from hw11 ▸ Ext.al _ _)
                        have M11 := Lib.hid (show Blk w11 w10.heap.size 24 #[.int .i64 lots, .int .i64 size, .slice (some ⟨g2, 0, none⟩) n cap] from hw11 ▸ Blk.new _ _ _)
                        have TW11 := Lib.hid (TW.out.ext E11.out)
                        have CU11 := Lib.hid (HCU.out.ext E11.out)
                        have E911 := Lib.hid (E10.out.trans E11.out)
                        have HG2 := Lib.hid (show g2 < w10.heap.size from HCU.out.lt)
                        have BB11 := Lib.hid (BB.out.ext E911.out)
                        clear hw11 TW HCU E10
                        have k0 := BB11.out.cell 0
                        have k1 := BB11.out.cell 1
                        have k2 := BB11.out.cell 2
                        have k3 := BB11.out.cell 3
                        have k4 := BB11.out.cell 4
                        have k5 := BB11.out.cell 5
                        simp at k0 k1 k2 k3 k4 k5
                        obtain ⟨m0, m1, m2, mf, ml⟩ := M11.out.c3
                        obtain ⟨b3, off3, x', e3, hx', -, hcell⟩ := TW11.out.mlc.1.at_ hin
                        obtain ⟨rfl, rfl⟩ : g2 = b3 ∧ 0 = off3 := by simpa using e3
                        obtain rfl : x' = x := by rw [HLX.out] at hx'; injection hx' with h; exact h.symm
                        obtain ⟨c0, c1, c2', c3', c4', c5', c6, c7⟩ := SlC.cells hcell (Ext.refl _)
                        simp only [Nat.zero_add] at c0 c1 c2' c3' c4' c5' c6 c7
                        have gf := CU11.out.frozen
                        have gl := CU11.out.lt
                        clear hx' hcell e3
                        go_upto_region 36 with (fail)
                        obtain ⟨w12, hw12⟩ : ∃ w12, w12 = (((((w11.setCell ⟨g2, i * 8, none⟩ (.int .i64 B1.id)).setCell ⟨g2, i * 8 + 1, none⟩ (.int .i64 B1.layers)).setCell ⟨g2, i * 8 + 2, none⟩ (.int .i64 B1.dry.lo)).setCell ⟨g2, i * 8 + 3, none⟩ (.int .i64 B1.dry.hi)).setCell ⟨g2, i * 8 + 4, none⟩ (.slice A3 n3 c3)).setCell ⟨g2, i * 8 + 5, none⟩ (.slice A4 n4 c4) := ⟨_, rfl⟩
                        rw [← hw12]
                        replace hw12 : w12 = setB6 w11 g2 (i * 8) (.int .i64 B1.id) (.int .i64 B1.layers) (.int .i64 B1.dry.lo) (.int .i64 B1.dry.hi) (.slice A3 n3 c3) (.slice A4 n4 c4) := hw12
                        have E12 := Lib.hid (show Ext w9 w12 from hw12 ▸ extB6 E911.out HBG.out _ _ _ _ _ _ _)
                        have OF := Lib.hid (show OffX 61 w11 w12 from hw12 ▸ offB6 CU11.out _ _ _ _ _ _ _)
                        have M12 := Lib.hid (OF.out _ _ _ (by decide) M11.out)
                        have U12 := Lib.hid (U8.out.ext E12.out)
                        have SL12 := Lib.hid (show SlC w12 (.slice (some ⟨g2, 0, none⟩) n cap) (L.set i ⟨⟨B1, x'.c.len, x'.c.str⟩, A3, n3, c3, A4, n4, c4⟩) from hw12 ▸ slC_putB TW11.out.own HLX.out)
                        have ML2 := Lib.hid (show MlC w12 (.slice (some ⟨g2, 0, none⟩) n cap) (L.set i ⟨⟨B1, x'.c.len, x'.c.str⟩, A3, n3, c3, A4, n4, c4⟩) from ⟨SL12.out, fun z hz => by
                          rcases List.mem_or_eq_of_mem_set hz with hz | rfl
                          · have h := TW11.out.lists z hz
                            exact ⟨(h.1.offX OF.out (by decide)).sl (fun _ => rfl), (h.2.offX OF.out (by decide)).sl (fun _ => rfl)⟩
                          · exact ⟨DB.out.ext E12.out, WB.out.ext E12.out⟩⟩)
                        have HMS := Lib.hid (show mOf lots size (L.set i ⟨⟨B1, x'.c.len, x'.c.str⟩, A3, n3, c3, A4, n4, c4⟩) = setB (mOf lots size l) i ⟨B1, r.c.len, r.c.str⟩ by
                          unfold setB
                          show (⟨lots, size, (L.set i _).map (·.c)⟩ : Mll) = ⟨lots, size, (l.map (·.c)).set i _⟩
                          rw [List.map_set, HLM.out, HXC.out])
                        have HLL2 := Lib.hid (show (L.set i (⟨⟨B1, x'.c.len, x'.c.str⟩, A3, n3, c3, A4, n4, c4⟩ : Rc)).length ≤ 1000 by rw [List.length_set, HLN.out]; have := HLl.out; have := HNL.out; omega)
                        obtain ⟨L2, hL2⟩ : ∃ L2, L.set i (⟨⟨B1, x'.c.len, x'.c.str⟩, A3, n3, c3, A4, n4, c4⟩ : Rc) = L2 := ⟨_, rfl⟩
                        rw [hL2] at ML2 HMS HLL2
                        have HME := Lib.hid (more_even (i := i) (x := r.c) (y := ⟨B1, r.c.len, r.c.str⟩) HC.out (show (mOf lots size l).cots[i]? = some r.c by simp [HR.out]) HPF.out.2.2.2 rfl rfl HPF.out.2.2.1 HPF.out.2.1 HOY.out)
                        rw [← HMS.out] at HME
                        clear hw12 hL2 SL12 OF CU11 TW11 M11 E911 k0 k1 k2 k3 k4 k5 m0 m1 m2 mf ml c0 c1 c2' c3' c4' c5' c6 c7 gf gl BB11
                        have x0 := U12.out.p.c3
                        go_wp2_with fail
                        clear x0
                        refine (evenM_any lots size l _ w12 U12.out.t U12.out.a HLl.out).mono ?_
                        rintro e w13 ⟨rfl, hE⟩
                        replace U12 := Lib.hid (U12.out.ext hE); replace M12 := Lib.hid (M12.out.ext hE); replace ML2 := Lib.hid (ML2.out.ext hE)
                        clear hE
                        have x0 := M12.out.c3
                        go_wp2_with fail
                        clear x0
                        refine (evenM_any lots size L2 _ w13 U12.out.t ML2.out HLL2.out).mono ?_
                        rintro e w14 ⟨rfl, hE⟩
                        replace U12 := Lib.hid (U12.out.ext hE)
                        clear hE
                        generalize bestE (mOf lots size l) = e1 at *
                        generalize bestE (mOf lots size L2) = e2 at *
                        generalize evenU (mOf lots size l) = ua at *
                        generalize evenU (mOf lots size L2) = ub at *
                        by_cases he1 : e1 = 0
                        · obtain ⟨g1, g3⟩ := HME.out.2 he1
                          subst he1 g1
                          have hlu : ub.1 < ua.1 ∨ (ub.1 = ua.1 ∧ ub.2 ≤ ua.2) := by
                            unfold lessU at g3
                            simp only [Bool.or_eq_false_iff, Bool.and_eq_false_iff, decide_eq_false_iff_not] at g3
                            omega
                          clear g3
                          rcases hlu with hlu | ⟨hlu, hlv⟩
                          · go_wp2
                            go_ret
                            exact ⟨rfl, U12.out.e⟩
                          · have hnl : ¬ ub.1 < ua.1 := by omega
                            have hez : (ub.1 == ua.1) = true := by simpa using hlu
                            go_wp2
                            go_ret
                            exact ⟨rfl, U12.out.e⟩
                        · obtain ⟨g1, g3⟩ := HME.out.1 he1
                          subst g1
                          rcases g3 with g3 | g3
                          · subst g3
                            go_wp2
                            go_ret
                            exact ⟨rfl, U12.out.e⟩
                          · subst g3
                            go_wp2
                            go_ret
                            exact ⟨rfl, U12.out.e⟩
end Go.Proofs.YtkpengeaolcjhaaDoor
