/- The reference's runs: the recursion. -/
import Derived.Test.YtkpengeaolcjhaaDoorPkMlJudgesCardA
import Derived.Test.YtkpengeaolcjhaaDoorPkMlTellsCardD
import Derived.Test.YtkpengeaolcjhaaDoorPkMlTellsCardR
import Derived.Test.YtkpengeaolcjhaaDoorPkMlTellsCardS
import Derived.Test.YtkpengeaolcjhaaDoorPkMlTellsCardO
import Derived.Laws.ResultCell
namespace Go.Proofs.YtkpengeaolcjhaaDoor
open Go.RowKit Go.Shelf Go.Lib
set_option maxRecDepth 100000
set_option linter.unusedSimpArgs false

theorem take_has {pre : List Int} {i : Nat} {x lot : Int} (hx : pre[i]? = some x) : (pre.take (i + 1)).contains lot = ((pre.take i).contains lot || decide (x = lot)) := by
  rw [List.take_add_one, hx]
  rw [Bool.eq_iff_iff]
  simp
  constructor
  · rintro (h | h)
    · exact .inl h
    · exact .inr h.symm
  · rintro (h | h)
    · exact .inl h
    · exact .inr h.symm
theorem gap_ext (a b : Int) (w : World) (ha : 0 ≤ a ∧ a ≤ 10000) (hb : 0 ≤ b ∧ b ≤ 10000) : Calls Tryd.prog 114 #[.int .i64 a, .int .i64 b] w fun e w' => e = .returned (.int .i64 (gapI a b)) ∧ Ext w w' :=
  (gap_any a b w ha hb).mono fun _ _ h => ⟨h.1, h.2 ▸ Ext.refl _⟩
set_option maxHeartbeats 8000000 in
theorem runs_cons {n k g gs : Nat} {f : Int → Int} (hn3 : n ≤ 3) (hf : ∀ x, 0 ≤ f x ∧ f x ≤ 9000) (ih : RunsC n f g gs k) : RunsC n f g gs (k + 1) := by
  intro pre pv s w hlen hr hp hs hgs hk
  obtain ⟨A, np, c, rfl, hnp, hlp, hcp⟩ := hp.1.form
  have HK := Lib.hid hk; have HP := Lib.hid hp; have HS := Lib.hid hs; have IH := Lib.hid ih; have HR := Lib.hid hr; have HF := Lib.hid hf; have HGS := Lib.hid hgs
  have HPL := Lib.hid (show pre.length = np from hnp.out.symm)
  have hkn : np + (k + 1) = n := by have := hnp.out; omega
  have HKN := Lib.hid hkn
  have hnpn : np < n := by omega
  have hne : ((np : Int) == (n : Int)) = false := by simp; omega
  have hw1 : IntKind.i64.wrap (((n : Int) + 1) - 1) = (n : Int) := by rw [IntKind.wrap_i64]; omega
  have hw2 : IntKind.i64.wrap (n : Int) = (n : Int) := by rw [IntKind.wrap_i64]; omega
  have HRS := Lib.hid (runP_succ f n k pre s)
  have HRK := Lib.hid (runPk_succ f n k pre s)
  clear hr hp hs hk ih hf hlen hnp hkn
  go_enter Tryd.func69, Tryd.ntmps69
  go_wp2
  go_loopg [10] n (fun gg s10 wr => ∃ j : Nat, s10 = .int .i64 ((j : Int) + 1) ∧ j ≤ n ∧ n - j ≤ gg ∧ Aside (Rk g (runPk f n k pre s j) wr) ∧ Aside (Gap g (g + 2) w wr))
  case atStart => exact ⟨0, by simp, by omega, by omega, HK.out, Gap.refl _ _ _⟩
  case round =>
    obtain ⟨j, rfl, hj, hgg, RQ, GQ⟩ := hrel
    have HPQ := Lib.hid (HP.out.gap GQ.out)
    have HSQ := Lib.hid (show SlI wr (.slice (some ⟨gs, 0, none⟩) (n + 1) (n + 1)) ((List.range (n + 1)).map fun (j : Nat) => f (j : Int)) from HS.out.gap GQ.out fun _ b o e => .inr (by injection e with e; injection e with e; have := HGS.out; omega))
    by_cases hjn : j < n
    · have hjz : (j : Int) + 1 < (n : Int) + 1 := by omega
      have hw3 : IntKind.i64.wrap ((j : Int) + 1 + 1) = ((j + 1 : Nat) : Int) + 1 := by rw [IntKind.wrap_i64]; omega
      have HRJ := Lib.hid (HRK.out j)
      rename World => wO
      go_wp2
      go_loopg [11, 46] np (fun gg s11 s46 wr => ∃ i : Nat, i ≤ np ∧ np - i ≤ gg ∧ s46 = .int .i64 (i : Int) ∧ s11 = .bool ((pre.take i).contains ((j : Int) + 1)) ∧ Aside (Rk g (runPk f n k pre s j) wr) ∧ Aside (Ext wO wr))
      case atStart => exact ⟨0, by omega, by omega, by simp, by simp, RQ.out, Ext.refl _⟩
      case round =>
        obtain ⟨i, hi, hgi, rfl, rfl, RI, EI⟩ := hrel
        clear RQ
        by_cases hin : i < np
        · have hinz : (i : Int) < (np : Int) := by omega
          obtain ⟨bo, off, x, rfl, hx, -, hcell⟩ := HPQ.out.1.at_ hin
          have c0 := SlI.cell hcell EI.out
          have HTH := Lib.hid (take_has (lot := (j : Int) + 1) hx)
          clear hx hcell
          obtain ⟨cb, hcb⟩ : ∃ cb, (pre.take i).contains ((j : Int) + 1) = cb := ⟨_, rfl⟩
          rw [hcb] at HTH ⊢
          clear hcb
          cases cb
          · go_wp2
            go_roundg (np - (i + 1))
            case measure => omega
            case rel => exact ⟨i + 1, by omega, by omega, by simp, by rw [HTH.out, Bool.false_or]; rfl, RI.out, EI.out⟩
          · go_wp2
            go_roundg (np - (i + 1))
            case measure => omega
            case rel => exact ⟨i + 1, by omega, by omega, by simp, by rw [HTH.out, Bool.true_or], RI.out, EI.out⟩
        · have hie : i = np := by omega
          subst hie
          rw [show pre.take i = pre from List.take_of_length_le (by have := HPL.out; omega)]
          obtain ⟨cb, hcb⟩ : ∃ cb, pre.contains ((j : Int) + 1) = cb := ⟨_, rfl⟩
          rw [hcb] at HRJ ⊢
          clear hcb
          cases cb
          · have HNX := Lib.hid (show runPk f n k pre s (j + 1) = runP f n k (pre ++ [(j : Int) + 1]) (runPk f n k pre s j) by rw [HRJ.out]; rfl)
            have RQ := Lib.hid RI.out
            replace GQ := Lib.hid (GQ.out.trans (Gap.of_ext EI.out))
            replace HPQ := Lib.hid (HPQ.out.ext EI.out)
            replace HSQ := Lib.hid (HSQ.out.ext EI.out)
            clear RI EI HRJ
            by_cases h0 : i = 0
            · have HST := Lib.hid (show stepL f (pre ++ [(j : Int) + 1]) = stepL f pre by
                have e : pre = [] := List.eq_nil_of_length_eq_zero (by have := HPL.out; omega)
                rw [e]; rfl)
              subst h0
              go_upto_region 16 with (fail)
              go_wp2_with (at_builtin; refine wpList_copyI rfl (.tmp 79) (.tmp 80) rfl (base := (wr).heap.size) (g := (wr).heap.size) rfl rfl (Blk.new _ _ _) (Nat.le_refl _) (by simp) ((HPQ.out.1.ext (Ext.refl wr)).ext (Ext.al _ _)) (by have := HPL.out; omega) ?_)
              intro v1 W1 hown hext
              have HE1 := Lib.hid (show Ext (wr) W1 from (Ext.al _ _).trans hext)
              have HO1 := Lib.hid hown.1
              obtain ⟨A7, n7, c7, rfl, -, -, -⟩ := (show SlI W1 v1 pre from hown.1.sl (fun _ => rfl)).form
              clear hown hext
              go_wp2_with (at_builtin; refine wpList_app encI 27 3 1 _ 8 Tryd.underlying27 info3x rfl (by decide) (by decide) (fun _ => rfl) encI_one rfl (.tmp 81) (.tmp 83) rfl (wr).heap.size _ pre rfl (HO1.out.alloc _) W1.heap.size 1 ((j : Int) + 1) rfl (cells1 (by simp [go_sem])) (by have := HPL.out; omega) (by have := HE1.out.size; simp; omega) ?_)
              intro g' cap w' hown hg2 hbel _
              have HO2 := Lib.hid hown
              have HE2 := Lib.hid (show Ext (wr) w' from Below.trans (HE1.out.alloc _) hbel)
              clear hown hbel hg2
              have HZ := Lib.hid (show g + 2 ≤ (wr).heap.size by have h1 := RQ.out.least.lt; have h2 := Below.size (Ext.refl wr); omega)
              have HSO := Lib.hid (SlP.own HO2.out HZ.out)
              have HEW := Lib.hid (Ext.trans (Ext.refl wr) HE2.out)
              have HIC := Lib.hid (IH.out (pre ++ [(j : Int) + 1]) _ (runPk f n k pre s j) w' (by rw [List.length_append]; simp; have := HPL.out; have := HKN.out; omega) (fun y hy => by
                rw [List.mem_append] at hy
                rcases hy with hy | hy
                · exact HR.out y hy
                · simp at hy; omega) HSO.out (HSQ.out.ext HEW.out) HGS.out (RQ.out.ext HEW.out))
              rw [HST.out] at HIC
              go_wp2_with fail
              refine HIC.out.mono ?_
              rintro e w10 ⟨⟨rv, rfl⟩, hrk, hgp⟩
              have HRK10 := Lib.hid hrk
              have HG10 := Lib.hid (GQ.out.trans ((Gap.of_ext HEW.out).trans hgp))
              clear hrk hgp
              go_wp2
              go_roundg (n - (j + 1))
              case measure => omega
              case rel => exact ⟨j + 1, by simp, by omega, by omega, by rw [HNX.out]; exact HRK10.out, HG10.out⟩
            · obtain ⟨i', rfl⟩ : ∃ i', i = i' + 1 := ⟨i - 1, by omega⟩
              clear h0
              obtain ⟨bo, off, x, rfl, hx, -, hcell⟩ := HPQ.out.1.at_ (show i' < i' + 1 by omega)
              have hxr := HR.out x (List.mem_of_getElem? hx)
              obtain ⟨b3, off3, u, e3, hu, -, hcell3⟩ := HSQ.out.at_ (show j + 1 < n + 1 by omega)
              obtain ⟨b4, off4, t, e4, ht, -, hcell4⟩ := HSQ.out.at_ (show x.toNat < n + 1 by omega)
              injection e3 with e3
              injection e3 with e31 e32
              subst e31 e32
              injection e4 with e4
              injection e4 with e41 e42
              subst e41 e42
              obtain ⟨jx, rfl⟩ : ∃ jx : Nat, x = (jx : Int) := ⟨x.toNat, by omega⟩
              rw [Int.toNat_natCast] at ht hcell4
              obtain rfl : f ((j : Int) + 1) = u := by
                rw [List.getElem?_map, List.getElem?_range (by omega)] at hu
                injection hu with hu
              obtain rfl : f (jx : Int) = t := by
                rw [List.getElem?_map, List.getElem?_range (by omega)] at ht
                injection ht with ht
              have HST := Lib.hid (show stepL f (pre ++ [(j : Int) + 1]) = max (stepL f pre) (gapI (f ((j : Int) + 1)) (f (jx : Int))) from stepL_snoc HPL.out hx)
              have hfx := HF.out ((j : Int) + 1)
              have hfy := HF.out (jx : Int)
              have hjx : (jx : Int) < (n : Int) + 1 := by omega
              have hwi : IntKind.i64.wrap (((i' : Int) + 1) - 1) = (i' : Int) := by rw [IntKind.wrap_i64]; omega
              have hwi2 : IntKind.i64.wrap (i' : Int) = (i' : Int) := by rw [IntKind.wrap_i64]; omega
              have hii : (i' : Int) < (i' : Int) + 1 := by omega
              generalize f ((j : Int) + 1) = fx at *
              generalize f (jx : Int) = fy at *
              have m0 := fun V (h : Ext wr V) => (show V.cell? ⟨bo, off + i', none⟩ = some (.int .i64 (jx : Int)) from SlI.cell hcell h)
              have m1 := fun V (h : Ext wr V) => (show V.cell? ⟨gs, j + 1, none⟩ = some (.int .i64 fx) by have := SlI.cell hcell3 h; rwa [Nat.zero_add] at this)
              have m2 := fun V (h : Ext wr V) => (show V.cell? ⟨gs, jx, none⟩ = some (.int .i64 fy) by have := SlI.cell hcell4 h; rwa [Nat.zero_add] at this)
              clear hx hu ht hcell hcell3 hcell4 hxr
              go_upto_region 15 with (fail)
              refine wp_region_tame (fun W => Ext wr W) (fun W W' => Ext W W') (by kernel_rfl) 89 rfl (by decide +kernel) (Ext.refl _).drew ?_
              repeat (apply tame_q rfl; (intro ρ W hC hr hD; (obtain ⟨hrc, hrg, hrf, hrs⟩ := hr); (simp [go_sem] at hD); go_simp; first | exact ⟨⟨hC, Ext.refl _⟩, rfl⟩ | exact ⟨⟨hC, RS.refl _⟩, rfl⟩ | exact rfl); simp only [List.nil_append, List.cons_append])
              apply tame_q rfl
              · intro ρ W hC hr hD
                obtain ⟨hrc, hrg, hrf, hrs⟩ := hr
                simp [go_sem] at hD
                go_simp
                refine (gap_ext fx fy W (by omega) (by omega)).mono ?_
                rintro e w' ⟨rfl, hE⟩
                exact ⟨_, rfl, ⟨hC.trans hE, hE⟩, rfl⟩
              simp only [List.nil_append, List.cons_append]
              repeat (apply tame_q rfl; (intro ρ W hC hr hD; (obtain ⟨hrc, hrg, hrf, hrs⟩ := hr); (simp [go_sem] at hD); go_simp; first | exact ⟨⟨hC, Ext.refl _⟩, rfl⟩ | exact ⟨⟨hC, RS.refl _⟩, rfl⟩ | exact rfl); simp only [List.nil_append, List.cons_append])
              refine tame_end 89 rfl rfl (fun ρ W hC hr hF => ?_)
              obtain ⟨hrc, hrg, hrf, hrs⟩ := hr
              simp [go_sem] at hF
              apply frame_to
              · go_simp
                exact rfl
              clear hF hrs hrc hrg hrf
              have HCW := Lib.hid hC
              clear hC m0 m1 m2
              go_wp2_with (at_builtin; refine wpList_copyI rfl (.tmp 79) (.tmp 80) rfl (base := (W).heap.size) (g := (W).heap.size) rfl rfl (Blk.new _ _ _) (Nat.le_refl _) (by simp) ((HPQ.out.1.ext (HCW.out)).ext (Ext.al _ _)) (by have := HPL.out; omega) ?_)
              intro v1 W1 hown hext
              have HE1 := Lib.hid (show Ext (W) W1 from (Ext.al _ _).trans hext)
              have HO1 := Lib.hid hown.1
              obtain ⟨A7, n7, c7, rfl, -, -, -⟩ := (show SlI W1 v1 pre from hown.1.sl (fun _ => rfl)).form
              clear hown hext
              go_wp2_with (at_builtin; refine wpList_app encI 27 3 1 _ 8 Tryd.underlying27 info3x rfl (by decide) (by decide) (fun _ => rfl) encI_one rfl (.tmp 81) (.tmp 83) rfl (W).heap.size _ pre rfl (HO1.out.alloc _) W1.heap.size 1 ((j : Int) + 1) rfl (cells1 (by simp [go_sem])) (by have := HPL.out; omega) (by have := HE1.out.size; simp; omega) ?_)
              intro g' cap w' hown hg2 hbel _
              have HO2 := Lib.hid hown
              have HE2 := Lib.hid (show Ext (W) w' from Below.trans (HE1.out.alloc _) hbel)
              clear hown hbel hg2
              have HZ := Lib.hid (show g + 2 ≤ (W).heap.size by have h1 := RQ.out.least.lt; have h2 := Below.size (HCW.out); omega)
              have HSO := Lib.hid (SlP.own HO2.out HZ.out)
              have HEW := Lib.hid (Ext.trans (HCW.out) HE2.out)
              have HIC := Lib.hid (IH.out (pre ++ [(j : Int) + 1]) _ (runPk f n k pre s j) w' (by rw [List.length_append]; simp; have := HPL.out; have := HKN.out; omega) (fun y hy => by
                rw [List.mem_append] at hy
                rcases hy with hy | hy
                · exact HR.out y hy
                · simp at hy; omega) HSO.out (HSQ.out.ext HEW.out) HGS.out (RQ.out.ext HEW.out))
              rw [HST.out] at HIC
              go_wp2_with fail
              refine HIC.out.mono ?_
              rintro e w10 ⟨⟨rv, rfl⟩, hrk, hgp⟩
              have HRK10 := Lib.hid hrk
              have HG10 := Lib.hid (GQ.out.trans ((Gap.of_ext HEW.out).trans hgp))
              clear hrk hgp
              go_wp2
              go_roundg (n - (j + 1))
              case measure => omega
              case rel => exact ⟨j + 1, by simp, by omega, by omega, by rw [HNX.out]; exact HRK10.out, HG10.out⟩
          · have HNX := Lib.hid (show runPk f n k pre s (j + 1) = runPk f n k pre s j by rw [HRJ.out]; rfl)
            go_wp2
            go_roundg (n - (j + 1))
            case measure => omega
            case rel => exact ⟨j + 1, by simp, by omega, by omega, by rw [HNX.out]; exact RI.out, GQ.out.trans (Gap.of_ext EI.out)⟩
    · have hje : j = n := by omega
      subst hje
      go_wp2
      go_end0
      exact ⟨⟨_, rfl⟩, by rw [HRS.out]; exact RQ.out, GQ.out⟩
end Go.Proofs.YtkpengeaolcjhaaDoor
/- mill.Run's steps. -/
namespace Go.Proofs.YtkpengeaolcjhaaDoor
open Go.RowKit Go.Shelf Go.Lib
set_option maxRecDepth 100000
set_option linter.unusedSimpArgs false

/-- The program's sums of lots. -/
abbrev sumsP (lt : Nat) (f : Int → Int) : List Int := (List.range lt).map fun (j : Nat) => f ((j : Int) + 1)
theorem sumsP_at {lt : Nat} {f : Int → Int} {x : Int} (h1 : 1 ≤ x) (h2 : x ≤ (lt : Int)) : (sumsP lt f)[(x - 1).toNat]? = some (f x) := by
  unfold sumsP
  rw [List.getElem?_map, List.getElem?_range (by omega)]
  simp
  congr 1
  omega
set_option maxHeartbeats 4000000 in
/-- The greatest step of an order: the closure sees the sums. -/
theorem steps_any {lt bs g cap : Nat} {f : Int → Int} (l : List Int) (v : Value) (w : World) (h3 : lt ≤ 3) (hf : ∀ x, 0 ≤ f x ∧ f x ≤ 9000) (hb : Blk w bs 27 #[.slice (some ⟨g, 0, none⟩) lt cap]) (hs : SlI w (.slice (some ⟨g, 0, none⟩) lt cap) (sumsP lt f)) (hl : SlI w v l) (hlen : l.length ≤ 10) (hr : ∀ x ∈ l, 1 ≤ x ∧ x ≤ (lt : Int)) :
    Calls Tryd.prog 65 #[v, .pointer (some ⟨bs, 0, none⟩)] w fun e w' => e = .returned (.int .i64 (stepL f l)) ∧ Ext w w' := by
  have HB := Lib.hid hb; have HS := Lib.hid hs; have HV := Lib.hid hl; have HR := Lib.hid hr; have HF := Lib.hid hf
  obtain ⟨A, n, c, rfl, hn, hlc, hcm⟩ := hl.form
  have HN := Lib.hid (show l.length = n from hn.out.symm)
  have hn10 : n ≤ 10 := by have := hn.out; omega
  clear hb hs hl hr hf hn hlen
  go_enter Tryd.func65, Tryd.ntmps65
  go_wp2
  go_loopg [4, 5] n (fun gg s4 s5 wr => ∃ i : Nat, s4 = .int .i64 (stepTo f l i) ∧ s5 = .int .i64 ((i : Int) + 1) ∧ (i = 0 ∨ i + 1 ≤ n) ∧ n - i ≤ gg ∧ Aside (Ext w wr))
  case atStart => exact ⟨0, rfl, by simp, .inl rfl, by omega, Ext.refl _⟩
  case round =>
    obtain ⟨i, rfl, rfl, hi, hgg, EQ⟩ := hrel
    by_cases hlt : i + 1 < n
    · have hltz : (i : Int) + 1 < (n : Int) := by omega
      have hin : (i : Int) < (n : Int) := by omega
      obtain ⟨bo, off, x, rfl, hx, -, hcell⟩ := HV.out.at_ hlt
      obtain ⟨b2, off2, y, e2, hy, -, hcell2⟩ := HV.out.at_ (show i < n by omega)
      injection e2 with e2
      injection e2 with e21 e22
      subst e21 e22
      have hxr := HR.out x (List.mem_of_getElem? hx)
      have hyr := HR.out y (List.mem_of_getElem? hy)
      obtain ⟨jx, rfl⟩ : ∃ jx : Nat, x = (jx : Int) + 1 := ⟨(x - 1).toNat, by omega⟩
      obtain ⟨jy, rfl⟩ : ∃ jy : Nat, y = (jy : Int) + 1 := ⟨(y - 1).toNat, by omega⟩
      have hjx : jx < lt := by omega
      have hjy : jy < lt := by omega
      have hjxz : (jx : Int) < (lt : Int) := by omega
      have hjyz : (jy : Int) < (lt : Int) := by omega
      obtain ⟨b3, off3, u, e3, hu, -, hcell3⟩ := HS.out.at_ hjx
      obtain ⟨b4, off4, t, e4, ht, -, hcell4⟩ := HS.out.at_ hjy
      injection e3 with e3
      injection e3 with e31 e32
      subst e31 e32
      injection e4 with e4
      injection e4 with e41 e42
      subst e41 e42
      obtain rfl : f ((jx : Int) + 1) = u := by
        have := sumsP_at (f := f) (lt := lt) hxr.1 hxr.2
        rw [show ((jx : Int) + 1 - 1).toNat = jx by omega, hu] at this
        injection this with this; exact this.symm
      obtain rfl : f ((jy : Int) + 1) = t := by
        have := sumsP_at (f := f) (lt := lt) hyr.1 hyr.2
        rw [show ((jy : Int) + 1 - 1).toNat = jy by omega, ht] at this
        injection this with this; exact this.symm
      have HSU := Lib.hid (show stepTo f l (i + 1) = max (stepTo f l i) (gapI (f ((jx : Int) + 1)) (f ((jy : Int) + 1))) by rw [stepTo_succ, hx, hy]; rfl)
      have hfx := HF.out ((jx : Int) + 1)
      have hfy := HF.out ((jy : Int) + 1)
      have hst := stepTo_bd (l := l) (b := 9000) (by omega) HF.out i
      generalize f ((jx : Int) + 1) = fx at *
      generalize f ((jy : Int) + 1) = fy at *
      have hmx : max (max (stepTo f l i) (fx - fy)) (fy - fx) = stepTo f l (i + 1) := by rw [HSU.out]; unfold gapI; omega
      have hw1 : IntKind.i64.wrap (i : Int) = (i : Int) := by rw [IntKind.wrap_i64]; omega
      have hw2 : IntKind.i64.wrap (jx : Int) = (jx : Int) := by rw [IntKind.wrap_i64]; omega
      have hw3 : IntKind.i64.wrap (jy : Int) = (jy : Int) := by rw [IntKind.wrap_i64]; omega
      have hw4 : IntKind.i64.wrap (fx - fy) = fx - fy := by rw [IntKind.wrap_i64]; omega
      have hw5 : IntKind.i64.wrap (fy - fx) = fy - fx := by rw [IntKind.wrap_i64]; omega
      have hw6 : IntKind.i64.wrap ((i : Int) + 1 + 1) = ((i + 1 : Nat) : Int) + 1 := by rw [IntKind.wrap_i64]; omega
      have m0 := fun V (h : Ext wr V) => (HB.out.ext (EQ.out.trans h)).c1
      have m1 := fun V (h : Ext wr V) => SlI.cell hcell (EQ.out.trans h)
      have m2 := fun V (h : Ext wr V) => SlI.cell hcell2 (EQ.out.trans h)
      have m3 := fun V (h : Ext wr V) => (show V.cell? ⟨g, jx, none⟩ = some (.int .i64 fx) by have := SlI.cell hcell3 (EQ.out.trans h); rwa [Nat.zero_add] at this)
      have m4 := fun V (h : Ext wr V) => (show V.cell? ⟨g, jy, none⟩ = some (.int .i64 fy) by have := SlI.cell hcell4 (EQ.out.trans h); rwa [Nat.zero_add] at this)
      clear hx hy hu ht hcell hcell2 hcell3 hcell4 hxr hyr hfx hfy hst
      go_wp2
      refine wp_region_tame_cut (fun V => Ext wr V) (fun V V' => Ext V V') (by kernel_rfl) 51 rfl _ rfl (by decide +kernel) (by decide +kernel) (by decide +kernel) rfl (Ext.refl _).drew ?_
      simp only [List.dropLast]
      repeat (apply tame_q rfl; (intro ρ W hC hr hD; (obtain ⟨hrc, hrg, hrf, hrs⟩ := hr); (simp [go_sem] at hD); go_simp; first | exact ⟨⟨hC, Ext.refl _⟩, rfl⟩ | exact ⟨⟨hC, RS.refl _⟩, rfl⟩ | exact rfl); simp only [List.nil_append, List.cons_append])
      refine tame_end 51 rfl rfl (fun ρ W hC hr hF => ?_)
      obtain ⟨hrc, hrg, hrf, hrs⟩ := hr
      simp [go_sem] at hF
      apply frame_to
      · go_simp
        exact rfl
      clear hF hrs hrc hrg hrf
      have EW := Lib.hid (EQ.out.trans hC)
      clear m0 m1 m2 m3 m4 hC
      go_wp2
      all_goals
        go_roundg (n - (i + 1))
        case measure => omega
        case rel =>
          refine ⟨i + 1, ?_, by first | rfl | simp, .inr (by omega), by omega, EW.out⟩
          rw [← hmx]
          congr 1
          first | omega | (split at * <;> omega)
    · have HE := Lib.hid (show stepTo f l i = stepL f l by
        unfold stepL
        rw [HN.out]
        congr 1
        omega)
      rw [HE.out]
      go_wp2
      go_ret
      exact ⟨rfl, EQ.out⟩
end Go.Proofs.YtkpengeaolcjhaaDoor
/- mill.Run's order of orders. -/
namespace Go.Proofs.YtkpengeaolcjhaaDoor
open Go.RowKit Go.Shelf Go.Lib
set_option maxRecDepth 100000
set_option linter.unusedSimpArgs false

set_option maxHeartbeats 1000000 in
theorem f68_any {lt bs bt g cap : Nat} {f : Int → Int} (x y : List Int) (v v' : Value) (w : World) (h3 : lt ≤ 3) (hf : ∀ x, 0 ≤ f x ∧ f x ≤ 9000) (hb : Blk w bs 27 #[.slice (some ⟨g, 0, none⟩) lt cap]) (hs : SlI w (.slice (some ⟨g, 0, none⟩) lt cap) (sumsP lt f))
    (hx : SlI w v x) (hy : SlI w v' y) (lx : x.length ≤ 10) (ly : y.length ≤ 10) (rx : ∀ z ∈ x, 1 ≤ z ∧ z ≤ (lt : Int)) (ry : ∀ z ∈ y, 1 ≤ z ∧ z ≤ (lt : Int)) (htb : w.cell? ⟨bt, 0, none⟩ = some (.func (.func 65) #[] #[.pointer (some ⟨bs, 0, none⟩)])) :
    Calls Tryd.prog 68 #[v, v', .pointer (some ⟨bt, 0, none⟩)] w fun e w' => e = .returned (.int .i64 (ordS f x y)) ∧ Ext w w' := by
  have HB := Lib.hid hb; have HS := Lib.hid hs; have HF := Lib.hid hf; have HX := Lib.hid hx; have HY := Lib.hid hy; have LX := Lib.hid lx; have LY := Lib.hid ly; have RX := Lib.hid rx; have RY := Lib.hid ry
  obtain ⟨Ax, nx, cx, rfl, -, -, -⟩ := hx.form
  obtain ⟨Ay, ny, cy, rfl, -, -, -⟩ := hy.form
  have q0 := fun V (h : Ext w V) => (h.cells.1 bt 0 (is_cells htb).1).trans htb
  have HO := Lib.hid (show ordS f x y = cmpI (stepL f x) (stepL f y) from rfl)
  clear hs hx hy hb hf htb lx ly rx ry
  go_enter Tryd.func68, Tryd.ntmps68
  go_wp2_with fail
  refine wp_region_tame (fun W => Ext w W) (fun W W' => Ext W W') (by kernel_rfl) 13 rfl (by decide +kernel) (Ext.refl _).drew ?_
  repeat (apply tame_q rfl; (intro ρ W hC hr hD; (obtain ⟨hrc, hrg, hrf, hrs⟩ := hr); (simp [go_sem] at hD); go_simp; first | exact ⟨⟨hC, Ext.refl _⟩, rfl⟩ | exact ⟨⟨hC, RS.refl _⟩, rfl⟩ | exact rfl); simp only [List.nil_append, List.cons_append])
  apply tame_q rfl
  · intro ρ W hC hr hD
    obtain ⟨hrc, hrg, hrf, hrs⟩ := hr
    simp [go_sem] at hD
    have HC := Lib.hid hC
    go_simp
    refine (steps_any x _ W h3 HF.out (HB.out.ext HC.out) (HS.out.ext HC.out) (HX.out.ext HC.out) LX.out RX.out).mono ?_
    rintro e w' ⟨rfl, hE⟩
    exact ⟨_, rfl, ⟨HC.out.trans hE, hE⟩, rfl⟩
  simp only [List.nil_append, List.cons_append]
  repeat (apply tame_q rfl; (intro ρ W hC hr hD; (obtain ⟨hrc, hrg, hrf, hrs⟩ := hr); (simp [go_sem] at hD); go_simp; first | exact ⟨⟨hC, Ext.refl _⟩, rfl⟩ | exact ⟨⟨hC, RS.refl _⟩, rfl⟩ | exact rfl); simp only [List.nil_append, List.cons_append])
  apply tame_q rfl
  · intro ρ W hC hr hD
    obtain ⟨hrc, hrg, hrf, hrs⟩ := hr
    simp [go_sem] at hD
    have HC := Lib.hid hC
    go_simp
    refine (steps_any y _ W h3 HF.out (HB.out.ext HC.out) (HS.out.ext HC.out) (HY.out.ext HC.out) LY.out RY.out).mono ?_
    rintro e w' ⟨rfl, hE⟩
    exact ⟨_, rfl, ⟨HC.out.trans hE, hE⟩, rfl⟩
  simp only [List.nil_append, List.cons_append]
  apply tame_q rfl
  · intro ρ W hC hr hD
    obtain ⟨hrc, hrg, hrf, hrs⟩ := hr
    simp [go_sem] at hD
    go_simp
    refine (compare_any _ _ W).mono ?_
    rintro e w' ⟨rfl, hE⟩
    exact ⟨_, rfl, ⟨hC.trans hE, hE⟩, rfl⟩
  simp only [List.nil_append, List.cons_append]
  repeat (apply tame_q rfl; (intro ρ W hC hr hD; (obtain ⟨hrc, hrg, hrf, hrs⟩ := hr); (simp [go_sem] at hD); go_simp; first | exact ⟨⟨hC, Ext.refl _⟩, rfl⟩ | exact ⟨⟨hC, RS.refl _⟩, rfl⟩ | exact rfl); simp only [List.nil_append, List.cons_append])
  refine tame_end 13 rfl rfl (fun ρ W hC hr hF => ?_)
  obtain ⟨hrc, hrg, hrf, hrs⟩ := hr
  simp [go_sem] at hF
  apply frame_to
  · go_simp
    exact rfl
  clear hF hrs hrc hrg hrf
  have HC := Lib.hid hC
  clear hC q0
  go_wp2
  go_ret
  exact ⟨by rw [HO.out]; rfl, HC.out⟩
end Go.Proofs.YtkpengeaolcjhaaDoor
/- mill.runs: the closure that goes on with a lot. -/
namespace Go.Proofs.YtkpengeaolcjhaaDoor
open Go.RowKit Go.Shelf Go.Lib
set_option maxRecDepth 100000
set_option linter.unusedSimpArgs false

/-- What the closure sees. -/
structure RMl (fid : FuncId) (lid bn by' bp n : Nat) (W : World) : Prop where
  n : W.cell? ⟨bn, 0, none⟩ = some (.int .i64 (n : Int))
  y : W.cell? ⟨by', 0, none⟩ = some (.func (.yield lid) #[] #[])
  f : W.cell? ⟨bp, 0, none⟩ = some (.func (.func fid) #[] #[.pointer (some ⟨bn, 0, none⟩), .pointer (some ⟨by', 0, none⟩), .pointer (some ⟨bp, 0, none⟩)])
section
variable {fid : FuncId} {lid bn by' bp n : Nat} {V W : World}
theorem RMl.keep {n₀ : Nat} {X : Nat → Prop} (h : RMl fid lid bn by' bp n V) (k : Keep n₀ X V W) (x1 : ¬ X bn) (x2 : ¬ X by') (x3 : ¬ X bp) : RMl fid lid bn by' bp n W := ⟨k.cell x1 h.n, k.cell x2 h.y, k.cell x3 h.f⟩
theorem RMl.ext (h : RMl fid lid bn by' bp n V) (e : Ext V W) : RMl fid lid bn by' bp n W := by
  have k : ∀ {b i : Nat} {v : Value}, V.cell? ⟨b, i, none⟩ = some v → W.cell? ⟨b, i, none⟩ = some v := fun hc => (e.cells.1 _ _ (is_cells hc).1).trans hc
  exact ⟨k h.n, k h.y, k h.f⟩
end
theorem contains_eq (g : List Int) (x : Int) : (g.any fun y => decide (x = y)) = g.contains x := by
  rw [Bool.eq_iff_iff]
  simp

/-- What a call of next does. -/
def NextC (fid : FuncId) (lid bn by' bp n n₀ x₀ : Nat) (X : Nat → Prop) (J Jx : List (List Int) → World → Prop) (tot : List (List Int)) (k : Nat) : Prop :=
  ∀ (g : List Int) (B : Option Addr) (np cp : Nat) (pre : List (List Int)) (W₀ : World), g.length + k = n → SlI W₀ (.slice B np cp) g → (∀ b o, B = some ⟨b, o, none⟩ → 0 < g.length → x₀ ≤ b ∧ ¬ X b) →
    RMl fid lid bn by' bp n W₀ → J pre W₀ → n₀ ≤ W₀.heap.size → x₀ ≤ W₀.heap.size → pre ++ runsF n k g <+: tot →
    Calls Tryd.prog 112 #[.slice B np cp, .pointer (some ⟨bn, 0, none⟩), .pointer (some ⟨by', 0, none⟩), .pointer (some ⟨bp, 0, none⟩)] W₀ fun e W' =>
      (e = .returned (.bool true) ∧ J (pre ++ runsF n k g) W' ∧ Keep n₀ X W₀ W') ∨ (e = .returned (.bool false) ∧ ∃ q, q <+: runsF n k g ∧ Jx (pre ++ q) W')
set_option maxHeartbeats 2000000 in
theorem next_leaf {fid : FuncId} {lid bn by' bp n n₀ x₀ : Nat} {X : Nat → Prop} {J Jx : List (List Int) → World → Prop} {tot : List (List Int)}
    (hY : ∀ m pre x v W1, J pre W1 → SlI W1 v x → pre ++ [x] <+: tot → YieldAt Fence.wide m Tryd.prog lid #[v] W1 fun e W' => (e = .returned (.bool true) ∧ J (pre ++ [x]) W' ∧ Keep n₀ X W1 W') ∨ (e = .returned (.bool false) ∧ Jx (pre ++ [x]) W')) :
    NextC fid lid bn by' bp n n₀ x₀ X J Jx tot 0 := by
  intro g B np cp pre W₀ hlen hs hB hM hJ hn0 hx0 hp
  obtain rfl : np = n := by obtain ⟨A', c', e, -⟩ := hs; injection e with _ e; omega
  obtain ⟨t0, y, fc⟩ := hM
  have hb1 := (is_cells t0).1
  have hb2 := (is_cells y).1
  have e1 : runsF np 0 g = [g] := rfl
  rw [e1] at hp ⊢
  obtain ⟨fn, tmps, assign, body, hy, hR⟩ := hY 0 pre g (.slice B np cp) _ hJ hs hp
  clear hs hB hJ hp
  refine (callsIn_wide (n := 1)).1 (callsIn_of_wp Tryd.func112 rfl trivial ?_ rfl)
  simp only [Tryd.ntmps112, List.size_toArray, List.length_cons, List.length_nil, Nat.reduceAdd, Nat.reduceSub, Array.replicate_succ, Array.replicate_zero, List.push_toArray, List.append_toArray, List.nil_append, List.cons_append]
  refine (wpIn_wide (n := 1)).2 ?_
  go_upto_region 2 with (fail)
  refine (wpIn_wide (n := 1)).1 ?_
  gi_wp2_with ((try refine ⟨wide_depth _, ?_⟩); refine hR.mono ?_; clear hR; rintro e W2 (⟨rfl, hJ2, hk⟩ | ⟨rfl, hx⟩))
  · go_wp2
    try rw [Exit.noGoto_ret]
    go_ret
    exact .inl ⟨rfl, hJ2, hk⟩
  · go_wp2
    try rw [Exit.noGoto_ret]
    go_ret
    exact .inr ⟨rfl, [g], List.prefix_refl _, hx⟩
set_option maxHeartbeats 8000000 in
theorem next_cons {fid : FuncId} {lid bn by' bp n n₀ x₀ k : Nat} {X : Nat → Prop} {J Jx : List (List Int) → World → Prop} {tot : List (List Int)}
    (hfid : fid = 112) (hn3 : n ≤ 3) (hX : ∀ b, X b → b < x₀) (x1 : ¬ X bn) (x2 : ¬ X by') (x3 : ¬ X bp) (hJ0 : ∀ pre A B, J pre A → Ext A B → J pre B) (ih : NextC fid lid bn by' bp n n₀ x₀ X J Jx tot k) : NextC fid lid bn by' bp n n₀ x₀ X J Jx tot (k + 1) := by
  intro g B np cp pre W₀ hlen hs hB hM hJ hn0 hx0 hp
  have hnp : np = g.length := by obtain ⟨A', c', e, -⟩ := hs; injection e
  have hnpc : np ≤ cp := by obtain ⟨A', c', e, h, -⟩ := hs; injection e with _ _ e3; omega
  have hnpn : np < n := by omega
  have hnpz : ((np : Int) == (n : Int)) = false := by simp; omega
  have HGL := Lib.hid hnp
  have HLE := Lib.hid (show np + 1 + k = n by omega)
  have HTS := Lib.hid (rnk_succ n k g)
  have HTP := Lib.hid (fun i (hi : i ≤ n) => rnk_pre n k g hi)
  generalize hT : runsF n (k + 1) g = T at hp ⊢
  have HT := Lib.hid (show T = rnk n k g n by rw [← hT]; rfl)
  have HS := Lib.hid hs; have HM := Lib.hid hM; have HJ := Lib.hid hJ; have HP := Lib.hid hp; have IH := Lib.hid ih; have HB := Lib.hid hB
  have HJ0 := Lib.hid hJ0; have HX := Lib.hid hX; have HX0 := Lib.hid hx0; have HN0 := Lib.hid hn0
  have eg : ∀ args w, (callFunc fid args).run Tryd.prog w = .ok (.enter fid args) w := by rw [hfid]; exact enters_of Tryd.func112 (by kernel_rfl) rfl
  have HFI := Lib.hid hfid
  obtain ⟨t0, yy, fc⟩ := id hM
  have hb1 := (is_cells t0).1
  clear hs hM hJ hp ih hB hJ0 hX hx0 hn0 hlen hnp hT hfid
  go_enter Tryd.func112, Tryd.ntmps112
  go_wp2
  clear t0 yy fc hb1
  go_loopg [6] n (fun gg s wr => ∃ j : Nat, s = .int .i64 ((j : Int) + 1) ∧ j ≤ n ∧ n - j ≤ gg ∧ Aside (J (pre ++ rnk n k g j) wr) ∧ Aside (Keep n₀ X W₀ wr))
  case atStart => exact ⟨0, by simp, by omega, by omega, by show J _ _; rw [show rnk n k g 0 = [] from rfl, List.append_nil]; exact HJ.out, Keep.refl _⟩
  case round =>
    obtain ⟨j, rfl, hj, hgg, HJQ, HKQ⟩ := hrel
    have HMQ := Lib.hid (HM.out.keep HKQ.out x1 x2 x3)
    have HSQ := Lib.hid ((HS.out).keepG HKQ.out (fun h0 b o e => (HB.out b o e h0).2))
    have hz5 := HKQ.out.b.size
    have HZR := Lib.hid (show n₀ ≤ wr.heap.size ∧ x₀ ≤ wr.heap.size by have := HN0.out; have := HX0.out; omega)
    have hcn := HMQ.out.n
    have hcl := (is_cells hcn).1
    by_cases hjn : j < n
    · have hjz : (j : Int) + 1 ≤ (n : Int) := by omega
      have hw1 : IntKind.i64.wrap ((j : Int) + 1 + 1) = ((j + 1 : Nat) : Int) + 1 := by rw [IntKind.wrap_i64]; omega
      have m0 := fun V (h : Ext wr V) => (HMQ.out.ext h).f
      obtain ⟨cb, hcb⟩ : ∃ cb, g.contains ((j : Int) + 1) = cb := ⟨_, rfl⟩
      have HCB := Lib.hid (show (g.any fun y => decide ((j : Int) + 1 = y)) = cb by rw [contains_eq, hcb])
      have HNX := Lib.hid (show rnk n k g (j + 1) = rnk n k g j ++ (if cb then [] else runsF n k (g ++ [(j : Int) + 1])) by rw [HTS.out j, hcb])
      clear hcb
      cases cb
      · go_wp2
        clear hcn hcl
        refine (wpIn_wide (n := 1)).1 ?_
        refine wpIn_region_tame (Open.wide 1) (fun V => Ext wr V) (fun V V' => Ext V V') (by kernel_rfl) 37 rfl 15 (by decide +kernel) (by decide +kernel) (by decide +kernel) (Ext.refl _).drew ?_
        simp only [List.take, List.map]
        repeat (apply tame_q rfl; (intro ρ W hC hr hD; (obtain ⟨hrc, hrg, hrf, hrs⟩ := hr); (simp [go_sem] at hD); go_simp; first | exact ⟨⟨hC, Ext.refl _⟩, rfl⟩ | exact ⟨⟨hC, RS.refl _⟩, rfl⟩ | exact rfl); simp only [List.nil_append, List.cons_append])
        apply tame_q rfl
        · intro ρ W hC hr hD
          obtain ⟨hrc, hrg, hrf, hrs⟩ := hr
          simp [go_sem] at hD
          go_simp
          refine (contains_any g _ ((j : Int) + 1) W (HSQ.out.ext hC)).mono ?_
          rintro e w' ⟨rfl, hE⟩
          exact ⟨_, rfl, ⟨hC.trans hE, hE⟩, rfl⟩
        simp only [List.nil_append, List.cons_append]
        rw [HCB.out]
        repeat (apply tame_q rfl; (intro ρ W hC hr hD; (obtain ⟨hrc, hrg, hrf, hrs⟩ := hr); (simp [go_sem] at hD); go_simp; first | exact ⟨⟨hC, Ext.refl _⟩, rfl⟩ | exact ⟨⟨hC, RS.refl _⟩, rfl⟩ | exact rfl); simp only [List.nil_append, List.cons_append])
        apply tame_v rfl (OneB ((j : Int) + 1)) (fun v V V' _ hE h => h.extM hE)
        · intro ρ V hC hr hD
          obtain ⟨hrc, hrg, hrf, hrs⟩ := hr
          simp [go_sem] at hD
          go_simp
          exact ⟨⟨hC.alloc _, Ext.al _ _⟩, ⟨_, rfl, Blk.new _ _ _⟩⟩
        simp only [List.nil_append, List.cons_append]
        apply tame_v rfl (fun v V => Own encI 3 1 V wr.heap.size v (g ++ [(j : Int) + 1])) (fun v V V' _ hE h => h.ext hE)
        · intro ρ V hC hr hD
          obtain ⟨hrc, hrg, hrf, hrs⟩ := hr
          simp [go_sem] at hD
          obtain ⟨d1, ⟨bb, d3, d4⟩, d5⟩ := hD
          rw [if_pos (by simp [runs, isB, d5])]
          obtain ⟨v', V', hrun, ho, hE⟩ := run_appFull (y := (j : Int) + 1) ((HSQ.out.ext hC).capM (Nat.le_refl _) (by unfold maxLen; omega)) d4 27 (by have := HGL.out; omega)
          show opGives _ _ _ _ _ _ _
          unfold opGives execOp
          simp only [resolve, invoke, builtin, Sem.run_bind, Sem.run_pure, Result.andThen_ok, List.map_toArray, List.map_cons, List.map_nil, d1, d3, hrun]
          exact ⟨⟨hC.trans hE, hE⟩, ho.mono hC.size⟩
        simp only [List.nil_append, List.cons_append]
        repeat (apply tame_q rfl; (intro ρ W hC hr hD; (obtain ⟨hrc, hrg, hrf, hrs⟩ := hr); (simp [go_sem] at hD); go_simp; first | exact ⟨⟨hC, Ext.refl _⟩, rfl⟩ | exact ⟨⟨hC, RS.refl _⟩, rfl⟩ | exact rfl); simp only [List.nil_append, List.cons_append])
        refine tame_end 37 rfl rfl (fun ρ V hC hr hF => ?_)
        obtain ⟨hrc, hrg, hrf, hrs⟩ := hr
        have h33 : Own encI 3 1 V wr.heap.size (ρ (.tmp 33)) (g ++ [(j : Int) + 1]) := hF.2.2.2.2.2.2.2.2.2.2.2.2.2.2.1
        simp [go_sem] at hF
        have hsl : SlI V (ρ (.tmp 33)) (g ++ [(j : Int) + 1]) := h33.sl (fun _ => rfl)
        have hnew : ∀ A7 n7 c7, ρ (.tmp 33) = .slice A7 n7 c7 → ∀ b o, A7 = some ⟨b, o, none⟩ → wr.heap.size ≤ b := by
          intro A7 n7 c7 e b o e2
          rcases own_formG h33 with ⟨h1, h2⟩ | ⟨g', cap, cur, h1, h3, -⟩
          · simp at h2
          · rw [e] at h1; injection h1 with h1; rw [e2] at h1; injection h1 with h1; injection h1 with h1; omega
        obtain ⟨A7, n7, c7, e67, -, -, -⟩ := hsl.form
        rw [e67] at hsl
        have HSL := Lib.hid hsl
        have HNW := Lib.hid (hnew A7 n7 c7 e67)
        have HCV := Lib.hid hC
        apply frame_to
        · go_simp
          exact rfl
        clear hF e67 h33 hsl hnew hrs hrc hrg hrf m0
        have hsv := hC.size
        clear hC
        have hpp : (pre ++ rnk n k g j) ++ runsF n k (g ++ [(j : Int) + 1]) = pre ++ rnk n k g (j + 1) := by
          rw [HNX.out, List.append_assoc]; rfl
        have HPP := Lib.hid hpp
        have H := IH.out (g ++ [(j : Int) + 1]) A7 n7 c7 (pre ++ rnk n k g j) V (by rw [List.length_append]; simp; have := HGL.out; have := HLE.out; omega) HSL.out (fun b o e _ => by
            have h1 := HNW.out b o e
            have h2 := HZR.out.2
            exact ⟨by omega, fun hx => by have := HX.out b hx; omega⟩) (HMQ.out.ext HCV.out) (HJ0.out _ _ _ HJQ.out HCV.out) (by have := HZR.out.1; omega) (by have := HZR.out.2; omega) (by
            rw [hpp]
            refine List.IsPrefix.trans ?_ HP.out
            rw [HT.out]
            exact (List.prefix_append_right_inj _).2 (HTP.out (j + 1) (by omega)))
        rw [← HFI.out] at H
        have HH := Lib.hid H
        have HKW := Lib.hid (HKQ.out.trans (Keep.ext (X := X) HCV.out HZR.out.1))
        clear hpp H hsv
        simp only [List.drop]
        gi_wp2_with fail
        refine ⟨trivial, ?_⟩
        refine (callsIn_wide.2 HH.out).mono ?_
        rintro e w' (⟨rfl, k1, k2⟩ | ⟨rfl, q', k1, k2⟩)
        · have K1 := Lib.hid k1; have K2 := Lib.hid k2
          clear k1 k2
          gi_wp2
          go_wp2
          go_roundg (n - (j + 1))
          case measure => omega
          case rel => exact ⟨j + 1, by first | rfl | simp, by omega, by omega, by show J _ _; rw [← HPP.out]; exact K1.out, HKW.out.trans K2.out⟩
        · have K1 := Lib.hid k1; have K2 := Lib.hid k2
          clear k1 k2
          gi_wp2
          go_wp2
          try rw [Exit.noGoto_ret]
          go_ret
          refine .inr ⟨rfl, rnk n k g j ++ q', ?_, by rw [← List.append_assoc]; exact K2.out⟩
          rw [HT.out]
          refine List.IsPrefix.trans ?_ (HTP.out (j + 1) (by omega))
          rw [HNX.out]
          exact (List.prefix_append_right_inj _).2 K1.out
      · go_wp2
        clear hcn hcl
        refine (wpIn_wide (n := 1)).1 ?_
        refine wpIn_region_tame (Open.wide 1) (fun V => Ext wr V) (fun V V' => Ext V V') (by kernel_rfl) 37 rfl 15 (by decide +kernel) (by decide +kernel) (by decide +kernel) (Ext.refl _).drew ?_
        simp only [List.take, List.map]
        repeat (apply tame_q rfl; (intro ρ W hC hr hD; (obtain ⟨hrc, hrg, hrf, hrs⟩ := hr); (simp [go_sem] at hD); go_simp; first | exact ⟨⟨hC, Ext.refl _⟩, rfl⟩ | exact ⟨⟨hC, RS.refl _⟩, rfl⟩ | exact rfl); simp only [List.nil_append, List.cons_append])
        apply tame_q rfl
        · intro ρ W hC hr hD
          obtain ⟨hrc, hrg, hrf, hrs⟩ := hr
          simp [go_sem] at hD
          go_simp
          refine (contains_any g _ ((j : Int) + 1) W (HSQ.out.ext hC)).mono ?_
          rintro e w' ⟨rfl, hE⟩
          exact ⟨_, rfl, ⟨hC.trans hE, hE⟩, rfl⟩
        simp only [List.nil_append, List.cons_append]
        rw [HCB.out]
        repeat (apply tame_q rfl; (intro ρ W hC hr hD; (obtain ⟨hrc, hrg, hrf, hrs⟩ := hr); (simp [go_sem] at hD); go_simp; first | exact ⟨⟨hC, Ext.refl _⟩, rfl⟩ | exact ⟨⟨hC, RS.refl _⟩, rfl⟩ | exact rfl); simp only [List.nil_append, List.cons_append])
        refine tame_end 37 rfl rfl (fun ρ W hC hr hF => ?_)
        obtain ⟨hrc, hrg, hrf, hrs⟩ := hr
        simp [go_sem] at hF
        apply frame_to
        · go_simp
          exact rfl
        clear hF hrs hrc hrg hrf
        have HCV := Lib.hid hC
        clear hC m0
        have HKW := Lib.hid (HKQ.out.trans (Keep.ext (X := X) HCV.out HZR.out.1))
        simp only [List.drop]
        gi_wp2
        refine ⟨fun _ h => (by cases h), ?_⟩
        gi_wp2
        go_wp2
        go_roundg (n - (j + 1))
        case measure => omega
        case rel => exact ⟨j + 1, by first | rfl | simp, by omega, by omega, by show J _ _; rw [HNX.out]; simpa using HJ0.out _ _ _ HJQ.out HCV.out, HKW.out⟩
    · have hje : j = n := by omega
      subst hje
      go_wp2
      try rw [Exit.noGoto_ret]
      go_ret
      exact .inl ⟨rfl, by rw [HT.out]; exact HJQ.out, HKQ.out⟩
end Go.Proofs.YtkpengeaolcjhaaDoor
/- mill.runs: what the sequence yields. -/
namespace Go.Proofs.YtkpengeaolcjhaaDoor
open Go.RowKit Go.Shelf Go.Lib
set_option maxRecDepth 100000
set_option linter.unusedSimpArgs false

theorem next_any {fid : FuncId} {lid bn by' bp n n₀ x₀ : Nat} {X : Nat → Prop} {J Jx : List (List Int) → World → Prop} {tot : List (List Int)}
    (hfid : fid = 112) (hn3 : n ≤ 3) (hX : ∀ b, X b → b < x₀) (x1 : ¬ X bn) (x2 : ¬ X by') (x3 : ¬ X bp) (hJ0 : ∀ pre A B, J pre A → Ext A B → J pre B)
    (hY : ∀ m pre x v W1, J pre W1 → SlI W1 v x → pre ++ [x] <+: tot → YieldAt Fence.wide m Tryd.prog lid #[v] W1 fun e W' => (e = .returned (.bool true) ∧ J (pre ++ [x]) W' ∧ Keep n₀ X W1 W') ∨ (e = .returned (.bool false) ∧ Jx (pre ++ [x]) W')) :
    ∀ k, NextC fid lid bn by' bp n n₀ x₀ X J Jx tot k
  | 0 => next_leaf hY
  | k + 1 => next_cons hfid hn3 hX x1 x2 x3 hJ0 (next_any hfid hn3 hX x1 x2 x3 hJ0 hY k)
set_option maxHeartbeats 2000000 in
theorem runs_seqs {bn n n₀ : Nat} {X : Nat → Prop} {w : World} (hn3 : n ≤ 3) (hX : ∀ b, X b → b < w.heap.size) (x1 : ¬ X bn) (hnw : n₀ ≤ w.heap.size) (hbn : Blk w bn 3 #[.int .i64 (n : Int)]) :
    Seqs Tryd.prog 111 #[.pointer (some ⟨bn, 0, none⟩)] n₀ X (fun x v W => SlI W v x) (runsL n) w := by
  intro lid J Jx W hE hJ hJx hY h0
  have hsz := hE.size
  have hE4 : Ext W ((W.alloc (.cells #[.func (.yield lid) #[] #[]] 177)).alloc (.cells #[.func (.func 112) #[] #[.pointer (some ⟨bn, 0, none⟩), .pointer (some ⟨W.heap.size, 0, none⟩), .pointer (some ⟨W.heap.size + 1, 0, none⟩)]] 177)) := (Ext.al _ _).alloc _
  have HPA := Lib.hid (next_any (fid := 112) (lid := lid) (bn := bn) (by' := W.heap.size) (bp := W.heap.size + 1) (n := n) (n₀ := n₀) (x₀ := w.heap.size) (X := X) (J := J) (Jx := Jx) (tot := runsL n)
    rfl hn3 hX x1 (fun h => by have := hX _ h; omega) (fun h => by have := hX _ h; omega) hJ hY n)
  obtain ⟨w4, hw4⟩ : ∃ w4, w4 = ((W.alloc (.cells #[.func (.yield lid) #[] #[]] 177)).alloc (.cells #[.func (.func 112) #[] #[.pointer (some ⟨bn, 0, none⟩), .pointer (some ⟨W.heap.size, 0, none⟩), .pointer (some ⟨W.heap.size + 1, 0, none⟩)]] 177)) := ⟨_, rfl⟩
  rw [← hw4] at hE4
  have hbn4 := (hbn.ext hE).ext hE4
  have hy4 : w4.cell? ⟨W.heap.size, 0, none⟩ = some (.func (.yield lid) #[] #[]) := by rw [hw4]; simp [go_sem]
  have hp4 : w4.cell? ⟨W.heap.size + 1, 0, none⟩ = some (.func (.func 112) #[] #[.pointer (some ⟨bn, 0, none⟩), .pointer (some ⟨W.heap.size, 0, none⟩), .pointer (some ⟨W.heap.size + 1, 0, none⟩)]) := by rw [hw4]; simp [go_sem]
  have HPM := Lib.hid (show RMl 112 lid bn W.heap.size (W.heap.size + 1) n w4 from ⟨hbn4.c1.1, hy4, hp4⟩)
  have HJ4 := Lib.hid (hJ _ _ _ h0 hE4)
  have hz4 := hE4.size
  have HIC := Lib.hid (HPA.out [] none 0 0 [] w4 (by simp) (Sl.nil _) (fun b o e => by cases e) HPM.out HJ4.out (by omega) (by omega) (by rw [List.nil_append]; exact List.prefix_refl _))
  have HRL := Lib.hid (show runsF n n [] = runsL n from rfl)
  clear HPA hbn hE hE4 hJ hJx hY h0 hbn4 hX hz4
  go_enter Tryd.func111, Tryd.ntmps111
  go_wp2_with fail
  rw [← hw4]
  refine HIC.out.mono ?_
  rintro e w' (⟨rfl, k1, k2⟩ | ⟨rfl, q', k1, k2⟩)
  · rw [HRL.out, List.nil_append] at k1
    have K1 := Lib.hid k1
    clear k1 k2
    go_wp2
    go_end0
    exact ⟨⟨_, rfl⟩, .inl K1.out⟩
  · rw [HRL.out] at k1
    rw [List.nil_append] at k2
    have K1 := Lib.hid k1; have K2 := Lib.hid k2
    clear k1 k2
    go_wp2
    go_end0
    exact ⟨⟨_, rfl⟩, .inr ⟨q', K1.out, K2.out⟩⟩
end Go.Proofs.YtkpengeaolcjhaaDoor
/- mill's runs: the sequence is made. -/
namespace Go.Proofs.YtkpengeaolcjhaaDoor
open Go.RowKit Go.Shelf Go.Lib
set_option maxRecDepth 100000
set_option linter.unusedSimpArgs false

theorem runs_any (n : Int) (w : World) : Calls Tryd.prog 67 #[.int .i64 n] w fun e w' => e = .returned (.func (.func 111) #[] #[.pointer (some ⟨w.heap.size, 0, none⟩)]) ∧ Blk w' w.heap.size 3 #[.int .i64 n] ∧ Ext w w' := by
  have hmf := hmf Tryd.prog
  go_enter Tryd.func67, Tryd.ntmps67
  go_wp2
  go_ret
  exact ⟨rfl, Blk.new _ _ _, Ext.al _ _⟩
end Go.Proofs.YtkpengeaolcjhaaDoor
/- The exchanges that the two loops have yielded: plain. -/
namespace Go.Proofs.YtkpengeaolcjhaaDoor
open Go.RowKit Go.Shelf
set_option linter.unusedSimpArgs false

def exCell (m : Mll) (p : List Int) (i k : Nat) : List Exg := if mayX m p i k && lessU (unev m (swapP p i k)) (unev m p) then [(i, k, unev m (swapP p i k))] else []
def exRow (m : Mll) (p : List Int) (i k : Nat) : List Exg := (List.range k).flatMap (exCell m p i)
/-- What is yielded ahead of the bale k of the round i. -/
def exTo (m : Mll) (p : List Int) (i k : Nat) : List Exg := ((List.range i).flatMap fun j => exRow m p j p.length) ++ exRow m p i k
theorem exTo_zero (m : Mll) (p : List Int) : exTo m p 0 0 = [] := rfl
theorem exTo_cell (m : Mll) (p : List Int) (i k : Nat) : exTo m p i (k + 1) = exTo m p i k ++ exCell m p i k := by
  unfold exTo exRow
  rw [List.range_succ, List.flatMap_append, ← List.append_assoc]
  simp
theorem exTo_row (m : Mll) (p : List Int) (i : Nat) : exTo m p (i + 1) 0 = exTo m p i p.length := by
  unfold exTo
  rw [List.range_succ, List.flatMap_append]
  simp [exRow]
theorem exL_to (m : Mll) (p : List Int) : exL m p = exTo m p p.length 0 := by
  unfold exL exAll exTo exRow
  rw [List.filter_flatMap]
  simp only [List.range_zero, List.flatMap_nil, List.append_nil]
  refine congrArg (fun f => List.flatMap f _) (funext fun i => ?_)
  rw [List.filter_flatMap]
  refine congrArg (fun f => List.flatMap f _) (funext fun k => ?_)
  unfold exCell
  cases mayX m p i k
  · simp
  · simp only [if_true, Bool.true_and, List.filter_cons, List.filter_nil]
theorem range_pre {α : Type} (f : Nat → List α) {a b : Nat} (h : a ≤ b) : (List.range a).flatMap f <+: (List.range b).flatMap f := by
  induction b with
  | zero => obtain rfl : a = 0 := by omega
            exact List.prefix_refl _
  | succ b ih =>
    by_cases hk : a = b + 1
    · rw [hk]; exact List.prefix_refl _
    · exact (ih (by omega)).trans (by rw [List.range_succ, List.flatMap_append]; exact List.prefix_append _ _)
theorem exTo_pre {m : Mll} {p : List Int} {i k : Nat} (hi : i < p.length) (hk : k ≤ p.length) : exTo m p i k <+: exL m p := by
  have h1 : exTo m p i k <+: exTo m p (i + 1) 0 := by
    rw [exTo_row]
    unfold exTo
    exact (List.prefix_append_right_inj _).2 (range_pre _ hk)
  refine h1.trans ?_
  rw [exL_to]
  unfold exTo exRow
  simp only [List.range_zero, List.flatMap_nil, List.append_nil]
  exact range_pre _ (by omega)
end Go.Proofs.YtkpengeaolcjhaaDoor
/- mill's exchanges: what the sequence yields. -/
namespace Go.Proofs.YtkpengeaolcjhaaDoor
open Go.RowKit Go.Shelf Go.Lib
set_option maxRecDepth 100000
set_option linter.unusedSimpArgs false

set_option maxHeartbeats 8000000 in
theorem exchanges1_seqs {lt n c n2 c2 m nn bp bt bu : Nat} {size : Int} {l : List Rc} {p : List Int} {A A2 : Option Addr} {X : Nat → Prop} {w : World} (hm : Mok (mOf lt size l)) (ho : okPlan (mOf lt size l) p = true) (hs : SlC w (.slice A n c) l) (hp : SlI w (.slice A2 n2 c2) p)
    (hB1 : Blk w bp 27 #[.slice A2 n2 c2]) (hB2 : Blk w bt 87 #[.int .i64 (lt : Int), .int .i64 size, .slice A n c, .map (some m)]) (hB3 : Blk w bu 99 #[.int .i64 (unev (mOf lt size l) p).1, .int .i64 (unev (mOf lt size l) p).2]) (hmp : MapB w m nn (fitTo l l.length)) :
    Seqs Tryd.prog 108 #[.pointer (some ⟨bp, 0, none⟩), .pointer (some ⟨bt, 0, none⟩), .pointer (some ⟨bu, 0, none⟩)] w.heap.size X (fun (x : Exg) v _ => v = valX x) (exL (mOf lt size l) p) w := by
  intro l' J Jx W0 hE hJ hJx hY h0
  obtain ⟨A', n', cp', e1, hn, hlc, hcm⟩ := hp.form
  injection e1 with e1 e2 e3
  subst e1 e2 e3
  have HM := Lib.hid hm; have HO := Lib.hid ho; have HS := Lib.hid hs; have HP := Lib.hid hp; have HB1 := Lib.hid hB1; have HB2 := Lib.hid hB2; have HB3 := Lib.hid hB3; have HMP := Lib.hid hmp
  have HY := Lib.hid hY; have HJ := Lib.hid hJ; have HJX := Lib.hid hJx; have H0 := Lib.hid h0; have E0 := Lib.hid hE
  have HL2 := Lib.hid (show p.length = n2 from hn.out.symm)
  have HPO := Lib.hid (plan_of_ok hm ho)
  have HPL := Lib.hid (show p.length = l.length from (pok_of hm (plan_of_ok hm ho)).len)
  have hz0 := hE.size
  have hn7 : n2 ≤ 7 := by have h1 := (plans_mem hm (plan_of_ok hm ho)).1; have h2 := hm.n7; have := hn.out; omega
  obtain ⟨b0, bf, bl⟩ := (hB1.ext hE).c1
  clear hm ho hs hp hB1 hB2 hB3 hmp hY hJ hJx h0 hE hn
  go_enter Tryd.func108, Tryd.ntmps108
  go_wp2
  clear b0 bf bl
  refine wp_loop_ghost_k (fun g A' W => ∃ (i : Nat), i ≤ n2 ∧ n2 - i ≤ g ∧ Fr 65 [(0, .func (.yield l') #[] #[]), (1, .pointer (some ⟨bp, 0, none⟩)), (2, .pointer (some ⟨bt, 0, none⟩)), (3, .pointer (some ⟨bu, 0, none⟩)), (11, .slice A2 n2 c2), (12, .int .i64 (n2 : Int)), (13, .int .i64 (i : Int))] [] A' ∧
    Keep w.heap.size X W0 W ∧ J (exTo (mOf lt size l) p i 0) W) n2 ?_ ?_
  · exact ⟨0, by omega, by omega, ⟨rfl, rfl, by simp [Act.eval]⟩, Keep.refl _, by simpa [exTo_zero] using H0.out⟩
  · rintro g A' U ⟨i, hi, hg, hF, hK, hJK⟩ J2 K' hJ2 hK'
    have HJ2 := Lib.hid hJ2; have HK := Lib.hid hK; have HJK := Lib.hid hJK
    have EU := Lib.hid (show Ext w U from Below.trans E0.out hK.b)
    have hzU := EU.out.size
    obtain ⟨ρ, rfl, hρ⟩ := hF.open_
    simp only [List.forall_mem_cons] at hρ
    obtain ⟨r0, r1, r2, r3, r11, r12, r13, -⟩ := hρ
    simp only [lst, Nat.reduceAdd, r0, r1, r2, r3, r11, r12, r13]
    clear r0 r1 r2 r3 r11 r12 r13 hF hK hJK hJ2
    by_cases hlt : i < n2
    · have hltz : (i : Int) < (n2 : Int) := by omega
      obtain ⟨b9, off9, x, rfl, hx, -, hcell⟩ := (HP.out.ext EU.out).at_ hlt
      have c9 := SlI.cell hcell (Ext.refl _)
      obtain ⟨b0, bf, bl⟩ := (HB1.out.ext EU.out).c1
      have HX := Lib.hid hx
      clear hx hcell
      go_wp2
      clear b0 bf bl c9
      refine wp_loop_ghost_k (fun g A' V => ∃ (k : Nat), k ≤ n2 ∧ n2 - k ≤ g ∧ Fr 65 [(0, .func (.yield l') #[] #[]), (1, .pointer (some ⟨bp, 0, none⟩)), (2, .pointer (some ⟨bt, 0, none⟩)), (3, .pointer (some ⟨bu, 0, none⟩)), (5, .int .i64 (i : Int)), (6, .int .i64 x), (11, .slice (some ⟨b9, off9, none⟩) n2 c2), (12, .int .i64 (n2 : Int)), (13, .int .i64 (i : Int)), (18, .slice (some ⟨b9, off9, none⟩) n2 c2), (19, .int .i64 (n2 : Int)), (20, .int .i64 (k : Int))] [] A' ∧
        Keep w.heap.size X W0 V ∧ J (exTo (mOf lt size l) p i k) V) n2 ?_ ?_
      · exact ⟨0, by omega, by omega, ⟨rfl, rfl, by simp [Act.eval]⟩, HK.out, HJK.out⟩
      · rintro g2 A3 V ⟨k, hk, hg2, hF, hK, hJK⟩ J3 K3 hJ3 hK3
        have HJ3 := Lib.hid hJ3; have HKV := Lib.hid hK; have HJV := Lib.hid hJK
        have EV := Lib.hid (show Ext w V from Below.trans E0.out hK.b)
        have hzV := EV.out.size
        obtain ⟨ρ, rfl, hρ⟩ := hF.open_
        simp only [List.forall_mem_cons] at hρ
        obtain ⟨r0, r1, r2, r3, r5, r6, r11, r12, r13, r18, r19, r20, -⟩ := hρ
        simp only [lst, Nat.reduceAdd, r0, r1, r2, r3, r5, r6, r11, r12, r13, r18, r19, r20]
        clear r0 r1 r2 r3 r5 r6 r11 r12 r13 r18 r19 r20 hF hK hJK hJ3 HK HJK
        by_cases hlk : k < n2
        · have hlkz : (k : Int) < (n2 : Int) := by omega
          obtain ⟨b8, off8, y, e8, hy, -, hcelly⟩ := (HP.out.ext EV.out).at_ hlk
          injection e8 with e8
          injection e8 with e81 e82
          subst e81 e82
          have c8 := SlI.cell hcelly (Ext.refl _)
          have HYY := Lib.hid hy
          have HC1 := Lib.hid (exTo_cell (mOf lt size l) p i k)
          obtain ⟨bv, hbv⟩ : ∃ bv, fitTo l l.length (k : Int) = bv := ⟨_, rfl⟩
          have HMY := Lib.hid (show mayX (mOf lt size l) p i k = (!(decide (x = 0) || !decide (y = 0)) && bv) by
            obtain ⟨r, hr⟩ : ∃ r, l[k]? = some r := ⟨_, List.getElem?_eq_getElem (by have := HPL.out; have := HL2.out; omega)⟩
            unfold mayX
            rw [HX.out, hy, ← hbv, fitTo_at hr]
            simp [fitL, mOf, hr])
          have HLK := Lib.hid (show (Instr.lookup 85 (.map (some m)) (.int .i64 (k : Int)) false).run Tryd.prog V = .ok (.bool bv) V by
            have := (HMP.out.ext EV.out).look (k := (k : Int)) (by unfold In64; omega)
            rwa [hbv] at this)
          have lk := HLK.out
          obtain ⟨d0, d1, d2, d3, df, dl⟩ := (HB2.out.ext EV.out).c4
          clear hy hcelly hbv
          by_cases hx0 : x = 0
          · have HNO := Lib.hid (show exCell (mOf lt size l) p i k = [] by unfold exCell; rw [HMY.out]; simp [hx0])
            go_wp2
            exact Handed.intro (n2 - (k + 1)) (by omega) (HJ3.out _ _ _ ⟨k + 1, by omega, Nat.le_refl _, ⟨rfl, rfl, by simp [Act.eval, hx0]⟩, HKV.out, by rw [HC1.out, HNO.out, List.append_nil]; exact HJV.out⟩)
          · by_cases hy0 : y = 0
            · cases bv with
              | false =>
                have HNO := Lib.hid (show exCell (mOf lt size l) p i k = [] by unfold exCell; rw [HMY.out]; simp)
                go_wp2
                exact Handed.intro (n2 - (k + 1)) (by omega) (HJ3.out _ _ _ ⟨k + 1, by omega, Nat.le_refl _, ⟨rfl, rfl, by simp [Act.eval]⟩, HKV.out, by rw [HC1.out, HNO.out, List.append_nil]; exact HJV.out⟩)
              | true =>
                obtain ⟨b0, bf, bl⟩ := (HB1.out.ext EV.out).c1
                have HYES := Lib.hid (show mayX (mOf lt size l) p i k = true by rw [HMY.out]; simp [hx0, hy0])
                have HX0 := Lib.hid hx0; have HY0 := Lib.hid hy0
                go_wp2_with fail
                refine (cloneI_any _ _ V (HP.out.ext EV.out) (by have := HL2.out; omega)).mono ?_
                rintro e V1 ⟨v', rfl, hN, hE⟩
                obtain ⟨go', cap, rfl, hg', hO⟩ := OwB.of hN.1 (by have := HL2.out; omega)
                have HE1 := Lib.hid hE; have HO1 := Lib.hid hO; have HG1 := Lib.hid hg'
                clear hN hE hO b0 bf bl c8 lk
                obtain ⟨z0, z1, z2⟩ := HO1.out.cell HX.out
                obtain ⟨z3, z4, z5⟩ := HO1.out.cell HYY.out
                have hik : i ≠ k := by
                  rintro rfl
                  have h := HX.out
                  rw [HYY.out] at h
                  injection h with h
                  exact HX0.out (by rw [← h]; exact HY0.out)
                obtain ⟨s0, s1, s2⟩ := (HO1.out.set 0 (i := i)).cell (show (p.set i 0)[k]? = some y by rw [List.getElem?_set_ne hik]; exact HYY.out)
                rw [HL2.out]
                go_upto_region 9 with (fail)
                clear s0 s1 s2
                clear z0 z1 z2 z3 z4 z5
                have hlc := (HB2.out.ext EV.out).lt
                have hu3 := (HB3.out.ext EV.out).lt
                obtain ⟨w2, hw2⟩ : ∃ w2, w2 = (V1.setCell ⟨go', i, none⟩ (.int .i64 0)).setCell ⟨go', k, none⟩ (.int .i64 x) := ⟨_, rfl⟩
                rw [← hw2]
                have HO2 := Lib.hid (show OwB go' cap (swapP p i k) w2 by
                  rw [hw2]; unfold swapP; rw [HX.out]; exact (HO1.out.set 0).set x)
                have HE2 := Lib.hid (show Ext V w2 from hw2 ▸ (HE1.out.setCell (by dsimp only; exact HG1.out) _).setCell (by dsimp only; exact HG1.out) _)
                clear hw2
                have HSW := Lib.hid (show SlI w2 (.slice (some ⟨go', 0, none⟩) n2 cap) (swapP p i k) by
                  have h := HO2.out.sl
                  rwa [show (swapP p i k).length = n2 by unfold swapP; simp [HL2.out]] at h)
                have HOK := Lib.hid (swap_ok HO.out HX.out HX0.out (by rw [HYY.out, HY0.out]) (show (fitL (mOf lt size l))[k]? = some true by
                  have h := HYES.out
                  unfold mayX at h
                  simp only [Bool.and_eq_true] at h
                  have h2 := h.2
                  cases hf : (fitL (mOf (lt : Int) size l))[k]? with
                  | none => rw [hf] at h2; cases h2
                  | some b => rw [hf] at h2; rw [show b = true from h2]))
                obtain ⟨d0, d1, d2, d3, df, dl⟩ := (HB2.out.ext (EV.out.trans HE2.out)).c4
                go_wp2_with fail
                refine (of_any lt size l (swapP p i k) _ _ (some m) _ HM.out (HS.out.ext (EV.out.trans HE2.out)) HSW.out (pok_of HM.out (plan_of_ok HM.out HOK.out))).mono ?_
                rintro e w3 ⟨rfl, hE3⟩
                obtain ⟨u, hu⟩ : ∃ u, unev (mOf lt size l) (swapP p i k) = u := ⟨_, rfl⟩
                have HU := Lib.hid hu
                rw [hu]
                have HE3 := Lib.hid (HE2.out.trans hE3)
                clear hE3 hu d0 d1 d2 d3 df dl
                obtain ⟨u0, hu0⟩ : ∃ u0, unev (mOf lt size l) p = u0 := ⟨_, rfl⟩
                have HU0 := Lib.hid hu0
                have HB3' := Lib.hid (hu0 ▸ HB3.out)
                clear hu0
                go_upto_region 10 with (fail)
                obtain ⟨w4, hw4⟩ : ∃ w4, w4 = w3.alloc (.cells #[.int .i64 u.1, .int .i64 u.2] 99) := ⟨_, rfl⟩
                rw [← hw4]
                have HE4 := Lib.hid (show Ext V w4 from hw4 ▸ HE3.out.alloc _)
                have HB4 := Lib.hid (show Blk w4 w3.heap.size 99 #[.int .i64 u.1, .int .i64 u.2] from hw4 ▸ Blk.new _ _ _)
                clear hw4
                obtain ⟨y0, y1, yf, yl⟩ := HB4.out.c2
                obtain ⟨a0, a1, af, al⟩ := (HB3'.out.ext (EV.out.trans HE4.out)).c2
                refine (wpIn_wide (n := 1)).1 ?_
                gi_wp2_with fail
                refine ⟨trivial, ?_⟩
                refine (callsIn_wide.2 (order_any u u0 w4)).mono ?_
                rintro e w5 ⟨rfl, hE5⟩
                have HE5 := Lib.hid (HE4.out.trans hE5)
                have HB5 := Lib.hid (HB4.out.ext hE5)
                clear hE5 y0 y1 yf yl a0 a1 af al
                have HLS := Lib.hid (ordU_neg u u0)
                have KE := Lib.hid (HKV.out.trans (Keep.ext HE5.out hzV)); have JE := Lib.hid (HJ.out _ _ _ HJV.out HE5.out)
                by_cases hls : ordU u u0 < 0
                · have HC2 := Lib.hid (show exCell (mOf lt size l) p i k = [(i, k, u)] by
                    unfold exCell
                    rw [HYES.out, HU.out, HU0.out, ← HLS.out]
                    simp [hls])
                  have HS1 := Lib.hid (show exTo (mOf lt size l) p i k ++ [(i, k, u)] <+: exL (mOf lt size l) p by
                    rw [← HC2.out, ← HC1.out]
                    exact exTo_pre (by have := HL2.out; omega) (by have := HL2.out; omega))
                  obtain ⟨y0, y1, yf, yl⟩ := HB5.out.c2
                  obtain ⟨fn, tmps, assign, body, hy, hR⟩ := HY.out 0 _ (i, k, u) _ _ JE.out rfl HS1.out
                  gi_wp2_with ((try refine ⟨wide_depth _, ?_⟩); refine hR.mono ?_; clear hR; rintro e W3 (⟨rfl, hJ3, hk3⟩ | ⟨rfl, hx⟩))
                  · have KW3 := Lib.hid (KE.out.trans hk3); have JW3 := Lib.hid hJ3
                    clear hJ3 hk3
                    go_wp2
                    exact Handed.intro (n2 - (k + 1)) (by omega) (HJ3.out _ _ _ ⟨k + 1, by omega, Nat.le_refl _, ⟨rfl, rfl, by simp [Act.eval]⟩, KW3.out, by rw [HC1.out, HC2.out]; exact JW3.out⟩)
                  · go_wp2
                    refine bodyPost_ret (results_none rfl _ _ _) rfl ?_
                    exact ⟨⟨_, rfl⟩, .inr ⟨_, HS1.out, hx⟩⟩
                · have HNO := Lib.hid (show exCell (mOf lt size l) p i k = [] by
                    unfold exCell
                    rw [HYES.out, HU.out, HU0.out, ← HLS.out]
                    simp [hls])
                  gi_wp2
                  refine ⟨fun _ h => (by cases h), ?_⟩
                  gi_wp2
                  go_wp2
                  exact Handed.intro (n2 - (k + 1)) (by omega) (HJ3.out _ _ _ ⟨k + 1, by omega, Nat.le_refl _, ⟨rfl, rfl, by simp [Act.eval]⟩, KE.out, by rw [HC1.out, HNO.out, List.append_nil]; exact JE.out⟩)
            · have HNO := Lib.hid (show exCell (mOf lt size l) p i k = [] by unfold exCell; rw [HMY.out]; simp [hy0])
              go_wp2
              exact Handed.intro (n2 - (k + 1)) (by omega) (HJ3.out _ _ _ ⟨k + 1, by omega, Nat.le_refl _, ⟨rfl, rfl, by simp [Act.eval]⟩, HKV.out, by rw [HC1.out, HNO.out, List.append_nil]; exact HJV.out⟩)
        · have HE := Lib.hid (show k = n2 by omega)
          have HRW := Lib.hid (exTo_row (mOf lt size l) p i)
          go_wp2
          exact Handed.intro (n2 - (i + 1)) (by omega) (HJ2.out _ _ _ ⟨i + 1, by omega, Nat.le_refl _, ⟨rfl, rfl, by simp [Act.eval]⟩, HKV.out, by rw [HRW.out, HL2.out]; have := HJV.out; rwa [HE.out] at this⟩)
    · have HE := Lib.hid (show i = n2 by omega)
      have HEX := Lib.hid (exL_to (mOf lt size l) p)
      go_wp2
      go_end0
      exact ⟨⟨_, rfl⟩, .inl (by rw [HEX.out, HL2.out]; have := HJK.out; rwa [HE.out] at this)⟩
end Go.Proofs.YtkpengeaolcjhaaDoor
/- mill.first, at exchanges. -/
namespace Go.Proofs.YtkpengeaolcjhaaDoor
open Go.RowKit Go.Shelf Go.Lib
set_option maxRecDepth 100000
set_option linter.unusedSimpArgs false
attribute [local go_sem] Oper.semAt_some

theorem store4 {wr W : World} {g : Nat} {t : TypeId} {x0 x1 x2 x3 : Value} (hg : wr.grownBy W (some g)) (h : Blk W g t #[x0, x1, x2, x3]) (y0 y1 y2 y3 : Value) :
    CR (fun W => CS wr g t 4 W) (fun W W' => RS g t #[y0, y1, y2, y3] W W') W ((((W.setCell ⟨g, 0, none⟩ y0).setCell ⟨g, 1, none⟩ y1).setCell ⟨g, 2, none⟩ y2).setCell ⟨g, 3, none⟩ y3) ∧ Blk ((((W.setCell ⟨g, 0, none⟩ y0).setCell ⟨g, 1, none⟩ y1).setCell ⟨g, 2, none⟩ y2).setCell ⟨g, 3, none⟩ y3) g t #[y0, y1, y2, y3] := by
  have hB : Blk ((((W.setCell ⟨g, 0, none⟩ y0).setCell ⟨g, 1, none⟩ y1).setCell ⟨g, 2, none⟩ y2).setCell ⟨g, 3, none⟩ y3) g t #[y0, y1, y2, y3] := by
    have := (((h.set_ 0 y0).set_ 1 y1).set_ 2 y2).set_ 3 y3
    simpa using this
  exact ⟨⟨⟨grown_set (grown_set (grown_set (grown_set hg (p := ⟨g, 0, none⟩) (.inl rfl) y0) (p := ⟨g, 1, none⟩) (.inl rfl) y1) (p := ⟨g, 2, none⟩) (.inl rfl) y2) (p := ⟨g, 3, none⟩) (.inl rfl) y3, _, hB, rfl⟩, grown_set (grown_set (grown_set (grown_set (World.grownBy.refl _ _) (p := ⟨g, 0, none⟩) (.inl rfl) y0) (p := ⟨g, 1, none⟩) (.inl rfl) y1) (p := ⟨g, 2, none⟩) (.inl rfl) y2) (p := ⟨g, 3, none⟩) (.inl rfl) y3, fun _ => hB⟩, hB⟩
set_option maxHeartbeats 2000000 in
theorem firstX_any {gf tf : FuncId} {lb tlb : Array Value} (eg : ∀ args w, (callFunc gf args).run Tryd.prog w = .ok (.enter gf args) w) (et : ∀ args w, (callFunc tf args).run Tryd.prog w = .ok (.enter tf args) w)
    {xs : List Exg} {ord : Exg → Exg → Int} {w : World} (hseq : ∀ w0, Ext w w0 → w.heap.size + 4 ≤ w0.heap.size → Seqs Tryd.prog gf lb w.heap.size (fun k => k = w.heap.size + 1 + 1 ∨ k = w.heap.size + 1 + 1 + 1) (fun (x : Exg) v _ => v = valX x) xs w0)
    (htest : ∀ x ∈ xs, ∀ y ∈ xs, ∀ W, Below w.heap.size w W → Calls Tryd.prog tf (#[valX x, valX y] ++ tlb) W fun e W' => e = .returned (.int .i64 (ord x y)) ∧ Ext W W') :
    Calls Tryd.prog 57 #[.func (.func gf) #[] lb, .func (.func tf) #[] tlb] w fun e w' => e = .returned (.tuple #[valX ((firstM (lessO ord) xs).getD (0, 0, 0, 0)), .bool (firstM (lessO ord) xs).isSome]) ∧ Below w.heap.size w w' := by
  refine calls_of_wp_marks Tryd.func57 rfl ?_
  simp only [Tryd.ntmps57, List.size_toArray, List.length_cons, List.length_nil, Nat.reduceAdd, Nat.reduceSub, Array.replicate_succ, Array.replicate_zero, List.push_toArray, List.append_toArray, List.nil_append, List.cons_append]
  go_wp2_with fail
  generalize hw3 : ((((w.alloc (.cells #[.func (.func tf) #[] tlb] 119)).alloc (.cells #[.int .i64 0, .int .i64 0, .int .i64 0, .int .i64 0] 110)).alloc (.cells #[.int .i64 0, .int .i64 0, .int .i64 0, .int .i64 0] 110)).alloc (.cells #[.bool false] 4)) = w3
  have E3 : Ext w w3 := by rw [← hw3]; exact (((Ext.al _ _).alloc _).alloc _).alloc _
  have hz3 : w3.heap.size = w.heap.size + 4 := by rw [← hw3]; simp
  have B0 : Blk w3 w.heap.size 119 #[.func (.func tf) #[] tlb] := by rw [← hw3]; exact (((Blk.new _ _ _).alloc _).alloc _).alloc _
  have BR : Blk w3 (w.heap.size + 1) 110 #[.int .i64 0, .int .i64 0, .int .i64 0, .int .i64 0] := by rw [← hw3]; exact ((Blk.at_ (by simp)).alloc _).alloc _
  have B1 : Blk w3 (w.heap.size + 1 + 1) 110 #[.int .i64 0, .int .i64 0, .int .i64 0, .int .i64 0] := by rw [← hw3]; exact (Blk.at_ (by simp)).alloc _
  have B2 : Blk w3 (w.heap.size + 1 + 1 + 1) 4 #[.bool false] := by rw [← hw3]; exact Blk.at_ (by simp)
  have hS0 := hseq w3 E3 (by omega)
  refine wp_rangeFuncB (by rfl) eg hS0 (Ext.refl _) (by omega)
    (fun pre W => Blk W w.heap.size 119 #[.func (.func tf) #[] tlb] ∧ Blk W (w.heap.size + 1 + 1) 110 #[.int .i64 ((firstM (lessO ord) pre).getD (0, 0, 0, 0)).1, .int .i64 ((firstM (lessO ord) pre).getD (0, 0, 0, 0)).2.1, .int .i64 ((firstM (lessO ord) pre).getD (0, 0, 0, 0)).2.2.1, .int .i64 ((firstM (lessO ord) pre).getD (0, 0, 0, 0)).2.2.2] ∧ Blk W (w.heap.size + 1 + 1 + 1) 4 #[.bool (firstM (lessO ord) pre).isSome] ∧ Below w.heap.size w W ∧ Blk W (w.heap.size + 1) 110 #[.int .i64 0, .int .i64 0, .int .i64 0, .int .i64 0])
    (fun _ _ _ => False)
    ?_ ?_ ?_ (fun x _ A W => ∃ g, w3.heap.size + 1 < g ∧ Blk W g 110 #[.int .i64 x.1, .int .i64 x.2.1, .int .i64 x.2.2.1, .int .i64 x.2.2.2] ∧ A = { tmps := #[.func (.func gf) #[] lb, .func (.func tf) #[] tlb, undef, .pointer (some ⟨w.heap.size, 0, none⟩), .pointer (some ⟨w.heap.size + 1, 0, none⟩), .bool false, .pointer (some ⟨w.heap.size + 1 + 1, 0, none⟩), .pointer (some ⟨w.heap.size + 1 + 1 + 1, 0, none⟩), .pointer (some ⟨g, 0, none⟩), .func (.func gf) #[] lb, valX x, undef, undef, undef, undef, undef, undef, undef, undef, undef, undef, undef, undef], defers := [] }) ?_ ?_ ?_ ?_ ?_
  · rintro pre A B ⟨h2, h3, h4, h5, h6⟩ hA hT
    exact ⟨h2.turn hT (by omega) (by omega), h3.turn hT (by omega) (by omega), h4.turn hT (by omega) (by omega), hT.below h5 (by omega) (by omega), h6.turn hT (by omega) (by omega)⟩
  · rintro c pre A B h
    exact h.elim
  · intro W hW
    exact ⟨B0.ext hW, B1.ext hW, B2.ext hW, E3.trans hW, BR.ext hW⟩
  · rintro x v A W W' ⟨g, h1, h2, h3⟩ _ hT
    exact ⟨g, h1, h2.turn hT (by omega) (by omega), h3⟩
  · rintro m l pre x v W K hi hv hpre hlt hK
    subst hv
    clear hi
    gi_wp2
    exact hK _ _ (Ext.al _ _) ⟨W.heap.size, by omega, Blk.new _ _ _, rfl⟩
  · rintro m l pre x v A W ⟨h2, h3, h4, h5, h6⟩ ⟨g, hg, hB, rfl⟩ hpre hlt hd hr
    have hx : x ∈ xs := by
      obtain ⟨q, hq⟩ := hpre
      rw [← hq]; simp
    have hpx : ∀ y ∈ pre, y ∈ xs := by
      obtain ⟨q, hq⟩ := hpre
      intro y hy
      rw [← hq]; simp [hy]
    have H2 := Lib.hid h2; have H3 := Lib.hid h3; have H4 := Lib.hid h4; have H5 := Lib.hid h5; have H6 := Lib.hid h6; have HBX := Lib.hid hB
    have HS := Lib.hid (firstM_snoc (lessO ord) pre x)
    obtain ⟨x0, -, l0⟩ := H2.out.c1
    obtain ⟨x1, x1', x12, x13, f1, l1⟩ := H3.out.c4
    obtain ⟨x2, f2, l2⟩ := H4.out.c1
    obtain ⟨y0, y1, y2, y3, yf, yl⟩ := HBX.out.c4
    have HLT := Lib.hid hlt; have HG := Lib.hid hg
    have HPX := Lib.hid hpx; have HXX := Lib.hid hx
    have HTE := Lib.hid htest
    clear hpre hd hr h2 h3 h4 h5 h6 hB B0 B1 B2 BR hseq hS0 hlt hpx hx htest
    cases hacc : firstM (lessO ord) pre with
    | none =>
      rw [hacc] at x1 x1' x12 x13 x2
      have HSN := Lib.hid (show firstM (lessO ord) (pre ++ [x]) = some x by rw [HS.out, hacc]; rfl)
      clear hacc
      simp only [Option.getD, Option.isSome] at x1 x1' x12 x13 x2
      gi_wp2
      refine ⟨fun _ h => (by cases h), ?_⟩
      gi_wp2
      have hw := H5.out.size
      have hlt := HLT.out
      have he := Below.size (Ext.refl W)
      refine ⟨(((((Keep.ext (Ext.refl W) hw).setCell (by dsimp only; omega) (.inl (by dsimp only)) _).setCell (by dsimp only; omega) (.inl (by dsimp only)) _).setCell (by dsimp only; omega) (.inl (by dsimp only)) _).setCell (by dsimp only; omega) (.inl (by dsimp only)) _).setCell (by dsimp only; omega) (.inr (by dsimp only)) _, ?_, ?_, (((((H2.out.ext (Ext.refl W)).far (by dsimp only; omega) _).far (by dsimp only; omega) _).far (by dsimp only; omega) _).far (by dsimp only; omega) _).far (by dsimp only; omega) _, ?_, ?_, (((((H5.out.trans (Below.mono (Ext.refl W) hw)).setCell (by dsimp only; omega) _).setCell (by dsimp only; omega) _).setCell (by dsimp only; omega) _).setCell (by dsimp only; omega) _).setCell (by dsimp only; omega) _, (((((H6.out.ext (Ext.refl W)).far (by dsimp only; omega) _).far (by dsimp only; omega) _).far (by dsimp only; omega) _).far (by dsimp only; omega) _).far (by dsimp only; omega) _⟩
      · exact (Below.heap_setCell _ _ _ _ (by dsimp only; omega)).trans ((Below.heap_setCell _ _ _ _ (by dsimp only; omega)).trans ((Below.heap_setCell _ _ _ _ (by dsimp only; omega)).trans ((Below.heap_setCell _ _ _ _ (by dsimp only; omega)).trans ((Below.heap_setCell _ _ _ _ (by dsimp only; omega)).trans (Below.block (Ext.refl W) _ (by omega))))))
      · exact (Below.heap_setCell _ _ _ _ (by dsimp only; omega)).trans ((Below.heap_setCell _ _ _ _ (by dsimp only; omega)).trans ((Below.heap_setCell _ _ _ _ (by dsimp only; omega)).trans ((Below.heap_setCell _ _ _ _ (by dsimp only; omega)).trans ((Below.heap_setCell _ _ _ _ (by dsimp only; omega)).trans (Below.block (Ext.refl W) _ (by omega))))))
      · rw [HSN.out]; exact (((((H3.out.ext (Ext.refl W)).set_ 0 _).set_ 1 _).set_ 2 _).set_ 3 _).far (by dsimp only; omega) _
      · rw [HSN.out]; exact (((((H4.out.ext (Ext.refl W)).far (by dsimp only; omega) _).far (by dsimp only; omega) _).far (by dsimp only; omega) _).far (by dsimp only; omega) _).set_ 0 _
    | some b =>
      rw [hacc] at x1 x1' x12 x13 x2
      have hb : b ∈ pre := by
        rcases firstM_mem (lessO ord) pre none b hacc with h | h
        · exact h
        · cases h
      have HTB := Lib.hid (HTE.out x HXX.out b (HPX.out b hb) W H5.out)
      have HSN := Lib.hid (show firstM (lessO ord) (pre ++ [x]) = if ord x b < 0 then some x else some b by
        rw [HS.out, hacc]; show (if lessO ord x b = true then _ else _) = _; by_cases h : ord x b < 0 <;> simp [h])
      have HAC := Lib.hid hacc
      clear hacc hb
      simp only [Option.getD, Option.isSome] at x1 x1' x12 x13 x2
      gi_wp2_with fail
      refine ⟨trivial, wide_depth _, ?_⟩
      refine (CallsIn.inRound l (callsIn_wide.2 HTB.out)).mono ?_
      rintro e W1 ⟨rfl, hE⟩
      have HE := Lib.hid hE
      clear hE x0 x1 x1' x12 x13 f1 l1 x2 f2 l2 y0 y1 y2 y3 yf yl
      obtain ⟨x1, x1', x12, x13, f1, l1⟩ := (H3.out.ext HE.out).c4
      obtain ⟨x2, f2, l2⟩ := (H4.out.ext HE.out).c1
      obtain ⟨y0, y1, y2, y3, yf, yl⟩ := (HBX.out.ext HE.out).c4
      by_cases hlt : ord x b < 0
      · have HSM := Lib.hid (show firstM (lessO ord) (pre ++ [x]) = some x by rw [HSN.out, if_pos hlt])
        gi_wp2
        have hw := H5.out.size
        have hlt := HLT.out
        have he := Below.size (HE.out)
        refine ⟨(((((Keep.ext (HE.out) hw).setCell (by dsimp only; omega) (.inl (by dsimp only)) _).setCell (by dsimp only; omega) (.inl (by dsimp only)) _).setCell (by dsimp only; omega) (.inl (by dsimp only)) _).setCell (by dsimp only; omega) (.inl (by dsimp only)) _).setCell (by dsimp only; omega) (.inr (by dsimp only)) _, ?_, ?_, (((((H2.out.ext (HE.out)).far (by dsimp only; omega) _).far (by dsimp only; omega) _).far (by dsimp only; omega) _).far (by dsimp only; omega) _).far (by dsimp only; omega) _, ?_, ?_, (((((H5.out.trans (Below.mono (HE.out) hw)).setCell (by dsimp only; omega) _).setCell (by dsimp only; omega) _).setCell (by dsimp only; omega) _).setCell (by dsimp only; omega) _).setCell (by dsimp only; omega) _, (((((H6.out.ext (HE.out)).far (by dsimp only; omega) _).far (by dsimp only; omega) _).far (by dsimp only; omega) _).far (by dsimp only; omega) _).far (by dsimp only; omega) _⟩
        · exact (Below.heap_setCell _ _ _ _ (by dsimp only; omega)).trans ((Below.heap_setCell _ _ _ _ (by dsimp only; omega)).trans ((Below.heap_setCell _ _ _ _ (by dsimp only; omega)).trans ((Below.heap_setCell _ _ _ _ (by dsimp only; omega)).trans ((Below.heap_setCell _ _ _ _ (by dsimp only; omega)).trans (Below.block (HE.out) _ (by omega))))))
        · exact (Below.heap_setCell _ _ _ _ (by dsimp only; omega)).trans ((Below.heap_setCell _ _ _ _ (by dsimp only; omega)).trans ((Below.heap_setCell _ _ _ _ (by dsimp only; omega)).trans ((Below.heap_setCell _ _ _ _ (by dsimp only; omega)).trans ((Below.heap_setCell _ _ _ _ (by dsimp only; omega)).trans (Below.block (HE.out) _ (by omega))))))
        · rw [HSM.out]; exact (((((H3.out.ext (HE.out)).set_ 0 _).set_ 1 _).set_ 2 _).set_ 3 _).far (by dsimp only; omega) _
        · rw [HSM.out]; exact (((((H4.out.ext (HE.out)).far (by dsimp only; omega) _).far (by dsimp only; omega) _).far (by dsimp only; omega) _).far (by dsimp only; omega) _).set_ 0 _
      · have HSM := Lib.hid (show firstM (lessO ord) (pre ++ [x]) = some b by rw [HSN.out, if_neg hlt])
        gi_wp2
        have hw := H5.out.size
        have hlt := HLT.out
        exact ⟨Keep.ext HE.out hw, HE.out.block _ (by omega), HE.out.block _ (by omega), H2.out.ext HE.out, by rw [HSM.out, ← HAC.out]; exact H3.out.ext HE.out, by rw [HSM.out, ← HAC.out]; exact H4.out.ext HE.out, H5.out.trans (HE.out.mono hw), H6.out.ext HE.out⟩
  · rintro V ⟨h2, h3, h4, h5, h6⟩ hlt hK
    obtain ⟨fo, hfo⟩ : ∃ fo, firstM (lessO ord) xs = fo := ⟨_, rfl⟩
    rw [hfo] at h3 h4
    have HFO := Lib.hid hfo
    clear hfo
    have H3 := Lib.hid h3; have H4 := Lib.hid h4; have H5 := Lib.hid h5; have HKK := Lib.hid hK; have H6 := Lib.hid h6
    clear h2 h3 h4 h5 h6 B0 B1 B2 BR hK hseq hS0 htest E3
    have hz := H5.out.size
    obtain ⟨a0, a1, a2, a3, -, -⟩ := H3.out.c4
    obtain ⟨d0, -, -⟩ := H4.out.c1
    have q0 := fun W (h : CS V (w.heap.size + 1) 110 4 W) => (h.cell (b := w.heap.size + 1 + 1) (by omega) (by omega) 0).trans a0
    have q1 := fun W (h : CS V (w.heap.size + 1) 110 4 W) => (h.cell (b := w.heap.size + 1 + 1) (by omega) (by omega) 1).trans a1
    have q3 := fun W (h : CS V (w.heap.size + 1) 110 4 W) => (h.cell (b := w.heap.size + 1 + 1) (by omega) (by omega) 2).trans a2
    have q4 := fun W (h : CS V (w.heap.size + 1) 110 4 W) => (h.cell (b := w.heap.size + 1 + 1) (by omega) (by omega) 3).trans a3
    have q2 := fun W (h : CS V (w.heap.size + 1) 110 4 W) => (h.cell (b := w.heap.size + 1 + 1 + 1) (by omega) (by omega) 0).trans d0
    have HST := Lib.hid (CS.start H6.out)
    clear a0 a1 a2 a3 d0
    go_wp2
    refine wp_region_tame (fun W => CS V (w.heap.size + 1) 110 4 W) (fun W W' => RS (w.heap.size + 1) 110 #[.int .i64 (fo.getD (0, 0, 0, 0)).1, .int .i64 (fo.getD (0, 0, 0, 0)).2.1, .int .i64 (fo.getD (0, 0, 0, 0)).2.2.1, .int .i64 (fo.getD (0, 0, 0, 0)).2.2.2] W W') (by kernel_rfl) 23 rfl (by decide +kernel) HST.out ?_
    repeat
      (apply tame_q rfl
       (intro ρ W hC hr hD
        obtain ⟨hrc, hrg, hrf, hrs⟩ := hr
        simp [go_sem] at hD
        go_simp
        first | exact ⟨⟨hC, RS.refl _⟩, rfl⟩ | exact rfl)
       simp only [List.nil_append, List.cons_append])
    apply tame_n (fun _ W => Blk W (w.heap.size + 1) 110 #[.int .i64 (fo.getD (0, 0, 0, 0)).1, .int .i64 (fo.getD (0, 0, 0, 0)).2.1, .int .i64 (fo.getD (0, 0, 0, 0)).2.2.1, .int .i64 (fo.getD (0, 0, 0, 0)).2.2.2]) (fun _ W W' _ hR h => hR.2 h)
    · intro ρ W hC hr hD
      obtain ⟨hrc, hrg, hrf, hrs⟩ := hr
      simp [go_sem] at hD
      obtain ⟨hg1, cs0, hB, hsz⟩ := hC
      obtain ⟨cs0⟩ := cs0
      obtain ⟨x0, x1, x2, x3, rfl⟩ : ∃ x0 x1 x2 x3, cs0 = [x0, x1, x2, x3] := by
        match cs0, hsz with
        | [x0, x1, x2, x3], _ => exact ⟨_, _, _, _, rfl⟩
      obtain ⟨b0, b1, b2, b3, bf, bl⟩ := hB.c4
      have HB := Lib.hid hB; have HG1 := Lib.hid hg1; clear hB hg1
      go_simp
      exact store4 HG1.out HB.out _ _ _ _
    simp only [List.nil_append, List.cons_append]
    repeat
      (apply tame_q rfl
       (intro ρ W hC hr hD
        obtain ⟨hrc, hrg, hrf, hrs⟩ := hr
        simp [go_sem] at hD
        go_simp
        first | exact ⟨⟨hC, RS.refl _⟩, rfl⟩ | exact rfl)
       simp only [List.nil_append, List.cons_append])
    refine tame_end 23 rfl rfl (fun ρ W hC hr hF => ?_)
    obtain ⟨hrc, hrg, hrf, hrs⟩ := hr
    have hBF : Blk W (w.heap.size + 1) 110 #[.int .i64 (fo.getD (0, 0, 0, 0)).1, .int .i64 (fo.getD (0, 0, 0, 0)).2.1, .int .i64 (fo.getD (0, 0, 0, 0)).2.2.1, .int .i64 (fo.getD (0, 0, 0, 0)).2.2.2] := hF.2.2.1
    have HBF := Lib.hid hBF; clear hBF
    simp [go_sem] at hF
    apply frame_to
    · go_simp
      exact rfl
    clear hF hrs hrc hrg hrf
    have HC := Lib.hid hC.1
    clear hC q0 q1 q2 q3 q4
    have hK' := (HC.out.block w3.heap.size (by omega) (by intro e; injection e with e; omega)).trans HKK.out
    have hbel : Below w.heap.size w W := H5.out.grown HC.out (by omega) (fun k e => by injection e with e; omega)
    obtain ⟨b0, b1, b2, b3, -, hbl⟩ := HBF.out.c4
    go_wp2
    refine ⟨by simp, .inl ⟨_, _, rfl, run_takeDeferred hK', ?_⟩⟩
    have hT := Turn.put0 (s := w3.heap.size) W (.deferred none)
    have e0 := (hT.cell (b := w.heap.size + 1) (i := 0) (by omega) hbl).trans b0
    have e1 := (hT.cell (b := w.heap.size + 1) (i := 1) (by omega) hbl).trans b1
    have e2 := (hT.cell (b := w.heap.size + 1) (i := 2) (by omega) hbl).trans b2
    have e3 := (hT.cell (b := w.heap.size + 1) (i := 3) (by omega) hbl).trans b3
    have hTB := Turn.below hbel hT (by omega) hbel.size
    clear hT b0 b1 b2 b3
    refine ⟨.tuple #[valX (fo.getD (0, 0, 0, 0)), .bool fo.isSome], ?_, by rw [HFO.out], hTB⟩
    rw [results_cell_tmp rfl]
    rw [hz3] at e0 e1 e2 e3 ⊢
    go_simp
  · rintro c pre W _ h
    exact h.elim
end Go.Proofs.YtkpengeaolcjhaaDoor
