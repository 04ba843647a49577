/- The reference's allowed. -/
import Derived.Test.YtkpengeaolcjhaaDoorPkMlJudgesCardA
import Derived.Test.YtkpengeaolcjhaaDoorPkMlJudgesCardB
namespace Go.Proofs.YtkpengeaolcjhaaDoor
open Go.RowKit Go.Shelf Go.Lib
set_option maxRecDepth 100000
set_option linter.unusedSimpArgs false

theorem info167x : (Tryd.prog.info? 167).map (fun i => (i.zero, i.size, i.bytes)) = some (some (.agg #[.int .i64 0, .int .i64 0, .int .i64 0, .int .i64 0]), 4, 32) := by kernel_rfl
theorem in_over {p : List Int} {lots lot : Int} (h : p.all (inB 0 lots) = true) (hl : lots < lot) : inLot p lot = 0 := by
  unfold inLot
  rw [List.filter_eq_nil_iff.2 fun x hx => ?_]
  · rfl
  · have := inB_iff.1 (List.all_eq_true.1 h x hx)
    simp
    omega
theorem cnt_no {p : List Int} {lt : Nat} {size lot : Int} (h3 : lt ≤ 3) (h1 : 1 ≤ lot) (h2 : lot ≤ lt) (h : inLot p lot ≠ size) : ¬ [inLot p 1, inLot p 2, inLot p 3] = fullF lt size := by
  intro e
  have e' : [inLot p 1, inLot p 2, inLot p 3] = [if 0 < lt then size else 0, if 1 < lt then size else 0, if 2 < lt then size else 0] := e
  simp only [List.cons.injEq, and_true] at e'
  obtain ⟨a, b, c⟩ := e'
  have hl : lot = 1 ∨ lot = 2 ∨ lot = 3 := by omega
  rcases hl with rfl | rfl | rfl
  · rw [if_pos (by omega)] at a; exact h a
  · rw [if_pos (by omega)] at b; exact h b
  · rw [if_pos (by omega)] at c; exact h c
theorem cnt_yes {p : List Int} {lt : Nat} {size : Int} (hp : p.all (inB 0 (lt : Int)) = true) (h : ∀ lot : Int, 1 ≤ lot → lot ≤ lt → inLot p lot = size) : [inLot p 1, inLot p 2, inLot p 3] = fullF lt size := by
  have e : ∀ i : Nat, inLot p ((i : Int) + 1) = if i < lt then size else 0 := by
    intro i
    by_cases hi : i < lt
    · rw [if_pos hi]; exact h _ (by omega) (by omega)
    · rw [if_neg hi]; exact in_over hp (by omega)
  have e0 := e 0; have e1 := e 1; have e2 := e 2
  simp only [show ((0 : Nat) : Int) + 1 = 1 from rfl, show ((1 : Nat) : Int) + 1 = 2 from rfl, show ((2 : Nat) : Int) + 1 = 3 from rfl] at e0 e1 e2
  rw [e0, e1, e2]
  rfl
/-- What stands still while allowed walks over the plan. -/
structure JaS (lots size : Int) (A : Option Addr) (n c fb : Nat) (w : World) (f0 f1 f2 f3 : Int) (W : World) : Prop where
  e : Ext w W
  b : Blk W w.heap.size 24 #[.int .i64 lots, .int .i64 size, .slice A n c]
  f : Blk W fb 167 #[.int .i64 f0, .int .i64 f1, .int .i64 f2, .int .i64 f3]
section
variable {lots size : Int} {A : Option Addr} {n c fb : Nat} {w : World} {f0 f1 f2 f3 : Int} {W : World}
theorem JaS.ext {W' : World} (h : JaS lots size A n c fb w f0 f1 f2 f3 W) (e : Ext W W') : JaS lots size A n c fb w f0 f1 f2 f3 W' := ⟨h.e.trans e, h.b.ext e, h.f.ext e⟩
theorem JaS.put0 (h : JaS lots size A n c fb w f0 f1 f2 f3 W) (h2 : w.heap.size < fb) (y : Int) : JaS lots size A n c fb w y f1 f2 f3 (W.setCell ⟨fb, 0, none⟩ (.int .i64 y)) :=
  ⟨h.e.setCell (by dsimp only; omega) _, h.b.far (by dsimp only; omega) _, by have := h.f.set_ 0 (.int .i64 y); simpa using this⟩
theorem JaS.put1 (h : JaS lots size A n c fb w f0 f1 f2 f3 W) (h2 : w.heap.size < fb) (y : Int) : JaS lots size A n c fb w f0 y f2 f3 (W.setCell ⟨fb, 1, none⟩ (.int .i64 y)) :=
  ⟨h.e.setCell (by dsimp only; omega) _, h.b.far (by dsimp only; omega) _, by have := h.f.set_ 1 (.int .i64 y); simpa using this⟩
theorem JaS.put2 (h : JaS lots size A n c fb w f0 f1 f2 f3 W) (h2 : w.heap.size < fb) (y : Int) : JaS lots size A n c fb w f0 f1 y f3 (W.setCell ⟨fb, 2, none⟩ (.int .i64 y)) :=
  ⟨h.e.setCell (by dsimp only; omega) _, h.b.far (by dsimp only; omega) _, by have := h.f.set_ 2 (.int .i64 y); simpa using this⟩
theorem JaS.put3 (h : JaS lots size A n c fb w f0 f1 f2 f3 W) (h2 : w.heap.size < fb) (y : Int) : JaS lots size A n c fb w f0 f1 f2 y (W.setCell ⟨fb, 3, none⟩ (.int .i64 y)) :=
  ⟨h.e.setCell (by dsimp only; omega) _, h.b.far (by dsimp only; omega) _, by have := h.f.set_ 3 (.int .i64 y); simpa using this⟩
end
set_option maxHeartbeats 4000000 in
theorem allowed_any (lots size : Int) (l : List Rc) (p : List Int) (sv pv : Value) (w : World) (hs : MlC w sv l) (hp : SlI w pv p) (hlen : l.length ≤ 1000) :
    Calls Tryd.prog 53 #[valM lots size sv, pv] w fun e w' => e = .returned (.int .i64 (judgeE (mOf lots size l) p)) ∧ Ext w w' := by
  have HS := Lib.hid hs; have HLN := Lib.hid hlen; have HP := Lib.hid hp
  obtain ⟨A, n, c, rfl, hn, hlc, hcm⟩ := hs.1.form
  obtain ⟨A2, n2, c2, rfl, hn2, hlc2, hcm2⟩ := hp.form
  have HL := Lib.hid (show l.length = n from hn.out.symm)
  have HL2 := Lib.hid (show p.length = n2 from hn2.out.symm)
  have hnb : n ≤ 1000 := by have := hn.out; omega
  clear hs hn hn2 hp hlen
  go_enter Tryd.func53, Tryd.ntmps53
  go_wp2_with fail
  have E0 := Lib.hid (Ext.al w (.cells #[.int .i64 lots, .int .i64 size, .slice A n c] 24))
  have B0 := Lib.hid (Blk.new w 24 #[.int .i64 lots, .int .i64 size, .slice A n c])
  refine (refMill_any lots size l _ _ (HS.out.ext E0.out)).mono ?_
  rintro e w1 ⟨rfl, hE⟩
  have E1 := Lib.hid (E0.out.trans hE); have B1 := Lib.hid (B0.out.ext hE)
  clear hE E0 B0
  rw [millR_eq]
  obtain ⟨b0, b1, b2, bf, bl⟩ := B1.out.c3
  cases hc : checkM (mOf lots size l)
  · have HC := Lib.hid hc
    clear hc
    go_wp2
    go_ret
    exact ⟨by rw [judgeE_no HC.out]; rfl, E1.out⟩
  have HC := Lib.hid hc
  clear hc
  by_cases hnn : (n2 : Int) = (n : Int)
  · have h2 : n2 = n := by omega
    subst h2
    clear hnn
    have hM := mok_of HC.out
    have hl1 : 1 ≤ lots := hM.l1
    have hl3' : lots ≤ 3 := hM.l3
    have hn7 : n2 ≤ 7 := by have h := hM.n7; simp at h; have := HL.out; omega
    clear hM
    go_wp2_with fail
    obtain ⟨w2, hw2⟩ : ∃ w2, w2 = w1.alloc (.cells #[.int .i64 0, .int .i64 0, .int .i64 0, .int .i64 0] 167) := ⟨_, rfl⟩
    rw [← hw2]
    have S2 := Lib.hid (show JaS lots size A n2 c w1.heap.size w (cntP p 0 0) (cntP p 0 1) (cntP p 0 2) (cntP p 0 3) w2 from hw2 ▸ ⟨E1.out.alloc _, B1.out.alloc _, Blk.new _ _ _⟩)
    have hfb : w.heap.size < w1.heap.size := B1.out.lt
    clear hw2 b0 b1 b2 bf bl E1 B1
    generalize hFB : w1.heap.size = fb at *
    clear hFB
    refine (fits_any lots size l _ _ (HS.out.ext S2.out.e) HLN.out).mono ?_
    rintro e w3 ⟨⟨fv, rfl, hfv⟩, hE⟩
    have S3 := Lib.hid (S2.out.ext hE)
    obtain ⟨Af, nf, cfv, rfl, hnf, hlf, hcf⟩ := (show SlBo w3 fv (fitL (mOf lots size l)) from hfv.sl (fun _ => rfl)).form
    have HFV := Lib.hid hfv
    have hnf' : nf = n2 := by have h1 := hnf.out; simp [fitL] at h1; have := HL.out; omega
    subst hnf'
    have E3 := Lib.hid (Ext.refl w3)
    clear hfv hE S2 hnf
    go_wp2
    go_loopg [23] nf (fun gg s wr => ∃ kk : Nat, kk ≤ nf ∧ nf - kk ≤ gg ∧ s = .int .i64 (kk : Int) ∧ Aside (∀ (j : Nat) (a : Int) (b : Bool), j < kk → p[j]? = some a → (fitL (mOf lots size l))[j]? = some b → 0 ≤ a ∧ a ≤ lots ∧ (0 < a → b = true)) ∧ Aside (JaS lots size A nf c fb w (cntP p kk 0) (cntP p kk 1) (cntP p kk 2) (cntP p kk 3) wr) ∧ Aside (Own encBo 4 1 wr w2.heap.size (.slice Af nf cfv) (fitL (mOf lots size l))))
    case atStart => exact ⟨0, by omega, by omega, by simp, fun j a b h => absurd h (by omega), S3.out, HFV.out⟩
    case round =>
      obtain ⟨kk, hkk, hgg, rfl, IV, S, FV⟩ := hrel
      clear S3 HFV
      obtain ⟨b0, b1, b2, bf, bl⟩ := S.out.b.c3
      obtain ⟨g0, g1, g2, g3, gf, gl⟩ := S.out.f.c4
      by_cases hlt : kk < nf
      · have hltz : (kk : Int) < (nf : Int) := by omega
        obtain ⟨x, hx⟩ : ∃ x, l[kk]? = some x := ⟨_, List.getElem?_eq_getElem (by have := HL.out; omega)⟩
        obtain ⟨bi, offi, y, rfl, hy, hb, hcell⟩ := HP.out.at_ hlt
        obtain ⟨bj, offj, z, rfl, hz, hbj, hcellj⟩ := (show SlBo wr (.slice Af nf cfv) (fitL (mOf lots size l)) from FV.out.sl (fun _ => rfl)).at_ hlt
        obtain rfl : fitB x.c = z := by rw [fit_at hx] at hz; injection hz
        have c0 := SlI.cell hcell S.out.e
        have cf := SlBo.cell hcellj (Ext.refl wr)
        clear hcell hb hcellj hz
        go_wp2_with fail
        refine (withinM_any y 0 lots _).mono ?_
        rintro e w' ⟨rfl, rfl⟩
        cases hin : inB 0 lots y
        · have HO := Lib.hid (okPlan_in (m := mOf lots size l) (p := p) (List.all_eq_false.2 ⟨y, List.mem_of_getElem? hy, by rw [show (mOf lots size l).lots = lots from rfl, hin]; decide⟩))
          clear hin
          go_wp2
          go_ret
          exact ⟨by rw [judgeE_bad HC.out HO.out]; rfl, S.out.e⟩
        · have hyr := inB_iff.1 hin
          clear hin
          have hIV : (0 < y → fitB x.c = true) → ∀ (j : Nat) (a : Int) (b : Bool), j < kk + 1 → p[j]? = some a → (fitL (mOf lots size l))[j]? = some b → 0 ≤ a ∧ a ≤ lots ∧ (0 < a → b = true) := by
            intro h j a b hj h1 h2
            by_cases he : j = kk
            · subst he
              rw [hy] at h1; rw [fit_at hx] at h2
              injection h1 with h1; injection h2 with h2
              subst h1 h2
              exact ⟨hyr.1, hyr.2, h⟩
            · exact IV.out j a b (by omega) h1 h2
          have hy4 : y = 0 ∨ y = 1 ∨ y = 2 ∨ y = 3 := by omega
          rcases hy4 with rfl | rfl | rfl | rfl
          · have hIV2 := Lib.hid (hIV (fun h => absurd h (by decide)))
            clear hIV
            have h1 := cntP_bd p kk 0
            have hw : IntKind.i64.wrap (cntP p kk 0 + 1) = cntP p kk 0 + 1 := wrap_at (by omega) (by omega)
            have hS := Lib.hid (S.out.put0 hfb (cntP p kk 0 + 1))
            have hFV := Lib.hid (FV.out.offX (offX_set (i := 0) S.out.f (.int .i64 (cntP p kk 0 + 1))) (by decide))
            clear h1
            go_wp2
            go_roundg (nf - (kk + 1))
            case measure => omega
            case rel => exact ⟨kk + 1, by omega, by omega, by simp, hIV2.out, by rw [cntP_succ hy 0, cntP_succ hy 1, cntP_succ hy 2, cntP_succ hy 3]; show JaS _ _ _ _ _ _ _ _ _ _ _ _; simpa using hS.out, hFV.out⟩
          · replace hIV := fun h => hIV (fun _ => h)
            have h1 := cntP_bd p kk (1)
            have hw : IntKind.i64.wrap (cntP p kk (1) + 1) = cntP p kk (1) + 1 := wrap_at (by omega) (by omega)
            have hS := Lib.hid (S.out.put1 hfb (cntP p kk (1) + 1))
            have hFV := Lib.hid (FV.out.offX (offX_set (i := 1) S.out.f (.int .i64 (cntP p kk (1) + 1))) (by decide))
            clear h1
            cases hfx : fitB x.c
            · have HF := Lib.hid (okPlan_fit (m := mOf lots size l) (fitOk_no hy (fit_at hx) (by decide) hfx))
              rw [hfx] at cf
              clear hfx
              go_wp2
              go_ret
              exact ⟨by rw [judgeE_bad HC.out HF.out]; rfl, S.out.e⟩
            · have HFX := Lib.hid hfx
              rw [hfx] at cf
              clear hfx
              go_wp2
              go_roundg (nf - (kk + 1))
              case measure => omega
              case rel => exact ⟨kk + 1, by omega, by omega, by simp, hIV HFX.out, by rw [cntP_succ hy 0, cntP_succ hy 1, cntP_succ hy 2, cntP_succ hy 3]; show JaS _ _ _ _ _ _ _ _ _ _ _ _; simpa using hS.out, hFV.out⟩
          · replace hIV := fun h => hIV (fun _ => h)
            have h1 := cntP_bd p kk (2)
            have hw : IntKind.i64.wrap (cntP p kk (2) + 1) = cntP p kk (2) + 1 := wrap_at (by omega) (by omega)
            have hS := Lib.hid (S.out.put2 hfb (cntP p kk (2) + 1))
            have hFV := Lib.hid (FV.out.offX (offX_set (i := 2) S.out.f (.int .i64 (cntP p kk (2) + 1))) (by decide))
            clear h1
            cases hfx : fitB x.c
            · have HF := Lib.hid (okPlan_fit (m := mOf lots size l) (fitOk_no hy (fit_at hx) (by decide) hfx))
              rw [hfx] at cf
              clear hfx
              go_wp2
              go_ret
              exact ⟨by rw [judgeE_bad HC.out HF.out]; rfl, S.out.e⟩
            · have HFX := Lib.hid hfx
              rw [hfx] at cf
              clear hfx
              go_wp2
              go_roundg (nf - (kk + 1))
              case measure => omega
              case rel => exact ⟨kk + 1, by omega, by omega, by simp, hIV HFX.out, by rw [cntP_succ hy 0, cntP_succ hy 1, cntP_succ hy 2, cntP_succ hy 3]; show JaS _ _ _ _ _ _ _ _ _ _ _ _; simpa using hS.out, hFV.out⟩
          · replace hIV := fun h => hIV (fun _ => h)
            have h1 := cntP_bd p kk (3)
            have hw : IntKind.i64.wrap (cntP p kk (3) + 1) = cntP p kk (3) + 1 := wrap_at (by omega) (by omega)
            have hS := Lib.hid (S.out.put3 hfb (cntP p kk (3) + 1))
            have hFV := Lib.hid (FV.out.offX (offX_set (i := 3) S.out.f (.int .i64 (cntP p kk (3) + 1))) (by decide))
            clear h1
            cases hfx : fitB x.c
            · have HF := Lib.hid (okPlan_fit (m := mOf lots size l) (fitOk_no hy (fit_at hx) (by decide) hfx))
              rw [hfx] at cf
              clear hfx
              go_wp2
              go_ret
              exact ⟨by rw [judgeE_bad HC.out HF.out]; rfl, S.out.e⟩
            · have HFX := Lib.hid hfx
              rw [hfx] at cf
              clear hfx
              go_wp2
              go_roundg (nf - (kk + 1))
              case measure => omega
              case rel => exact ⟨kk + 1, by omega, by omega, by simp, hIV HFX.out, by rw [cntP_succ hy 0, cntP_succ hy 1, cntP_succ hy 2, cntP_succ hy 3]; show JaS _ _ _ _ _ _ _ _ _ _ _ _; simpa using hS.out, hFV.out⟩
      · have hke : kk = nf := by omega
        subst hke
        obtain ⟨lt, rfl⟩ : ∃ lt : Nat, lots = (lt : Int) := ⟨lots.toNat, by omega⟩
        have hl3 : lt ≤ 3 := by omega
        have HFT := Lib.hid (fitOk_yes (p := p) (fit := fitL (mOf lt size l)) fun j a b h1 h2 h3 => (IV.out j a b (by have := (List.getElem?_eq_some_iff.1 h1).1; have := HL2.out; omega) h1 h2).2.2 h3)
        have HI := Lib.hid (show p.all (inB 0 (lt : Int)) = true from List.all_eq_true.2 fun y hy => by
          obtain ⟨j, hj⟩ := List.getElem?_of_mem hy
          have hjl := (List.getElem?_eq_some_iff.1 hj).1
          obtain ⟨x, hx⟩ : ∃ x, l[j]? = some x := ⟨_, List.getElem?_eq_getElem (by have := HL.out; have := HL2.out; omega)⟩
          have := IV.out j y _ (by have := HL2.out; omega) hj (fit_at hx)
          exact inB_iff.2 ⟨this.1, this.2.1⟩)
        rw [cntP_full (p := p) (k := kk) (by have := HL2.out; omega) 0, cntP_full (p := p) (k := kk) (by have := HL2.out; omega) 1, cntP_full (p := p) (k := kk) (by have := HL2.out; omega) 2, cntP_full (p := p) (k := kk) (by have := HL2.out; omega) 3] at S
        generalize hc0 : inLot p 0 = i0 at S
        generalize hc1 : inLot p 1 = i1 at S
        generalize hc2 : inLot p 2 = i2 at S
        generalize hc3 : inLot p 3 = i3 at S
        have HC1 := Lib.hid hc1; have HC2 := Lib.hid hc2; have HC3 := Lib.hid hc3
        have SA := Lib.hid S.out
        clear hc0 hc1 hc2 hc3 IV FV S b0 b1 b2 bf bl g0 g1 g2 g3 gf gl
        go_wp2
        go_loopg [9] 4 (fun gg s wr => ∃ lot : Int, 1 ≤ lot ∧ lot ≤ 4 ∧ lot ≤ (lt : Int) + 1 ∧ (4 - lot).toNat ≤ gg ∧ s = .int .i64 lot ∧ Aside (∀ i : Int, 1 ≤ i → i < lot → inLot p i = size) ∧ Aside (JaS (lt : Int) size A kk c fb w i0 i1 i2 i3 wr))
        case atStart => exact ⟨1, by omega, by omega, by omega, by omega, by simp, fun i h1 h2 => absurd h2 (by omega), SA.out⟩
        case round =>
          obtain ⟨lot, h1, h2, h3, hgg, rfl, IV, S⟩ := hrel
          clear SA
          obtain ⟨b0, b1, b2, bf, bl⟩ := S.out.b.c3
          by_cases hle : lot ≤ (lt : Int)
          · have hlt4 : lot = 1 ∨ lot = 2 ∨ lot = 3 := by omega
            rcases hlt4 with rfl | rfl | rfl
            · skip
              skip
              have m0 := fun W (h : Ext wr W) => (S.out.ext h).b.c3
              have m1 := fun W (h : Ext wr W) => (S.out.ext h).f.c4
              clear b0 b1 b2 bf bl
              have b0 := (S.out.b).c3
              obtain ⟨bq, HBQ⟩ : ∃ bq, Hid ((i1 != size) = bq) := ⟨_, Lib.hid rfl⟩
              have nq := HBQ.out
              go_wp2
              refine wp_region_tame (fun W => Ext wr W) (fun W W' => Ext W W') (by kernel_rfl) 62 rfl (by decide +kernel) (Ext.refl _).drew ?_
              repeat (apply tame_q rfl; (intro ρ W hC hr hD; (obtain ⟨hrc, hrg, hrf, hrs⟩ := hr); (simp [go_sem] at hD); go_simp; first | exact ⟨⟨hC, Ext.refl _⟩, rfl⟩ | exact ⟨⟨hC, RS.refl _⟩, rfl⟩ | exact rfl); simp only [List.nil_append, List.cons_append])
              refine tame_end_put rfl rfl (fun ρ W hC hr hF => ?_)
              simp [go_sem] at hF
              simp only [putF, hF, List.set_cons_succ, List.set_cons_zero]
              clear hF hr
              have S2 := Lib.hid (S.out.ext hC)
              clear hC m0 m1 S nq b0
              cases bq
              · have IV2 := Lib.hid (show ∀ i : Int, 1 ≤ i → i < 1 + 1 → inLot p i = size from fun i h1 h2 => by
                  by_cases he : i = 1
                  · subst he; have := HBQ.out; simp only [bne_eq_false_iff_eq] at this; rw [HC1.out]; exact this
                  · exact IV.out i h1 (by omega))
                clear IV
                go_wp2
                go_roundg (4 - (1 + 1))
                case measure => omega
                case rel => exact ⟨1 + 1, by omega, by omega, by omega, by omega, by simp, IV2.out, S2.out⟩
              · have HO := Lib.hid (okPlan_cnt (m := mOf lt size l) (p := p) (by simpa using cnt_no (lt := lt) (lot := 1) hl3 (by omega) (by omega) (by have := HBQ.out; simp only [bne_iff_ne] at this; rw [HC1.out]; exact this)))
                clear IV
                go_wp2
                go_ret
                exact ⟨by rw [judgeE_bad HC.out HO.out]; rfl, S2.out.e⟩
            · skip
              skip
              have m0 := fun W (h : Ext wr W) => (S.out.ext h).b.c3
              have m1 := fun W (h : Ext wr W) => (S.out.ext h).f.c4
              clear b0 b1 b2 bf bl
              have b0 := (S.out.b).c3
              obtain ⟨bq, HBQ⟩ : ∃ bq, Hid ((i2 != size) = bq) := ⟨_, Lib.hid rfl⟩
              have nq := HBQ.out
              go_wp2
              refine wp_region_tame (fun W => Ext wr W) (fun W W' => Ext W W') (by kernel_rfl) 62 rfl (by decide +kernel) (Ext.refl _).drew ?_
              repeat (apply tame_q rfl; (intro ρ W hC hr hD; (obtain ⟨hrc, hrg, hrf, hrs⟩ := hr); (simp [go_sem] at hD); go_simp; first | exact ⟨⟨hC, Ext.refl _⟩, rfl⟩ | exact ⟨⟨hC, RS.refl _⟩, rfl⟩ | exact rfl); simp only [List.nil_append, List.cons_append])
              refine tame_end_put rfl rfl (fun ρ W hC hr hF => ?_)
              simp [go_sem] at hF
              simp only [putF, hF, List.set_cons_succ, List.set_cons_zero]
              clear hF hr
              have S2 := Lib.hid (S.out.ext hC)
              clear hC m0 m1 S nq b0
              cases bq
              · have IV2 := Lib.hid (show ∀ i : Int, 1 ≤ i → i < 2 + 1 → inLot p i = size from fun i h1 h2 => by
                  by_cases he : i = 2
                  · subst he; have := HBQ.out; simp only [bne_eq_false_iff_eq] at this; rw [HC2.out]; exact this
                  · exact IV.out i h1 (by omega))
                clear IV
                go_wp2
                go_roundg (4 - (2 + 1))
                case measure => omega
                case rel => exact ⟨2 + 1, by omega, by omega, by omega, by omega, by simp, IV2.out, S2.out⟩
              · have HO := Lib.hid (okPlan_cnt (m := mOf lt size l) (p := p) (by simpa using cnt_no (lt := lt) (lot := 2) hl3 (by omega) (by omega) (by have := HBQ.out; simp only [bne_iff_ne] at this; rw [HC2.out]; exact this)))
                clear IV
                go_wp2
                go_ret
                exact ⟨by rw [judgeE_bad HC.out HO.out]; rfl, S2.out.e⟩
            · skip
              skip
              have m0 := fun W (h : Ext wr W) => (S.out.ext h).b.c3
              have m1 := fun W (h : Ext wr W) => (S.out.ext h).f.c4
              clear b0 b1 b2 bf bl
              have b0 := (S.out.b).c3
              obtain ⟨bq, HBQ⟩ : ∃ bq, Hid ((i3 != size) = bq) := ⟨_, Lib.hid rfl⟩
              have nq := HBQ.out
              go_wp2
              refine wp_region_tame (fun W => Ext wr W) (fun W W' => Ext W W') (by kernel_rfl) 62 rfl (by decide +kernel) (Ext.refl _).drew ?_
              repeat (apply tame_q rfl; (intro ρ W hC hr hD; (obtain ⟨hrc, hrg, hrf, hrs⟩ := hr); (simp [go_sem] at hD); go_simp; first | exact ⟨⟨hC, Ext.refl _⟩, rfl⟩ | exact ⟨⟨hC, RS.refl _⟩, rfl⟩ | exact rfl); simp only [List.nil_append, List.cons_append])
              refine tame_end_put rfl rfl (fun ρ W hC hr hF => ?_)
              simp [go_sem] at hF
              simp only [putF, hF, List.set_cons_succ, List.set_cons_zero]
              clear hF hr
              have S2 := Lib.hid (S.out.ext hC)
              clear hC m0 m1 S nq b0
              cases bq
              · have IV2 := Lib.hid (show ∀ i : Int, 1 ≤ i → i < 3 + 1 → inLot p i = size from fun i h1 h2 => by
                  by_cases he : i = 3
                  · subst he; have := HBQ.out; simp only [bne_eq_false_iff_eq] at this; rw [HC3.out]; exact this
                  · exact IV.out i h1 (by omega))
                clear IV
                go_wp2
                go_roundg (4 - (3 + 1))
                case measure => omega
                case rel => exact ⟨3 + 1, by omega, by omega, by omega, by omega, by simp, IV2.out, S2.out⟩
              · have HO := Lib.hid (okPlan_cnt (m := mOf lt size l) (p := p) (by simpa using cnt_no (lt := lt) (lot := 3) hl3 (by omega) (by omega) (by have := HBQ.out; simp only [bne_iff_ne] at this; rw [HC3.out]; exact this)))
                clear IV
                go_wp2
                go_ret
                exact ⟨by rw [judgeE_bad HC.out HO.out]; rfl, S2.out.e⟩
          · have HO := Lib.hid (okPlan_yes (m := mOf lt size l) (p := p) (by simp; have := HL.out; have := HL2.out; omega) HI.out HFT.out (by simpa using cnt_yes (size := size) HI.out fun i k1 k2 => IV.out i k1 (by omega)))
            go_wp2
            go_ret
            exact ⟨by rw [judgeE_ok HC.out HO.out]; rfl, S.out.e⟩
  · have HN := Lib.hid (okPlan_len (m := mOf lots size l) (p := p) (by simp; have := HL.out; have := HL2.out; omega))
    go_wp2
    go_ret
    exact ⟨by rw [judgeE_bad HC.out HN.out]; rfl, E1.out⟩
end Go.Proofs.YtkpengeaolcjhaaDoor
/- Judge, of both. -/
namespace Go.Proofs.YtkpengeaolcjhaaDoor
open Go.RowKit Go.Shelf Go.Lib
set_option maxRecDepth 100000
set_option linter.unusedSimpArgs false

theorem judgeE_zero {m : Mll} {p : List Int} (h : judgeE m p = 0) : checkM m = true ∧ okPlan m p = true := by
  unfold judgeE at h
  cases hc : checkM m
  · rw [hc] at h; simp at h
  · cases ho : okPlan m p
    · rw [hc, ho] at h; simp at h
    · exact ⟨rfl, rfl⟩
def judU (m : Mll) (p : List Int) : Int × Int := if judgeE m p = 0 then unev m p else (0, 0)
theorem judU_ok {m : Mll} {p : List Int} (h : judgeE m p = 0) : judU m p = unev m p := if_pos h
theorem judU_no {m : Mll} {p : List Int} (h : judgeE m p ≠ 0) : judU m p = (0, 0) := if_neg h
set_option maxHeartbeats 4000000 in
theorem judgeM_any (lots size : Int) (l : List Rc) (p : List Int) (sv pv : Value) (w : World) (hT : TabM w) (hs : MlC w sv l) (hp : SlI w pv p) (hlen : l.length ≤ 1000) :
    Calls Tryd.prog 19 #[valM lots size sv, pv] w fun e w' => e = .returned (.tuple #[.int .i64 (judU (mOf lots size l) p).1, .int .i64 (judU (mOf lots size l) p).2, .int .i64 (judgeE (mOf lots size l) p)]) ∧ Ext w w' := by
  have HS := Lib.hid hs; have HT := Lib.hid hT; have HLN := Lib.hid hlen; have HP := Lib.hid hp
  obtain ⟨A, n, c, rfl, hn, hlc, hcm⟩ := hs.1.form
  obtain ⟨A2, n2, c2, rfl, hn2, hlc2, hcm2⟩ := hp.form
  clear hs hT hn hn2 hp hlen
  go_enter Tryd.func19, Tryd.ntmps19
  go_wp2_with fail
  have E0 := Lib.hid (Ext.al w (.cells #[.int .i64 lots, .int .i64 size, .slice A n c] 24))
  refine (judged_any lots size l p _ _ _ (HT.out.ext E0.out) (HS.out.ext E0.out) (HP.out.ext E0.out) HLN.out).mono ?_
  rintro e w1 ⟨⟨tv, rfl, hJ⟩, hE⟩
  have E1 := Lib.hid (E0.out.trans hE)
  clear hE E0
  rcases hJ with ⟨h0, m, nn, rfl, hmp⟩ | ⟨h0, rfl⟩
  · have H0 := Lib.hid h0
    obtain ⟨hc, hok⟩ := judgeE_zero h0
    have hm := mok_of hc
    obtain ⟨lt, rfl⟩ := lots_nat hc
    have HM := Lib.hid hm
    have HPO := Lib.hid (pok_of hm (plan_of_ok hm hok))
    rw [h0]
    clear h0 hc hok hm hmp
    go_wp2_with fail
    refine (of_any lt size l p _ _ (some m) _ HM.out (HS.out.1.ext (E1.out.alloc _)) (HP.out.ext (E1.out.alloc _)) HPO.out).mono ?_
    rintro e w2 ⟨rfl, hE⟩
    have HE2 := Lib.hid ((E1.out.alloc _).trans hE)
    clear hE
    obtain ⟨u, hu⟩ : ∃ u, unev (mOf lt size l) p = u := ⟨_, rfl⟩
    rw [hu]
    have HU := Lib.hid hu
    clear hu
    go_wp2
    obtain ⟨w4, hw4⟩ : ∃ w4, w4 = w2.alloc (.cells #[.int .i64 u.1, .int .i64 u.2] 99) := ⟨_, rfl⟩
    rw [← hw4]
    have E4 := Lib.hid (show Ext w w4 from hw4 ▸ HE2.out.alloc _)
    have HB4 := Lib.hid (show Blk w4 w2.heap.size 99 #[.int .i64 u.1, .int .i64 u.2] from hw4 ▸ Blk.new _ _ _)
    clear hw4
    have q0 := fun V (h : Ext w4 V) => (HB4.out.ext h).c2.1
    have q1 := fun V (h : Ext w4 V) => (HB4.out.ext h).c2.2.1
    refine wp_region_tame (fun W => Ext w4 W) (fun W W' => Ext W W') (by kernel_rfl) 25 rfl (by decide +kernel) (Ext.refl _).drew ?_
    repeat (apply tame_q rfl; (intro ρ W hC hr hD; (obtain ⟨hrc, hrg, hrf, hrs⟩ := hr); (simp [go_sem] at hD); go_simp; first | exact ⟨⟨hC, Ext.refl _⟩, rfl⟩ | exact ⟨⟨hC, RS.refl _⟩, rfl⟩ | exact rfl); simp only [List.nil_append, List.cons_append])
    refine tame_end 25 rfl rfl (fun ρ W hC hr hF => ?_)
    obtain ⟨hrc, hrg, hrf, hrs⟩ := hr
    simp [go_sem] at hF
    apply frame_to
    · go_simp
      exact rfl
    clear hF hrs hrc hrg hrf
    have HC := Lib.hid (E4.out.trans hC)
    clear hC q0 q1
    go_wp2
    refine bodyPost_ret (v := .tuple #[.int .i64 (judU (mOf lt size l) p).1, .int .i64 (judU (mOf lt size l) p).2, .int .i64 (judgeE (mOf lt size l) p)]) (by rw [judU_ok H0.out, H0.out, HU.out]; simp [results, Tryd.results19, go_sem]) rfl ?_
    exact ⟨rfl, HC.out⟩
  · have H0 := Lib.hid h0
    obtain ⟨er, HER⟩ : ∃ er, Hid (judgeE (mOf lots size l) p = er) := ⟨_, Lib.hid rfl⟩
    rw [HER.out] at h0 ⊢
    go_wp2
    refine bodyPost_ret (v := .tuple #[.int .i64 (judU (mOf lots size l) p).1, .int .i64 (judU (mOf lots size l) p).2, .int .i64 er]) (by rw [judU_no H0.out]; simp [results, Tryd.results19, go_sem]) rfl ?_
    exact ⟨by rw [HER.out], E1.out.alloc _⟩
set_option maxHeartbeats 4000000 in
theorem refJudge_any (lots size : Int) (l : List Rc) (p : List Int) (sv pv : Value) (w : World) (hs : MlC w sv l) (hp : SlI w pv p) (hlen : l.length ≤ 1000) :
    Calls Tryd.prog 20 #[valM lots size sv, pv] w fun e w' => e = .returned (.tuple #[.int .i64 (judU (mOf lots size l) p).1, .int .i64 (judU (mOf lots size l) p).2, .int .i64 (judgeE (mOf lots size l) p)]) ∧ Ext w w' := by
  have HS := Lib.hid hs; have HLN := Lib.hid hlen; have HP := Lib.hid hp
  obtain ⟨A, n, c, rfl, hn, hlc, hcm⟩ := hs.1.form
  obtain ⟨A2, n2, c2, rfl, hn2, hlc2, hcm2⟩ := hp.form
  clear hs hn hn2 hp hlen
  go_enter Tryd.func20, Tryd.ntmps20
  go_wp2_with fail
  have E0 := Lib.hid (Ext.al w (.cells #[.int .i64 lots, .int .i64 size, .slice A n c] 24))
  have B0 := Lib.hid (Blk.new w 24 #[.int .i64 lots, .int .i64 size, .slice A n c])
  refine (allowed_any lots size l p _ _ _ (HS.out.ext E0.out) (HP.out.ext E0.out) HLN.out).mono ?_
  rintro e w1 ⟨rfl, hE⟩
  have E1 := Lib.hid (E0.out.trans hE)
  have B1 := Lib.hid (B0.out.ext hE)
  obtain ⟨b0, b1, b2, bf, bl⟩ := B1.out.c3
  clear hE E0 B0
  obtain ⟨er, HER⟩ : ∃ er, Hid (judgeE (mOf lots size l) p = er) := ⟨_, Lib.hid rfl⟩
  rw [HER.out]
  by_cases h0 : er = 0
  · subst h0
    obtain ⟨hc, hok⟩ := judgeE_zero HER.out
    have HM := Lib.hid (mok_of hc)
    have HPL := Lib.hid (plan_of_ok HM.out hok)
    have HLP := Lib.hid (show p.length = l.length by have := (plans_mem HM.out HPL.out).1; simpa using this)
    clear hc hok
    go_wp2_with fail
    refine (refOf_any lots size l p _ _ _ HM.out (HS.out.1.ext E1.out) (HP.out.ext E1.out) HLP.out).mono ?_
    rintro e w2 ⟨rfl, hE⟩
    have HE2 := Lib.hid (E1.out.trans hE)
    clear hE b0 b1 b2 bf bl
    obtain ⟨u, hu⟩ : ∃ u, evenR (mOf lots size l) p = u := ⟨_, rfl⟩
    rw [hu]
    have HU := Lib.hid (show unev (mOf lots size l) p = u by rw [← even_eq HM.out HPL.out]; exact hu)
    clear hu
    go_wp2
    obtain ⟨w4, hw4⟩ : ∃ w4, w4 = w2.alloc (.cells #[.int .i64 u.1, .int .i64 u.2] 95) := ⟨_, rfl⟩
    rw [← hw4]
    have E4 := Lib.hid (show Ext w w4 from hw4 ▸ HE2.out.alloc _)
    have HB4 := Lib.hid (show Blk w4 w2.heap.size 95 #[.int .i64 u.1, .int .i64 u.2] from hw4 ▸ Blk.new _ _ _)
    clear hw4
    have q0 := fun V (h : Ext w4 V) => (HB4.out.ext h).c2.1
    have q1 := fun V (h : Ext w4 V) => (HB4.out.ext h).c2.2.1
    refine wp_region_tame (fun W => Ext w4 W) (fun W W' => Ext W W') (by kernel_rfl) 22 rfl (by decide +kernel) (Ext.refl _).drew ?_
    repeat (apply tame_q rfl; (intro ρ W hC hr hD; (obtain ⟨hrc, hrg, hrf, hrs⟩ := hr); (simp [go_sem] at hD); go_simp; first | exact ⟨⟨hC, Ext.refl _⟩, rfl⟩ | exact ⟨⟨hC, RS.refl _⟩, rfl⟩ | exact rfl); simp only [List.nil_append, List.cons_append])
    refine tame_end 22 rfl rfl (fun ρ W hC hr hF => ?_)
    obtain ⟨hrc, hrg, hrf, hrs⟩ := hr
    simp [go_sem] at hF
    apply frame_to
    · go_simp
      exact rfl
    clear hF hrs hrc hrg hrf
    have HC := Lib.hid (E4.out.trans hC)
    clear hC q0 q1
    go_wp2
    refine bodyPost_ret (v := .tuple #[.int .i64 (judU (mOf lots size l) p).1, .int .i64 (judU (mOf lots size l) p).2, .int .i64 0]) (by rw [judU_ok HER.out, HU.out]; simp [results, Tryd.results20, go_sem]) rfl ?_
    exact ⟨by rw [HER.out], HC.out⟩
  · have H0 := Lib.hid (show judgeE (mOf lots size l) p ≠ 0 by rw [HER.out]; exact h0)
    go_wp2
    refine bodyPost_ret (v := .tuple #[.int .i64 (judU (mOf lots size l) p).1, .int .i64 (judU (mOf lots size l) p).2, .int .i64 er]) (by rw [judU_no H0.out]; simp [results, Tryd.results20, go_sem]) rfl ?_
    exact ⟨by rw [HER.out], E1.out⟩
end Go.Proofs.YtkpengeaolcjhaaDoor
/- mill.Swap. -/
namespace Go.Proofs.YtkpengeaolcjhaaDoor
open Go.RowKit Go.Shelf Go.Lib
set_option maxRecDepth 100000
set_option linter.unusedSimpArgs false

/-- The number of a bale. -/
def idAt (m : Mll) (i : Nat) : Int := (idsL m)[i]?.getD 0
def swapE (m : Mll) (p : List Int) : Int := if judgeE m p = 0 then (if (exR m p).1.isSome then 0 else 6) else judgeE m p
def swapO (m : Mll) (p : List Int) : Int × Int := if judgeE m p = 0 then (match (exR m p).1 with | some x => (idAt m x.1, idAt m x.2.1) | none => (0, 0)) else (0, 0)
theorem swap_no {m : Mll} {p : List Int} (h : judgeE m p ≠ 0) : swapE m p = judgeE m p ∧ swapO m p = (0, 0) := ⟨if_neg h, if_neg h⟩
theorem swap_none {m : Mll} {p : List Int} (h : judgeE m p = 0) (h2 : (exR m p).1 = none) : swapE m p = 6 ∧ swapO m p = (0, 0) := by
  unfold swapE swapO
  rw [if_pos h, if_pos h, h2]
  exact ⟨rfl, rfl⟩
theorem swap_some {m : Mll} {p : List Int} {x : Exg} (h : judgeE m p = 0) (h2 : (exR m p).1 = some x) : swapE m p = 0 ∧ swapO m p = (idAt m x.1, idAt m x.2.1) := by
  unfold swapE swapO
  rw [if_pos h, if_pos h, h2]
  exact ⟨rfl, rfl⟩
theorem exL_mem {m : Mll} {p : List Int} {x : Exg} (h : x ∈ exL m p) : x.1 < p.length ∧ x.2.1 < p.length := by
  unfold exL exAll at h
  have h := (List.mem_filter.1 h).1
  obtain ⟨i, hi, h⟩ := List.mem_flatMap.1 h
  obtain ⟨k, hk, h⟩ := List.mem_flatMap.1 h
  rw [List.mem_range] at hi hk
  split at h
  · simp at h
    subst h
    exact ⟨hi, hk⟩
  · simp at h
theorem exR_mem {m : Mll} {p : List Int} {x : Exg} (h : (exR m p).1 = some x) : x.1 < p.length ∧ x.2.1 < p.length := by
  rw [← exL_first] at h
  rcases firstM_mem _ (exL m p) none x h with h | h
  · exact exL_mem h
  · cases h
theorem idAt_of {lots size : Int} {l : List Rc} {i : Nat} {r : Rc} (h : l[i]? = some r) : idAt (mOf lots size l) i = r.c.b.id := by
  unfold idAt idsL
  show ((l.map (·.c)).map (·.b.id))[i]?.getD 0 = _
  rw [List.map_map, List.getElem?_map, h]
  rfl
set_option maxHeartbeats 4000000 in
theorem swapM_any (lots size : Int) (l : List Rc) (p : List Int) (sv pv : Value) (w : World) (hT : TabM w) (hs : MlC w sv l) (hp : SlI w pv p) (hlen : l.length ≤ 1000) :
    Calls Tryd.prog 24 #[valM lots size sv, pv] w fun e w' => e = .returned (.tuple #[.int .i64 (swapO (mOf lots size l) p).1, .int .i64 (swapO (mOf lots size l) p).2, .int .i64 (swapE (mOf lots size l) p)]) ∧ Ext w w' := by
  have HS := Lib.hid hs; have HT := Lib.hid hT; have HLN := Lib.hid hlen; have HP := Lib.hid hp
  obtain ⟨A, n, c, rfl, hn, hlc, hcm⟩ := hs.1.form
  obtain ⟨A2, n2, c2, rfl, hn2, hlc2, hcm2⟩ := hp.form
  have HNL := Lib.hid (show l.length = n from hn.out.symm)
  clear hs hT hn hn2 hp hlen
  go_enter Tryd.func24, Tryd.ntmps24
  go_wp2_with fail
  have E0 := Lib.hid (Ext.al w (.cells #[.int .i64 lots, .int .i64 size, .slice A n c] 24))
  have B0 := Lib.hid (Blk.new w 24 #[.int .i64 lots, .int .i64 size, .slice A n c])
  refine (judged_any lots size l p _ _ _ (HT.out.ext E0.out) (HS.out.ext E0.out) (HP.out.ext E0.out) HLN.out).mono ?_
  rintro e w1 ⟨⟨tv, rfl, hJ⟩, hE⟩
  have E1 := Lib.hid (E0.out.trans hE)
  have B1 := Lib.hid (B0.out.ext hE)
  clear hE E0 B0
  rcases hJ with ⟨h0, m, nn, rfl, hmp⟩ | ⟨h0, rfl⟩
  · have H0 := Lib.hid h0
    obtain ⟨hc, hok⟩ := judgeE_zero h0
    have hm := mok_of hc
    obtain ⟨lt, rfl⟩ := lots_nat hc
    have HM := Lib.hid hm
    have HOK := Lib.hid hok
    have HPO := Lib.hid (pok_of hm (plan_of_ok hm hok))
    have HMP := Lib.hid hmp
    rw [h0]
    clear h0 hc hok hm hmp
    go_wp2_with fail
    obtain ⟨w2, hw2⟩ : ∃ w2, w2 = w1.alloc (.cells #[.int .i64 (lt : Int), .int .i64 size, .slice A n c, .map (some m)] 87) := ⟨_, rfl⟩
    rw [← hw2]
    have E2 := Lib.hid (show Ext w w2 from hw2 ▸ E1.out.alloc _)
    have M2 := Lib.hid (show Ext w1 w2 from hw2 ▸ Ext.al _ _)
    have B2 := Lib.hid (show Blk w2 w.heap.size 24 #[.int .i64 (lt : Int), .int .i64 size, .slice A n c] from hw2 ▸ B1.out.alloc _)
    clear hw2
    refine (exchanges_any lt size l p A A2 n c n2 c2 m _ HM.out (HS.out.1.ext E2.out) (HP.out.ext E2.out) HPO.out).mono ?_
    rintro e w3 ⟨⟨bu, rfl, hbu, hb1, hb2, hb3⟩, hE⟩
    have E3 := Lib.hid (E2.out.trans hE)
    have B3 := Lib.hid (B2.out.ext hE)
    have HSQ := Lib.hid (exchanges1_seqs (X := fun k => k = w3.heap.size + 1 + 1 ∨ k = w3.heap.size + 1 + 1 + 1) HM.out HOK.out (HS.out.1.ext E3.out) (HP.out.ext E3.out) hb2 hb1 hb3 ((HMP.out.ext M2.out).ext hE))
    clear hE hbu hb1 hb2 hb3
    go_wp2_with fail
    have hfi := firstX_any (gf := 108) (tf := 59) (lb := #[.pointer (some ⟨w2.heap.size + 1, 0, none⟩), .pointer (some ⟨w2.heap.size, 0, none⟩), .pointer (some ⟨bu, 0, none⟩)]) (tlb := #[]) (enters_of Tryd.func108 (by kernel_rfl) rfl) (enters_of Tryd.func59 (by kernel_rfl) rfl)
      (xs := exL (mOf lt size l) p) (ord := ordX) (w := w3) (fun w0 hE0 _ => fun l' J Jx W hW => HSQ.out l' J Jx W (hE0.trans hW)) (fun x _ y _ W _ => by simpa using f59_any x y W)
    rw [exL_first] at hfi
    have HFI := Lib.hid hfi
    clear hfi
    refine HFI.out.mono ?_
    rintro e w4 ⟨rfl, hE⟩
    have E4 := Lib.hid (E3.out.trans hE)
    have B4 := Lib.hid (B3.out.ext hE)
    clear hE
    cases hx : (exR (mOf lt size l) p).1 with
    | none =>
      have HN := Lib.hid (swap_none H0.out hx)
      simp only [Option.getD, Option.isSome]
      clear hx
      go_wp2
      refine bodyPost_ret (v := .tuple #[.int .i64 0, .int .i64 0, .int .i64 6]) (by simp [results, Tryd.results24, go_sem]) rfl ?_
      exact ⟨by rw [HN.out.1, HN.out.2], E4.out.alloc _⟩
    | some x =>
      have HN := Lib.hid (swap_some H0.out hx)
      have HXM := Lib.hid (exR_mem hx)
      obtain ⟨i, k, u1, u2⟩ := x
      simp only [Option.getD, Option.isSome]
      have hin : i < n := by have h := HXM.out.1; simp only at h; have := HPO.out.len; have := HNL.out; omega
      have hkn : k < n := by have h := HXM.out.2; simp only at h; have := HPO.out.len; have := HNL.out; omega
      have hiz : (i : Int) < (n : Int) := by omega
      have hkz : (k : Int) < (n : Int) := by omega
      clear hx
      go_wp2_with fail
      obtain ⟨w5, hw5⟩ : ∃ w5, w5 = w4.alloc (.cells #[.int .i64 (i : Int), .int .i64 (k : Int), .int .i64 u1, .int .i64 u2] 110) := ⟨_, rfl⟩
      rw [← hw5]
      have E5 := Lib.hid (show Ext w w5 from hw5 ▸ E4.out.alloc _)
      have B5 := Lib.hid (show Blk w5 w.heap.size 24 #[.int .i64 (lt : Int), .int .i64 size, .slice A n c] from hw5 ▸ B4.out.alloc _)
      have X5 := Lib.hid (show Blk w5 w4.heap.size 110 #[.int .i64 (i : Int), .int .i64 (k : Int), .int .i64 u1, .int .i64 u2] from hw5 ▸ Blk.new _ _ _)
      clear hw5
      obtain ⟨bo, off, x, e1, hx, -, hcell⟩ := HS.out.1.at_ hin
      obtain ⟨b2, off2, y, e2, hy, -, hcell2⟩ := HS.out.1.at_ hkn
      subst e1
      injection e2 with e2
      injection e2 with e21 e22
      subst e21 e22
      have HIX := Lib.hid (idAt_of (lots := (lt : Int)) (size := size) hx)
      have HIY := Lib.hid (idAt_of (lots := (lt : Int)) (size := size) hy)
      have m0 := fun V (h : Ext w5 V) => (B5.out.ext h).c3.2.2.1
      have m1 := fun V (h : Ext w5 V) => (X5.out.ext h).c4.1
      have m2 := fun V (h : Ext w5 V) => (X5.out.ext h).c4.2.1
      have m3 := fun V (h : Ext w5 V) => (SlC.cells hcell (E5.out.trans h)).1
      have m4 := fun V (h : Ext w5 V) => (SlC.cells hcell2 (E5.out.trans h)).1
      clear hx hy hcell hcell2
      refine wp_region_tame (fun W => Ext w5 W) (fun W W' => Ext W W') (by kernel_rfl) 44 rfl (by decide +kernel) (Ext.refl _).drew ?_
      repeat (apply tame_q rfl; (intro ρ W hC hr hD; (obtain ⟨hrc, hrg, hrf, hrs⟩ := hr); (simp [go_sem] at hD); go_simp; first | exact ⟨⟨hC, Ext.refl _⟩, rfl⟩ | exact ⟨⟨hC, RS.refl _⟩, rfl⟩ | exact rfl); simp only [List.nil_append, List.cons_append])
      refine tame_end 44 rfl rfl (fun ρ W hC hr hF => ?_)
      obtain ⟨hrc, hrg, hrf, hrs⟩ := hr
      simp [go_sem] at hF
      apply frame_to
      · go_simp
        exact rfl
      clear hF hrs hrc hrg hrf
      have HC := Lib.hid (E5.out.trans hC)
      clear hC m0 m1 m2 m3 m4
      go_wp2
      refine bodyPost_ret (v := .tuple #[.int .i64 x.c.b.id, .int .i64 y.c.b.id, .int .i64 0]) (by simp [results, Tryd.results24, go_sem]) rfl ?_
      exact ⟨by rw [HN.out.1, HN.out.2]; simp only [HIX.out, HIY.out], HC.out⟩
  · have H0 := Lib.hid h0
    obtain ⟨er, HER⟩ : ∃ er, Hid (judgeE (mOf lots size l) p = er) := ⟨_, Lib.hid rfl⟩
    have HN := Lib.hid (swap_no h0)
    rw [HER.out] at h0 HN ⊢
    go_wp2
    refine bodyPost_ret (v := .tuple #[.int .i64 0, .int .i64 0, .int .i64 er]) (by simp [results, Tryd.results24, go_sem]) rfl ?_
    exact ⟨by rw [HN.out.1, HN.out.2], E1.out.alloc _⟩
end Go.Proofs.YtkpengeaolcjhaaDoor
/- mill.Run. -/
namespace Go.Proofs.YtkpengeaolcjhaaDoor
open Go.RowKit Go.Shelf Go.Lib
set_option maxRecDepth 100000
set_option linter.unusedSimpArgs false

/-- The sums while the list of a lot is added up. -/
def sumsQ (lt : Nat) (p v : List Int) (k j : Nat) : List Int := (List.range lt).map fun (i : Nat) => if i < k then sumAt p v ((i : Int) + 1) else if i = k then ((lotL p v ((i : Int) + 1)).take j).sum else 0
theorem sumsQ_len (lt : Nat) (p v : List Int) (k j : Nat) : (sumsQ lt p v k j).length = lt := by unfold sumsQ; simp
theorem sumsQ_get {lt : Nat} {p v : List Int} {k j i : Nat} (hi : i < lt) : (sumsQ lt p v k j)[i]? = some (if i < k then sumAt p v ((i : Int) + 1) else if i = k then ((lotL p v ((i : Int) + 1)).take j).sum else 0) := by
  unfold sumsQ
  rw [List.getElem?_map, List.getElem?_range hi]
  rfl
theorem sumsQ_at {lt : Nat} {p v : List Int} {k j : Nat} (hk : k < lt) : (sumsQ lt p v k j)[k]? = some ((lotL p v ((k : Int) + 1)).take j).sum := by
  rw [sumsQ_get hk, if_neg (by omega), if_pos rfl]
theorem sumsQ_zero (lt : Nat) (p v : List Int) : sumsQ lt p v 0 0 = List.replicate lt 0 := by
  apply List.ext_getElem?
  intro j
  by_cases hj : j < lt
  · rw [sumsQ_get hj, List.getElem?_replicate, if_pos hj, if_neg (by omega)]
    split <;> simp
  · rw [List.getElem?_eq_none (by rw [sumsQ_len]; omega), List.getElem?_eq_none (by simp; omega)]
theorem sumsQ_succ {lt : Nat} {p v : List Int} {k j : Nat} {x : Int} (hx : (lotL p v ((k : Int) + 1))[j]? = some x) : sumsQ lt p v k (j + 1) = (sumsQ lt p v k j).set k (((lotL p v ((k : Int) + 1)).take j).sum + x) := by
  apply List.ext_getElem?
  intro i
  rw [List.getElem?_set]
  by_cases hi : i < lt
  · rw [sumsQ_get hi, sumsQ_get hi]
    by_cases e : k = i
    · subst e
      rw [if_pos rfl, if_neg (by omega), if_pos rfl, if_pos (by rw [sumsQ_len]; exact hi), List.take_add_one, hx, List.sum_append]
      simp
    · rw [if_neg e]
      split
      · rfl
      · rw [if_neg (by omega), if_neg (by omega)]
  · rw [List.getElem?_eq_none (by rw [sumsQ_len]; omega), List.getElem?_eq_none (by rw [sumsQ_len]; omega)]
    split
    · rw [if_neg (by rw [sumsQ_len]; omega)]
    · rfl
theorem sumsQ_row {lt : Nat} {p v : List Int} {k j : Nat} (hj : (lotL p v ((k : Int) + 1)).length ≤ j) : sumsQ lt p v (k + 1) 0 = sumsQ lt p v k j := by
  unfold sumsQ
  refine List.map_congr_left fun i _ => ?_
  by_cases h1 : i < k
  · rw [if_pos (by omega), if_pos h1]
  · by_cases h2 : i = k
    · subst h2
      rw [if_pos (by omega), if_neg h1, if_pos rfl, List.take_of_length_le hj]
      rfl
    · rw [if_neg (by omega), if_neg h1, if_neg h2]
      split <;> simp
theorem sumsQ_full (lt : Nat) (p v : List Int) : sumsQ lt p v lt 0 = sumsP lt (sumAt p v) := by
  unfold sumsQ sumsP
  refine List.map_congr_left fun i hi => ?_
  rw [if_pos (List.mem_range.1 hi)]
/-- The order in which lots run best, and its greatest step. -/
def runL (m : Mll) (p : List Int) : List Int := if judgeE m p = 0 then (firstM (lessO (ordS (sumAt p (lensL m)))) (runsL m.lots.toNat)).getD [] else []
def runT (m : Mll) (p : List Int) : Int := if judgeE m p = 0 then stepL (sumAt p (lensL m)) (runL m p) else 0
theorem run_no {m : Mll} {p : List Int} (h : judgeE m p ≠ 0) : runL m p = [] ∧ runT m p = 0 := ⟨if_neg h, if_neg h⟩
theorem runL_mem (f : Int → Int) (n : Nat) : ((firstM (lessO (ordS f)) (runsL n)).getD []).length ≤ n ∧ ∀ y ∈ (firstM (lessO (ordS f)) (runsL n)).getD [], 1 ≤ y ∧ y ≤ (n : Int) := by
  cases hx : firstM (lessO (ordS f)) (runsL n) with
  | none => simp
  | some x =>
    rcases firstM_mem _ (runsL n) none x hx with h | h
    · have := runsL_mem h
      exact ⟨by simp [this.1], this.2⟩
    · cases h
set_option maxHeartbeats 8000000 in
theorem runM_any (lots size : Int) (l : List Rc) (p : List Int) (sv pv : Value) (w : World) (hT : TabM w) (hs : MlC w sv l) (hp : SlI w pv p) (hlen : l.length ≤ 1000) :
    Calls Tryd.prog 26 #[valM lots size sv, pv] w fun e w' => (∃ v, e = .returned (.tuple #[v, .int .i64 (runT (mOf lots size l) p), .int .i64 (judgeE (mOf lots size l) p)]) ∧ SlI w' v (runL (mOf lots size l) p)) ∧ Ext w w' := by
  have HS := Lib.hid hs; have HT := Lib.hid hT; have HLN := Lib.hid hlen; have HP := Lib.hid hp
  obtain ⟨A, n, c, rfl, hn, hlc, hcm⟩ := hs.1.form
  obtain ⟨A2, n2, c2, rfl, hn2, hlc2, hcm2⟩ := hp.form
  have HNL := Lib.hid (show l.length = n from hn.out.symm)
  clear hs hT hn hn2 hp hlen
  go_enter Tryd.func26, Tryd.ntmps26
  go_wp2_with fail
  have E0 := Lib.hid (Ext.al w (.cells #[.int .i64 lots, .int .i64 size, .slice A n c] 24))
  have B0 := Lib.hid (Blk.new w 24 #[.int .i64 lots, .int .i64 size, .slice A n c])
  refine (judged_any lots size l p _ _ _ (HT.out.ext E0.out) (HS.out.ext E0.out) (HP.out.ext E0.out) HLN.out).mono ?_
  rintro e w1 ⟨⟨tv, rfl, hJ⟩, hE⟩
  have E1 := Lib.hid (E0.out.trans hE)
  have B1 := Lib.hid (B0.out.ext hE)
  clear hE E0 B0
  rcases hJ with ⟨h0, m, nn, rfl, hmp⟩ | ⟨h0, rfl⟩
  · have H0 := Lib.hid h0
    obtain ⟨hc, hok⟩ := judgeE_zero h0
    have hm := mok_of hc
    obtain ⟨lt, rfl⟩ := lots_nat hc
    have HM := Lib.hid hm
    have HPO := Lib.hid (pok_of hm (plan_of_ok hm hok))
    have hl3 : lt ≤ 3 := by have h : (lt : Int) ≤ 3 := hm.l3; omega
    have HN7 := Lib.hid (show l.length ≤ 7 by have h := hm.n7; simp at h; exact h)
    have HLB := Lib.hid (show ∀ x ∈ l.map (·.c.len), 0 ≤ x ∧ x ≤ 999 from fun x hx => by
      rw [List.mem_map] at hx
      obtain ⟨y, hy, rfl⟩ := hx
      have := hm.len y.c (List.mem_map_of_mem hy); omega)
    have rm := fun w => run_makeIM (n := lt) (by omega) w
    rw [h0]
    clear h0 hc hok hm hmp
    obtain ⟨b0, b1, b2, bf, bl⟩ := B1.out.c3
    go_upto_region 5 with (fail)
    obtain ⟨w3, hw3⟩ : ∃ w3, w3 = ((w1.alloc (.cells #[.int .i64 (lt : Int), .int .i64 size, .slice A n c, .map (some m)] 87)).alloc (.cells (Array.replicate lt (Value.int .i64 0)) 3)).alloc (.cells #[.slice (some ⟨w1.heap.size + 1, 0, none⟩) lt lt] 27) := ⟨_, rfl⟩
    rw [← hw3]
    have E3 := Lib.hid (show Ext w w3 from hw3 ▸ ((E1.out.alloc _).alloc _).alloc _)
    have B3 := Lib.hid (show Blk w3 w.heap.size 24 #[.int .i64 (lt : Int), .int .i64 size, .slice A n c] from hw3 ▸ ((B1.out.alloc _).alloc _).alloc _)
    have T3 := Lib.hid (show Blk w3 w1.heap.size 87 #[.int .i64 (lt : Int), .int .i64 size, .slice A n c, .map (some m)] from hw3 ▸ ((Blk.new _ _ _).alloc _).alloc _)
    have O3 := Lib.hid (show OwB (w1.heap.size + 1) lt (sumsQ lt p (l.map (·.c.len)) 0 0) w3 by
      rw [hw3, sumsQ_zero]
      have h := OwB.make (n := lt) (by unfold maxLen; omega) (w1.alloc (.cells #[.int .i64 (lt : Int), .int .i64 size, .slice A n c, .map (some m)] 87))
      rw [show (w1.alloc (.cells #[.int .i64 (lt : Int), .int .i64 size, .slice A n c, .map (some m)] 87)).heap.size = w1.heap.size + 1 by simp] at h
      exact h.ext (Ext.al _ _))
    have H3 := Lib.hid (show Blk w3 (w1.heap.size + 1 + 1) 27 #[.slice (some ⟨w1.heap.size + 1, 0, none⟩) lt lt] from hw3 ▸ Blk.at_ (by simp))
    have HZ3 := Lib.hid (show w3.heap.size = w1.heap.size + 3 by rw [hw3]; simp)
    have hzw := B1.out.lt
    have HZW := Lib.hid hzw
    clear hw3 b0 b1 b2 bf bl rm hzw
    generalize hgs : w1.heap.size + 1 = gs at *
    obtain ⟨t0, t1, t2, t3, tf, tl⟩ := T3.out.c4
    go_wp2_with fail
    refine (each_any lt size l p _ _ (some m) (fun r => r.c.len) 64 #[] (enters_of Tryd.func64 (by kernel_rfl) rfl) _ (fun W r _ _ => f64_any r W) (HS.out.1.ext E3.out) (HP.out.ext E3.out) HPO.out.len HPO.out.rng hl3 HLN.out).mono ?_
    rintro e w4 ⟨⟨go', vs, rfl, hgo, hll⟩, hE⟩
    have E4 := Lib.hid (E3.out.trans hE)
    have B4 := Lib.hid (B3.out.ext hE)
    have O4 := Lib.hid (O3.out.ext hE)
    have H4 := Lib.hid (H3.out.ext hE)
    have HLL := Lib.hid hll
    have HGO := Lib.hid hgo
    have HG4 := Lib.hid (Gap.refl gs (gs + 1) w4)
    have HGS := Lib.hid (show w.heap.size < gs ∧ gs + 2 ≤ w3.heap.size by have := HZ3.out; have := HZW.out; omega)
    clear hE hll hgo t0 t1 t2 t3 tf tl B3 O3 H3 T3
    have HLV := Lib.hid (show vs.length = lt by rw [HLL.out.len]; unfold lotsL; simp)
    go_wp2
    go_loopg [30] lt (fun gg s30 wr => ∃ k : Nat, k ≤ lt ∧ lt - k ≤ gg ∧ s30 = .int .i64 (k : Int) ∧ Aside (OwB gs lt (sumsQ lt p (l.map (·.c.len)) k 0) wr) ∧ Aside (Gap gs (gs + 1) w4 wr))
    case atStart => exact ⟨0, by omega, by omega, by simp, O4.out, HG4.out⟩
    case round =>
      obtain ⟨k, hk, hgg, rfl, OQ, GQ⟩ := hrel
      clear O4 HG4
      by_cases hkl : k < lt
      · have hkz : (k : Int) < (lt : Int) := by omega
        obtain ⟨vi, hvi⟩ : ∃ v, vs[k]? = some v := ⟨_, List.getElem?_eq_getElem (by rw [HLV.out]; exact hkl)⟩
        have hli : (lotsL (lt : Int) p (l.map (·.c.len)))[k]? = some (lotL p (l.map (·.c.len)) ((k : Int) + 1)) := by
          unfold lotsL
          rw [List.getElem?_map, List.getElem?_range (by omega)]
          rfl
        have HOW := Lib.hid (HLL.out.own k vi _ hvi hli)
        have hsl : SlI w4 vi (lotL p (l.map (·.c.len)) ((k : Int) + 1)) := HOW.out.1.sl (fun _ => rfl)
        have HRW := Lib.hid (sumsQ_row (lt := lt) (p := p) (v := l.map (·.c.len)) (k := k) (Nat.le_refl _))
        have HQS := Lib.hid (fun j x (h : (lotL p (l.map (·.c.len)) ((k : Int) + 1))[j]? = some x) => sumsQ_succ (lt := lt) h)
        have HQA := Lib.hid (fun j => sumsQ_at (p := p) (v := l.map (·.c.len)) (j := j) hkl)
        have HBD := Lib.hid (show (∀ x ∈ lotL p (l.map (·.c.len)) ((k : Int) + 1), 0 ≤ x ∧ x ≤ 999) ∧ (lotL p (l.map (·.c.len)) ((k : Int) + 1)).length ≤ 7 from ⟨fun x hx => HLB.out x (lotL_mem hx), by
          have h1 := List.length_filter_le (fun x : Int × Int => x.1 == (k : Int) + 1) (p.zip (l.map (·.c.len)))
          unfold lotL
          rw [List.length_map]
          rw [List.length_zip] at h1
          have := HPO.out.len; have := HN7.out
          omega⟩)
        have HC7 := Lib.hid (show ∀ W, Gap gs (gs + 1) w4 W → W.cell? ⟨go', k, none⟩ = some vi from fun W h => by
          have hb := h.blk HLL.out.row (.inr (by have := HGO.out; have := HGS.out.2; omega))
          rw [hb.cell k]
          simpa using hvi)
        generalize lotL p (l.map (·.c.len)) ((k : Int) + 1) = li at *
        obtain ⟨Ai, ni, ci, rfl, hni, -, -⟩ := hsl.form
        have HNI := Lib.hid (show li.length = ni from hni.out.symm)
        have hni7 : ni ≤ 7 := by have := HBD.out.2; have := HNI.out; omega
        have HSL := Lib.hid (show ∀ W, Gap gs (gs + 1) w4 W → SlI W (.slice Ai ni ci) li from fun W h => (h.own HOW.out.1 (by have := HGS.out.2; omega)).sl (fun _ => rfl))
        have c0 := HC7.out _ GQ.out
        clear hvi hli hsl hni
        go_wp2
        go_loopg [37] ni (fun gg s37 wr => ∃ j : Nat, j ≤ ni ∧ ni - j ≤ gg ∧ s37 = .int .i64 (j : Int) ∧ Aside (OwB gs lt (sumsQ lt p (l.map (·.c.len)) k j) wr) ∧ Aside (Gap gs (gs + 1) w4 wr))
        case atStart => exact ⟨0, by omega, by omega, by simp, OQ.out, GQ.out⟩
        case round =>
          obtain ⟨j, hj, hgi, rfl, OI, GI⟩ := hrel
          clear OQ GQ c0
          by_cases hjn : j < ni
          · have hjz : (j : Int) < (ni : Int) := by omega
            obtain ⟨bo, off, x, rfl, hx, -, hcell⟩ := (HSL.out _ GI.out).at_ hjn
            have c1 := SlI.cell hcell (Ext.refl _)
            have hq := HQA.out j
            have HNX := Lib.hid (HQS.out j x hx)
            have hxb := HBD.out.1 x (List.mem_of_getElem? hx)
            have hsb := sum_bd (l := li.take j) (fun y hy => HBD.out.1 y (List.mem_of_mem_take hy))
            have hl7 : (li.take j).length ≤ 7 := by rw [List.length_take]; have := HBD.out.2; omega
            generalize (li.take j).sum = z at *
            have hwz : IntKind.i64.wrap (z + x) = z + x := by rw [IntKind.wrap_i64]; omega
            obtain ⟨z0, z1, z2⟩ := OI.out.cell hq
            obtain ⟨h0, hf, hl⟩ := (GI.out.blk H4.out (.inr (by omega))).c1
            have HGI := Lib.hid (GI.out.setCell (p := ⟨gs, k, none⟩) (Nat.le_refl _) (Nat.lt_succ_self _) (.int .i64 (z + x)))
            have HOI := Lib.hid (OI.out.set (i := k) (z + x))
            clear hx hcell hxb hsb hl7 hq
            go_wp2
            go_roundg (ni - (j + 1))
            case measure => omega
            case rel => exact ⟨j + 1, by omega, by omega, by simp, by rw [HNX.out]; exact HOI.out, HGI.out⟩
          · have hje : j = ni := by omega
            subst hje
            rw [HNI.out] at HRW
            go_wp2
            go_roundg (lt - (k + 1))
            case measure => omega
            case rel => exact ⟨k + 1, by omega, by omega, by simp, by rw [HRW.out]; exact OI.out, GI.out⟩
      · have hke : k = lt := by omega
        subst hke
        have OF := Lib.hid (show OwB gs k (sumsP k (sumAt p (l.map (·.c.len)))) wr by rw [← sumsQ_full]; exact OQ.out)
        have EW := Lib.hid (GQ.out.ext (w := w) E4.out (by have := HGS.out.1; omega))
        have BW := Lib.hid (GQ.out.blk B4.out (.inl HGS.out.1))
        have HW := Lib.hid (GQ.out.blk H4.out (.inr (Nat.le_refl _)))
        have SW := Lib.hid (show SlI wr (.slice (some ⟨gs, 0, none⟩) k k) (sumsP k (sumAt p (l.map (·.c.len)))) by
          have h := OF.out.sl
          simpa using h)
        obtain ⟨f, hf⟩ : ∃ f, sumAt p (l.map (·.c.len)) = f := ⟨_, rfl⟩
        have HFB := Lib.hid (show ∀ x, 0 ≤ f x ∧ f x ≤ 9000 from fun x => by
          rw [← hf]
          have := sumAt_bd (p := p) (vals := l.map (·.c.len)) (lot := x) (by rw [HPO.out.len]; exact HN7.out) HLB.out
          omega)
        have HRL := Lib.hid (show runL (mOf k size l) p = (firstM (lessO (ordS f)) (runsL k)).getD [] ∧ runT (mOf k size l) p = stepL f ((firstM (lessO (ordS f)) (runsL k)).getD []) by
          have e : sumAt p (lensL (mOf (k : Int) size l)) = f := by rw [← hf]; unfold lensL; rw [List.map_map]; rfl
          have e2 : runL (mOf (k : Int) size l) p = (firstM (lessO (ordS f)) (runsL k)).getD [] := by unfold runL; rw [if_pos H0.out, e]; simp
          refine ⟨e2, ?_⟩
          unfold runT
          rw [if_pos H0.out, e, e2])
        rw [hf] at SW
        clear OQ GQ OF B4 H4 hf
        obtain ⟨b0, b1, b2, bf, bl⟩ := BW.out.c3
        go_upto_region 15 with (fail)
        obtain ⟨w5, hw5⟩ : ∃ w5, w5 = wr.alloc (.cells #[.func (.func 65) #[] #[.pointer (some ⟨gs + 1, 0, none⟩)]] 121) := ⟨_, rfl⟩
        rw [← hw5]
        have M5 := Lib.hid (show Ext wr w5 from hw5 ▸ Ext.al _ _)
        have T5 := Lib.hid (show Blk w5 wr.heap.size 121 #[.func (.func 65) #[] #[.pointer (some ⟨gs + 1, 0, none⟩)]] from hw5 ▸ Blk.new _ _ _)
        have E5 := Lib.hid (EW.out.trans M5.out)
        have H5 := Lib.hid (HW.out.ext M5.out)
        have S5 := Lib.hid (SW.out.ext M5.out)
        clear hw5 b0 b1 b2 bf bl
        obtain ⟨b0, b1, b2, bf, bl⟩ := (BW.out.ext M5.out).c3
        go_wp2_with fail
        refine (runs_any (k : Int) w5).mono ?_
        rintro e w6 ⟨rfl, hbn, hE⟩
        have E6 := Lib.hid (E5.out.trans hE)
        have H6 := Lib.hid (H5.out.ext hE)
        have S6 := Lib.hid (S5.out.ext hE)
        have T6 := Lib.hid (T5.out.ext hE)
        have HBN := Lib.hid hbn
        have hbl := hbn.lt
        clear hE hbn b0 b1 b2 bf bl H5 S5 T5
        go_wp2_with fail
        have hfi := firstM_any (gf := 111) (tf := 68) (lb := #[.pointer (some ⟨w5.heap.size, 0, none⟩)]) (fi := #[]) (tlb := #[.pointer (some ⟨wr.heap.size, 0, none⟩)]) (enters_of Tryd.func111 (by kernel_rfl) rfl) (enters_of Tryd.func68 (by kernel_rfl) rfl)
          (xs := runsL k) (ord := ordS f) (w := w6) (fun w0 hE0 hz0 => runs_seqs hl3 (fun b hb => by omega) (fun h => by omega) (by have := hE0.size; omega) (HBN.out.ext hE0))
          (fun x hx y hy v v' W hW hvx hvy => by
            have hx1 := runsL_mem hx
            have hy1 := runsL_mem hy
            have h1 := f68_any (bt := wr.heap.size) x y v v' W hl3 HFB.out (H6.out.ext hW) (S6.out.ext hW) hvx hvy (by omega) (by omega) hx1.2 hy1.2 (T6.out.ext hW).c1.1
            simpa using h1)
        have HFI := Lib.hid hfi
        have HRM := Lib.hid (runL_mem f k)
        clear hfi hbl
        obtain ⟨bst, hbst⟩ : ∃ b, (firstM (lessO (ordS f)) (runsL k)).getD [] = b := ⟨_, rfl⟩
        rw [hbst] at HFI HRM HRL
        clear hbst
        refine HFI.out.mono ?_
        rintro e w7 ⟨v, rfl, hv, hE⟩
        have HV := Lib.hid hv
        have E7 := Lib.hid (E6.out.trans hE)
        have H7 := Lib.hid (H6.out.ext hE)
        have S7 := Lib.hid (S6.out.ext hE)
        obtain ⟨t0, tf, tl⟩ := (T6.out.ext hE).c1
        obtain ⟨Av, nv, cv, rfl, -, -, -⟩ := HV.out.form
        clear hv hE
        go_wp2_with fail
        refine (steps_any bst _ w7 hl3 HFB.out H7.out S7.out HV.out (by have := HRM.out.1; omega) HRM.out.2).mono ?_
        rintro e w8 ⟨rfl, hE⟩
        have HV8 := Lib.hid (HV.out.ext hE)
        have E8 := Lib.hid (E7.out.trans hE)
        clear hE t0 tf tl
        go_wp2
        refine bodyPost_ret (v := .tuple #[.slice Av nv cv, .int .i64 (stepL f bst), .int .i64 0]) (by simp [results, Tryd.results26, go_sem]) rfl ?_
        exact ⟨⟨_, by rw [HRL.out.2, H0.out], by rw [HRL.out.1]; exact HV8.out⟩, E8.out⟩
  · have H0 := Lib.hid h0
    obtain ⟨er, HER⟩ : ∃ er, Hid (judgeE (mOf lots size l) p = er) := ⟨_, Lib.hid rfl⟩
    have HN := Lib.hid (run_no h0)
    rw [HER.out] at h0 ⊢
    go_wp2
    refine bodyPost_ret (v := .tuple #[.slice none 0 0, .int .i64 0, .int .i64 er]) (by simp [results, Tryd.results26, go_sem]) rfl ?_
    exact ⟨⟨_, by rw [HN.out.2, HER.out], by rw [HN.out.1]; exact Sl.nil _⟩, E1.out.alloc _⟩
end Go.Proofs.YtkpengeaolcjhaaDoor
/- The reference's Run. -/
namespace Go.Proofs.YtkpengeaolcjhaaDoor
open Go.RowKit Go.Shelf Go.Lib
set_option maxRecDepth 100000
set_option linter.unusedSimpArgs false

theorem runsR_any {n g gs : Nat} {f : Int → Int} (hn1 : 1 ≤ n) (hn3 : n ≤ 3) (hf : ∀ x, 0 ≤ f x ∧ f x ≤ 9000) : ∀ k, RunsC n f g gs k
  | 0 => runs_leaf hn1 hn3
  | k + 1 => runs_cons hn3 hf (runsR_any hn1 hn3 hf k)
set_option maxHeartbeats 4000000 in
theorem refRunM_any (lots size : Int) (l : List Rc) (p : List Int) (sv pv : Value) (w : World) (hs : MlC w sv l) (hp : SlI w pv p) (hlen : l.length ≤ 1000) :
    Calls Tryd.prog 27 #[valM lots size sv, pv] w fun e w' => (∃ v, e = .returned (.tuple #[v, .int .i64 (runT (mOf lots size l) p), .int .i64 (judgeE (mOf lots size l) p)]) ∧ SlI w' v (runL (mOf lots size l) p)) ∧ Ext w w' := by
  have HS := Lib.hid hs; have HLN := Lib.hid hlen; have HP := Lib.hid hp
  obtain ⟨A, n, c, rfl, hn, hlc, hcm⟩ := hs.1.form
  obtain ⟨A2, n2, c2, rfl, hn2, hlc2, hcm2⟩ := hp.form
  clear hs hn hn2 hp hlen
  go_enter Tryd.func27, Tryd.ntmps27
  go_wp2_with fail
  have E0 := Lib.hid (Ext.al w (.cells #[.int .i64 lots, .int .i64 size, .slice A n c] 24))
  have B0 := Lib.hid (Blk.new w 24 #[.int .i64 lots, .int .i64 size, .slice A n c])
  refine (allowed_any lots size l p _ _ _ (HS.out.ext E0.out) (HP.out.ext E0.out) HLN.out).mono ?_
  rintro e w1 ⟨rfl, hE⟩
  have E1 := Lib.hid (E0.out.trans hE)
  have B1 := Lib.hid (B0.out.ext hE)
  clear hE E0 B0
  obtain ⟨er, HER⟩ : ∃ er, Hid (judgeE (mOf lots size l) p = er) := ⟨_, Lib.hid rfl⟩
  rw [HER.out]
  by_cases h0 : er = 0
  · subst h0
    obtain ⟨hc, hok⟩ := judgeE_zero HER.out
    have hm := mok_of hc
    obtain ⟨lt, rfl⟩ := lots_nat hc
    have HM := Lib.hid hm
    have HPO := Lib.hid (pok_of hm (plan_of_ok hm hok))
    have hl1 : 1 ≤ lt := by have h : 1 ≤ (lt : Int) := hm.l1; omega
    have hl3 : lt ≤ 3 := by have h : (lt : Int) ≤ 3 := hm.l3; omega
    have HN7 := Lib.hid (show l.length ≤ 7 by have h := hm.n7; simp at h; exact h)
    have HLB := Lib.hid (show ∀ x ∈ l.map (·.c.len), 0 ≤ x ∧ x ≤ 999 from fun x hx => by
      rw [List.mem_map] at hx
      obtain ⟨y, hy, rfl⟩ := hx
      have := hm.len y.c (List.mem_map_of_mem hy); omega)
    clear hc hok hm
    go_upto_region 6 with (fail)
    obtain ⟨w3, hw3⟩ : ∃ w3, w3 = (w1.alloc (.cells #[.slice none 0 0] 27)).alloc (.cells #[.int .i64 0] 3) := ⟨_, rfl⟩
    rw [← hw3]
    have E3 := Lib.hid (show Ext w w3 from hw3 ▸ (E1.out.alloc _).alloc _)
    have B3 := Lib.hid (show Blk w3 w.heap.size 24 #[.int .i64 (lt : Int), .int .i64 size, .slice A n c] from hw3 ▸ (B1.out.alloc _).alloc _)
    have R3 := Lib.hid (show Rk w1.heap.size (none, 0) w3 from ⟨⟨_, hw3 ▸ (Blk.new _ _ _).alloc _, .inl ⟨rfl, rfl⟩⟩, hw3 ▸ Blk.at_ (by simp)⟩)
    have HZ3 := Lib.hid (show w1.heap.size + 2 ≤ w3.heap.size by rw [hw3]; simp)
    have HBL := Lib.hid (show w.heap.size < w1.heap.size from B1.out.lt)
    clear hw3
    obtain ⟨b0, b1, b2, bf, bl⟩ := B3.out.c3
    go_wp2_with fail
    refine (sums_any lt size l p _ _ _ HM.out (HS.out.1.ext E3.out) (HP.out.ext E3.out) HPO.out).mono ?_
    rintro e w4 ⟨⟨gs, rfl, hgs, hsl⟩, hE⟩
    have E4 := Lib.hid (E3.out.trans hE)
    have R4 := Lib.hid (R3.out.ext hE)
    obtain ⟨f, hf⟩ : ∃ f, sumAt p (l.map (·.c.len)) = f := ⟨_, rfl⟩
    have HSL := Lib.hid (show SlI w4 (.slice (some ⟨gs, 0, none⟩) (lt + 1) (lt + 1)) ((List.range (lt + 1)).map fun (j : Nat) => f (j : Int)) by rw [← hf]; exact hsl)
    have HGS := Lib.hid (show w1.heap.size + 2 ≤ gs by have := HZ3.out; omega)
    have HFB := Lib.hid (show ∀ x, 0 ≤ f x ∧ f x ≤ 9000 from fun x => by
      rw [← hf]
      have := sumAt_bd (p := p) (vals := l.map (·.c.len)) (lot := x) (by rw [HPO.out.len]; exact HN7.out) HLB.out
      omega)
    have HRL := Lib.hid (show runL (mOf lt size l) p = (runR f lt).1.getD [] ∧ runT (mOf lt size l) p = (runR f lt).2 by
      have e : sumAt p (lensL (mOf (lt : Int) size l)) = f := by rw [← hf]; unfold lensL; rw [List.map_map]; rfl
      obtain ⟨r1, r2⟩ := runR_eq f lt
      have e2 : runL (mOf (lt : Int) size l) p = (runR f lt).1.getD [] := by unfold runL; rw [if_pos HER.out, e, r1]; simp
      refine ⟨e2, ?_⟩
      unfold runT
      rw [if_pos HER.out, e, e2, r2])
    have HIC := Lib.hid (runsR_any (g := w1.heap.size) (gs := gs) hl1 hl3 HFB.out lt [] (.slice none 0 0) (none, 0) w4 (by simp) (fun y hy => by simp at hy) (SlP.nil _ _) HSL.out HGS.out R4.out)
    have HRR := Lib.hid (show runP f lt lt [] (none, 0) = runR f lt from rfl)
    clear hE hgs hsl b0 b1 b2 bf bl hf R3
    go_wp2_with fail
    refine HIC.out.mono ?_
    rintro e w5 ⟨⟨rv, rfl⟩, hrk, hgp⟩
    rw [HRR.out] at hrk
    have E5 := Lib.hid (hgp.ext E4.out (by have := HBL.out; omega))
    obtain ⟨⟨v, hb, hv⟩, hl⟩ := hrk
    have HV := Lib.hid (show SlI w5 v ((runR f lt).1.getD []) by
      rcases hv with ⟨h1, rfl⟩ | ⟨lb, b, o, n', c', h1, rfl, h2⟩
      · rw [h1]; exact Sl.nil _
      · rw [h1]; exact h2.1)
    have HB := Lib.hid hb; have HL := Lib.hid hl
    obtain ⟨Av, nv, cv, rfl, -, -, -⟩ := HV.out.form
    clear hgp hb hv hl
    have m0 := fun V (h : Ext w5 V) => (HB.out.ext h).c1.1
    have m1 := fun V (h : Ext w5 V) => (HL.out.ext h).c1.1
    go_wp2
    refine wp_region_tame (fun W => Ext w5 W) (fun W W' => Ext W W') (by kernel_rfl) 22 rfl (by decide +kernel) (Ext.refl _).drew ?_
    repeat (apply tame_q rfl; (intro ρ W hC hr hD; (obtain ⟨hrc, hrg, hrf, hrs⟩ := hr); (simp [go_sem] at hD); go_simp; first | exact ⟨⟨hC, Ext.refl _⟩, rfl⟩ | exact ⟨⟨hC, RS.refl _⟩, rfl⟩ | exact rfl); simp only [List.nil_append, List.cons_append])
    refine tame_end 22 rfl rfl (fun ρ W hC hr hF => ?_)
    obtain ⟨hrc, hrg, hrf, hrs⟩ := hr
    simp [go_sem] at hF
    apply frame_to
    · go_simp
      exact rfl
    clear hF hrs hrc hrg hrf
    have E6 := Lib.hid (E5.out.trans hC)
    have HV6 := Lib.hid (HV.out.ext hC)
    clear hC m0 m1
    go_wp2
    refine bodyPost_ret (v := .tuple #[.slice Av nv cv, .int .i64 (runR f lt).2, .int .i64 0]) (by simp [results, Tryd.results27, go_sem]) rfl ?_
    exact ⟨⟨_, by rw [HRL.out.2, HER.out], by rw [HRL.out.1]; exact HV6.out⟩, E6.out⟩
  · have H0 := Lib.hid (show judgeE (mOf lots size l) p ≠ 0 by rw [HER.out]; exact h0)
    have HN := Lib.hid (run_no H0.out)
    go_wp2
    refine bodyPost_ret (v := .tuple #[.slice none 0 0, .int .i64 0, .int .i64 er]) (by simp [results, Tryd.results27, go_sem]) rfl ?_
    exact ⟨⟨_, by rw [HN.out.2, HER.out], by rw [HN.out.1]; exact Sl.nil _⟩, E1.out⟩
end Go.Proofs.YtkpengeaolcjhaaDoor
/- The reference's Swap. -/
namespace Go.Proofs.YtkpengeaolcjhaaDoor
open Go.RowKit Go.Shelf Go.Lib
set_option maxRecDepth 100000
set_option linter.unusedSimpArgs false

def exaCell (m : Mll) (p : List Int) (i k : Nat) : List Exg := if mayX m p i k then [(i, k, unev m (swapP p i k))] else []
def exaRow (m : Mll) (p : List Int) (i k : Nat) : List Exg := (List.range k).flatMap (exaCell m p i)
/-- What has been looked at ahead of the bale k of the round i. -/
def exaTo (m : Mll) (p : List Int) (i k : Nat) : List Exg := ((List.range i).flatMap fun j => exaRow m p j p.length) ++ exaRow m p i k
/-- What is kept then. -/
def exS (m : Mll) (p : List Int) (i k : Nat) : Option Exg × (Int × Int) := (exaTo m p i k).foldl exStep (none, unev m p)
theorem exS_zero (m : Mll) (p : List Int) : exS m p 0 0 = (none, unev m p) := rfl
theorem exS_cell (m : Mll) (p : List Int) (i k : Nat) : exS m p i (k + 1) = if mayX m p i k then exStep (exS m p i k) (i, k, unev m (swapP p i k)) else exS m p i k := by
  have e : exaTo m p i (k + 1) = exaTo m p i k ++ exaCell m p i k := by
    unfold exaTo exaRow
    rw [List.range_succ, List.flatMap_append, ← List.append_assoc]
    simp
  unfold exS
  rw [e, List.foldl_append]
  unfold exaCell
  split <;> rfl
theorem exS_row (m : Mll) (p : List Int) (i : Nat) : exS m p (i + 1) 0 = exS m p i p.length := by
  unfold exS exaTo
  rw [List.range_succ, List.flatMap_append]
  simp [exaRow]
theorem exS_all (m : Mll) (p : List Int) : exS m p p.length 0 = exR m p := by
  unfold exS exR exaTo exAll exaRow
  simp only [List.range_zero, List.flatMap_nil, List.append_nil]
  rfl
/-- The numbers of the bales of an exchange. -/
def idO (m : Mll) (s : Option Exg) : Int × Int := match s with | some x => (idAt m x.1, idAt m x.2.1) | none => (0, 0)
theorem swapO_id {m : Mll} {p : List Int} (h : judgeE m p = 0) : swapO m p = idO m (exR m p).1 := if_pos h
theorem idO_zero {lots size : Int} {l : List Rc} {p : List Int} (hm : Mok (mOf lots size l)) (hpl : p.length = l.length) : ((idO (mOf lots size l) (exR (mOf lots size l) p).1).1 = 0) ↔ (exR (mOf lots size l) p).1 = none := by
  cases hx : (exR (mOf lots size l) p).1 with
  | none => simp [idO]
  | some x =>
    have h := (exR_mem hx).1
    obtain ⟨r, hr⟩ : ∃ r, l[x.1]? = some r := ⟨_, List.getElem?_eq_getElem (by omega)⟩
    have hv := valid_id (hm.v r.c (List.mem_map_of_mem (List.mem_of_getElem? hr)))
    simp only [idO, idAt_of hr]
    constructor
    · intro h; omega
    · intro h; cases h
theorem store2M {wr W : World} {g : Nat} {t : TypeId} {x0 x1 : Value} (hg : wr.grownBy W (some g)) (h : Blk W g t #[x0, x1]) (y0 y1 : Value) :
    CR (fun W => CS wr g t 2 W) (fun W W' => RS g t #[y0, y1] W W') W ((W.setCell ⟨g, 0, none⟩ y0).setCell ⟨g, 1, none⟩ y1) ∧ Blk ((W.setCell ⟨g, 0, none⟩ y0).setCell ⟨g, 1, none⟩ y1) g t #[y0, y1] := by
  have hB : Blk ((W.setCell ⟨g, 0, none⟩ y0).setCell ⟨g, 1, none⟩ y1) g t #[y0, y1] := by
    have := (h.set_ 0 y0).set_ 1 y1
    simpa using this
  exact ⟨⟨⟨grown_set (grown_set hg (p := ⟨g, 0, none⟩) (.inl rfl) y0) (p := ⟨g, 1, none⟩) (.inl rfl) y1, _, hB, rfl⟩, grown_set (grown_set (World.grownBy.refl _ _) (p := ⟨g, 0, none⟩) (.inl rfl) y0) (p := ⟨g, 1, none⟩) (.inl rfl) y1, fun _ => hB⟩, hB⟩
set_option maxHeartbeats 8000000 in
theorem refSwap_any (lots size : Int) (l : List Rc) (p : List Int) (sv pv : Value) (w : World) (hs : MlC w sv l) (hp : SlI w pv p) (hlen : l.length ≤ 1000) :
    Calls Tryd.prog 25 #[valM lots size sv, pv] w fun e w' => e = .returned (.tuple #[.int .i64 (swapO (mOf lots size l) p).1, .int .i64 (swapO (mOf lots size l) p).2, .int .i64 (swapE (mOf lots size l) p)]) ∧ Ext w w' := by
  have HS := Lib.hid hs; have HLN := Lib.hid hlen; have HP := Lib.hid hp
  obtain ⟨A, n, c, rfl, hn, hlc, hcm⟩ := hs.1.form
  obtain ⟨A2, n2, c2, rfl, hn2, hlc2, hcm2⟩ := hp.form
  have HNL := Lib.hid (show l.length = n from hn.out.symm)
  have HL2 := Lib.hid (show p.length = n2 from hn2.out.symm)
  clear hs hn hn2 hp hlen
  go_enter Tryd.func25, Tryd.ntmps25
  go_wp2_with fail
  have E0 := Lib.hid (Ext.al w (.cells #[.int .i64 lots, .int .i64 size, .slice A n c] 24))
  have B0 := Lib.hid (Blk.new w 24 #[.int .i64 lots, .int .i64 size, .slice A n c])
  refine (allowed_any lots size l p _ _ _ (HS.out.ext E0.out) (HP.out.ext E0.out) HLN.out).mono ?_
  rintro e w1 ⟨rfl, hE⟩
  have E1 := Lib.hid (E0.out.trans hE)
  have B1 := Lib.hid (B0.out.ext hE)
  obtain ⟨b0, b1, b2, bf, bl⟩ := B1.out.c3
  clear hE E0 B0
  obtain ⟨er, HER⟩ : ∃ er, Hid (judgeE (mOf lots size l) p = er) := ⟨_, Lib.hid rfl⟩
  by_cases h0 : er = 0
  · rw [HER.out]
    subst h0
    obtain ⟨hc, hok⟩ := judgeE_zero HER.out
    have HOK := Lib.hid hok
    have HM := Lib.hid (mok_of hc)
    have HPL := Lib.hid (plan_of_ok HM.out hok)
    have HLP := Lib.hid (show p.length = l.length by have := (plans_mem HM.out HPL.out).1; simpa using this)
    obtain ⟨lt, rfl⟩ := lots_nat hc
    have hnn : n2 = n := by have h1 := HLP.out; have := HL2.out; have := HNL.out; omega
    subst hnn
    have hn7 : n2 ≤ 7 := by have h := HM.out.n7; simp at h; have := HNL.out; omega
    clear hc hok
    go_wp2_with fail
    refine (fits_any lt size l _ _ (HS.out.ext E1.out) HLN.out).mono ?_
    rintro e w2 ⟨⟨fv, rfl, hfv⟩, hE⟩
    have E2 := Lib.hid (E1.out.trans hE)
    have B2 := Lib.hid (B1.out.ext hE)
    obtain ⟨Af, nf, cfv, rfl, hnf, hlf, hcf⟩ := (show SlBo w2 fv (fitL (mOf lt size l)) from hfv.sl (fun _ => rfl)).form
    have hnf' : nf = n2 := by have h1 := hnf.out; simp [fitL] at h1; have := HNL.out; omega
    subst hnf'
    have HFV := Lib.hid (show SlBo w2 (.slice Af nf cfv) (fitL (mOf lt size l)) from hfv.sl (fun _ => rfl))
    clear hE hfv hnf b0 b1 b2 bf bl
    obtain ⟨b0, b1, b2, bf, bl⟩ := B2.out.c3
    go_wp2_with fail
    refine (refOf_any lt size l p _ _ _ HM.out (HS.out.1.ext E2.out) (HP.out.ext E2.out) HLP.out).mono ?_
    rintro e w3 ⟨rfl, hE⟩
    have E3 := Lib.hid (E2.out.trans hE)
    have B3 := Lib.hid (B2.out.ext hE)
    have F3 := Lib.hid (HFV.out.ext hE)
    have S3 := Lib.hid (HS.out.1.ext E3.out)
    have P3 := Lib.hid (HP.out.ext E3.out)
    clear hE b0 b1 b2 bf bl E1 B1 E2 B2 HFV
    rw [even_eq HM.out HPL.out]
    obtain ⟨u0, hu0⟩ : ∃ u, unev (mOf lt size l) p = u := ⟨_, rfl⟩
    rw [hu0]
    have HU0 := Lib.hid hu0
    clear hu0
    go_upto_region 7 with (fail)
    obtain ⟨w4, hw4⟩ : ∃ w4, w4 = w3.alloc (.cells #[.int .i64 u0.1, .int .i64 u0.2] 95) := ⟨_, rfl⟩
    rw [← hw4]
    have E4 := Lib.hid (show Ext w3 w4 from hw4 ▸ Ext.al _ _)
    have G4 := Lib.hid (show Blk w4 w3.heap.size 95 #[.int .i64 (exS (mOf lt size l) p 0 0).2.1, .int .i64 (exS (mOf lt size l) p 0 0).2.2] by rw [exS_zero, HU0.out, hw4]; exact Blk.new _ _ _)
    clear hw4
    go_wp2
    go_loopg [10, 11, 29] nf (fun gg s10 s11 s29 wr => ∃ i : Nat, i ≤ nf ∧ nf - i ≤ gg ∧ s29 = .int .i64 (i : Int) ∧ s10 = .int .i64 (idO (mOf lt size l) (exS (mOf lt size l) p i 0).1).1 ∧ s11 = .int .i64 (idO (mOf lt size l) (exS (mOf lt size l) p i 0).1).2 ∧ Aside (Blk wr w3.heap.size 95 #[.int .i64 (exS (mOf lt size l) p i 0).2.1, .int .i64 (exS (mOf lt size l) p i 0).2.2]) ∧ Aside (Ext w3 wr))
    case atStart => exact ⟨0, by omega, by omega, by simp, rfl, rfl, G4.out, E4.out⟩
    case round =>
      obtain ⟨i, hi, hgg, rfl, rfl, rfl, GQ, EQ⟩ := hrel
      clear G4 E4
      by_cases hlt : i < nf
      · have hltz : (i : Int) < (nf : Int) := by omega
        have HRW := Lib.hid (exS_row (mOf lt size l) p i)
        obtain ⟨bp, offp, x, rfl, hx, -, hcx⟩ := P3.out.at_ hlt
        have HX := Lib.hid hx
        clear hx
        go_wp2
        go_loopg [10, 11, 34] nf (fun gg s10 s11 s34 wr => ∃ k : Nat, k ≤ nf ∧ nf - k ≤ gg ∧ s34 = .int .i64 (k : Int) ∧ s10 = .int .i64 (idO (mOf lt size l) (exS (mOf lt size l) p i k).1).1 ∧ s11 = .int .i64 (idO (mOf lt size l) (exS (mOf lt size l) p i k).1).2 ∧ Aside (Blk wr w3.heap.size 95 #[.int .i64 (exS (mOf lt size l) p i k).2.1, .int .i64 (exS (mOf lt size l) p i k).2.2]) ∧ Aside (Ext w3 wr))
        case atStart => exact ⟨0, by omega, by omega, by simp, rfl, rfl, GQ.out, EQ.out⟩
        case round =>
          obtain ⟨k, hk, hgi, rfl, rfl, rfl, GI, EI⟩ := hrel
          clear GQ EQ
          by_cases hlk : k < nf
          · have hlkz : (k : Int) < (nf : Int) := by omega
            obtain ⟨bp2, offp2, y, e2, hy, -, hcy⟩ := P3.out.at_ hlk
            injection e2 with e2
            injection e2 with e21 e22
            subst e21 e22
            obtain ⟨bf, offf, bv, rfl, hb, -, hcb⟩ := F3.out.at_ hlk
            have c0 := SlI.cell hcx EI.out
            have c1 := SlI.cell hcy EI.out
            have c2 := SlBo.cell hcb EI.out
            have HY := Lib.hid hy; have HBV := Lib.hid hb
            have HCE := Lib.hid (exS_cell (mOf lt size l) p i k)
            have HMY := Lib.hid (show mayX (mOf lt size l) p i k = (!(decide (x = 0) || !decide (y = 0)) && bv) by
              unfold mayX
              rw [HX.out, hy, hb]
              rfl)
            clear hy hb hcy hcb
            by_cases hx0 : x = 0
            · have HNX := Lib.hid (show exS (mOf lt size l) p i (k + 1) = exS (mOf lt size l) p i k by rw [HCE.out, if_neg (by rw [HMY.out]; simp [hx0])])
              go_wp2
              go_roundg (nf - (k + 1))
              case measure => omega
              case rel => exact ⟨k + 1, by omega, by omega, by simp, by rw [HNX.out], by rw [HNX.out], by rw [HNX.out]; exact GI.out, EI.out⟩
            · by_cases hy0 : y = 0
              · cases bv with
                | false =>
                  have HNX := Lib.hid (show exS (mOf lt size l) p i (k + 1) = exS (mOf lt size l) p i k by rw [HCE.out, if_neg (by rw [HMY.out]; simp)])
                  go_wp2
                  go_roundg (nf - (k + 1))
                  case measure => omega
                  case rel => exact ⟨k + 1, by omega, by omega, by simp, by rw [HNX.out], by rw [HNX.out], by rw [HNX.out]; exact GI.out, EI.out⟩
                | true =>
                  have HYES := Lib.hid (show mayX (mOf lt size l) p i k = true by rw [HMY.out]; simp [hx0, hy0])
                  have HX0 := Lib.hid hx0; have HY0 := Lib.hid hy0
                  have HCY := Lib.hid (show exS (mOf lt size l) p i (k + 1) = exStep (exS (mOf lt size l) p i k) (i, k, unev (mOf lt size l) (swapP p i k)) by rw [HCE.out, if_pos HYES.out])
                  obtain ⟨s, hs⟩ : ∃ s, exS (mOf lt size l) p i k = s := ⟨_, rfl⟩
                  rw [hs] at HCY GI
                  rw [hs]
                  clear hs HCE
                  go_wp2_with (at_builtin; refine wpList_copyI rfl (.tmp 56) (.tmp 57) rfl (base := wr.heap.size) (g := wr.heap.size) rfl rfl (Blk.new _ _ _) (Nat.le_refl _) (by simp) ((P3.out.ext EI.out).ext (Ext.al _ _)) (by have := HL2.out; omega) ?_)
                  intro v1 W1 hown hext
                  have HE1 := Lib.hid (show Ext wr W1 from (Ext.al _ _).trans hext)
                  obtain ⟨go', cap, rfl, hg', hO⟩ := OwB.of hown.1 (by have := HL2.out; omega)
                  have HO1 := Lib.hid hO; have HG1 := Lib.hid hg'
                  clear hown hext hO c0 c1 c2 hg'
                  obtain ⟨z0, z1, z2⟩ := HO1.out.cell HX.out
                  have hik : i ≠ k := by
                    rintro rfl
                    have h := HX.out
                    rw [HY.out] at h
                    injection h with h
                    exact HX0.out (by rw [← h]; exact HY0.out)
                  obtain ⟨s0, s1, s2⟩ := (HO1.out.set 0 (i := i)).cell (show (p.set i 0)[k]? = some y by rw [List.getElem?_set_ne hik]; exact HY.out)
                  have c0 := SlI.cell hcx (EI.out.trans HE1.out)
                  rw [HL2.out]
                  go_upto_region 16 with (fail)
                  clear s0 s1 s2 z0 z1 z2 c0
                  obtain ⟨w5, hw5⟩ : ∃ w5, w5 = (W1.setCell ⟨go', i, none⟩ (.int .i64 0)).setCell ⟨go', k, none⟩ (.int .i64 x) := ⟨_, rfl⟩
                  rw [← hw5]
                  have HO2 := Lib.hid (show OwB go' cap (swapP p i k) w5 by
                    rw [hw5]; unfold swapP; rw [HX.out]; exact (HO1.out.set 0).set x)
                  have HE2 := Lib.hid (show Ext wr w5 from hw5 ▸ (HE1.out.setCell (by dsimp only; exact HG1.out) _).setCell (by dsimp only; exact HG1.out) _)
                  clear hw5
                  have HSL := Lib.hid (show (swapP p i k).length = nf by unfold swapP; simp [HL2.out])
                  have HSW := Lib.hid (show SlI w5 (.slice (some ⟨go', 0, none⟩) nf cap) (swapP p i k) by
                    have h := HO2.out.sl
                    rwa [HSL.out] at h)
                  have HPW := Lib.hid (plan_of_ok HM.out (swap_ok HOK.out HX.out HX0.out (by rw [HY.out, HY0.out]) HBV.out))
                  obtain ⟨b0, b1, b2, bfr, bl⟩ := (B3.out.ext (EI.out.trans HE2.out)).c3
                  go_wp2_with fail
                  refine (refOf_any lt size l (swapP p i k) _ _ _ HM.out (S3.out.ext (EI.out.trans HE2.out)) HSW.out (by rw [HSL.out]; exact HNL.out.symm)).mono ?_
                  rintro e w6 ⟨rfl, hE6⟩
                  rw [even_eq HM.out HPW.out]
                  obtain ⟨u, hu⟩ : ∃ u, unev (mOf lt size l) (swapP p i k) = u := ⟨_, rfl⟩
                  rw [hu]
                  rw [hu] at HCY
                  have HE6 := Lib.hid (HE2.out.trans hE6)
                  clear hE6 hu b0 b1 b2 bfr bl
                  go_upto_region 17 with (fail)
                  obtain ⟨w7, hw7⟩ : ∃ w7, w7 = w6.alloc (.cells #[.int .i64 u.1, .int .i64 u.2] 95) := ⟨_, rfl⟩
                  rw [← hw7]
                  have HE7 := Lib.hid (show Ext wr w7 from hw7 ▸ HE6.out.alloc _)
                  have HB7 := Lib.hid (show Blk w7 w6.heap.size 95 #[.int .i64 u.1, .int .i64 u.2] from hw7 ▸ Blk.new _ _ _)
                  have HNE := Lib.hid (show w6.heap.size ≠ w3.heap.size by have := GI.out.lt; have := HE6.out.size; omega)
                  clear hw7
                  obtain ⟨y0, y1, yf, yl⟩ := HB7.out.c2
                  obtain ⟨a0, a1, af, al⟩ := (GI.out.ext HE7.out).c2
                  go_wp2_with fail
                  refine (refLess_any u s.2 w7).mono ?_
                  rintro e w8 ⟨rfl, hE8⟩
                  have HE8 := Lib.hid (HE7.out.trans hE8)
                  have HB8 := Lib.hid (HB7.out.ext hE8)
                  have GI8 := Lib.hid (GI.out.ext HE8.out)
                  have EI8 := Lib.hid (EI.out.trans HE8.out)
                  clear hE8 y0 y1 yf yl a0 a1 af al
                  cases hls : lessU u s.2
                  · have HNX := Lib.hid (show exS (mOf lt size l) p i (k + 1) = s by rw [HCY.out]; unfold exStep; rw [if_neg (by simp only [hls]; decide)])
                    clear hls
                    go_wp2
                    go_roundg (nf - (k + 1))
                    case measure => omega
                    case rel => exact ⟨k + 1, by omega, by omega, by simp, by rw [HNX.out], by rw [HNX.out], by rw [HNX.out]; exact GI8.out, EI8.out⟩
                  · have HNX := Lib.hid (show exS (mOf lt size l) p i (k + 1) = (some (i, k, u), u) by rw [HCY.out]; unfold exStep; rw [if_pos hls])
                    clear hls
                    obtain ⟨bo, off, rx, e3, hrx, -, hcell⟩ := S3.out.at_ hlt
                    obtain ⟨bo2, off2, ry, e4, hry, -, hcell2⟩ := S3.out.at_ hlk
                    subst e3
                    injection e4 with e4
                    injection e4 with e41 e42
                    subst e41 e42
                    have HIO := Lib.hid (show idO (mOf lt size l) (exS (mOf lt size l) p i (k + 1)).1 = (rx.c.b.id, ry.c.b.id) by rw [HNX.out]; simp only [idO, idAt_of hrx, idAt_of hry])
                    have hz := EI8.out.size
                    have hbw := B3.out.lt
                    have HEX := Lib.hid (fun W (h : CS w8 w3.heap.size 95 2 W) => (show Ext w3 W from Below.grown EI8.out h.1 hz (fun k e => by injection e with e; omega)))
                    have HNE2 := Lib.hid (show w.heap.size ≠ w3.heap.size by omega)
                    have m0 := fun W (h : CS w8 w3.heap.size 95 2 W) => (B3.out.ext (HEX.out W h)).c3.2.2.1
                    have m1 := fun W (h : CS w8 w3.heap.size 95 2 W) => (SlC.cells hcell (HEX.out W h)).1
                    have m2 := fun W (h : CS w8 w3.heap.size 95 2 W) => (SlC.cells hcell2 (HEX.out W h)).1
                    have m3 := fun W (h : CS w8 w3.heap.size 95 2 W) => (h.cell (b := w6.heap.size) HB8.out.lt HNE.out 0).trans HB8.out.c2.1
                    have m4 := fun W (h : CS w8 w3.heap.size 95 2 W) => (h.cell (b := w6.heap.size) HB8.out.lt HNE.out 1).trans HB8.out.c2.2.1
                    have HST := Lib.hid (CS.start GI8.out)
                    clear hrx hry hcell hcell2 hz hbw
                    go_wp2_with fail
                    refine wp_region_tame (fun W => CS w8 w3.heap.size 95 2 W) (fun W W' => RS w3.heap.size 95 #[.int .i64 u.1, .int .i64 u.2] W W') (by kernel_rfl) 96 rfl (by decide +kernel) HST.out ?_
                    repeat (apply tame_q rfl; (intro ρ W hC hr hD; (obtain ⟨hrc, hrg, hrf, hrs⟩ := hr); (simp [go_sem] at hD); go_simp; first | exact ⟨⟨hC, Ext.refl _⟩, rfl⟩ | exact ⟨⟨hC, RS.refl _⟩, rfl⟩ | exact rfl); simp only [List.nil_append, List.cons_append])
                    apply tame_n (fun _ W => Blk W w3.heap.size 95 #[.int .i64 u.1, .int .i64 u.2]) (fun _ W W' _ hR h => hR.2 h)
                    · intro ρ W hC hr hD
                      obtain ⟨hrc, hrg, hrf, hrs⟩ := hr
                      simp [go_sem] at hD
                      obtain ⟨hg1, cs0, hB, hsz⟩ := hC
                      obtain ⟨cs0⟩ := cs0
                      obtain ⟨x0, x1, rfl⟩ : ∃ x0 x1, cs0 = [x0, x1] := by
                        match cs0, hsz with
                        | [x0, x1], _ => exact ⟨_, _, rfl⟩
                      obtain ⟨b0, b1, bfr, bl⟩ := hB.c2
                      have HB := Lib.hid hB; have HG1 := Lib.hid hg1; clear hB hg1
                      go_simp
                      exact store2M HG1.out HB.out _ _
                    simp only [List.nil_append, List.cons_append]
                    refine tame_end 96 rfl rfl (fun ρ W hC hr hF => ?_)
                    obtain ⟨hrc, hrg, hrf, hrs⟩ := hr
                    have hBF : Blk W w3.heap.size 95 #[.int .i64 u.1, .int .i64 u.2] := hF.2.2.2.2.2.2.2.2.2.2.2.2.2.2.2.2.2.1
                    have HBF := Lib.hid hBF; clear hBF
                    simp [go_sem] at hF
                    apply frame_to
                    · go_simp
                      exact rfl
                    clear hF hrs hrc hrg hrf
                    have EIX := Lib.hid (HEX.out W hC)
                    clear hC m0 m1 m2 m3 m4
                    go_wp2
                    go_roundg (nf - (k + 1))
                    case measure => omega
                    case rel => exact ⟨k + 1, by omega, by omega, by simp, by rw [HIO.out], by rw [HIO.out], by rw [HNX.out]; exact HBF.out, EIX.out⟩
              · have HNX := Lib.hid (show exS (mOf lt size l) p i (k + 1) = exS (mOf lt size l) p i k by rw [HCE.out, if_neg (by rw [HMY.out]; simp [hy0])])
                go_wp2
                go_roundg (nf - (k + 1))
                case measure => omega
                case rel => exact ⟨k + 1, by omega, by omega, by simp, by rw [HNX.out], by rw [HNX.out], by rw [HNX.out]; exact GI.out, EI.out⟩
          · have hke : k = nf := by omega
            subst hke
            go_wp2
            go_roundg (k - (i + 1))
            case measure => omega
            case rel => exact ⟨i + 1, by omega, by omega, by simp, by rw [HRW.out, HL2.out], by rw [HRW.out, HL2.out], by rw [HRW.out, HL2.out]; exact GI.out, EI.out⟩
      · have hie : i = nf := by omega
        subst hie
        have HAL := Lib.hid (show exS (mOf lt size l) p i 0 = exR (mOf lt size l) p by rw [← exS_all, HL2.out])
        have HZ := Lib.hid (idO_zero HM.out HLP.out)
        have HSO := Lib.hid (swapO_id HER.out)
        rw [HAL.out] at GQ ⊢
        by_cases hz : (idO (mOf lt size l) (exR (mOf lt size l) p).1).1 = 0
        · have HN := Lib.hid (swap_none HER.out (HZ.out.1 hz))
          go_wp2
          refine bodyPost_ret (v := .tuple #[.int .i64 0, .int .i64 0, .int .i64 6]) (by simp [results, Tryd.results25, go_sem]) rfl ?_
          exact ⟨by rw [HN.out.1, HN.out.2], Below.trans E3.out (EQ.out.mono E3.out.size)⟩
        · have HN := Lib.hid (show swapE (mOf lt size l) p = 0 by
            unfold swapE
            rw [if_pos HER.out]
            cases hx : (exR (mOf lt size l) p).1 with
            | none => exact absurd (HZ.out.2 hx) hz
            | some x => rfl)
          obtain ⟨q, hq⟩ : ∃ q, idO (mOf lt size l) (exR (mOf lt size l) p).1 = q := ⟨_, rfl⟩
          rw [hq] at hz HSO ⊢
          have hzb : (q.1 == 0) = false := by simpa using hz
          go_wp2
          refine bodyPost_ret (v := .tuple #[.int .i64 q.1, .int .i64 q.2, .int .i64 0]) (by simp [results, Tryd.results25, go_sem]) rfl ?_
          exact ⟨by rw [HN.out, HSO.out], Below.trans E3.out (EQ.out.mono E3.out.size)⟩
  · have H0 := Lib.hid (show judgeE (mOf lots size l) p ≠ 0 by rw [HER.out]; exact h0)
    have HN := Lib.hid (swap_no H0.out)
    rw [HER.out] at HN ⊢
    go_wp2
    refine bodyPost_ret (v := .tuple #[.int .i64 0, .int .i64 0, .int .i64 er]) (by simp [results, Tryd.results25, go_sem]) rfl ?_
    exact ⟨by rw [HN.out.1, HN.out.2], E1.out⟩
end Go.Proofs.YtkpengeaolcjhaaDoor
