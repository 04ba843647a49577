/- Adds: the program's and the reference's. -/
import Derived.Test.YtafdbgielmlihaaDoorPkChHandsCardB
import Derived.Test.YtafdbgielmlihaaDoorPkChTellsCardG
import Derived.Test.YtafdbgielmlihaaDoorPkChTellsCardN
namespace Go.Proofs.YtafdbgielmlihaaDoor
open Go.RowKit Go.Shelf Go.Lib
set_option maxRecDepth 100000
set_option linter.unusedSimpArgs false

def addsE (c : Chn) (x : Sale) : Int := if checkP c then (if rightP (withC c x) then 0 else 61) else 60
/-- What a sale more adds: l closes the chain, m the chain with the sale. -/
def AddsOf (c : Chn) (x : Sale) (v : Int) : Prop := (addsE c x = 0 → ∃ l m, IsClose c l ∧ IsClose (withC c x) m ∧ v = sumI m - sumI l) ∧ (addsE c x ≠ 0 → v = 0)
theorem addsE_zero {c : Chn} {x : Sale} (h : addsE c x = 0) : checkP c = true ∧ rightP (withC c x) = true := by
  unfold addsE at h
  cases hc : checkP c with
  | false => rw [hc] at h; simp at h
  | true =>
    rw [hc] at h
    cases hr : rightP (withC c x) with
    | false => rw [hr] at h; simp at h
    | true => exact ⟨rfl, rfl⟩
theorem addsOf_exists (c : Chn) (x : Sale) : ∃ v, AddsOf c x v := by
  by_cases h : addsE c x = 0
  · obtain ⟨h1, h2⟩ := addsE_zero h
    obtain ⟨l, hl⟩ := close_exists (check_right h1).1
    obtain ⟨m, hm⟩ := close_exists (right_of h2)
    exact ⟨_, fun _ => ⟨l, m, hl, hm, rfl⟩, fun h' => absurd h h'⟩
  · exact ⟨0, fun h' => absurd h' h, fun _ => rfl⟩
/-- A number, and an error. -/
def NumE (v E : Int) (w : World) (e : Ending) (w' : World) : Prop := e = .returned (.tuple #[.int .i64 v, .int .i64 E]) ∧ Ext w w'
def MkA (l : List Int) (o : Nat) (v : Value) (W : World) : Prop := ∃ mb gm hv sv cv, v = .pointer (some ⟨mb, o, none⟩) ∧ Blk W mb 112 #[hv, sv, .slice (some ⟨gm, 0, none⟩) l.length l.length, cv] ∧ RowI W gm l
theorem MkA.ext {l : List Int} {o : Nat} {v : Value} {W W' : World} (h : MkA l o v W) (e : Ext W W') : MkA l o v W' := by
  obtain ⟨mb, gm, hv, sv, cv, h1, h2, h3⟩ := h
  exact ⟨mb, gm, hv, sv, cv, h1, h2.ext e, h3.ext e⟩
end Go.Proofs.YtafdbgielmlihaaDoor
/- Adds: the walks. -/
namespace Go.Proofs.YtafdbgielmlihaaDoor
open Go.RowKit Go.Shelf Go.Lib
set_option maxRecDepth 100000
set_option linter.unusedSimpArgs false

theorem mild_sum {l : List Int} (h : Mild l) : -1000000000000 ≤ sumI l ∧ sumI l ≤ 1000000000000 := by
  have := h.take l.length
  rwa [List.take_length] at this
set_option maxHeartbeats 4000000 in
theorem adds_any (c : Chn) (x : Sale) (v : Int) (hv sv : Value) (w : World) (had : AddsOf c x v) (hT : Tab w) (hh : SlI w hv c.houses) (hs : SlL w sv c.sales) (hlh : c.houses.length ≤ 1000) (hl : c.sales.length ≤ 900) :
    Calls Tryd.prog 51 #[valC hv sv, valL x] w (NumE v (addsE c x) w) := by
  have HT := Lib.hid hT; have HH := Lib.hid hh; have HS := Lib.hid hs; have HL := Lib.hid hl; have HLH := Lib.hid hlh
  obtain ⟨A, n, cp, rfl, hn, hlc, hcm⟩ := hh.form
  obtain ⟨A2, n2, cp2, rfl, hn2, hlc2, hcm2⟩ := hs.form
  obtain ⟨w0, hw0⟩ : ∃ w0, w0 = (w.alloc (.cells #[.slice A n cp, .slice A2 n2 cp2] 25)).alloc (.cells #[.int .i64 x.number, .int .i64 x.seller, .int .i64 x.buyer, .int .i64 x.bales, .int .i64 x.price] 68) := ⟨_, rfl⟩
  have E0 := Lib.hid (show Ext w w0 from hw0 ▸ (Ext.al _ _).alloc _)
  have B0 := Lib.hid (show Blk w0 w.heap.size 25 #[.slice A n cp, .slice A2 n2 cp2] from hw0 ▸ (Blk.new _ _ _).alloc _)
  have C0 := Lib.hid (show Blk w0 (w.heap.size + 1) 68 #[.int .i64 x.number, .int .i64 x.seller, .int .i64 x.buyer, .int .i64 x.bales, .int .i64 x.price] from hw0 ▸ Blk.at_ (by simp))
  clear hh hs hT hl hlh
  dsimp only [valL]
  go_enter Tryd.func51, Tryd.ntmps51
  go_wp2_with fail
  simp only [← hw0]
  clear hw0
  refine (check_any c _ _ _ (HT.out.ext E0.out) (HH.out.ext E0.out) (HS.out.ext E0.out) (by have := HL.out; omega)).mono ?_
  rintro e w1 ⟨rfl, hE⟩
  have E1 := Lib.hid (E0.out.trans hE); have B1 := Lib.hid (B0.out.ext hE); have C1 := Lib.hid (C0.out.ext hE)
  clear hE
  cases hc : checkP c with
  | false =>
    have HE := Lib.hid (show addsE c x = 60 by unfold addsE; rw [hc]; rfl)
    have HZ := Lib.hid (had.2 (by rw [HE.out]; decide))
    clear hc had
    dsimp only [errB]
    go_wp2
    go_ret2
    exact ⟨by rw [HZ.out, HE.out]; rfl, E1.out⟩
  | true =>
    have HR := Lib.hid (check_right hc).1
    have HS10 := Lib.hid (check_right hc).2
    have HCK := Lib.hid hc
    clear hc
    dsimp only [errB]
    have x0 := B1.out.c2
    have y0 := C1.out.c5
    go_wp2_with fail
    clear x0 y0
    refine (with_any c x _ _ _ (HH.out.ext E1.out) (HS.out.ext E1.out) HLH.out HL.out (rising_pair HR.out.sr)).mono ?_
    rintro e w2 ⟨⟨vw, rfl, hv2, sv2, rfl, ho1, ho2⟩, hE⟩
    have E2 := Lib.hid (E1.out.trans hE); have B2 := Lib.hid (B1.out.ext hE)
    obtain ⟨Ad, nd, cd, rfl, -, -, -⟩ := (show SlI w2 hv2 (withC c x).houses from ho1.sl (fun _ => rfl)).form
    obtain ⟨Ai, ni, ci, rfl, -, -, -⟩ := (show SlL w2 sv2 (withC c x).sales from ho2.sl (fun _ => rfl)).form
    have HHM := Lib.hid (show SlI w2 (.slice Ad nd cd) (withC c x).houses from ho1.sl (fun _ => rfl))
    have HSM := Lib.hid (show SlL w2 (.slice Ai ni ci) (withC c x).sales from ho2.sl (fun _ => rfl))
    have HWL := Lib.hid (withC_len c x)
    clear hE ho1 ho2
    dsimp only [valC]
    obtain ⟨w3, hw3⟩ : ∃ w3, w3 = w2.alloc (.cells #[.slice Ad nd cd, .slice Ai ni ci] 25) := ⟨_, rfl⟩
    have E23 := Lib.hid (show Ext w2 w3 from hw3 ▸ Ext.al _ _)
    have D3 := Lib.hid (show Blk w3 w2.heap.size 25 #[.slice Ad nd cd, .slice Ai ni ci] from hw3 ▸ Blk.new _ _ _)
    go_wp2_with fail
    simp only [← hw3]
    clear hw3
    refine (right_any (withC c x) _ _ _ ((HT.out.ext E2.out).ext E23.out) (HHM.out.ext E23.out) (HSM.out.ext E23.out) (by have := HWL.out; have := HS10.out; omega)).mono ?_
    rintro e w4 ⟨rfl, hE⟩
    have E4 := Lib.hid (E2.out.trans (E23.out.trans hE)); have B4 := Lib.hid (B2.out.ext (E23.out.trans hE)); have D4 := Lib.hid (D3.out.ext hE); have E24 := Lib.hid (E23.out.trans hE)
    clear hE
    cases hr : rightP (withC c x) with
    | false =>
      have HE := Lib.hid (show addsE c x = 61 by unfold addsE; rw [HCK.out, hr]; rfl)
      have HZ := Lib.hid (had.2 (by rw [HE.out]; decide))
      clear hr had
      go_wp2
      go_ret2
      exact ⟨by rw [HZ.out, HE.out]; rfl, E4.out⟩
    | true =>
      have HE := Lib.hid (show addsE c x = 0 by unfold addsE; rw [HCK.out, hr]; rfl)
      obtain ⟨l, m, hl, hm, hvv⟩ := had.1 HE.out
      have HRM := Lib.hid (right_of hr)
      have HCL := Lib.hid hl; have HCM := Lib.hid hm; have HVV := Lib.hid hvv
      have hml := mild_sum (close_mild HR.out hl (by have := HS10.out; omega))
      have hmm := mild_sum (close_mild HRM.out hm (by have := HWL.out; have := HS10.out; omega))
      obtain ⟨sl, hsl⟩ : ∃ s, sumI l = s := ⟨_, rfl⟩
      obtain ⟨sm, hsm⟩ : ∃ s, sumI m = s := ⟨_, rfl⟩
      rw [hsl] at hml
      rw [hsm] at hmm
      have hw1 : IntKind.i64.wrap (sm - sl) = sm - sl := by rw [IntKind.wrap_i64]; omega
      have HSS := Lib.hid (show v = sm - sl by rw [hvv, hsl, hsm])
      clear hr had hl hm hvv
      have m0 := fun W (h : Ext w4 W) => (D4.out.ext h).c2
      have m1 := fun W (h : Ext w4 W) => (B4.out.ext h).c2
      go_wp2
      refine wp_region_tame (fun W => Ext w4 W) (fun W W' => Ext W W') (by kernel_rfl) 32 rfl (by decide +kernel) (Ext.refl _).drew ?_
      repeat (apply tame_q rfl; (intro ρ W hC hr hD; (obtain ⟨hrc, hrg, hrf, hrs⟩ := hr); (simp [go_sem] at hD); go_simp; first | exact ⟨⟨hC, Ext.refl _⟩, rfl⟩ | exact ⟨⟨hC, RS.refl _⟩, rfl⟩ | exact rfl); simp only [List.nil_append, List.cons_append])
      apply tame_v rfl (MkA m 0) (fun v W W' _ hE h => h.ext hE)
      · intro ρ W hC hr hD
        obtain ⟨hrc, hrg, hrf, hrs⟩ := hr
        simp [go_sem] at hD
        go_simp
        refine (closing_any (withC c x) m _ _ W HCM.out HRM.out (by have := HWL.out; have := HS10.out; omega) ((HHM.out.ext E24.out).ext hC) ((HSM.out.ext E24.out).ext hC)).mono ?_
        rintro e w' ⟨mb, gm, hv', sv', cv', rfl, hE, -, -, h3, h4, -, -⟩
        exact ⟨_, rfl, ⟨hC.trans hE, hE⟩, ⟨mb, gm, hv', sv', cv', rfl, by have h3' := h3; rw [← close_len (HCM.out)] at h3'; exact h3', h4⟩⟩
      simp only [List.nil_append, List.cons_append]
      apply tame_v rfl (MkA m 0) (fun v W W' _ hE h => h.ext hE)
      · intro ρ W hC hr hD
        obtain ⟨hrc, hrg, hrf, hrs⟩ := hr
        simp [go_sem] at hD
        obtain ⟨mb, gm, hv', sv', cv', d1, d2, d3⟩ := hD
        go_simp
        exact ⟨⟨hC, Ext.refl _⟩, ⟨mb, gm, hv', sv', cv', rfl, d2, d3⟩⟩
      simp only [List.nil_append, List.cons_append]
      apply tame_v rfl (MkA m 2) (fun v W W' _ hE h => h.ext hE)
      · intro ρ W hC hr hD
        obtain ⟨hrc, hrg, hrf, hrs⟩ := hr
        simp [go_sem] at hD
        obtain ⟨mb, gm, hv', sv', cv', d1, d2, d3⟩ := hD
        go_simp
        exact ⟨⟨hC, Ext.refl _⟩, ⟨mb, gm, hv', sv', cv', rfl, d2, d3⟩⟩
      simp only [List.nil_append, List.cons_append]
      apply tame_v rfl (fun v W => SlI W v m) (fun v W W' _ hE h => h.ext hE)
      · intro ρ W hC hr hD
        obtain ⟨hrc, hrg, hrf, hrs⟩ := hr
        simp [go_sem] at hD
        obtain ⟨mb, gm, hv', sv', cv', d1, d2, d3⟩ := hD
        have d4 := d2.c4
        have d5 := d3.sl (show (m).length ≤ maxLen by have := close_len HCM.out; have := HWL.out; have := HS10.out; unfold maxLen; omega)
        go_simp
        first | exact ⟨⟨hC, Ext.refl _⟩, d5⟩ | exact ⟨hC, Ext.refl _⟩
      simp only [List.nil_append, List.cons_append]
      apply tame_q rfl
      · intro ρ W hC hr hD
        obtain ⟨hrc, hrg, hrf, hrs⟩ := hr
        simp [go_sem] at hD
        go_simp
        refine (f75_any m _ W hD.1 (close_mild HRM.out HCM.out (by have := HWL.out; have := HS10.out; omega))).mono ?_
        rintro e w' ⟨rfl, hE⟩
        exact ⟨_, rfl, ⟨hC.trans hE, hE⟩, rfl⟩
      simp only [List.nil_append, List.cons_append]
      repeat (apply tame_q rfl; (intro ρ W hC hr hD; (obtain ⟨hrc, hrg, hrf, hrs⟩ := hr); (simp [go_sem] at hD); go_simp; first | exact ⟨⟨hC, Ext.refl _⟩, rfl⟩ | exact ⟨⟨hC, RS.refl _⟩, rfl⟩ | exact rfl); simp only [List.nil_append, List.cons_append])
      apply tame_v rfl (MkA l 0) (fun v W W' _ hE h => h.ext hE)
      · intro ρ W hC hr hD
        obtain ⟨hrc, hrg, hrf, hrs⟩ := hr
        simp [go_sem] at hD
        go_simp
        refine (closing_any c l _ _ W HCL.out HR.out (by have := HS10.out; omega) ((HH.out.ext E4.out).ext hC) ((HS.out.ext E4.out).ext hC)).mono ?_
        rintro e w' ⟨mb, gm, hv', sv', cv', rfl, hE, -, -, h3, h4, -, -⟩
        exact ⟨_, rfl, ⟨hC.trans hE, hE⟩, ⟨mb, gm, hv', sv', cv', rfl, by have h3' := h3; rw [← close_len (HCL.out)] at h3'; exact h3', h4⟩⟩
      simp only [List.nil_append, List.cons_append]
      apply tame_v rfl (MkA l 0) (fun v W W' _ hE h => h.ext hE)
      · intro ρ W hC hr hD
        obtain ⟨hrc, hrg, hrf, hrs⟩ := hr
        simp [go_sem] at hD
        obtain ⟨mb, gm, hv', sv', cv', d1, d2, d3⟩ := hD
        go_simp
        exact ⟨⟨hC, Ext.refl _⟩, ⟨mb, gm, hv', sv', cv', rfl, d2, d3⟩⟩
      simp only [List.nil_append, List.cons_append]
      apply tame_v rfl (MkA l 2) (fun v W W' _ hE h => h.ext hE)
      · intro ρ W hC hr hD
        obtain ⟨hrc, hrg, hrf, hrs⟩ := hr
        simp [go_sem] at hD
        obtain ⟨mb, gm, hv', sv', cv', d1, d2, d3⟩ := hD
        go_simp
        exact ⟨⟨hC, Ext.refl _⟩, ⟨mb, gm, hv', sv', cv', rfl, d2, d3⟩⟩
      simp only [List.nil_append, List.cons_append]
      apply tame_v rfl (fun v W => SlI W v l) (fun v W W' _ hE h => h.ext hE)
      · intro ρ W hC hr hD
        obtain ⟨hrc, hrg, hrf, hrs⟩ := hr
        simp [go_sem] at hD
        obtain ⟨mb, gm, hv', sv', cv', d1, d2, d3⟩ := hD
        have d4 := d2.c4
        have d5 := d3.sl (show (l).length ≤ maxLen by have := close_len HCL.out; have := HS10.out; unfold maxLen; omega)
        go_simp
        first | exact ⟨⟨hC, Ext.refl _⟩, d5⟩ | exact ⟨hC, Ext.refl _⟩
      simp only [List.nil_append, List.cons_append]
      apply tame_q rfl
      · intro ρ W hC hr hD
        obtain ⟨hrc, hrg, hrf, hrs⟩ := hr
        simp [go_sem] at hD
        go_simp
        refine (f75_any l _ W hD.1 (close_mild HR.out HCL.out (by have := HS10.out; omega))).mono ?_
        rintro e w' ⟨rfl, hE⟩
        exact ⟨_, rfl, ⟨hC.trans hE, hE⟩, rfl⟩
      simp only [List.nil_append, List.cons_append]
      repeat (apply tame_q rfl; (intro ρ W hC hr hD; (obtain ⟨hrc, hrg, hrf, hrs⟩ := hr); (simp [go_sem] at hD); go_simp; first | exact ⟨⟨hC, Ext.refl _⟩, rfl⟩ | exact ⟨⟨hC, RS.refl _⟩, rfl⟩ | exact rfl); simp only [List.nil_append, List.cons_append])
      refine tame_end_put rfl rfl (fun ρ V hC hr hF => ?_)
      simp [go_sem] at hF
      obtain ⟨f19, -, -, -, -, f24, f25, -, -, -, -, f30, f31, f4, f5⟩ := hF
      simp only [putF, f19, f24, f25, f30, f31, f4, f5, List.set_cons_succ, List.set_cons_zero]
      have HC := Lib.hid hC
      clear hC hr m0 m1 f19 f24 f25 f30 f31 f4 f5
      go_wp2
      go_ret2
      exact ⟨by rw [HSS.out, HE.out, ← hw1]; rfl, E4.out.trans HC.out⟩
end Go.Proofs.YtafdbgielmlihaaDoor
/- Adds: the reference's. -/
namespace Go.Proofs.YtafdbgielmlihaaDoor
open Go.RowKit Go.Shelf Go.Lib
set_option maxRecDepth 100000
set_option linter.unusedSimpArgs false

set_option maxHeartbeats 4000000 in
theorem refAdds_any (c : Chn) (x : Sale) (v : Int) (hv sv : Value) (w : World) (had : AddsOf c x v) (hh : SlI w hv c.houses) (hs : SlL w sv c.sales) (hlh : c.houses.length ≤ 1000) (hl : c.sales.length ≤ 900) :
    Calls Tryd.prog 52 #[valC hv sv, valL x] w (NumE v (addsE c x) w) := by
  have HH := Lib.hid hh; have HS := Lib.hid hs; have HL := Lib.hid hl; have HLH := Lib.hid hlh
  obtain ⟨A, n, cp, rfl, hn, hlc, hcm⟩ := hh.form
  obtain ⟨A2, n2, cp2, rfl, hn2, hlc2, hcm2⟩ := hs.form
  obtain ⟨w0, hw0⟩ : ∃ w0, w0 = (w.alloc (.cells #[.slice A n cp, .slice A2 n2 cp2] 25)).alloc (.cells #[.int .i64 x.number, .int .i64 x.seller, .int .i64 x.buyer, .int .i64 x.bales, .int .i64 x.price] 68) := ⟨_, rfl⟩
  have E0 := Lib.hid (show Ext w w0 from hw0 ▸ (Ext.al _ _).alloc _)
  have B0 := Lib.hid (show Blk w0 w.heap.size 25 #[.slice A n cp, .slice A2 n2 cp2] from hw0 ▸ (Blk.new _ _ _).alloc _)
  have C0 := Lib.hid (show Blk w0 (w.heap.size + 1) 68 #[.int .i64 x.number, .int .i64 x.seller, .int .i64 x.buyer, .int .i64 x.bales, .int .i64 x.price] from hw0 ▸ Blk.at_ (by simp))
  clear hh hs hl hlh
  dsimp only [valL]
  go_enter Tryd.func52, Tryd.ntmps52
  go_wp2_with fail
  simp only [← hw0]
  clear hw0
  refine (refChain_any c _ _ _ (HH.out.ext E0.out) (HS.out.ext E0.out)).mono ?_
  rintro e w1 ⟨rfl, hE⟩
  have E1 := Lib.hid (E0.out.trans hE); have B1 := Lib.hid (B0.out.ext hE); have C1 := Lib.hid (C0.out.ext hE)
  clear hE
  cases hc : checkP c with
  | false =>
    have HE := Lib.hid (show addsE c x = 60 by unfold addsE; rw [hc]; rfl)
    have HZ := Lib.hid (had.2 (by rw [HE.out]; decide))
    clear hc had
    go_wp2
    go_ret2
    exact ⟨by rw [HZ.out, HE.out]; rfl, E1.out⟩
  | true =>
    have HR := Lib.hid (check_right hc).1
    have HS10 := Lib.hid (check_right hc).2
    have HCK := Lib.hid hc
    clear hc
    have x0 := B1.out.c2
    have y0 := C1.out.c5
    go_wp2_with fail
    clear x0 y0
    refine (refWith_any c x _ _ _ (HH.out.ext E1.out) (HS.out.ext E1.out) HLH.out HL.out).mono ?_
    rintro e w2 ⟨⟨vw, rfl, hv2, sv2, rfl, ho1, ho2⟩, hE⟩
    have E2 := Lib.hid (E1.out.trans hE); have B2 := Lib.hid (B1.out.ext hE)
    obtain ⟨Ad, nd, cd, rfl, -, -, -⟩ := (show SlI w2 hv2 (withC c x).houses from ho1.sl (fun _ => rfl)).form
    obtain ⟨Ai, ni, ci, rfl, -, -, -⟩ := (show SlL w2 sv2 (withC c x).sales from ho2.sl (fun _ => rfl)).form
    have HHM := Lib.hid (show SlI w2 (.slice Ad nd cd) (withC c x).houses from ho1.sl (fun _ => rfl))
    have HSM := Lib.hid (show SlL w2 (.slice Ai ni ci) (withC c x).sales from ho2.sl (fun _ => rfl))
    have HWL := Lib.hid (withC_len c x)
    clear hE ho1 ho2
    dsimp only [valC]
    obtain ⟨w3, hw3⟩ : ∃ w3, w3 = w2.alloc (.cells #[.slice Ad nd cd, .slice Ai ni ci] 25) := ⟨_, rfl⟩
    have E23 := Lib.hid (show Ext w2 w3 from hw3 ▸ Ext.al _ _)
    have D3 := Lib.hid (show Blk w3 w2.heap.size 25 #[.slice Ad nd cd, .slice Ai ni ci] from hw3 ▸ Blk.new _ _ _)
    go_wp2_with fail
    simp only [← hw3]
    clear hw3
    refine (chained_any (withC c x) _ _ _ (HHM.out.ext E23.out) (HSM.out.ext E23.out)).mono ?_
    rintro e w4 ⟨rfl, hE⟩
    have E4 := Lib.hid (E2.out.trans (E23.out.trans hE)); have B4 := Lib.hid (B2.out.ext (E23.out.trans hE)); have D4 := Lib.hid (D3.out.ext hE); have E24 := Lib.hid (E23.out.trans hE)
    clear hE
    rw [chained_eq]
    cases hr : rightP (withC c x) with
    | false =>
      have HE := Lib.hid (show addsE c x = 61 by unfold addsE; rw [HCK.out, hr]; rfl)
      have HZ := Lib.hid (had.2 (by rw [HE.out]; decide))
      clear hr had
      go_wp2
      go_ret2
      exact ⟨by rw [HZ.out, HE.out]; rfl, E4.out⟩
    | true =>
      have HE := Lib.hid (show addsE c x = 0 by unfold addsE; rw [HCK.out, hr]; rfl)
      obtain ⟨l, m, hl, hm, hvv⟩ := had.1 HE.out
      have HRM := Lib.hid (right_of hr)
      have HCL := Lib.hid hl; have HCM := Lib.hid hm; have HVV := Lib.hid hvv
      have hml := mild_sum (close_mild HR.out hl (by have := HS10.out; omega))
      have hmm := mild_sum (close_mild HRM.out hm (by have := HWL.out; have := HS10.out; omega))
      obtain ⟨sl, hsl⟩ : ∃ s, sumI l = s := ⟨_, rfl⟩
      obtain ⟨sm, hsm⟩ : ∃ s, sumI m = s := ⟨_, rfl⟩
      rw [hsl] at hml
      rw [hsm] at hmm
      have hw1 : IntKind.i64.wrap (sm - sl) = sm - sl := by rw [IntKind.wrap_i64]; omega
      have HSS := Lib.hid (show v = sm - sl by rw [hvv, hsl, hsm])
      clear hr had hl hm hvv
      have m0 := fun W (h : Ext w4 W) => (D4.out.ext h).c2
      have m1 := fun W (h : Ext w4 W) => (B4.out.ext h).c2
      go_wp2
      refine wp_region_tame (fun W => Ext w4 W) (fun W W' => Ext W W') (by kernel_rfl) 23 rfl (by decide +kernel) (Ext.refl _).drew ?_
      repeat (apply tame_q rfl; (intro ρ W hC hr hD; (obtain ⟨hrc, hrg, hrf, hrs⟩ := hr); (simp [go_sem] at hD); go_simp; first | exact ⟨⟨hC, Ext.refl _⟩, rfl⟩ | exact ⟨⟨hC, RS.refl _⟩, rfl⟩ | exact rfl); simp only [List.nil_append, List.cons_append])
      apply tame_v rfl (fun v W => SlI W v m) (fun v W W' _ hE h => h.ext hE)
      · intro ρ W hC hr hD
        obtain ⟨hrc, hrg, hrf, hrs⟩ := hr
        simp [go_sem] at hD
        go_simp
        refine (refclosing_any (withC c x) m _ _ W HCM.out HRM.out (by have := HWL.out; have := HS10.out; omega) ((HHM.out.ext E24.out).ext hC) ((HSM.out.ext E24.out).ext hC)).mono ?_
        rintro e w' ⟨⟨v', rfl, hv'⟩, hE⟩
        exact ⟨_, rfl, ⟨hC.trans hE, hE⟩, hv'⟩
      simp only [List.nil_append, List.cons_append]
      apply tame_q rfl
      · intro ρ W hC hr hD
        obtain ⟨hrc, hrg, hrf, hrs⟩ := hr
        simp [go_sem] at hD
        go_simp
        refine (f77_any m _ W (by first | exact hD | exact hD.1) (close_mild HRM.out HCM.out (by have := HWL.out; have := HS10.out; omega))).mono ?_
        rintro e w' ⟨rfl, hE⟩
        exact ⟨_, rfl, ⟨hC.trans hE, hE⟩, rfl⟩
      simp only [List.nil_append, List.cons_append]
      repeat (apply tame_q rfl; (intro ρ W hC hr hD; (obtain ⟨hrc, hrg, hrf, hrs⟩ := hr); (simp [go_sem] at hD); go_simp; first | exact ⟨⟨hC, Ext.refl _⟩, rfl⟩ | exact ⟨⟨hC, RS.refl _⟩, rfl⟩ | exact rfl); simp only [List.nil_append, List.cons_append])
      apply tame_v rfl (fun v W => SlI W v l) (fun v W W' _ hE h => h.ext hE)
      · intro ρ W hC hr hD
        obtain ⟨hrc, hrg, hrf, hrs⟩ := hr
        simp [go_sem] at hD
        go_simp
        refine (refclosing_any c l _ _ W HCL.out HR.out (by have := HS10.out; omega) ((HH.out.ext E4.out).ext hC) ((HS.out.ext E4.out).ext hC)).mono ?_
        rintro e w' ⟨⟨v', rfl, hv'⟩, hE⟩
        exact ⟨_, rfl, ⟨hC.trans hE, hE⟩, hv'⟩
      simp only [List.nil_append, List.cons_append]
      apply tame_q rfl
      · intro ρ W hC hr hD
        obtain ⟨hrc, hrg, hrf, hrs⟩ := hr
        simp [go_sem] at hD
        go_simp
        refine (f77_any l _ W (by first | exact hD | exact hD.1) (close_mild HR.out HCL.out (by have := HS10.out; omega))).mono ?_
        rintro e w' ⟨rfl, hE⟩
        exact ⟨_, rfl, ⟨hC.trans hE, hE⟩, rfl⟩
      simp only [List.nil_append, List.cons_append]
      repeat (apply tame_q rfl; (intro ρ W hC hr hD; (obtain ⟨hrc, hrg, hrf, hrs⟩ := hr); (simp [go_sem] at hD); go_simp; first | exact ⟨⟨hC, Ext.refl _⟩, rfl⟩ | exact ⟨⟨hC, RS.refl _⟩, rfl⟩ | exact rfl); simp only [List.nil_append, List.cons_append])
      refine tame_end_put rfl rfl (fun ρ V hC hr hF => ?_)
      simp [go_sem] at hF
      obtain ⟨f16, -, f18, f19, -, f21, f22, f4, f5⟩ := hF
      simp only [putF, f16, f18, f19, f21, f22, f4, f5, List.set_cons_succ, List.set_cons_zero]
      have HC := Lib.hid hC
      clear hC hr m0 m1 f16 f18 f19 f21 f22 f4 f5
      go_wp2
      go_ret2
      exact ⟨by rw [HSS.out, HE.out, ← hw1]; rfl, E4.out.trans HC.out⟩
end Go.Proofs.YtafdbgielmlihaaDoor
/- Way, plain: how many sales a house is away from another one; the first of the shortest ways. -/
namespace Go.Proofs.YtafdbgielmlihaaDoor
open Go.RowKit Go.Shelf
set_option linter.unusedSimpArgs false

/-- From the house v the last one is reached by so many sales, or fewer. -/
def toB (c : Chn) (t : Int) : Nat → Int → Bool
  | 0, v => decide (v = t)
  | k + 1, v => decide (v = t) || c.sales.any fun x => decide (x.seller = v) && toB c t k x.buyer
theorem toB_self (c : Chn) (t : Int) : ∀ k, toB c t k t = true
  | 0 => by simp [toB]
  | k + 1 => by simp [toB]
theorem toB_succ {c : Chn} {t : Int} {k : Nat} {v : Int} : toB c t (k + 1) v = true ↔ v = t ∨ ∃ x ∈ c.sales, x.seller = v ∧ toB c t k x.buyer = true := by
  rw [toB]
  simp [List.any_eq_true]
theorem toB_mono {c : Chn} {t : Int} : ∀ {k : Nat} {v : Int}, toB c t k v = true → toB c t (k + 1) v = true
  | 0, v, h => by
    have : v = t := by simpa [toB] using h
    rw [this]; exact toB_self c t 1
  | k + 1, v, h => by
    rcases toB_succ.1 h with rfl | ⟨x, hx, h1, h2⟩
    · exact toB_self c v _
    · exact toB_succ.2 (.inr ⟨x, hx, h1, toB_mono h2⟩)
theorem toB_le {c : Chn} {t : Int} {k : Nat} {v : Int} (h : toB c t k v = true) : ∀ d, toB c t (k + d) v = true
  | 0 => h
  | d + 1 => toB_mono (toB_le h d)
theorem toB_ge {c : Chn} {t : Int} {k j : Nat} {v : Int} (h : toB c t k v = true) (hj : k ≤ j) : toB c t j v = true := by
  obtain ⟨d, rfl⟩ := Nat.exists_eq_add_of_le hj
  exact toB_le h d
/-- Nothing new comes behind as many sales as there are houses. -/
theorem toB_stay {c : Chn} (hR : Right c) {t : Int} {k : Nat} (h : ∀ v ∈ c.houses, toB c t (k + 1) v = true → toB c t k v = true) : ∀ (d : Nat) (v : Int), v ∈ c.houses → toB c t (k + d) v = true → toB c t k v = true
  | 0, _, _, hv => hv
  | d + 1, v, hm, hv => by
    rcases toB_succ.1 hv with rfl | ⟨x, hx, h1, h2⟩
    · exact toB_self c v k
    · have hb := (hR.sale x hx).2.2.1
      exact h v hm (toB_succ.2 (.inr ⟨x, hx, h1, toB_stay hR h d _ hb h2⟩))
def cntB (c : Chn) (t : Int) (k : Nat) : Nat := c.houses.countP (toB c t k)
theorem count_lt {α : Type} {p q : α → Bool} : ∀ {l : List α}, (∀ x ∈ l, p x = true → q x = true) → (∃ x ∈ l, q x = true ∧ p x = false) → l.countP p < l.countP q
  | [], _, ⟨x, hx, _⟩ => by cases hx
  | a :: l, h, ⟨x, hx, h1, h2⟩ => by
    have hl : ∀ x ∈ l, p x = true → q x = true := fun x hx => h x (List.mem_cons_of_mem _ hx)
    have hle : l.countP p ≤ l.countP q := List.countP_mono_left hl
    rw [List.countP_cons, List.countP_cons]
    rcases List.mem_cons.1 hx with rfl | hx
    · rw [h1, h2]; simp; omega
    · have := count_lt hl ⟨x, hx, h1, h2⟩
      have ha := h a (List.mem_cons_self ..)
      cases hp : p a with
      | false => cases hq : q a <;> simp <;> omega
      | true => rw [ha hp]; simp; omega
theorem toB_full {c : Chn} (hR : Right c) {t : Int} (ht : t ∈ c.houses) {k : Nat} {v : Int} (hv : v ∈ c.houses) (h : toB c t k v = true) : toB c t c.houses.length v = true := by
  have key : ∀ k, (∃ j, j < k ∧ ∀ v ∈ c.houses, toB c t (j + 1) v = true → toB c t j v = true) ∨ k + 1 ≤ cntB c t k := by
    intro k
    induction k with
    | zero => exact .inr (List.countP_pos_iff.2 ⟨t, ht, toB_self c t 0⟩)
    | succ k ih =>
      rcases ih with ⟨j, hj, h1⟩ | h1
      · exact .inl ⟨j, by omega, h1⟩
      · by_cases hs : ∀ v ∈ c.houses, toB c t (k + 1) v = true → toB c t k v = true
        · exact .inl ⟨k, by omega, hs⟩
        · refine .inr ?_
          have : ∃ v ∈ c.houses, toB c t (k + 1) v = true ∧ toB c t k v = false := by
            apply Classical.byContradiction
            intro hn
            apply hs
            intro v hv h2
            cases h3 : toB c t k v with
            | true => rfl
            | false => exact absurd ⟨v, hv, h2, h3⟩ hn
          have := count_lt (p := toB c t k) (q := toB c t (k + 1)) (fun x _ => toB_mono) this
          unfold cntB at h1 ⊢
          omega
  rcases key c.houses.length with ⟨j, hj, h1⟩ | h1
  · rcases Nat.le_total k j with hk | hk
    · exact toB_ge (toB_ge h hk) (by omega)
    · obtain ⟨d, rfl⟩ := Nat.exists_eq_add_of_le hk
      exact toB_ge (toB_stay hR h1 d v hv h) (by omega)
  · have : cntB c t c.houses.length ≤ c.houses.length := List.countP_le_length
    omega
/-- So many sales, and no fewer. -/
structure Away (c : Chn) (t : Int) (d : Nat) (v : Int) : Prop where
  y : toB c t d v = true
  n : ∀ j, j < d → toB c t j v = false
theorem Away.one {c : Chn} {t v : Int} {d e : Nat} (h : Away c t d v) (k : Away c t e v) : d = e := by
  rcases Nat.lt_trichotomy d e with h1 | h1 | h1
  · have := k.n d h1; rw [h.y] at this; cases this
  · exact h1
  · have := h.n e h1; rw [k.y] at this; cases this
theorem away_exists {c : Chn} {t v : Int} : ∀ {k : Nat}, toB c t k v = true → ∃ d, d ≤ k ∧ Away c t d v
  | 0, h => ⟨0, Nat.le_refl _, h, fun j hj => absurd hj (Nat.not_lt_zero _)⟩
  | k + 1, h => by
    cases hk : toB c t k v with
    | true =>
      obtain ⟨d, h1, h2⟩ := away_exists hk
      exact ⟨d, by omega, h2⟩
    | false =>
      refine ⟨k + 1, Nat.le_refl _, h, fun j hj => ?_⟩
      cases hj' : toB c t j v with
      | false => rfl
      | true => rw [toB_ge hj' (by omega)] at hk; cases hk
/-- The first sale of the house that leads one nearer. -/
def nearB (c : Chn) (t v : Int) (k : Nat) (x : Sale) : Bool := decide (x.seller = v) && toB c t k x.buyer
def wayG (c : Chn) (t : Int) : Nat → Int → List Int
  | 0, _ => []
  | k + 1, v => match c.sales.find? (nearB c t v k) with
    | some x => x.number :: wayG c t k x.buyer
    | none => []
theorem away_step {c : Chn} {t v : Int} {k : Nat} (h : Away c t (k + 1) v) : ∃ i x, c.sales[i]? = some x ∧ c.sales.find? (nearB c t v k) = some x ∧ nearB c t v k x = true ∧ (∀ (j : Nat) (y : Sale), j < i → c.sales[j]? = some y → nearB c t v k y = false) ∧ Away c t k x.buyer := by
  rcases toB_succ.1 h.y with rfl | ⟨x, hx, h1, h2⟩
  · have := h.n k (by omega)
    rw [toB_self] at this
    cases this
  · have hf : (c.sales.find? (nearB c t v k)).isSome = true := List.find?_isSome.2 ⟨x, hx, by simp [nearB, h1, h2]⟩
    obtain ⟨z, hz⟩ := Option.isSome_iff_exists.1 hf
    obtain ⟨hz1, l1, l2, hz2, hz3⟩ := List.find?_eq_some_iff_append.1 hz
    refine ⟨l1.length, z, by rw [hz2]; simp, hz, hz1, fun j y hj hy => ?_, ?_⟩
    · rw [hz2, List.getElem?_append_left hj] at hy
      have := hz3 y (List.mem_of_getElem? hy)
      simpa using this
    · unfold nearB at hz1
      simp only [Bool.and_eq_true, decide_eq_true_eq] at hz1
      refine ⟨hz1.2, fun j hj => ?_⟩
      cases hb : toB c t j z.buyer with
      | false => rfl
      | true =>
        have h3 : toB c t (j + 1) v = true := toB_succ.2 (.inr ⟨z, List.mem_of_find?_eq_some hz, hz1.1, hb⟩)
        rw [h.n (j + 1) (by omega)] at h3
        cases h3
/-- What the way is, and the error. -/
def WayOf (c : Chn) (a b : Int) (l : List Int) (E : Int) : Prop :=
  if checkP c then
    if hasI c.houses a && hasI c.houses b then (∃ d, Away c b d a ∧ l = wayG c b d a ∧ E = 0) ∨ ((∀ k, toB c b k a = false) ∧ l = [] ∧ E = 6)
    else l = [] ∧ E = 6
  else l = [] ∧ E = 60
theorem wayOf_exists (c : Chn) (a b : Int) : ∃ l E, WayOf c a b l E := by
  unfold WayOf
  split
  · split
    · by_cases h : ∃ k, toB c b k a = true
      · obtain ⟨k, hk⟩ := h
        obtain ⟨d, -, hd⟩ := away_exists hk
        exact ⟨_, _, .inl ⟨d, hd, rfl, rfl⟩⟩
      · refine ⟨_, _, .inr ⟨fun k => ?_, rfl, rfl⟩⟩
        cases hk : toB c b k a with
        | false => rfl
        | true => exact absurd ⟨k, hk⟩ h
    · exact ⟨_, _, rfl, rfl⟩
  · exact ⟨_, _, rfl, rfl⟩
end Go.Proofs.YtafdbgielmlihaaDoor
/- Way, plain: the reference's labels. -/
namespace Go.Proofs.YtafdbgielmlihaaDoor
open Go.RowKit Go.Shelf
set_option linter.unusedSimpArgs false

def farI : Int := 1152921504606846976
/-- A sale makes the house of its seller nearer. -/
def rlS (c : Chn) (x : Sale) (o : List Int) : List Int :=
  if o[(houseI c x.buyer).toNat]?.getD 0 + 1 < o[(houseI c x.seller).toNat]?.getD 0 then o.set (houseI c x.seller).toNat (o[(houseI c x.buyer).toNat]?.getD 0 + 1) else o
def rlTo (c : Chn) (o : List Int) : Nat → List Int
  | 0 => o
  | k + 1 => match c.sales[k]? with
    | some x => rlS c x (rlTo c o k)
    | none => rlTo c o k
theorem rlTo_succ {c : Chn} {o : List Int} {k : Nat} {x : Sale} (hx : c.sales[k]? = some x) : rlTo c o (k + 1) = rlS c x (rlTo c o k) := by
  rw [rlTo]
  simp only [hx]
def rlIt (c : Chn) (o : List Int) : Nat → List Int
  | 0 => o
  | r + 1 => rlTo c (rlIt c o r) c.sales.length
def rl0 (c : Chn) (t : Int) : List Int := (List.replicate c.houses.length farI).set (houseI c t).toNat 0
/-- What the labels say after r rounds. -/
structure Lab (c : Chn) (t : Int) (r : Nat) (o : List Int) : Prop where
  l : o.length = c.houses.length
  b : ∀ v ∈ c.houses, 0 ≤ o[(houseI c v).toNat]?.getD 0 ∧ o[(houseI c v).toNat]?.getD 0 ≤ farI
  s : ∀ v ∈ c.houses, o[(houseI c v).toNat]?.getD 0 < farI → ∃ k : Nat, o[(houseI c v).toNat]?.getD 0 = k ∧ toB c t k v = true
  f : ∀ v ∈ c.houses, ∀ k, k ≤ r → toB c t k v = true → o[(houseI c v).toNat]?.getD 0 ≤ k
theorem idx_ne {c : Chn} {u v : Int} (hu : u ∈ c.houses) (hv : v ∈ c.houses) (h : u ≠ v) : (houseI c u).toNat ≠ (houseI c v).toNat := fun e => by
  have h1 := houseI_lt hu; have h2 := houseI_lt hv
  exact h (house_inj (c := c) (a := u) (b := v) (i := (houseI c u).toNat) (by omega) (by omega))
theorem lab_set {c : Chn} {o : List Int} (hl : o.length = c.houses.length) {u : Int} (hu : u ∈ c.houses) (z : Int) {v : Int} (hv : v ∈ c.houses) :
    (o.set (houseI c u).toNat z)[(houseI c v).toNat]?.getD 0 = if u = v then z else o[(houseI c v).toNat]?.getD 0 := by
  have h1 := houseI_lt hu
  rw [List.getElem?_set]
  by_cases e : u = v
  · subst e
    rw [if_pos rfl, if_pos (by omega), if_pos rfl]
    rfl
  · rw [if_neg (idx_ne hu hv e), if_neg e]
theorem lab_start {c : Chn} {t : Int} (ht : t ∈ c.houses) : Lab c t 0 (rl0 c t) := by
  have hl : (List.replicate c.houses.length farI).length = c.houses.length := by simp
  have e : ∀ v ∈ c.houses, (rl0 c t)[(houseI c v).toNat]?.getD 0 = if t = v then 0 else farI := fun v hv => by
    unfold rl0
    rw [lab_set hl ht 0 hv]
    have := houseI_lt hv
    split
    · rfl
    · rw [List.getElem?_replicate, if_pos (by omega)]; rfl
  refine ⟨by unfold rl0; simp, fun v hv => ?_, fun v hv h => ?_, fun v hv k hk h => ?_⟩
  · rw [e v hv]; unfold farI; split <;> omega
  · rw [e v hv] at h ⊢
    by_cases htv : t = v
    · rw [if_pos htv]; exact ⟨0, rfl, by rw [← htv]; exact toB_self c t 0⟩
    · rw [if_neg htv] at h; omega
  · obtain rfl : k = 0 := by omega
    have : v = t := by simpa [toB] using h
    rw [e v hv, if_pos this.symm]
    exact Int.le_refl _
theorem rlS_le {c : Chn} (hR : Right c) {x : Sale} (hx : x ∈ c.sales) {o : List Int} (hl : o.length = c.houses.length) {v : Int} (hv : v ∈ c.houses) : (rlS c x o)[(houseI c v).toNat]?.getD 0 ≤ o[(houseI c v).toNat]?.getD 0 := by
  obtain ⟨-, hs, hb, -⟩ := hR.sale x hx
  unfold rlS
  split
  · rename_i h
    rw [lab_set hl hs _ hv]
    split
    · rename_i e; rw [← e]; omega
    · exact Int.le_refl _
  · exact Int.le_refl _
theorem rlS_len (c : Chn) (x : Sale) (o : List Int) : (rlS c x o).length = o.length := by unfold rlS; split <;> simp
/-- A step keeps what the labels say. -/
theorem lab_step {c : Chn} (hR : Right c) {t : Int} {r : Nat} {x : Sale} (hx : x ∈ c.sales) {o : List Int} (h : Lab c t r o) : Lab c t r (rlS c x o) := by
  obtain ⟨-, hs, hb, -⟩ := hR.sale x hx
  refine ⟨by rw [rlS_len, h.l], fun v hv => ?_, fun v hv hf => ?_, fun v hv k hk hk2 => Int.le_trans (rlS_le hR hx h.l hv) (h.f v hv k hk hk2)⟩
  · refine ⟨?_, Int.le_trans (rlS_le hR hx h.l hv) (h.b v hv).2⟩
    unfold rlS
    split
    · rw [lab_set h.l hs _ hv]
      have := h.b _ hb; have := h.b v hv
      split <;> omega
    · exact (h.b v hv).1
  · unfold rlS at hf ⊢
    split
    · rename_i hlt
      rw [if_pos hlt] at hf
      rw [lab_set h.l hs _ hv] at hf ⊢
      split
      · rename_i e
        have h1 := (h.b _ hs).2
        obtain ⟨k, h2, h3⟩ := h.s _ hb (by omega)
        exact ⟨k + 1, by rw [h2]; omega, toB_succ.2 (.inr ⟨x, hx, e, h3⟩)⟩
      · rename_i e
        rw [if_neg e] at hf
        exact h.s v hv hf
    · rename_i hlt
      rw [if_neg hlt] at hf
      exact h.s v hv hf
theorem lab_to {c : Chn} (hR : Right c) {t : Int} {r : Nat} {o : List Int} (h : Lab c t r o) : ∀ k, Lab c t r (rlTo c o k)
  | 0 => h
  | k + 1 => by
    rw [rlTo]
    split
    · rename_i x hx
      exact lab_step hR (List.mem_of_getElem? hx) (lab_to hR h k)
    · exact lab_to hR h k
theorem rlTo_le {c : Chn} (hR : Right c) {o : List Int} (hl : o.length = c.houses.length) {v : Int} (hv : v ∈ c.houses) {j : Nat} : ∀ d, (rlTo c o (j + d)).length = c.houses.length ∧ (rlTo c o (j + d))[(houseI c v).toNat]?.getD 0 ≤ (rlTo c o j)[(houseI c v).toNat]?.getD 0 := by
  have hlen : ∀ k, (rlTo c o k).length = c.houses.length := by
    intro k
    induction k with
    | zero => exact hl
    | succ k ih => rw [rlTo]; split <;> simp [rlS_len, ih]
  intro d
  refine ⟨hlen _, ?_⟩
  induction d with
  | zero => exact Int.le_refl _
  | succ d ih =>
    rw [← Nat.add_assoc, rlTo]
    split
    · rename_i x hx
      exact Int.le_trans (rlS_le hR (List.mem_of_getElem? hx) (hlen _) hv) ih
    · exact ih
theorem lab_round {c : Chn} (hR : Right c) {t : Int} (ht : t ∈ c.houses) {r : Nat} {o : List Int} (h : Lab c t r o) : Lab c t (r + 1) (rlTo c o c.sales.length) := by
  have h1 := lab_to hR h c.sales.length
  refine ⟨h1.l, h1.b, h1.s, fun v hv k hk hk2 => ?_⟩
  match k, hk2 with
  | 0, hk2 => exact h1.f v hv 0 (by omega) hk2
  | k + 1, hk2 =>
    rcases toB_succ.1 hk2 with rfl | ⟨x, hx, e, h3⟩
    · exact Int.le_trans (h1.f v hv 0 (by omega) (toB_self c v 0)) (by omega)
    · subst e
      obtain ⟨-, hs, hb, -⟩ := hR.sale x hx
      obtain ⟨i, hi⟩ := List.getElem?_of_mem hx
      have hlen := (List.getElem?_eq_some_iff.1 hi).1
      have hb2 := (lab_to hR h i).f _ hb k (by omega) h3
      have hst : (rlTo c o (i + 1))[(houseI c x.seller).toNat]?.getD 0 ≤ (k : Int) + 1 := by
        rw [rlTo_succ hi]
        unfold rlS
        split
        · rw [lab_set (lab_to hR h i).l hs _ hs, if_pos rfl]; omega
        · rename_i hlt; omega
      obtain ⟨d, hd⟩ := Nat.exists_eq_add_of_le (show i + 1 ≤ c.sales.length from hlen)
      rw [hd]
      have := (rlTo_le hR h.l hs (j := i + 1) d).2
      omega
theorem lab_it {c : Chn} (hR : Right c) {t : Int} (ht : t ∈ c.houses) : ∀ r, Lab c t r (rlIt c (rl0 c t) r)
  | 0 => lab_start ht
  | r + 1 => lab_round hR ht (lab_it hR ht r)
/-- Behind as many rounds as there are houses the labels are right. -/
theorem lab_end {c : Chn} (hR : Right c) {t : Int} (ht : t ∈ c.houses) {o : List Int} (h : Lab c t c.houses.length o) {v : Int} (hv : v ∈ c.houses) :
    (∃ d : Nat, o[(houseI c v).toNat]?.getD 0 = d ∧ d ≤ c.houses.length ∧ Away c t d v) ∨ (o[(houseI c v).toNat]?.getD 0 = farI ∧ ∀ k, toB c t k v = false) := by
  by_cases hf : o[(houseI c v).toNat]?.getD 0 < farI
  · obtain ⟨d, h1, h2⟩ := h.s v hv hf
    have h3 := h.f v hv c.houses.length (Nat.le_refl _) (toB_full hR ht hv h2)
    refine .inl ⟨d, h1, by omega, h2, fun j hj => ?_⟩
    cases hb : toB c t j v with
    | false => rfl
    | true =>
      have := h.f v hv j (by omega) hb
      omega
  · have hb := (h.b v hv).2
    refine .inr ⟨by omega, fun k => ?_⟩
    cases hk : toB c t k v with
    | false => rfl
    | true =>
      have := h.f v hv _ (Nat.le_refl _) (toB_full hR ht hv hk)
      have h6 := hR.h6
      unfold farI at hf
      omega
theorem away_zero {c : Chn} {t v : Int} {k : Nat} (h : Away c t k v) : v = t ↔ k = 0 := by
  constructor
  · rintro rfl
    rcases Nat.eq_zero_or_pos k with h0 | h0
    · exact h0
    · have := h.n 0 h0; rw [toB_self] at this; cases this
  · rintro rfl
    simpa [toB] using h.y
/-- A buyer's label tells whether the sale leads one nearer. -/
theorem near_label {c : Chn} (hR : Right c) {t : Int} (ht : t ∈ c.houses) {o : List Int} (h : Lab c t c.houses.length o) {x : Sale} (hx : x ∈ c.sales) {k : Nat} (ha : Away c t (k + 1) x.seller) :
    o[(houseI c x.buyer).toNat]?.getD 0 = (k : Int) ↔ toB c t k x.buyer = true := by
  have hb := (hR.sale x hx).2.2.1
  rcases lab_end hR ht h hb with ⟨d, h1, h2, h3⟩ | ⟨h1, h2⟩
  · rw [h1]
    constructor
    · intro e
      have : d = k := by omega
      rw [← this]; exact h3.y
    · intro e
      have h4 : d ≤ k := Nat.le_of_not_lt fun hlt => by
        have := h3.n k hlt
        rw [e] at this; cases this
      have h5 : k ≤ d := Nat.le_of_not_lt fun hlt => by
        have := ha.n (d + 1) (by omega)
        rw [toB_succ.2 (.inr ⟨x, hx, rfl, h3.y⟩)] at this; cases this
      omega
  · rw [h1, h2 k]
    have h6 := hR.h6
    have h7 : k + 1 ≤ c.houses.length := by
      have h8 := toB_full hR ht (hR.sale x hx).2.1 ha.y
      exact Nat.le_of_not_lt fun hlt => by
        have := ha.n _ hlt
        rw [h8] at this; cases this
    unfold farI
    constructor
    · intro e; omega
    · intro e; cases e
theorem away_label {c : Chn} (hR : Right c) {t : Int} (ht : t ∈ c.houses) {o : List Int} (h : Lab c t c.houses.length o) {v : Int} (hv : v ∈ c.houses) {k : Nat} (ha : Away c t k v) : o[(houseI c v).toNat]?.getD 0 = (k : Int) := by
  rcases lab_end hR ht h hv with ⟨d, h1, h2, h3⟩ | ⟨h1, h2⟩
  · rw [h1, ha.one h3]
  · have := ha.y; rw [h2 k] at this; cases this
end Go.Proofs.YtafdbgielmlihaaDoor
/- Way, plain: the ways that the program goes on with, layer by layer. -/
namespace Go.Proofs.YtafdbgielmlihaaDoor
open Go.RowKit Go.Shelf
set_option linter.unusedSimpArgs false

abbrev Wy := Int × List Int
/-- At p stands the beginning of the way, r sales are to come; none ahead of it is as near. -/
def Lay (c : Chn) (t : Int) (l : List Int) (r : Nat) (L : List Wy) (p : Nat) (cur : Int) (nums : List Int) : Prop :=
  L[p]? = some (cur, nums) ∧ Away c t r cur ∧ nums ++ wayG c t r cur = l ∧ ∀ i e, i < p → L[i]? = some e → toB c t r e.1 = false
def Far (c : Chn) (t : Int) (r : Nat) (v : Int) : Prop := ∀ j, j < r → toB c t j v = false
def BInv (c : Chn) (t : Int) (l : List Int) (E : Int) (m : Int → Bool) (L : List Wy) : Prop :=
  (E = 0 ∧ ∃ r p cur nums, Lay c t l r L p cur nums ∧ (∀ e ∈ L, Far c t r e.1) ∧ ∀ v, m v = true → Far c t r v) ∨
  (l = [] ∧ E = 6 ∧ ∀ e ∈ L, ∀ k, toB c t k e.1 = false)
/-- While a layer is gone through. -/
def PInv (c : Chn) (t : Int) (l : List Int) (E : Int) (L : List Wy) (i j : Nat) (m : Int → Bool) (N : List Wy) : Prop :=
  (E = 0 ∧ ∃ r p cur nums, Lay c t l r L p cur nums ∧ (∀ e ∈ L, Far c t r e.1) ∧
    ((r = 0 ∧ i ≤ p) ∨ ∃ r', r = r' + 1 ∧ (∀ v, m v = true → Far c t r' v) ∧ (∀ e ∈ N, Far c t r' e.1) ∧
      (((i < p ∨ (i = p ∧ ∀ k y, k < j → c.sales[k]? = some y → nearB c t cur r' y = false)) ∧ (∀ v, m v = true → toB c t r' v = false) ∧ ∀ e ∈ N, toB c t r' e.1 = false) ∨
        ∃ p' cur' nums', Lay c t l r' N p' cur' nums'))) ∨
  (l = [] ∧ E = 6 ∧ (∀ e ∈ L, ∀ k, toB c t k e.1 = false) ∧ ∀ e ∈ N, ∀ k, toB c t k e.1 = false)
theorem Far.last {c : Chn} {t : Int} {r : Nat} {v : Int} (h : Far c t (r + 1) v) : Far c t r v ∧ toB c t r v = false := ⟨fun j hj => h j (by omega), h r (by omega)⟩
theorem binv_start {c : Chn} {t : Int} {l : List Int} {E : Int} {m : Int → Bool} {L : List Wy} (h : BInv c t l E m L) : PInv c t l E L 0 0 m [] := by
  rcases h with ⟨h0, r, p, cur, nums, h1, h2, h3⟩ | ⟨h0, h1, h2⟩
  · refine .inl ⟨h0, r, p, cur, nums, h1, h2, ?_⟩
    match r with
    | 0 => exact .inl ⟨rfl, Nat.zero_le _⟩
    | r + 1 =>
      refine .inr ⟨r, rfl, fun v hv => (h3 v hv).last.1, by simp, .inl ⟨?_, fun v hv => (h3 v hv).last.2, by simp⟩⟩
      rcases Nat.eq_zero_or_pos p with hp | hp
      · exact .inr ⟨hp.symm, fun k y hk => absurd hk (Nat.not_lt_zero _)⟩
      · exact .inl hp
  · exact .inr ⟨h0, h1, h2, by simp⟩
theorem binv_nil {c : Chn} {t : Int} {l : List Int} {E : Int} {m : Int → Bool} (h : BInv c t l E m []) : l = [] ∧ E = 6 := by
  rcases h with ⟨h0, r, p, cur, nums, h1, -⟩ | ⟨h0, h1, -⟩
  · have := h1.1; simp at this
  · exact ⟨h0, h1⟩
theorem pinv_found {c : Chn} {t : Int} {l : List Int} {E : Int} {L : List Wy} {i j : Nat} {m : Int → Bool} {N : List Wy} {nums : List Int} (h : PInv c t l E L i j m N) (hi : L[i]? = some (t, nums)) : l = nums ∧ E = 0 := by
  have hm := List.mem_of_getElem? hi
  rcases h with ⟨h0, r, p, cur, nums', h1, h2, h3⟩ | ⟨-, -, h2, -⟩
  · rcases h3 with ⟨rfl, hip⟩ | ⟨r', rfl, -⟩
    · rcases Nat.lt_or_ge i p with hlt | hge
      · have := h1.2.2.2 i _ hlt hi
        rw [toB_self] at this; cases this
      · obtain rfl : i = p := by omega
        have := h1.1
        rw [hi] at this
        injection this with this
        injection this with h4 h5
        subst h4; subst h5
        have := h1.2.2.1
        simp [wayG] at this
        exact ⟨this.symm, h0⟩
    · have := h2 _ hm 0 (by omega)
      rw [toB_self] at this; cases this
  · have := h2 _ hm 0
    rw [toB_self] at this; cases this
theorem pinv_next {c : Chn} {t : Int} {l : List Int} {E : Int} {L : List Wy} {i : Nat} {m : Int → Bool} {N : List Wy} {e : Wy} (h : PInv c t l E L i c.sales.length m N) (hi : L[i]? = some e) (hne : e.1 ≠ t) : PInv c t l E L (i + 1) 0 m N := by
  rcases h with ⟨h0, r, p, cur, nums, h1, h2, h3⟩ | ⟨h0, h1, h2, h3⟩
  · refine .inl ⟨h0, r, p, cur, nums, h1, h2, ?_⟩
    rcases h3 with ⟨rfl, hip⟩ | ⟨r', rfl, h3, h4, h5⟩
    · refine .inl ⟨rfl, ?_⟩
      rcases Nat.lt_or_ge i p with hlt | hge
      · exact hlt
      · obtain rfl : i = p := by omega
        have := h1.1
        rw [hi] at this
        injection this with this
        subst this
        exact absurd ((away_zero h1.2.1).2 rfl) hne
    · refine .inr ⟨r', rfl, h3, h4, ?_⟩
      rcases h5 with ⟨h5, h6, h7⟩ | h5
      · refine .inl ⟨?_, h6, h7⟩
        rcases h5 with h5 | ⟨rfl, h5⟩
        · rcases Nat.lt_or_ge (i + 1) p with h8 | h8
          · exact .inl h8
          · exact .inr ⟨by omega, fun k y hk => absurd hk (Nat.not_lt_zero _)⟩
        · obtain ⟨i0, x, hx, -, hn, -⟩ := away_step h1.2.1
          have := h5 i0 x (List.getElem?_eq_some_iff.1 hx).1 hx
          rw [hn] at this; cases this
      · exact .inr h5
  · exact .inr ⟨h0, h1, h2, h3⟩
theorem pinv_end {c : Chn} {t : Int} {l : List Int} {E : Int} {L : List Wy} {m : Int → Bool} {N : List Wy} {j : Nat} (h : PInv c t l E L L.length j m N) : BInv c t l E m N := by
  rcases h with ⟨h0, r, p, cur, nums, h1, h2, h3⟩ | ⟨h0, h1, h2, h3⟩
  · have hp : p < L.length := (List.getElem?_eq_some_iff.1 h1.1).1
    rcases h3 with ⟨-, h⟩ | ⟨r', rfl, h3, h4, h5⟩
    · omega
    · rcases h5 with ⟨h5 | ⟨h5, -⟩, -⟩ | ⟨p', cur', nums', h5⟩
      · omega
      · omega
      · exact .inl ⟨h0, r', p', cur', nums', h5, h4, h3⟩
  · exact .inr ⟨h0, h1, h3⟩
def wTake (x : Sale) (e : Wy) (m : Int → Bool) : Bool := x.seller == e.1 && !m x.buyer
def metS (m : Int → Bool) (y : Int) : Int → Bool := fun v => if v = y then true else m v
theorem pinv_skip {c : Chn} {t : Int} {l : List Int} {E : Int} {L : List Wy} {i j : Nat} {m : Int → Bool} {N : List Wy} {e : Wy} {x : Sale} (h : PInv c t l E L i j m N) (hi : L[i]? = some e) (hx : c.sales[j]? = some x) (hk : wTake x e m = false) : PInv c t l E L i (j + 1) m N := by
  rcases h with ⟨h0, r, p, cur, nums, h1, h2, h3⟩ | h
  · refine .inl ⟨h0, r, p, cur, nums, h1, h2, ?_⟩
    rcases h3 with h3 | ⟨r', rfl, h3, h4, h5⟩
    · exact .inl h3
    · refine .inr ⟨r', rfl, h3, h4, ?_⟩
      rcases h5 with ⟨h5, h6, h7⟩ | h5
      · refine .inl ⟨?_, h6, h7⟩
        rcases h5 with h5 | ⟨rfl, h5⟩
        · exact .inl h5
        · refine .inr ⟨rfl, fun k y hk' hy => ?_⟩
          rcases Nat.lt_or_ge k j with h8 | h8
          · exact h5 k y h8 hy
          · obtain rfl : k = j := by omega
            rw [hx] at hy; injection hy with hy; subst hy
            have := h1.1
            rw [hi] at this; injection this with this; subst this
            unfold nearB
            by_cases hs : x.seller = cur
            · unfold wTake at hk
              simp [hs] at hk
              rw [h6 _ hk]; simp
            · simp [hs]
      · exact .inr h5
  · exact .inr h
theorem lay_app {c : Chn} {t : Int} {l : List Int} {r : Nat} {N : List Wy} {p : Nat} {cur : Int} {nums : List Int} (h : Lay c t l r N p cur nums) (u : List Wy) : Lay c t l r (N ++ u) p cur nums := by
  have hp : p < N.length := (List.getElem?_eq_some_iff.1 h.1).1
  refine ⟨by rw [List.getElem?_append_left hp]; exact h.1, h.2.1, h.2.2.1, fun i e hi he => ?_⟩
  rw [List.getElem?_append_left (by omega)] at he
  exact h.2.2.2 i e hi he
theorem pinv_take {c : Chn} {t : Int} {l : List Int} {E : Int} {L : List Wy} {i j : Nat} {m : Int → Bool} {N : List Wy} {e : Wy} {x : Sale} (h : PInv c t l E L i j m N) (hi : L[i]? = some e) (hx : c.sales[j]? = some x) (hk : wTake x e m = true) :
    PInv c t l E L i (j + 1) (metS m x.buyer) (N ++ [(x.buyer, e.2 ++ [x.number])]) := by
  unfold wTake at hk
  simp only [Bool.and_eq_true, beq_iff_eq, Bool.not_eq_true'] at hk
  obtain ⟨hs, hm⟩ := hk
  have hxm := List.mem_of_getElem? hx
  have hem := List.mem_of_getElem? hi
  have up : ∀ k, toB c t k x.buyer = true → toB c t (k + 1) e.1 = true := fun k hk => toB_succ.2 (.inr ⟨x, hxm, hs, hk⟩)
  have mm : ∀ {p : Int → Prop}, p x.buyer → (∀ v, m v = true → p v) → ∀ v, metS m x.buyer v = true → p v := by
    intro p h1 h2 v hv
    unfold metS at hv
    split at hv
    · rename_i e; rw [e]; exact h1
    · exact h2 v hv
  have nn : ∀ {p : Int → Prop}, p x.buyer → (∀ u ∈ N, p u.1) → ∀ u ∈ N ++ [(x.buyer, e.2 ++ [x.number])], p u.1 := by
    intro p h1 h2 u hu
    rcases List.mem_append.1 hu with hu | hu
    · exact h2 u hu
    · simp at hu; rw [hu]; exact h1
  rcases h with ⟨h0, r, p, cur, nums, h1, h2, h3⟩ | ⟨h0, h1, h2, h3⟩
  · refine .inl ⟨h0, r, p, cur, nums, h1, h2, ?_⟩
    rcases h3 with h3 | ⟨r', rfl, h3, h4, h5⟩
    · exact .inl h3
    · have hf : Far c t r' x.buyer := fun k hk => by
        cases hb : toB c t k x.buyer with
        | false => rfl
        | true =>
          have := h2 e hem (k + 1) (by omega)
          rw [up k hb] at this; cases this
      refine .inr ⟨r', rfl, mm hf h3, nn hf h4, ?_⟩
      rcases h5 with ⟨h5, h6, h7⟩ | ⟨p', cur', nums', h5⟩
      · cases hb : toB c t r' x.buyer with
        | false =>
          refine .inl ⟨?_, mm (p := fun v => toB c t r' v = false) hb h6, nn (p := fun v => toB c t r' v = false) hb h7⟩
          rcases h5 with h5 | ⟨rfl, h5⟩
          · exact .inl h5
          · refine .inr ⟨rfl, fun k y hk hy => ?_⟩
            rcases Nat.lt_or_ge k j with h8 | h8
            · exact h5 k y h8 hy
            · obtain rfl : k = j := by omega
              rw [hx] at hy; injection hy with hy; subst hy
              unfold nearB; rw [hb]; simp
        | true =>
          rcases h5 with h5 | ⟨rfl, h5⟩
          · have := h1.2.2.2 i e h5 hi
            rw [up r' hb] at this; cases this
          · refine .inr ⟨N.length, x.buyer, e.2 ++ [x.number], by simp, ⟨hb, hf⟩, ?_, fun k u hk hu => ?_⟩
            · have h8 := h1.1
              rw [hi] at h8; injection h8 with h8; subst h8
              obtain ⟨i0, x0, hx0, hfd, hn0, hfr, -⟩ := away_step h1.2.1
              have hnx : nearB c t cur r' x = true := by
                unfold nearB
                simp only [Bool.and_eq_true, decide_eq_true_eq]
                exact ⟨hs, hb⟩
              have h9 : i0 = j := by
                rcases Nat.lt_trichotomy i0 j with h | h | h
                · have := h5 i0 x0 h hx0
                  rw [hn0] at this; cases this
                · exact h
                · have := hfr j x h hx
                  rw [hnx] at this; cases this
              rw [h9, hx] at hx0
              injection hx0 with hx0
              subst hx0
              have h10 := h1.2.2.1
              rw [wayG, hfd] at h10
              simpa using h10
            · rw [List.getElem?_append_left hk] at hu
              exact h7 u (List.mem_of_getElem? hu)
      · exact .inr ⟨p', cur', nums', lay_app h5 _⟩
  · refine .inr ⟨h0, h1, h2, nn (p := fun v => ∀ k, toB c t k v = false) (fun k => ?_) h3⟩
    cases hb : toB c t k x.buyer with
    | false => rfl
    | true =>
      have := h2 e hem (k + 1)
      rw [up k hb] at this; cases this
/-- The houses not met yet. -/
def cntU (c : Chn) (m : Int → Bool) : Nat := c.houses.countP fun v => !m v
theorem cntU_le (c : Chn) (m : Int → Bool) : cntU c m ≤ c.houses.length := List.countP_le_length
theorem cntU_take {c : Chn} {m : Int → Bool} {y : Int} (hy : y ∈ c.houses) (hm : m y = false) : cntU c (metS m y) + 1 ≤ cntU c m := by
  refine count_lt (fun v _ hv => ?_) ⟨y, hy, by simp [hm], by simp [metS]⟩
  unfold metS at hv
  split at hv
  · simp at hv
  · exact hv
def muW (c : Chn) (m : Int → Bool) (L : List Wy) : Nat := 2 * cntU c m + (if L.length = 0 then 0 else 1)
theorem muW_down {c : Chn} {m m' : Int → Bool} {L N : List Wy} (hL : 0 < L.length) (h : N.length + cntU c m' ≤ cntU c m) : muW c m' N < muW c m L := by
  unfold muW
  rw [if_neg (by omega : ¬ L.length = 0)]
  split <;> omega
end Go.Proofs.YtafdbgielmlihaaDoor
