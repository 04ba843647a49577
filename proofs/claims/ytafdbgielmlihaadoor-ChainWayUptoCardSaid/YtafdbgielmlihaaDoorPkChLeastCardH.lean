/- chain.Put, Strike and Stop. -/
import Derived.Test.YtafdbgielmlihaaDoorPkChLeastCardF
namespace Go.Proofs.YtafdbgielmlihaaDoor
open Go.RowKit Go.Shelf Go.Lib
set_option maxRecDepth 100000
set_option linter.unusedSimpArgs false

theorem TwinC.no (base : Nat) (W : World) : TwinC noC base (.agg #[.slice none 0 0, .slice none 0 0]) W := ⟨_, _, rfl, Own.nil _ _, Own.nil _ _⟩
/-- How a changed chain is returned. -/
def PutP (E : Int) (C : Chn) (w : World) (e : Ending) (w' : World) : Prop := (∃ v, e = .returned (.tuple #[v, .int .i64 E]) ∧ TwinC C w.heap.size v w') ∧ Ext w w'

set_option maxHeartbeats 4000000 in
theorem put_any (c : Chn) (x : Sale) (hv sv : Value) (w : World) (hT : Tab w) (hh : SlI w hv c.houses) (hs : SlL w sv c.sales) (hlh : c.houses.length ≤ 1000) (hls : c.sales.length ≤ 900) :
    Calls Tryd.prog 44 #[valC hv sv, valL x] w (PutP (putE c x) (putC c x) w) := by
  have HT := Lib.hid hT
  have HH := Lib.hid hh; have HS := Lib.hid hs; have HL := Lib.hid hls; have HLH := Lib.hid hlh
  obtain ⟨A, n, cp, rfl, hn, hlc, hcm⟩ := hh.form
  obtain ⟨A2, n2, cp2, rfl, hn2, hlc2, hcm2⟩ := hs.form
  clear hh hs hlh hls hT
  dsimp only [valL]
  go_enter Tryd.func44, Tryd.ntmps44
  go_wp2_with fail
  generalize hw3 : ((w.alloc (.cells #[.slice A n cp, .slice A2 n2 cp2] 25)).alloc (.cells #[.int .i64 x.number, .int .i64 x.seller, .int .i64 x.buyer, .int .i64 x.bales, .int .i64 x.price] 68)).alloc (.cells #[.slice none 0 0, .slice none 0 0] 25) = w3
  have HE3 := Lib.hid (show Ext w w3 from hw3 ▸ ((Ext.al _ _).alloc _).alloc _)
  have HZ3 := Lib.hid (show w3.heap.size = w.heap.size + 3 by rw [← hw3]; simp)
  have HB0 := Lib.hid (show Blk w3 w.heap.size 25 #[.slice A n cp, .slice A2 n2 cp2] from hw3 ▸ ((Blk.new _ _ _).alloc _).alloc _)
  have HB1 := Lib.hid (show Blk w3 (w.heap.size + 1) 68 #[.int .i64 x.number, .int .i64 x.seller, .int .i64 x.buyer, .int .i64 x.bales, .int .i64 x.price] from hw3 ▸ (Blk.at_ (by simp)).alloc _)
  have HB2 := Lib.hid (show Blk w3 (w.heap.size + 1 + 1) 25 #[.slice none 0 0, .slice none 0 0] from hw3 ▸ Blk.at_ (by simp))
  clear hw3
  refine (check_any c _ _ _ (HT.out.ext HE3.out) (HH.out.ext HE3.out) (HS.out.ext HE3.out) (by have := HL.out; omega)).mono ?_
  rintro e w4 ⟨rfl, hE⟩
  have HE4 := Lib.hid (HE3.out.trans hE)
  have HC0 := Lib.hid (HB0.out.ext hE); have HC1 := Lib.hid (HB1.out.ext hE); have HC2 := Lib.hid (HB2.out.ext hE)
  have HZ4 := Lib.hid (show w.heap.size + 3 ≤ w4.heap.size by have := hE.size; have := HZ3.out; omega)
  clear hE HB0 HB1 HB2 HZ3 HE3
  have t0 := HC2.out.c2
  have x0 := HC0.out.c2
  have y0 := HC1.out.c5
  cases hq : checkP c with
  | false =>
    have HQ := Lib.hid (show putE c x = 60 by unfold putE; rw [hq]; rfl)
    have HQC := Lib.hid (show putC c x = noC by unfold putC; rw [HQ.out]; rfl)
    clear hq
    dsimp only [errB]
    go_wp2
    refine ret_set2 HC2.out fun W' ⟨b0, b1⟩ hW => ?_
    refine bodyPost_ret (v := .tuple #[.agg #[.slice none 0 0, .slice none 0 0], .int .i64 60]) (by simp [results, Tryd.results44, go_sem, b0, b1]) rfl ?_
    exact ⟨⟨_, by rw [HQ.out], by rw [HQC.out]; exact TwinC.no _ _⟩, ext_grownP HE4.out hW (by omega)⟩
  | true =>
    have HQ := Lib.hid hq; clear hq
    by_cases h10 : n2 = 10
    · have HQE := Lib.hid (show putE c x = 9 by unfold putE; rw [HQ.out, ← hn2.out, h10]; rfl)
      have HQC := Lib.hid (show putC c x = noC by unfold putC; rw [HQE.out]; rfl)
      subst h10
      dsimp only [errB]
      go_wp2
      refine ret_set2 HC2.out fun W' ⟨b0, b1⟩ hW => ?_
      refine bodyPost_ret (v := .tuple #[.agg #[.slice none 0 0, .slice none 0 0], .int .i64 9]) (by simp [results, Tryd.results44, go_sem, b0, b1]) rfl ?_
      exact ⟨⟨_, by rw [HQE.out], by rw [HQC.out]; exact TwinC.no _ _⟩, ext_grownP HE4.out hW (by omega)⟩
    · have h10z : ¬ ((n2 : Int) = 10) := by omega
      have HH10 := Lib.hid h10
      clear h10
      dsimp only [errB]
      go_wp2_with fail
      refine (with_any c x _ _ _ (HH.out.ext HE4.out) (HS.out.ext HE4.out) HLH.out HL.out (rising_pair (check_right HQ.out).1.sr)).mono ?_
      rintro e w5 ⟨⟨v, rfl, dv, wv, rfl, o1, o2⟩, hE⟩
      obtain ⟨Ad, nd, cd, rfl, -, -, -⟩ := (show SlI w5 dv (withC c x).houses from o1.sl (fun _ => rfl)).form
      obtain ⟨Aw, nw, cw, rfl, -, -, -⟩ := (show SlL w5 wv (withC c x).sales from o2.sl (fun _ => rfl)).form
      have HE5 := Lib.hid (HE4.out.trans hE)
      have HD0 := Lib.hid (HC0.out.ext hE); have HD2 := Lib.hid (HC2.out.ext hE)
      have O1 := Lib.hid (own_set (own_set o1 (g := w.heap.size) (i := 0) (u := .slice Ad nd cd) (by have := HZ4.out; omega)) (g := w.heap.size) (i := 1) (u := .slice Aw nw cw) (by have := HZ4.out; omega))
      have O2 := Lib.hid (own_set (own_set o2 (g := w.heap.size) (i := 0) (u := .slice Ad nd cd) (by have := HZ4.out; omega)) (g := w.heap.size) (i := 1) (u := .slice Aw nw cw) (by have := HZ4.out; omega))
      clear o1 o2 hE HC0 HC1 HC2 x0 y0 t0
      have x0 := HD0.out.c2
      dsimp only [valC]
      go_wp2_with fail
      generalize hw6 : (w5.setCell ⟨w.heap.size, 0, none⟩ (.slice Ad nd cd)).setCell ⟨w.heap.size, 1, none⟩ (.slice Aw nw cw) = w6 at O1 O2 ⊢
      have HK6 := Lib.hid (show Blk w6 w.heap.size 25 #[.slice Ad nd cd, .slice Aw nw cw] from hw6 ▸ HD0.out.set2 _ _)
      have HK2 := Lib.hid (show Blk w6 (w.heap.size + 1 + 1) 25 #[.slice none 0 0, .slice none 0 0] from hw6 ▸ (HD2.out.far (by dsimp only; omega) _).far (by dsimp only; omega) _)
      have E6 := Lib.hid (show Ext w w6 from hw6 ▸ (HE5.out.setCell (Nat.le_refl _) _).setCell (Nat.le_refl _) _)
      clear hw6 HD0 HD2 x0 HE5
      refine (right_any (withC c x) _ _ _ (HT.out.ext E6.out) (Own.sl (fun _ => rfl) O1.out) (Own.sl (fun _ => rfl) O2.out) (by rw [withC_len]; have := HL.out; omega)).mono ?_
      rintro e w7 ⟨rfl, hE⟩
      have HE7 := Lib.hid (E6.out.trans hE)
      have HK7 := Lib.hid (HK6.out.ext hE); have HT7 := Lib.hid (HK2.out.ext hE)
      have P1 := Lib.hid (O1.out.ext hE); have P2 := Lib.hid (O2.out.ext hE)
      clear hE HK6 HK2 E6 O1 O2
      have x0 := HK7.out.c2
      have t0 := HT7.out.c2
      cases hv2 : rightP (withC c x) with
      | false =>
        have HQE := Lib.hid (show putE c x = 61 by unfold putE; rw [HQ.out, if_pos rfl, if_neg (by have := hn2.out; have := HH10.out; omega), hv2]; rfl)
        have HQC := Lib.hid (show putC c x = noC by unfold putC; rw [HQE.out]; rfl)
        clear hv2
        go_wp2
        refine ret_set2 HT7.out fun W' ⟨b0, b1⟩ hW => ?_
        refine bodyPost_ret (v := .tuple #[.agg #[.slice none 0 0, .slice none 0 0], .int .i64 61]) (by simp [results, Tryd.results44, go_sem, b0, b1]) rfl ?_
        exact ⟨⟨_, by rw [HQE.out], by rw [HQC.out]; exact TwinC.no _ _⟩, ext_grownP HE7.out hW (by omega)⟩
      | true =>
        have HQE := Lib.hid (show putE c x = 0 by unfold putE; rw [HQ.out, if_pos rfl, if_neg (by have := hn2.out; have := HH10.out; omega), hv2]; rfl)
        have HQC := Lib.hid (show putC c x = withC c x by unfold putC; rw [HQE.out]; rfl)
        clear hv2
        go_wp2
        refine ret_set2 HT7.out fun W' ⟨b0, b1⟩ hW => ?_
        refine bodyPost_ret (v := .tuple #[valC (.slice Ad nd cd) (.slice Aw nw cw), .int .i64 0]) (by simp [results, Tryd.results44, go_sem, b0, b1]) rfl ?_
        refine ⟨⟨_, by rw [HQE.out], ?_⟩, ext_grownP HE7.out hW (by omega)⟩
        rw [HQC.out]
        have hz := HZ4.out
        exact ⟨_, _, rfl, own_mono (own_kept P1.out hW (by omega)) (by omega), own_mono (own_kept P2.out hW (by omega)) (by omega)⟩

theorem f103_any (l : List Int) (A : Option Addr) (n c bl : Nat) (x : Sale) (w : World) (hb : w.cell? ⟨bl, 0, none⟩ = some (.slice A n c)) (hs : SlI w (.slice A n c) l) :
    Calls Tryd.prog 103 #[valL x, .pointer (some ⟨bl, 0, none⟩)] w fun e w' => e = .returned (.bool (hasI l x.number)) ∧ Ext w w' := by
  have HS := Lib.hid hs
  have hlt := (is_cells hb).1
  clear hs
  dsimp only [valL]
  go_enter Tryd.func103, Tryd.ntmps103
  go_wp2_with fail
  refine (has_any l _ x.number _ (HS.out.ext (Ext.al _ _))).mono ?_
  rintro e w1 ⟨rfl, hE⟩
  have HE := Lib.hid ((Ext.al _ _).trans hE); clear hE
  go_wp2
  go_ret
  exact ⟨rfl, HE.out⟩
theorem f104_any (h : Int) (bl : Nat) (x : Sale) (w : World) (hb : w.cell? ⟨bl, 0, none⟩ = some (.int .i64 h)) :
    Calls Tryd.prog 104 #[valL x, .pointer (some ⟨bl, 0, none⟩)] w fun e w' => e = .returned (.bool (soldBy h x)) ∧ Ext w w' := by
  have hlt := (is_cells hb).1
  dsimp only [valL]
  cases e1 : (x.seller == h)
  all_goals cases e2 : (x.buyer == h)
  all_goals
    have HF := Lib.hid (show soldBy h x = (x.seller == h || x.buyer == h) from rfl)
    have E1 := Lib.hid e1; have E2 := Lib.hid e2
    go_enter Tryd.func104, Tryd.ntmps104
    go_wp2
    go_ret
    exact ⟨ret_bool (by rw [HF.out, E1.out, E2.out]; rfl), Ext.al _ _⟩

set_option maxHeartbeats 4000000 in
theorem stop_any (c : Chn) (h : Int) (hv sv : Value) (w : World) (hT : Tab w) (hh : SlI w hv c.houses) (hs : SlL w sv c.sales) (hlh : c.houses.length ≤ 1000) (hls : c.sales.length ≤ 900) :
    Calls Tryd.prog 48 #[valC hv sv, .int .i64 h] w (PutP (stopE c h) (stopC c h) w) := by
  have HT := Lib.hid hT
  have HH := Lib.hid hh; have HS := Lib.hid hs; have HL := Lib.hid hls; have HLH := Lib.hid hlh
  obtain ⟨A, n, cp, rfl, hn, hlc, hcm⟩ := hh.form
  obtain ⟨A2, n2, cp2, rfl, hn2, hlc2, hcm2⟩ := hs.form
  clear hh hs hlh hls hT
  go_enter Tryd.func48, Tryd.ntmps48
  go_wp2_with fail
  generalize hw3 : ((w.alloc (.cells #[.slice A n cp, .slice A2 n2 cp2] 25)).alloc (.cells #[.int .i64 h] 3)).alloc (.cells #[.slice none 0 0, .slice none 0 0] 25) = w3
  have HE3 := Lib.hid (show Ext w w3 from hw3 ▸ ((Ext.al _ _).alloc _).alloc _)
  have HZ3 := Lib.hid (show w3.heap.size = w.heap.size + 3 by rw [← hw3]; simp)
  have HB0 := Lib.hid (show Blk w3 w.heap.size 25 #[.slice A n cp, .slice A2 n2 cp2] from hw3 ▸ ((Blk.new _ _ _).alloc _).alloc _)
  have HB1 := Lib.hid (show Blk w3 (w.heap.size + 1) 3 #[.int .i64 h] from hw3 ▸ (Blk.at_ (by simp)).alloc _)
  have HB2 := Lib.hid (show Blk w3 (w.heap.size + 1 + 1) 25 #[.slice none 0 0, .slice none 0 0] from hw3 ▸ Blk.at_ (by simp))
  clear hw3
  refine (check_any c _ _ _ (HT.out.ext HE3.out) (HH.out.ext HE3.out) (HS.out.ext HE3.out) (by have := HL.out; omega)).mono ?_
  rintro e w4 ⟨rfl, hE⟩
  have HE4 := Lib.hid (HE3.out.trans hE)
  have HC0 := Lib.hid (HB0.out.ext hE); have HC1 := Lib.hid (HB1.out.ext hE); have HC2 := Lib.hid (HB2.out.ext hE)
  have HZ4 := Lib.hid (show w.heap.size + 3 ≤ w4.heap.size by have := hE.size; have := HZ3.out; omega)
  clear hE HB0 HB1 HB2 HZ3 HE3
  have t0 := HC2.out.c2
  have x0 := HC0.out.c2
  have y0 := HC1.out.c1
  cases hq : checkP c with
  | false =>
    have HQ := Lib.hid (show stopE c h = 60 by unfold stopE; rw [hq]; rfl)
    have HQC := Lib.hid (show stopC c h = noC by unfold stopC; rw [HQ.out]; rfl)
    clear hq
    dsimp only [errB]
    go_wp2
    refine ret_set2 HC2.out fun W' ⟨b0, b1⟩ hW => ?_
    refine bodyPost_ret (v := .tuple #[.agg #[.slice none 0 0, .slice none 0 0], .int .i64 60]) (by simp [results, Tryd.results48, go_sem, b0, b1]) rfl ?_
    exact ⟨⟨_, by rw [HQ.out], by rw [HQC.out]; exact TwinC.no _ _⟩, ext_grownP HE4.out hW (by omega)⟩
  | true =>
    have HQ := Lib.hid hq; clear hq
    dsimp only [errB]
    go_wp2_with fail
    refine (has_any c.houses _ h _ (HH.out.ext HE4.out)).mono ?_
    rintro e w5 ⟨rfl, hE⟩
    have HE5 := Lib.hid (HE4.out.trans hE)
    have HD0 := Lib.hid (HC0.out.ext hE); have HD1 := Lib.hid (HC1.out.ext hE); have HD2 := Lib.hid (HC2.out.ext hE)
    clear hE HC0 HC1 HC2 t0 x0 y0
    have t0 := HD2.out.c2
    have x0 := HD0.out.c2
    cases hA : hasI c.houses h with
    | false =>
      have HQE := Lib.hid (show stopE c h = 6 by unfold stopE; rw [HQ.out, hA]; rfl)
      have HQC := Lib.hid (show stopC c h = noC by unfold stopC; rw [HQE.out]; rfl)
      clear hA
      go_wp2
      refine ret_set2 HD2.out fun W' ⟨b0, b1⟩ hW => ?_
      refine bodyPost_ret (v := .tuple #[.agg #[.slice none 0 0, .slice none 0 0], .int .i64 6]) (by simp [results, Tryd.results48, go_sem, b0, b1]) rfl ?_
      exact ⟨⟨_, by rw [HQE.out], by rw [HQC.out]; exact TwinC.no _ _⟩, ext_grownP HE5.out hW (by omega)⟩
    | true =>
      have HQE := Lib.hid (show stopE c h = 0 by unfold stopE; rw [HQ.out, hA]; rfl)
      have HQC := Lib.hid (show stopC c h = lessC c (soldBy h) by unfold stopC; rw [HQE.out]; rfl)
      clear hA
      go_wp2_with fail
      refine (less_any c (soldBy h) 104 #[.pointer (some ⟨w.heap.size + 1, 0, none⟩)] (enters_of Tryd.func104 (by kernel_rfl) rfl) _ _ _ (HH.out.ext HE5.out) (HS.out.ext HE5.out) HLH.out (by have := HL.out; omega) ?_).mono ?_
      · intro W y hW
        exact f104_any h (w.heap.size + 1) y W ((HD1.out.ext hW).c1.1)
      rintro e w6 ⟨⟨v, rfl, dv, wv, rfl, o1, o2⟩, hE⟩
      obtain ⟨Ad, nd, cd, rfl, -, -, -⟩ := (show SlI w6 dv (lessC c (soldBy h)).houses from o1.sl (fun _ => rfl)).form
      obtain ⟨Aw, nw, cw, rfl, -, -, -⟩ := (show SlL w6 wv (lessC c (soldBy h)).sales from o2.sl (fun _ => rfl)).form
      have HE6 := Lib.hid (HE5.out.trans hE)
      have HF2 := Lib.hid (HD2.out.ext hE)
      have O1 := Lib.hid o1; have O2 := Lib.hid o2
      have hz5 := HD2.out.lt
      have HZ5 := Lib.hid hz5
      clear hE HD0 HD1 HD2 t0 x0 o1 o2 hz5
      have t0 := HF2.out.c2
      dsimp only [valC]
      go_wp2
      refine ret_set2 HF2.out fun W' ⟨b0, b1⟩ hW => ?_
      refine bodyPost_ret (v := .tuple #[valC (.slice Ad nd cd) (.slice Aw nw cw), .int .i64 0]) (by simp [results, Tryd.results48, go_sem, b0, b1]) rfl ?_
      refine ⟨⟨_, by rw [HQE.out], ?_⟩, ext_grownP HE6.out hW (by omega)⟩
      rw [HQC.out]
      have hz := HZ5.out
      exact ⟨_, _, rfl, own_mono (own_kept O1.out hW (by omega)) (by omega), own_mono (own_kept O2.out hW (by omega)) (by omega)⟩

set_option maxHeartbeats 4000000 in
theorem strike_any (c : Chn) (l : List Int) (hv sv lv : Value) (w : World) (hT : Tab w) (hh : SlI w hv c.houses) (hs : SlL w sv c.sales) (hl : SlI w lv l) (hlh : c.houses.length ≤ 1000) (hls : c.sales.length ≤ 900) :
    Calls Tryd.prog 46 #[valC hv sv, lv] w (PutP (strikeE c l) (strikeC c l) w) := by
  have HT := Lib.hid hT
  have HH := Lib.hid hh; have HS := Lib.hid hs; have HL := Lib.hid hls; have HLH := Lib.hid hlh; have HN := Lib.hid hl
  obtain ⟨A, n, cp, rfl, hn, hlc, hcm⟩ := hh.form
  obtain ⟨A2, n2, cp2, rfl, hn2, hlc2, hcm2⟩ := hs.form
  obtain ⟨A3, n3, cp3, rfl, hn3, hlc3, hcm3⟩ := hl.form
  clear hh hs hlh hls hT hl
  go_enter Tryd.func46, Tryd.ntmps46
  go_wp2_with fail
  generalize hw3 : ((w.alloc (.cells #[.slice A n cp, .slice A2 n2 cp2] 25)).alloc (.cells #[.slice A3 n3 cp3] 22)).alloc (.cells #[.slice none 0 0, .slice none 0 0] 25) = w3
  have HE3 := Lib.hid (show Ext w w3 from hw3 ▸ ((Ext.al _ _).alloc _).alloc _)
  have HZ3 := Lib.hid (show w3.heap.size = w.heap.size + 3 by rw [← hw3]; simp)
  have HB0 := Lib.hid (show Blk w3 w.heap.size 25 #[.slice A n cp, .slice A2 n2 cp2] from hw3 ▸ ((Blk.new _ _ _).alloc _).alloc _)
  have HB1 := Lib.hid (show Blk w3 (w.heap.size + 1) 22 #[.slice A3 n3 cp3] from hw3 ▸ (Blk.at_ (by simp)).alloc _)
  have HB2 := Lib.hid (show Blk w3 (w.heap.size + 1 + 1) 25 #[.slice none 0 0, .slice none 0 0] from hw3 ▸ Blk.at_ (by simp))
  clear hw3
  refine (check_any c _ _ _ (HT.out.ext HE3.out) (HH.out.ext HE3.out) (HS.out.ext HE3.out) (by have := HL.out; omega)).mono ?_
  rintro e w4 ⟨rfl, hE⟩
  have HE4 := Lib.hid (HE3.out.trans hE)
  have HC0 := Lib.hid (HB0.out.ext hE); have HC1 := Lib.hid (HB1.out.ext hE); have HC2 := Lib.hid (HB2.out.ext hE)
  have HZ4 := Lib.hid (show w.heap.size + 3 ≤ w4.heap.size by have := hE.size; have := HZ3.out; omega)
  clear hE HB0 HB1 HB2 HZ3 HE3
  have t0 := HC2.out.c2
  have x0 := HC0.out.c2
  have y0 := HC1.out.c1
  cases hq : checkP c with
  | false =>
    have HQ := Lib.hid (show strikeE c l = 60 by unfold strikeE; rw [hq]; rfl)
    have HQC := Lib.hid (show strikeC c l = noC by unfold strikeC; rw [HQ.out]; rfl)
    clear hq
    dsimp only [errB]
    go_wp2
    refine ret_set2 HC2.out fun W' ⟨b0, b1⟩ hW => ?_
    refine bodyPost_ret (v := .tuple #[.agg #[.slice none 0 0, .slice none 0 0], .int .i64 60]) (by simp [results, Tryd.results46, go_sem, b0, b1]) rfl ?_
    exact ⟨⟨_, by rw [HQ.out], by rw [HQC.out]; exact TwinC.no _ _⟩, ext_grownP HE4.out hW (by omega)⟩
  | true =>
    have HQ := Lib.hid hq; clear hq
    have HSE := Lib.hid (show strikeE c l = if okL c 0 l then 0 else 61 by unfold strikeE; rw [HQ.out]; rfl)
    dsimp only [errB]
    go_wp2
    clear t0 x0 y0
    go_loopg [7, 17] n3 (fun gg s7 s17 wr => ∃ (q : Nat) (last : Int), q ≤ n3 ∧ n3 - q ≤ gg ∧ s17 = .int .i64 (q : Int) ∧ s7 = .int .i64 last ∧ Aside (okL c 0 l = okL c last (l.drop q)) ∧ Aside (Ext w4 wr))
    case atStart => exact ⟨0, 0, by omega, by omega, rfl, rfl, rfl, Ext.refl _⟩
    case round =>
      obtain ⟨q, last, hq, hg, rfl, rfl, OK, BW⟩ := hrel
      have HE5 := Lib.hid (HE4.out.trans BW.out)
      have HD0 := Lib.hid (HC0.out.ext BW.out); have HD1 := Lib.hid (HC1.out.ext BW.out); have HD2 := Lib.hid (HC2.out.ext BW.out)
      have t0 := HD2.out.c2
      have x0 := HD0.out.c2
      have y0 := HD1.out.c1
      by_cases hqn : q < n3
      · have hqz : (q : Int) < (n3 : Int) := by omega
        obtain ⟨bb, off, x, rfl, hx, hb, hcell⟩ := HN.out.at_ hqn
        have HX := Lib.hid hx
        have e0 := fun W (h : Ext wr W) => SlI.cell hcell (HE5.out.trans h)
        have e1 := fun W (h : Ext wr W) => (HD1.out.ext h).c1.1
        have e2 := fun W (h : Ext wr W) => (HD0.out.ext h).c2.2.1
        have c0 := e0 _ (Ext.refl _)
        clear hx hcell hb
        by_cases hlast : x ≤ last
        · have HOK := Lib.hid (show okL c 0 l = false by
            rw [OK.out, drop_at HX.out, okL, decide_eq_false (by omega)]; rfl)
          have HQE := Lib.hid (show strikeE c l = 61 by rw [HSE.out, HOK.out]; rfl)
          have HQC := Lib.hid (show strikeC c l = noC by unfold strikeC; rw [HQE.out]; rfl)
          go_wp2
          refine wp_region_tame (fun W => Ext wr W) (fun W W' => Ext W W') (by kernel_rfl) 46 rfl (by decide +kernel) (Ext.refl _).drew ?_
          repeat (apply tame_q rfl; (intro ρ W hC hr hD; (obtain ⟨hrc, hrg, hrf, hrs⟩ := hr); (simp [go_sem] at hD); go_simp; first | exact ⟨⟨hC, Ext.refl _⟩, rfl⟩ | exact ⟨⟨hC, RS.refl _⟩, rfl⟩ | exact rfl); simp only [List.nil_append, List.cons_append])
          refine tame_end 46 rfl rfl (fun ρ W hC hr hF => ?_)
          obtain ⟨hrc, hrg, hrf, hrs⟩ := hr
          simp [go_sem] at hF
          apply frame_to
          · go_simp
            exact rfl
          have HF2 := Lib.hid (HD2.out.ext hC); have HE6 := Lib.hid (HE5.out.trans hC)
          clear hF hrs hrc hrg hrf e0 e1 e2 t0 x0 y0 hC c0
          have t0 := HF2.out.c2
          go_wp2
          refine ret_set2 HF2.out fun W' ⟨b0, b1⟩ hW => ?_
          refine bodyPost_ret (v := .tuple #[.agg #[.slice none 0 0, .slice none 0 0], .int .i64 61]) (by simp [results, Tryd.results46, go_sem, b0, b1]) rfl ?_
          exact ⟨⟨_, by rw [HQE.out], by rw [HQC.out]; exact TwinC.no _ _⟩, ext_grownP HE6.out hW (by omega)⟩
        · have HLA := Lib.hid (show last < x by omega)
          go_wp2
          refine wp_region_tame (fun W => Ext wr W) (fun W W' => Ext W W') (by kernel_rfl) 46 rfl (by decide +kernel) (Ext.refl _).drew ?_
          repeat (apply tame_q rfl; (intro ρ W hC hr hD; (obtain ⟨hrc, hrg, hrf, hrs⟩ := hr); (simp [go_sem] at hD); go_simp; first | exact ⟨⟨hC, Ext.refl _⟩, rfl⟩ | exact ⟨⟨hC, RS.refl _⟩, rfl⟩ | exact rfl); simp only [List.nil_append, List.cons_append])
          apply tame_v rfl (fun v W => SlI W v (c.sales.map (·.number))) (fun v W W' _ hE h => h.ext hE)
          · intro ρ W hC hr hD
            obtain ⟨hrc, hrg, hrf, hrs⟩ := hr
            simp [go_sem] at hD
            go_simp
            refine (numbers_any c.sales _ _ (HS.out.ext (HE5.out.trans hC)) (by have := HL.out; omega)).mono ?_
            rintro e w' ⟨⟨v', rfl, ho⟩, hE⟩
            exact ⟨_, rfl, ⟨hC.trans hE, hE⟩, ho.sl (fun _ => rfl)⟩
          simp only [List.nil_append, List.cons_append]
          repeat (apply tame_q rfl; (intro ρ W hC hr hD; (obtain ⟨hrc, hrg, hrf, hrs⟩ := hr); (simp [go_sem] at hD); go_simp; first | exact ⟨⟨hC, Ext.refl _⟩, rfl⟩ | exact ⟨⟨hC, RS.refl _⟩, rfl⟩ | exact rfl); simp only [List.nil_append, List.cons_append])
          apply tame_v rfl (fun v _ => v = .bool (hasI (c.sales.map (·.number)) x)) (fun v W W' _ hE h => h)
          · intro ρ W hC hr hD
            obtain ⟨hrc, hrg, hrf, hrs⟩ := hr
            simp [go_sem] at hD
            obtain ⟨q1, q2⟩ := hD
            go_simp
            refine (has_any (c.sales.map (·.number)) _ x _ q1).mono ?_
            rintro e w' ⟨rfl, hE⟩
            exact ⟨_, rfl, ⟨hC.trans hE, hE⟩, rfl⟩
          simp only [List.nil_append, List.cons_append]
          repeat (apply tame_q rfl; (intro ρ W hC hr hD; (obtain ⟨hrc, hrg, hrf, hrs⟩ := hr); (simp [go_sem] at hD); go_simp; first | exact ⟨⟨hC, Ext.refl _⟩, rfl⟩ | exact ⟨⟨hC, RS.refl _⟩, rfl⟩ | exact rfl); simp only [List.nil_append, List.cons_append])
          refine tame_end 46 rfl rfl (fun ρ W hC hr hF => ?_)
          obtain ⟨hrc, hrg, hrf, hrs⟩ := hr
          simp [go_sem] at hF
          obtain ⟨g20, g21, g22, g23, g24, g25, g26, g27, g28, g29, g30, g31, g32, g33, g34, g35, g36⟩ := hF
          obtain ⟨Au, nu, cu, e29, -, -, -⟩ := g29.form
          apply frame_to
          · go_simp
            exact rfl
          have HF0 := Lib.hid (HD0.out.ext hC); have HF1 := Lib.hid (HD1.out.ext hC); have HF2 := Lib.hid (HD2.out.ext hC); have HE6 := Lib.hid (BW.out.trans hC); have HCW := Lib.hid hC
          clear g20 g21 g22 g23 g24 g25 g26 g27 g28 g29 g30 g31 g32 g33 g34 g35 g36 e29 hrs hrc hrg hrf e0 e1 e2 t0 x0 y0 hC
          cases hA : hasI (c.sales.map (·.number)) x with
          | false =>
            have HOK := Lib.hid (show okL c 0 l = false by rw [OK.out, drop_at HX.out, okL, hA]; simp)
            have HQE := Lib.hid (show strikeE c l = 61 by rw [HSE.out, HOK.out]; rfl)
            have HQC := Lib.hid (show strikeC c l = noC by unfold strikeC; rw [HQE.out]; rfl)
            clear hA
            have t0 := HF2.out.c2
            simp only [Bool.not_false, Bool.or_true]
            go_wp2
            refine ret_set2 HF2.out fun W' ⟨b0, b1⟩ hW => ?_
            refine bodyPost_ret (v := .tuple #[.agg #[.slice none 0 0, .slice none 0 0], .int .i64 61]) (by simp [results, Tryd.results46, go_sem, b0, b1]) rfl ?_
            exact ⟨⟨_, by rw [HQE.out], by rw [HQC.out]; exact TwinC.no _ _⟩, ext_grownP (HE4.out.trans HE6.out) hW (by omega)⟩
          | true =>
            have HOK := Lib.hid (show okL c 0 l = okL c x (l.drop (q + 1)) by rw [OK.out, drop_at HX.out, okL, hA, decide_eq_true HLA.out]; rfl)
            clear hA
            have c1' := HCW.out.cell1 c0
            clear c0
            have y0 := HF1.out.c1
            have hdf : decide (x ≤ last) = false := decide_eq_false (by omega)
            simp only [Bool.not_true, Bool.or_false]
            go_wp2
            go_roundg (n3 - (q + 1))
            case measure => omega
            case rel => exact ⟨q + 1, x, by omega, by omega, by simp, rfl, HOK.out, HE6.out⟩
      · have HK := Lib.hid (show q = n3 by omega)
        have HOK := Lib.hid (show okL c 0 l = true by rw [OK.out, List.drop_eq_nil_of_le (by have := HK.out; have := hn3.out; omega)]; rfl)
        have HQE := Lib.hid (show strikeE c l = 0 by rw [HSE.out, HOK.out]; rfl)
        have HQC := Lib.hid (show strikeC c l = lessC c (fun x => hasI l x.number) by unfold strikeC; rw [HQE.out]; rfl)
        go_wp2_with fail
        refine (less_any c (fun x => hasI l x.number) 103 #[.pointer (some ⟨w.heap.size + 1, 0, none⟩)] (enters_of Tryd.func103 (by kernel_rfl) rfl) _ _ _ (HH.out.ext HE5.out) (HS.out.ext HE5.out) HLH.out (by have := HL.out; omega) ?_).mono ?_
        · intro W y hW
          exact f103_any l A3 n3 cp3 (w.heap.size + 1) y W ((HD1.out.ext hW).c1.1) (HN.out.ext (HE5.out.trans hW))
        rintro e w6 ⟨⟨v, rfl, dv, wv, rfl, o1, o2⟩, hE⟩
        obtain ⟨Ad, nd, cd, rfl, -, -, -⟩ := (show SlI w6 dv (lessC c (fun x => hasI l x.number)).houses from o1.sl (fun _ => rfl)).form
        obtain ⟨Aw, nw, cw, rfl, -, -, -⟩ := (show SlL w6 wv (lessC c (fun x => hasI l x.number)).sales from o2.sl (fun _ => rfl)).form
        have HE6 := Lib.hid (HE5.out.trans hE)
        have HF2 := Lib.hid (HD2.out.ext hE)
        have O1 := Lib.hid o1; have O2 := Lib.hid o2
        have HZ5 := Lib.hid HD2.out.lt
        clear hE HD0 HD1 HD2 t0 x0 y0 o1 o2
        have t0 := HF2.out.c2
        dsimp only [valC]
        go_wp2
        refine ret_set2 HF2.out fun W' ⟨b0, b1⟩ hW => ?_
        refine bodyPost_ret (v := .tuple #[valC (.slice Ad nd cd) (.slice Aw nw cw), .int .i64 0]) (by simp [results, Tryd.results46, go_sem, b0, b1]) rfl ?_
        refine ⟨⟨_, by rw [HQE.out], ?_⟩, ext_grownP HE6.out hW (by omega)⟩
        rw [HQC.out]
        have hz := HZ5.out
        exact ⟨_, _, rfl, own_mono (own_kept O1.out hW (by omega)) (by omega), own_mono (own_kept O2.out hW (by omega)) (by omega)⟩
end Go.Proofs.YtafdbgielmlihaaDoor
