/- chain.Put, Strike and Stop. -/
import Derived.Test.YtafdbgielmlihaaDoorPkChTellsCardF
import Derived.Test.YtafdbgielmlihaaDoorPkChTellsCardE
namespace Go.Proofs.YtafdbgielmlihaaDoor
open Go.RowKit Go.Shelf Go.Lib
set_option maxRecDepth 100000
set_option linter.unusedSimpArgs false

theorem TwinC.no (base : Nat) (W : World) : TwinC noC base (.agg #[.slice none 0 0, .slice none 0 0]) W := ⟨_, _, rfl, Own.nil _ _, Own.nil _ _⟩
/-- How a changed chain is returned. -/
def PutP (E : Int) (C : Chn) (w : World) (e : Ending) (w' : World) : Prop := (∃ v, e = .returned (.tuple #[v, .int .i64 E]) ∧ TwinC C w.heap.size v w') ∧ Ext w w'

set_option maxHeartbeats 4000000 in
theorem put_any (c : Chn) (x : Sale) (hv sv : Value) (w : World) (hT : Tab w) (hh : SlI w hv c.houses) (hs : SlL w sv c.sales) (hlh : c.houses.length ≤ 1000) (hls : c.sales.length ≤ 900) :
    Calls Tryd.prog 44 #[valC hv sv, valL x] w (PutP (putE c x) (putC c x) w) := by
  have HT := Lib.hid hT
  have HH := Lib.hid hh; have HS := Lib.hid hs; have HL := Lib.hid hls; have HLH := Lib.hid hlh
  obtain ⟨A, n, cp, rfl, hn, hlc, hcm⟩ := hh.form
  obtain ⟨A2, n2, cp2, rfl, hn2, hlc2, hcm2⟩ := hs.form
  clear hh hs hlh hls hT
  dsimp only [valL]
  go_enter Tryd.func44, Tryd.ntmps44
  go_wp2_with fail
  generalize hw3 : ((w.alloc (.cells #[.slice A n cp, .slice A2 n2 cp2] 25)).alloc (.cells #[.int .i64 x.number, .int .i64 x.seller, .int .i64 x.buyer, .int .i64 x.bales, .int .i64 x.price] 68)).alloc (.cells #[.slice none 0 0, .slice none 0 0] 25) = w3
  have HE3 := Lib.hid (show Ext w w3 from hw3 ▸ ((Ext.al _ _).alloc _).alloc _)
  have HZ3 := Lib.hid (show w3.heap.size = w.heap.size + 3 by rw [← hw3]; simp)
  have HB0 := Lib.hid (show Blk w3 w.heap.size 25 #[.slice A n cp, .slice A2 n2 cp2] from hw3 ▸ ((Blk.new _ _ _).alloc _).alloc _)
  have HB1 := Lib.hid (show Blk w3 (w.heap.size + 1) 68 #[.int .i64 x.number, .int .i64 x.seller, .int .i64 x.buyer, .int .i64 x.bales, .int .i64 x.price] from hw3 ▸ (Blk.at_ (by simp)).alloc _)
  have HB2 := Lib.hid (show Blk w3 (w.heap.size + 1 + 1) 25 #[.slice none 0 0, .slice none 0 0] from hw3 ▸ Blk.at_ (by simp))
  clear hw3
  refine (check_any c _ _ _ (HT.out.ext HE3.out) (HH.out.ext HE3.out) (HS.out.ext HE3.out) (by have := HL.out; omega)).mono ?_
  rintro e w4 ⟨rfl, hE⟩
  have HE4 := Lib.hid (HE3.out.trans hE)
  have HC0 := Lib.hid (HB0.out.ext hE); have HC1 := Lib.hid (HB1.out.ext hE); have HC2 := Lib.hid (HB2.out.ext hE)
  have HZ4 := Lib.hid (show w.heap.size + 3 ≤ w4.heap.size by have := hE.size; have := HZ3.out; omega)
  clear hE HB0 HB1 HB2 HZ3 HE3
  have t0 := HC2.out.c2
  have x0 := HC0.out.c2
  have y0 := HC1.out.c5
  cases hq : checkP c with
  | false =>
    have HQ := Lib.hid (show putE c x = 60 by unfold putE; rw [hq]; rfl)
    have HQC := Lib.hid (show putC c x = noC by unfold putC; rw [HQ.out]; rfl)
    clear hq
    dsimp only [errB]
    go_wp2
    refine ret_set2 HC2.out fun W' ⟨b0, b1⟩ hW => ?_
    refine bodyPost_ret (v := .tuple #[.agg #[.slice none 0 0, .slice none 0 0], .int .i64 60]) (by simp [results, Tryd.results44, go_sem, b0, b1]) rfl ?_
    exact ⟨⟨_, by rw [HQ.out], by rw [HQC.out]; exact TwinC.no _ _⟩, ext_grownP HE4.out hW (by omega)⟩
  | true =>
    have HQ := Lib.hid hq; clear hq
    by_cases h10 : n2 = 10
    · have HQE := Lib.hid (show putE c x = 9 by unfold putE; rw [HQ.out, ← hn2.out, h10]; rfl)
      have HQC := Lib.hid (show putC c x = noC by unfold putC; rw [HQE.out]; rfl)
      subst h10
      dsimp only [errB]
      go_wp2
      refine ret_set2 HC2.out fun W' ⟨b0, b1⟩ hW => ?_
      refine bodyPost_ret (v := .tuple #[.agg #[.slice none 0 0, .slice none 0 0], .int .i64 9]) (by simp [results, Tryd.results44, go_sem, b0, b1]) rfl ?_
      exact ⟨⟨_, by rw [HQE.out], by rw [HQC.out]; exact TwinC.no _ _⟩, ext_grownP HE4.out hW (by omega)⟩
    · have h10z : ¬ ((n2 : Int) = 10) := by omega
      have HH10 := Lib.hid h10
      clear h10
      dsimp only [errB]
      go_wp2_with fail
      refine (with_any c x _ _ _ (HH.out.ext HE4.out) (HS.out.ext HE4.out) HLH.out HL.out (rising_pair (check_right HQ.out).1.sr)).mono ?_
      rintro e w5 ⟨⟨v, rfl, dv, wv, rfl, o1, o2⟩, hE⟩
      obtain ⟨Ad, nd, cd, rfl, -, -, -⟩ := (show SlI w5 dv (withC c x).houses from o1.sl (fun _ => rfl)).form
      obtain ⟨Aw, nw, cw, rfl, -, -, -⟩ := (show SlL w5 wv (withC c x).sales from o2.sl (fun _ => rfl)).form
      have HE5 := Lib.hid (HE4.out.trans hE)
      have HD0 := Lib.hid (HC0.out.ext hE); have HD2 := Lib.hid (HC2.out.ext hE)
      have O1 := Lib.hid (own_set (own_set o1 (g := w.heap.size) (i := 0) (u := .slice Ad nd cd) (by have := HZ4.out; omega)) (g := w.heap.size) (i := 1) (u := .slice Aw nw cw) (by have := HZ4.out; omega))
      have O2 := Lib.hid (own_set (own_set o2 (g := w.heap.size) (i := 0) (u := .slice Ad nd cd) (by have := HZ4.out; omega)) (g := w.heap.size) (i := 1) (u := .slice Aw nw cw) (by have := HZ4.out; omega))
      clear o1 o2 hE HC0 HC1 HC2 x0 y0 t0
      have x0 := HD0.out.c2
      dsimp only [valC]
      go_wp2_with fail
      generalize hw6 : (w5.setCell ⟨w.heap.size, 0, none⟩ (.slice Ad nd cd)).setCell ⟨w.heap.size, 1, none⟩ (.slice Aw nw cw) = w6 at O1 O2 ⊢
      have HK6 := Lib.hid (show Blk w6 w.heap.size 25 #[.slice Ad nd cd, .slice Aw nw cw] from hw6 ▸ HD0.out.set2 _ _)
      have HK2 := Lib.hid (show Blk w6 (w.heap.size + 1 + 1) 25 #[.slice none 0 0, .slice none 0 0] from hw6 ▸ (HD2.out.far (by dsimp only; omega) _).far (by dsimp only; omega) _)
      have E6 := Lib.hid (show Ext w w6 from hw6 ▸ (HE5.out.setCell (Nat.le_refl _) _).setCell (Nat.le_refl _) _)
      clear hw6 HD0 HD2 x0 HE5
      refine (right_any (withC c x) _ _ _ (HT.out.ext E6.out) (Own.sl (fun _ => rfl) O1.out) (Own.sl (fun _ => rfl) O2.out) (by rw [withC_len]; have := HL.out; omega)).mono ?_
      rintro e w7 ⟨rfl, hE⟩
      have HE7 := Lib.hid (E6.out.trans hE)
      have HK7 := Lib.hid (HK6.out.ext hE); have HT7 := Lib.hid (HK2.out.ext hE)
      have P1 := Lib.hid (O1.out.ext hE); have P2 := Lib.hid (O2.out.ext hE)
      clear hE HK6 HK2 E6 O1 O2
      have x0 := HK7.out.c2
      have t0 := HT7.out.c2
      cases hv2 : rightP (withC c x) with
      | false =>
        have HQE := Lib.hid (show putE c x = 61 by unfold putE; rw [HQ.out, if_pos rfl, if_neg (by have := hn2.out; have := HH10.out; omega), hv2]; rfl)
        have HQC := Lib.hid (show putC c x = noC by unfold putC; rw [HQE.out]; rfl)
        clear hv2
        go_wp2
        refine ret_set2 HT7.out fun W' ⟨b0, b1⟩ hW => ?_
        refine bodyPost_ret (v := .tuple #[.agg #[.slice none 0 0, .slice none 0 0], .int .i64 61]) (by simp [results, Tryd.results44, go_sem, b0, b1]) rfl ?_
        exact ⟨⟨_, by rw [HQE.out], by rw [HQC.out]; exact TwinC.no _ _⟩, ext_grownP HE7.out hW (by omega)⟩
      | true =>
        have HQE := Lib.hid (show putE c x = 0 by unfold putE; rw [HQ.out, if_pos rfl, if_neg (by have := hn2.out; have := HH10.out; omega), hv2]; rfl)
        have HQC := Lib.hid (show putC c x = withC c x by unfold putC; rw [HQE.out]; rfl)
        clear hv2
        go_wp2
        refine ret_set2 HT7.out fun W' ⟨b0, b1⟩ hW => ?_
        refine bodyPost_ret (v := .tuple #[valC (.slice Ad nd cd) (.slice Aw nw cw), .int .i64 0]) (by simp [results, Tryd.results44, go_sem, b0, b1]) rfl ?_
        refine ⟨⟨_, by rw [HQE.out], ?_⟩, ext_grownP HE7.out hW (by omega)⟩
        rw [HQC.out]
        have hz := HZ4.out
        exact ⟨_, _, rfl, own_mono (own_kept P1.out hW (by omega)) (by omega), own_mono (own_kept P2.out hW (by omega)) (by omega)⟩

theorem f103_any (l : List Int) (A : Option Addr) (n c bl : Nat) (x : Sale) (w : World) (hb : w.cell? ⟨bl, 0, none⟩ = some (.slice A n c)) (hs : SlI w (.slice A n c) l) :
    Calls Tryd.prog 103 #[valL x, .pointer (some ⟨bl, 0, none⟩)] w fun e w' => e = .returned (.bool (hasI l x.number)) ∧ Ext w w' := by
  have HS := Lib.hid hs
  have hlt := (is_cells hb).1
  clear hs
  dsimp only [valL]
  go_enter Tryd.func103, Tryd.ntmps103
  go_wp2_with fail
  refine (has_any l _ x.number _ (HS.out.ext (Ext.al _ _))).mono ?_
  rintro e w1 ⟨rfl, hE⟩
  have HE := Lib.hid ((Ext.al _ _).trans hE); clear hE
  go_wp2
  go_ret
  exact ⟨rfl, HE.out⟩
theorem f104_any (h : Int) (bl : Nat) (x : Sale) (w : World) (hb : w.cell? ⟨bl, 0, none⟩ = some (.int .i64 h)) :
    Calls Tryd.prog 104 #[valL x, .pointer (some ⟨bl, 0, none⟩)] w fun e w' => e = .returned (.bool (soldBy h x)) ∧ Ext w w' := by
  have hlt := (is_cells hb).1
  dsimp only [valL]
  cases e1 : (x.seller == h)
  all_goals cases e2 : (x.buyer == h)
  all_goals
    have HF := Lib.hid (show soldBy h x = (x.seller == h || x.buyer == h) from rfl)
    have E1 := Lib.hid e1; have E2 := Lib.hid e2
    go_enter Tryd.func104, Tryd.ntmps104
    go_wp2
    go_ret
    exact ⟨ret_bool (by rw [HF.out, E1.out, E2.out]; rfl), Ext.al _ _⟩

set_option maxHeartbeats 4000000 in
theorem stop_any (c : Chn) (h : Int) (hv sv : Value) (w : World) (hT : Tab w) (hh : SlI w hv c.houses) (hs : SlL w sv c.sales) (hlh : c.houses.length ≤ 1000) (hls : c.sales.length ≤ 900) :
    Calls Tryd.prog 48 #[valC hv sv, .int .i64 h] w (PutP (stopE c h) (stopC c h) w) := by
  have HT := Lib.hid hT
  have HH := Lib.hid hh; have HS := Lib.hid hs; have HL := Lib.hid hls; have HLH := Lib.hid hlh
  obtain ⟨A, n, cp, rfl, hn, hlc, hcm⟩ := hh.form
  obtain ⟨A2, n2, cp2, rfl, hn2, hlc2, hcm2⟩ := hs.form
  clear hh hs hlh hls hT
  go_enter Tryd.func48, Tryd.ntmps48
  go_wp2_with fail
  generalize hw3 : ((w.alloc (.cells #[.slice A n cp, .slice A2 n2 cp2] 25)).alloc (.cells #[.int .i64 h] 3)).alloc (.cells #[.slice none 0 0, .slice none 0 0] 25) = w3
  have HE3 := Lib.hid (show Ext w w3 from hw3 ▸ ((Ext.al _ _).alloc _).alloc _)
  have HZ3 := Lib.hid (show w3.heap.size = w.heap.size + 3 by rw [← hw3]; simp)
  have HB0 := Lib.hid (show Blk w3 w.heap.size 25 #[.slice A n cp, .slice A2 n2 cp2] from hw3 ▸ ((Blk.new _ _ _).alloc _).alloc _)
  have HB1 := Lib.hid (show Blk w3 (w.heap.size + 1) 3 #[.int .i64 h] from hw3 ▸ (Blk.at_ (by simp)).alloc _)
  have HB2 := Lib.hid (show Blk w3 (w.heap.size + 1 + 1) 25 #[.slice none 0 0, .slice none 0 0] from hw3 ▸ Blk.at_ (by simp))
  clear hw3
  refine (check_any c _ _ _ (HT.out.ext HE3.out) (HH.out.ext HE3.out) (HS.out.ext HE3.out) (by have := HL.out; omega)).mono ?_
  rintro e w4 ⟨rfl, hE⟩
  have HE4 := Lib.hid (HE3.out.trans hE)
  have HC0 := Lib.hid (HB0.out.ext hE); have HC1 := Lib.hid (HB1.out.ext hE); have HC2 := Lib.hid (HB2.out.ext hE)
  have HZ4 := Lib.hid (show w.heap.size + 3 ≤ w4.heap.size by have := hE.size; have := HZ3.out; omega)
  clear hE HB0 HB1 HB2 HZ3 HE3
  have t0 := HC2.out.c2
  have x0 := HC0.out.c2
  have y0 := HC1.out.c1
  cases hq : checkP c with
  | false =>
    have HQ := Lib.hid (show stopE c h = 60 by unfold stopE; rw [hq]; rfl)
    have HQC := Lib.hid (show stopC c h = noC by unfold stopC; rw [HQ.out]; rfl)
    clear hq
    dsimp only [errB]
    go_wp2
    refine ret_set2 HC2.out fun W' ⟨b0, b1⟩ hW => ?_
    refine bodyPost_ret (v := .tuple #[.agg #[.slice none 0 0, .slice none 0 0], .int .i64 60]) (by simp [results, Tryd.results48, go_sem, b0, b1]) rfl ?_
    exact ⟨⟨_, by rw [HQ.out], by rw [HQC.out]; exact TwinC.no _ _⟩, ext_grownP HE4.out hW (by omega)⟩
  | true =>
    have HQ := Lib.hid hq; clear hq
    dsimp only [errB]
    go_wp2_with fail
    refine (has_any c.houses _ h _ (HH.out.ext HE4.out)).mono ?_
    rintro e w5 ⟨rfl, hE⟩
    have HE5 := Lib.hid (HE4.out.trans hE)
    have HD0 := Lib.hid (HC0.out.ext hE); have HD1 := Lib.hid (HC1.out.ext hE); have HD2 := Lib.hid (HC2.out.ext hE)
    clear hE HC0 HC1 HC2 t0 x0 y0
    have t0 := HD2.out.c2
    have x0 := HD0.out.c2
    cases hA : hasI c.houses h with
    | false =>
      have HQE := Lib.hid (show stopE c h = 6 by unfold stopE; rw [HQ.out, hA]; rfl)
      have HQC := Lib.hid (show stopC c h = noC by unfold stopC; rw [HQE.out]; rfl)
      clear hA
      go_wp2
      refine ret_set2 HD2.out fun W' ⟨b0, b1⟩ hW => ?_
      refine bodyPost_ret (v := .tuple #[.agg #[.slice none 0 0, .slice none 0 0], .int .i64 6]) (by simp [results, Tryd.results48, go_sem, b0, b1]) rfl ?_
      exact ⟨⟨_, by rw [HQE.out], by rw [HQC.out]; exact TwinC.no _ _⟩, ext_grownP HE5.out hW (by omega)⟩
    | true =>
      have HQE := Lib.hid (show stopE c h = 0 by unfold stopE; rw [HQ.out, hA]; rfl)
      have HQC := Lib.hid (show stopC c h = lessC c (soldBy h) by unfold stopC; rw [HQE.out]; rfl)
      clear hA
      go_wp2_with fail
      refine (less_any c (soldBy h) 104 #[.pointer (some ⟨w.heap.size + 1, 0, none⟩)] (enters_of Tryd.func104 (by kernel_rfl) rfl) _ _ _ (HH.out.ext HE5.out) (HS.out.ext HE5.out) HLH.out (by have := HL.out; omega) ?_).mono ?_
      · intro W y hW
        exact f104_any h (w.heap.size + 1) y W ((HD1.out.ext hW).c1.1)
      rintro e w6 ⟨⟨v, rfl, dv, wv, rfl, o1, o2⟩, hE⟩
      obtain ⟨Ad, nd, cd, rfl, -, -, -⟩ := (show SlI w6 dv (lessC c (soldBy h)).houses from o1.sl (fun _ => rfl)).form
      obtain ⟨Aw, nw, cw, rfl, -, -, -⟩ := (show SlL w6 wv (lessC c (soldBy h)).sales from o2.sl (fun _ => rfl)).form
      have HE6 := Lib.hid (HE5.out.trans hE)
      have HF2 := Lib.hid (HD2.out.ext hE)
      have O1 := Lib.hid o1; have O2 := Lib.hid o2
      have hz5 := HD2.out.lt
      have HZ5 := Lib.hid hz5
      clear hE HD0 HD1 HD2 t0 x0 o1 o2 hz5
      have t0 := HF2.out.c2
      dsimp only [valC]
      go_wp2
      refine ret_set2 HF2.out fun W' ⟨b0, b1⟩ hW => ?_
      refine bodyPost_ret (v := .tuple #[valC (.slice Ad nd cd) (.slice Aw nw cw), .int .i64 0]) (by simp [results, Tryd.results48, go_sem, b0, b1]) rfl ?_
      refine ⟨⟨_, by rw [HQE.out], ?_⟩, ext_grownP HE6.out hW (by omega)⟩
      rw [HQC.out]
      have hz := HZ5.out
      exact ⟨_, _, rfl, own_mono (own_kept O1.out hW (by omega)) (by omega), own_mono (own_kept O2.out hW (by omega)) (by omega)⟩

set_option maxHeartbeats 4000000 in
theorem strike_any (c : Chn) (l : List Int) (hv sv lv : Value) (w : World) (hT : Tab w) (hh : SlI w hv c.houses) (hs : SlL w sv c.sales) (hl : SlI w lv l) (hlh : c.houses.length ≤ 1000) (hls : c.sales.length ≤ 900) :
    Calls Tryd.prog 46 #[valC hv sv, lv] w (PutP (strikeE c l) (strikeC c l) w) := by
  have HT := Lib.hid hT
  have HH := Lib.hid hh; have HS := Lib.hid hs; have HL := Lib.hid hls; have HLH := Lib.hid hlh; have HN := Lib.hid hl
  obtain ⟨A, n, cp, rfl, hn, hlc, hcm⟩ := hh.form
  obtain ⟨A2, n2, cp2, rfl, hn2, hlc2, hcm2⟩ := hs.form
  obtain ⟨A3, n3, cp3, rfl, hn3, hlc3, hcm3⟩ := hl.form
  clear hh hs hlh hls hT hl
  go_enter Tryd.func46, Tryd.ntmps46
  go_wp2_with fail
  generalize hw3 : ((w.alloc (.cells #[.slice A n cp, .slice A2 n2 cp2] 25)).alloc (.cells #[.slice A3 n3 cp3] 22)).alloc (.cells #[.slice none 0 0, .slice none 0 0] 25) = w3
  have HE3 := Lib.hid (show Ext w w3 from hw3 ▸ ((Ext.al _ _).alloc _).alloc _)
  have HZ3 := Lib.hid (show w3.heap.size = w.heap.size + 3 by rw [← hw3]; simp)
  have HB0 := Lib.hid (show Blk w3 w.heap.size 25 #[.slice A n cp, .slice A2 n2 cp2] from hw3 ▸ ((Blk.new _ _ _).alloc _).alloc _)
  have HB1 := Lib.hid (show Blk w3 (w.heap.size + 1) 22 #[.slice A3 n3 cp3] from hw3 ▸ (Blk.at_ (by simp)).alloc _)
  have HB2 := Lib.hid (show Blk w3 (w.heap.size + 1 + 1) 25 #[.slice none 0 0, .slice none 0 0] from hw3 ▸ Blk.at_ (by simp))
  clear hw3
  refine (check_any c _ _ _ (HT.out.ext HE3.out) (HH.out.ext HE3.out) (HS.out.ext HE3.out) (by have := HL.out; omega)).mono ?_
  rintro e w4 ⟨rfl, hE⟩
  have HE4 := Lib.hid (HE3.out.trans hE)
  have HC0 := Lib.hid (HB0.out.ext hE); have HC1 := Lib.hid (HB1.out.ext hE); have HC2 := Lib.hid (HB2.out.ext hE)
  have HZ4 := Lib.hid (show w.heap.size + 3 ≤ w4.heap.size by have := hE.size; have := HZ3.out; omega)
  clear hE HB0 HB1 HB2 HZ3 HE3
  have t0 := HC2.out.c2
  have x0 := HC0.out.c2
  have y0 := HC1.out.c1
  cases hq : checkP c with
  | false =>
    have HQ := Lib.hid (show strikeE c l = 60 by unfold strikeE; rw [hq]; rfl)
    have HQC := Lib.hid (show strikeC c l = noC by unfold strikeC; rw [HQ.out]; rfl)
    clear hq
    dsimp only [errB]
    go_wp2
    refine ret_set2 HC2.out fun W' ⟨b0, b1⟩ hW => ?_
    refine bodyPost_ret (v := .tuple #[.agg #[.slice none 0 0, .slice none 0 0], .int .i64 60]) (by simp [results, Tryd.results46, go_sem, b0, b1]) rfl ?_
    exact ⟨⟨_, by rw [HQ.out], by rw [HQC.out]; exact TwinC.no _ _⟩, ext_grownP HE4.out hW (by omega)⟩
  | true =>
    have HQ := Lib.hid hq; clear hq
    have HSE := Lib.hid (show strikeE c l = if okL c 0 l then 0 else 61 by unfold strikeE; rw [HQ.out]; rfl)
    dsimp only [errB]
    go_wp2
    clear t0 x0 y0
    go_loopg [7, 17] n3 (fun gg s7 s17 wr => ∃ (q : Nat) (last : Int), q ≤ n3 ∧ n3 - q ≤ gg ∧ s17 = .int .i64 (q : Int) ∧ s7 = .int .i64 last ∧ Aside (okL c 0 l = okL c last (l.drop q)) ∧ Aside (Ext w4 wr))
    case atStart => exact ⟨0, 0, by omega, by omega, rfl, rfl, rfl, Ext.refl _⟩
    case round =>
      obtain ⟨q, last, hq, hg, rfl, rfl, OK, BW⟩ := hrel
      have HE5 := Lib.hid (HE4.out.trans BW.out)
      have HD0 := Lib.hid (HC0.out.ext BW.out); have HD1 := Lib.hid (HC1.out.ext BW.out); have HD2 := Lib.hid (HC2.out.ext BW.out)
      have t0 := HD2.out.c2
      have x0 := HD0.out.c2
      have y0 := HD1.out.c1
      by_cases hqn : q < n3
      · have hqz : (q : Int) < (n3 : Int) := by omega
        obtain ⟨bb, off, x, rfl, hx, hb, hcell⟩ := HN.out.at_ hqn
        have HX := Lib.hid hx
        have e0 := fun W (h : Ext wr W) => SlI.cell hcell (HE5.out.trans h)
        have e1 := fun W (h : Ext wr W) => (HD1.out.ext h).c1.1
        have e2 := fun W (h : Ext wr W) => (HD0.out.ext h).c2.2.1
        have c0 := e0 _ (Ext.refl _)
        clear hx hcell hb
        by_cases hlast : x ≤ last
        · have HOK := Lib.hid (show okL c 0 l = false by
            rw [OK.out, drop_at HX.out, okL, decide_eq_false (by omega)]; rfl)
          have HQE := Lib.hid (show strikeE c l = 61 by rw [HSE.out, HOK.out]; rfl)
          have HQC := Lib.hid (show strikeC c l = noC by unfold strikeC; rw [HQE.out]; rfl)
          go_wp2
          refine wp_region_tame (fun W => Ext wr W) (fun W W' => Ext W W') (by kernel_rfl) 46 rfl (by decide +kernel) (Ext.refl _).drew ?_
          repeat (apply tame_q rfl; (intro ρ W hC hr hD; (obtain ⟨hrc, hrg, hrf, hrs⟩ := hr); (simp [go_sem] at hD); go_simp; first | exact ⟨⟨hC, Ext.refl _⟩, rfl⟩ | exact ⟨⟨hC, RS.refl _⟩, rfl⟩ | exact rfl); simp only [List.nil_append, List.cons_append])
          refine tame_end 46 rfl rfl (fun ρ W hC hr hF => ?_)
          obtain ⟨hrc, hrg, hrf, hrs⟩ := hr
          simp [go_sem] at hF
          apply frame_to
          · go_simp
            exact rfl
          have HF2 := Lib.hid (HD2.out.ext hC); have HE6 := Lib.hid (HE5.out.trans hC)
          clear hF hrs hrc hrg hrf e0 e1 e2 t0 x0 y0 hC c0
          have t0 := HF2.out.c2
          go_wp2
          refine ret_set2 HF2.out fun W' ⟨b0, b1⟩ hW => ?_
          refine bodyPost_ret (v := .tuple #[.agg #[.slice none 0 0, .slice none 0 0], .int .i64 61]) (by simp [results, Tryd.results46, go_sem, b0, b1]) rfl ?_
          exact ⟨⟨_, by rw [HQE.out], by rw [HQC.out]; exact TwinC.no _ _⟩, ext_grownP HE6.out hW (by omega)⟩
        · have HLA := Lib.hid (show last < x by omega)
          go_wp2
          refine wp_region_tame (fun W => Ext wr W) (fun W W' => Ext W W') (by kernel_rfl) 46 rfl (by decide +kernel) (Ext.refl _).drew ?_
          repeat (apply tame_q rfl; (intro ρ W hC hr hD; (obtain ⟨hrc, hrg, hrf, hrs⟩ := hr); (simp [go_sem] at hD); go_simp; first | exact ⟨⟨hC, Ext.refl _⟩, rfl⟩ | exact ⟨⟨hC, RS.refl _⟩, rfl⟩ | exact rfl); simp only [List.nil_append, List.cons_append])
          apply tame_v rfl (fun v W => SlI W v (c.sales.map (·.number))) (fun v W W' _ hE h => h.ext hE)
          · intro ρ W hC hr hD
            obtain ⟨hrc, hrg, hrf, hrs⟩ := hr
            simp [go_sem] at hD
            go_simp
            refine (numbers_any c.sales _ _ (HS.out.ext (HE5.out.trans hC)) (by have := HL.out; omega)).mono ?_
            rintro e w' ⟨⟨v', rfl, ho⟩, hE⟩
            exact ⟨_, rfl, ⟨hC.trans hE, hE⟩, ho.sl (fun _ => rfl)⟩
          simp only [List.nil_append, List.cons_append]
          repeat (apply tame_q rfl; (intro ρ W hC hr hD; (obtain ⟨hrc, hrg, hrf, hrs⟩ := hr); (simp [go_sem] at hD); go_simp; first | exact ⟨⟨hC, Ext.refl _⟩, rfl⟩ | exact ⟨⟨hC, RS.refl _⟩, rfl⟩ | exact rfl); simp only [List.nil_append, List.cons_append])
          apply tame_v rfl (fun v _ => v = .bool (hasI (c.sales.map (·.number)) x)) (fun v W W' _ hE h => h)
          · intro ρ W hC hr hD
            obtain ⟨hrc, hrg, hrf, hrs⟩ := hr
            simp [go_sem] at hD
            obtain ⟨q1, q2⟩ := hD
            go_simp
            refine (has_any (c.sales.map (·.number)) _ x _ q1).mono ?_
            rintro e w' ⟨rfl, hE⟩
            exact ⟨_, rfl, ⟨hC.trans hE, hE⟩, rfl⟩
          simp only [List.nil_append, List.cons_append]
          repeat (apply tame_q rfl; (intro ρ W hC hr hD; (obtain ⟨hrc, hrg, hrf, hrs⟩ := hr); (simp [go_sem] at hD); go_simp; first | exact ⟨⟨hC, Ext.refl _⟩, rfl⟩ | exact ⟨⟨hC, RS.refl _⟩, rfl⟩ | exact rfl); simp only [List.nil_append, List.cons_append])
          refine tame_end 46 rfl rfl (fun ρ W hC hr hF => ?_)
          obtain ⟨hrc, hrg, hrf, hrs⟩ := hr
          simp [go_sem] at hF
          obtain ⟨g20, g21, g22, g23, g24, g25, g26, g27, g28, g29, g30, g31, g32, g33, g34, g35, g36⟩ := hF
          obtain ⟨Au, nu, cu, e29, -, -, -⟩ := g29.form
          apply frame_to
          · go_simp
            exact rfl
          have HF0 := Lib.hid (HD0.out.ext hC); have HF1 := Lib.hid (HD1.out.ext hC); have HF2 := Lib.hid (HD2.out.ext hC); have HE6 := Lib.hid (BW.out.trans hC); have HCW := Lib.hid hC
          clear g20 g21 g22 g23 g24 g25 g26 g27 g28 g29 g30 g31 g32 g33 g34 g35 g36 e29 hrs hrc hrg hrf e0 e1 e2 t0 x0 y0 hC
          cases hA : hasI (c.sales.map (·.number)) x with
          | false =>
            have HOK := Lib.hid (show okL c 0 l = false by rw [OK.out, drop_at HX.out, okL, hA]; simp)
            have HQE := Lib.hid (show strikeE c l = 61 by rw [HSE.out, HOK.out]; rfl)
            have HQC := Lib.hid (show strikeC c l = noC by unfold strikeC; rw [HQE.out]; rfl)
            clear hA
            have t0 := HF2.out.c2
            simp only [Bool.not_false, Bool.or_true]
            go_wp2
            refine ret_set2 HF2.out fun W' ⟨b0, b1⟩ hW => ?_
            refine bodyPost_ret (v := .tuple #[.agg #[.slice none 0 0, .slice none 0 0], .int .i64 61]) (by simp [results, Tryd.results46, go_sem, b0, b1]) rfl ?_
            exact ⟨⟨_, by rw [HQE.out], by rw [HQC.out]; exact TwinC.no _ _⟩, ext_grownP (HE4.out.trans HE6.out) hW (by omega)⟩
          | true =>
            have HOK := Lib.hid (show okL c 0 l = okL c x (l.drop (q + 1)) by rw [OK.out, drop_at HX.out, okL, hA, decide_eq_true HLA.out]; rfl)
            clear hA
            have c1' := HCW.out.cell1 c0
            clear c0
            have y0 := HF1.out.c1
            have hdf : decide (x ≤ last) = false := decide_eq_false (by omega)
            simp only [Bool.not_true, Bool.or_false]
            go_wp2
            go_roundg (n3 - (q + 1))
            case measure => omega
            case rel => exact ⟨q + 1, x, by omega, by omega, by simp, rfl, HOK.out, HE6.out⟩
      · have HK := Lib.hid (show q = n3 by omega)
        have HOK := Lib.hid (show okL c 0 l = true by rw [OK.out, List.drop_eq_nil_of_le (by have := HK.out; have := hn3.out; omega)]; rfl)
        have HQE := Lib.hid (show strikeE c l = 0 by rw [HSE.out, HOK.out]; rfl)
        have HQC := Lib.hid (show strikeC c l = lessC c (fun x => hasI l x.number) by unfold strikeC; rw [HQE.out]; rfl)
        go_wp2_with fail
        refine (less_any c (fun x => hasI l x.number) 103 #[.pointer (some ⟨w.heap.size + 1, 0, none⟩)] (enters_of Tryd.func103 (by kernel_rfl) rfl) _ _ _ (HH.out.ext HE5.out) (HS.out.ext HE5.out) HLH.out (by have := HL.out; omega) ?_).mono ?_
        · intro W y hW
          exact f103_any l A3 n3 cp3 (w.heap.size + 1) y W ((HD1.out.ext hW).c1.1) (HN.out.ext (HE5.out.trans hW))
        rintro e w6 ⟨⟨v, rfl, dv, wv, rfl, o1, o2⟩, hE⟩
        obtain ⟨Ad, nd, cd, rfl, -, -, -⟩ := (show SlI w6 dv (lessC c (fun x => hasI l x.number)).houses from o1.sl (fun _ => rfl)).form
        obtain ⟨Aw, nw, cw, rfl, -, -, -⟩ := (show SlL w6 wv (lessC c (fun x => hasI l x.number)).sales from o2.sl (fun _ => rfl)).form
        have HE6 := Lib.hid (HE5.out.trans hE)
        have HF2 := Lib.hid (HD2.out.ext hE)
        have O1 := Lib.hid o1; have O2 := Lib.hid o2
        have HZ5 := Lib.hid HD2.out.lt
        clear hE HD0 HD1 HD2 t0 x0 y0 o1 o2
        have t0 := HF2.out.c2
        dsimp only [valC]
        go_wp2
        refine ret_set2 HF2.out fun W' ⟨b0, b1⟩ hW => ?_
        refine bodyPost_ret (v := .tuple #[valC (.slice Ad nd cd) (.slice Aw nw cw), .int .i64 0]) (by simp [results, Tryd.results46, go_sem, b0, b1]) rfl ?_
        refine ⟨⟨_, by rw [HQE.out], ?_⟩, ext_grownP HE6.out hW (by omega)⟩
        rw [HQC.out]
        have hz := HZ5.out
        exact ⟨_, _, rfl, own_mono (own_kept O1.out hW (by omega)) (by omega), own_mono (own_kept O2.out hW (by omega)) (by omega)⟩
end Go.Proofs.YtafdbgielmlihaaDoor
/- The reference's with and Put. -/
namespace Go.Proofs.YtafdbgielmlihaaDoor
open Go.RowKit Go.Shelf Go.Lib
set_option maxRecDepth 100000
set_option linter.unusedSimpArgs false

theorem posL_step {l : List Sale} {q : Nat} {y : Sale} {n : Int} (h : l[q]? = some y) : posL (l.drop q) n = if y.number < n then 1 + posL (l.drop (q + 1)) n else 0 := by
  rw [drop_at h]
  unfold posL
  rw [List.takeWhile_cons]
  by_cases hy : y.number < n
  · simp [hy]; omega
  · simp [hy]

set_option maxHeartbeats 4000000 in
theorem refWith_any (c : Chn) (x : Sale) (hv sv : Value) (w : World) (hh : SlI w hv c.houses) (hs : SlL w sv c.sales) (hlh : c.houses.length ≤ 1000) (hls : c.sales.length ≤ 900) :
    Calls Tryd.prog 101 #[valC hv sv, valL x] w fun e w' => (∃ v, e = .returned v ∧ TwinC (withC c x) w.heap.size v w') ∧ Ext w w' := by
  have HH := Lib.hid hh; have HS := Lib.hid hs; have HL := Lib.hid hls; have HLH := Lib.hid hlh
  obtain ⟨A, n, cp, rfl, hn, hlc, hcm⟩ := hh.form
  obtain ⟨A2, n2, cp2, rfl, hn2, hlc2, hcm2⟩ := hs.form
  clear hh hs hlh hls
  dsimp only [valL]
  go_enter Tryd.func101, Tryd.ntmps101
  go_wp2
  generalize hw3 : ((w.alloc (.cells #[.slice A n cp, .slice A2 n2 cp2] 25)).alloc (.cells #[.int .i64 x.number, .int .i64 x.seller, .int .i64 x.buyer, .int .i64 x.bales, .int .i64 x.price] 68)).alloc (.cells #[.slice none 0 0, .slice none 0 0] 25) = w4
  have HE4 := Lib.hid (show Ext w w4 from hw3 ▸ ((Ext.al _ _).alloc _).alloc _)
  have HZ4 := Lib.hid (show w.heap.size + 3 ≤ w4.heap.size by rw [← hw3]; simp)
  have HC0 := Lib.hid (show Blk w4 w.heap.size 25 #[.slice A n cp, .slice A2 n2 cp2] from hw3 ▸ ((Blk.new _ _ _).alloc _).alloc _)
  have HC1 := Lib.hid (show Blk w4 (w.heap.size + 1) 68 #[.int .i64 x.number, .int .i64 x.seller, .int .i64 x.buyer, .int .i64 x.bales, .int .i64 x.price] from hw3 ▸ (Blk.at_ (by simp)).alloc _)
  have HC2 := Lib.hid (show Blk w4 (w.heap.size + 1 + 1) 25 #[.slice none 0 0, .slice none 0 0] from hw3 ▸ Blk.at_ (by simp))
  clear hw3
  go_loopg [5] n2 (fun gg s5 wr => ∃ q : Nat, q ≤ n2 ∧ n2 - q ≤ gg ∧ s5 = .int .i64 (q : Int) ∧ Aside (posL c.sales x.number = q + posL (c.sales.drop q) x.number) ∧ Aside (Ext w4 wr))
  case atStart => exact ⟨0, by omega, by omega, rfl, (by show posL c.sales x.number = 0 + posL (c.sales.drop 0) x.number; simp), Ext.refl _⟩
  case round =>
    obtain ⟨q, hqn, hgq, rfl, AT, EX⟩ := hrel
    have HD0 := Lib.hid (HC0.out.ext EX.out); have HD1 := Lib.hid (HC1.out.ext EX.out)
    have m4 := fun W (h : Ext wr W) => (HD0.out.ext h).c2.2.1
    have e0 := fun W (h : Ext wr W) => (HD1.out.ext h).c5.1
    by_cases hlt : q < n2
    · have hlz : (q : Int) < (n2 : Int) := by omega
      obtain ⟨bb, off, y, rfl, hy, -, hyc⟩ := HS.out.at_ hlt
      have y0 := fun W (h : Ext wr W) => (SlL.cells hyc ((HE4.out.trans EX.out).trans h)).1
      have HST := Lib.hid (posL_step (n := x.number) hy)
      clear hyc hy
      by_cases hxy : y.number < x.number
      · have HAT := Lib.hid (show posL c.sales x.number = (q + 1) + posL (c.sales.drop (q + 1)) x.number by have h1 := HST.out; rw [if_pos hxy] at h1; have := AT.out; omega)
        go_wp2
        refine wp_region_tame (fun W => Ext wr W) (fun W W' => Ext W W') (by kernel_rfl) 43 rfl (by decide +kernel) (Ext.refl _).drew ?_
        repeat (apply tame_q rfl; (intro ρ W hC hr hD; (obtain ⟨hrc, hrg, hrf, hrs⟩ := hr); (simp [go_sem] at hD); go_simp; first | exact ⟨⟨hC, Ext.refl _⟩, rfl⟩ | exact ⟨⟨hC, RS.refl _⟩, rfl⟩ | exact rfl); simp only [List.nil_append, List.cons_append])
        refine tame_end 43 rfl rfl (fun ρ W hC hr hF => ?_)
        obtain ⟨hrc, hrg, hrf, hrs⟩ := hr
        simp [go_sem] at hF
        apply frame_to
        · go_simp
          exact rfl
        have HEX := Lib.hid (EX.out.trans hC)
        clear hF hrs hrc hrg hrf hC m4 e0 y0
        go_wp2
        go_roundg (n2 - (q + 1))
        case measure => omega
        case rel => exact ⟨q + 1, by omega, by omega, by simp, HAT.out, HEX.out⟩
      · have HAT := Lib.hid (show q = posL c.sales x.number by have h1 := HST.out; rw [if_neg hxy] at h1; have := AT.out; omega)
        have hxd : decide (y.number < x.number) = false := by simpa using hxy
        go_wp2
        refine wp_region_tame (fun W => Ext wr W) (fun W W' => Ext W W') (by kernel_rfl) 43 rfl (by decide +kernel) (Ext.refl _).drew ?_
        repeat (apply tame_q rfl; (intro ρ W hC hr hD; (obtain ⟨hrc, hrg, hrf, hrs⟩ := hr); (simp [go_sem] at hD); go_simp; first | exact ⟨⟨hC, Ext.refl _⟩, rfl⟩ | exact ⟨⟨hC, RS.refl _⟩, rfl⟩ | exact rfl); simp only [List.nil_append, List.cons_append])
        refine tame_end 43 rfl rfl (fun ρ W hC hr hF => ?_)
        obtain ⟨hrc, hrg, hrf, hrs⟩ := hr
        simp [go_sem] at hF
        apply frame_to
        · go_simp
          exact rfl
        have HEX := Lib.hid (EX.out.trans hC)
        clear hF hrs hrc hrg hrf hC m4 e0 y0 hxd hxy
        clear HST HD0 HD1 AT EX
        have HEW := Lib.hid (HE4.out.trans HEX.out)
        have HG0 := Lib.hid (HC0.out.ext HEX.out); have HG1 := Lib.hid (HC1.out.ext HEX.out); have HG2 := Lib.hid (HC2.out.ext HEX.out)
        have x0 := HG0.out.c2
        go_wp2_with fail
        refine (twin_any c _ _ _ (HH.out.ext HEW.out) (HS.out.ext HEW.out) HLH.out (by have := HL.out; omega)).mono ?_
        rintro e w5 ⟨⟨v, rfl, dv, wv, rfl, o1, o2⟩, hE5⟩
        obtain ⟨Ad, nd, cd, rfl, -, -, -⟩ := (show SlI w5 dv c.houses from o1.sl (fun _ => rfl)).form
        obtain ⟨Aw, nw, cw, rfl, -, -, -⟩ := (show SlL w5 wv c.sales from o2.sl (fun _ => rfl)).form
        have O1 := Lib.hid o1; have HE5 := Lib.hid (HEW.out.trans hE5)
        have HH0 := Lib.hid (HG0.out.ext hE5); have HH1 := Lib.hid (HG1.out.ext hE5); have HH2 := Lib.hid (HG2.out.ext hE5)
        have HSW := Lib.hid (show w.heap.size + 3 ≤ W.heap.size ∧ W.heap.size ≤ w5.heap.size by have := hE5.size; have := HEX.out.size; have := HZ4.out; omega)
        clear o1 o2 hE5 HG0 HG1 HG2 x0
        have x0 := HH0.out.c2
        dsimp only [valC]
        go_wp2_with fail
        generalize hw6 : w5.alloc (.cells #[.slice Ad nd cd, .slice Aw nw cw] 25) = w6
        have HE6 := Lib.hid (show Ext w w6 from hw6 ▸ (HE5.out.alloc _))
        have HK0 := Lib.hid (hw6 ▸ HH0.out.alloc (.cells #[.slice Ad nd cd, .slice Aw nw cw] 25))
        have HK1 := Lib.hid (show Blk w6 (w.heap.size + 1) 68 #[.int .i64 x.number, .int .i64 x.seller, .int .i64 x.buyer, .int .i64 x.bales, .int .i64 x.price] from hw6 ▸ HH1.out.alloc _)
        have HK2 := Lib.hid (show Blk w6 (w.heap.size + 1 + 1) 25 #[.slice none 0 0, .slice none 0 0] from hw6 ▸ HH2.out.alloc _)
        have HK7 := Lib.hid (show Blk w6 w5.heap.size 25 #[.slice Ad nd cd, .slice Aw nw cw] from hw6 ▸ Blk.new _ _ _)
        have P1 := Lib.hid (show Own encI 3 1 w6 W.heap.size (.slice Ad nd cd) c.houses from hw6 ▸ O1.out.alloc _)
        have HS6 := Lib.hid (show w.heap.size + 3 ≤ W.heap.size ∧ W.heap.size ≤ w5.heap.size ∧ w6.heap.size = w5.heap.size + 1 by have := HSW.out; rw [← hw6]; simp; omega)
        have HSL6 := Lib.hid (HS.out.ext HE6.out)
        have HTL := Lib.hid (show (c.sales.take q).length = q by have := hn2.out; simp; omega)
        have HFL := Lib.hid (show (c.sales.take q ++ [x] ++ c.sales.drop q).length ≤ 1000 by have := HL.out; simp; omega)
        clear hw6 x0 HH0 HH1 HH2 O1 HSW
        have m4 := fun V (h : Ext w6 V) => (HK0.out.ext h).c2.2.1
        have d0 := fun V (h : Ext w6 V) => (HK1.out.ext h).c5.1
        have d1 := fun V (h : Ext w6 V) => (HK1.out.ext h).c5.2.1
        have d2 := fun V (h : Ext w6 V) => (HK1.out.ext h).c5.2.2.1
        have d3 := fun V (h : Ext w6 V) => (HK1.out.ext h).c5.2.2.2.1
        have d4 := fun V (h : Ext w6 V) => (HK1.out.ext h).c5.2.2.2.2.1
        have hqc : (q : Int) ≤ (cp2 : Int) := by omega
        have hqz : (0 : Int) ≤ (q : Int) := by omega
        have hqm : (q : Int) ≤ (n2 : Int) := by omega
        refine wp_region_tame_cut2 (fun V => Ext w6 V) (RF encL 5 68 w6.heap.size (c.sales.take q ++ [x] ++ c.sales.drop q) x) (by kernel_rfl) 43 rfl _ _ rfl rfl (by decide +kernel) (by decide +kernel) (by decide +kernel) (by decide +kernel) (by decide +kernel) rfl rfl (Ext.refl _).drew ?_
        simp only [List.dropLast]
        apply tame_v rfl (NewF encL 5 68 w6.heap.size ([] : List Sale)) (fun v V V' _ hR h => ⟨hR.2.1 [] List.nil_prefix v h.1, h.2⟩)
        · intro ρ V hC hr hD
          obtain ⟨hrc, hrg, hrf, hrs⟩ := hr
          simp [go_sem] at hD
          go_simp
          exact ⟨⟨hC.alloc _, RF.ext (Ext.al _ _)⟩, ⟨Own.new (Blk.new _ _ _) hC.size, _, 0, rfl, fun _ => rfl⟩⟩
        simp only [List.nil_append, List.cons_append]
        repeat (apply tame_q rfl; (intro ρ W hC hr hD; (obtain ⟨hrc, hrg, hrf, hrs⟩ := hr); (simp [go_sem] at hD); go_simp; first | exact ⟨⟨hC, RF.refl _⟩, rfl⟩ | exact rfl); simp only [List.nil_append, List.cons_append])
        apply tame_v rfl (NewF encL 5 68 w6.heap.size (c.sales.take q)) (fun v V V' _ hR h => ⟨hR.2.1 _ (by rw [List.append_assoc]; exact List.prefix_append _ _) v h.1, h.2⟩)
        · intro ρ V hC hr hD
          obtain ⟨hrc, hrg, hrf, hrs⟩ := hr
          simp [go_sem] at hD
          obtain ⟨d1, d2⟩ := hD
          have hh : SlL w6 (ρ (.tmp 31)) (c.sales.take q) := by
            rw [d2]
            exact Sl.head HSL6.out hqn
          obtain ⟨v', V', hrun, hnew, hR, hB⟩ := run_appF (t := 23) (ty := 23) (enc := encL) (sz := 5) (m := c.sales.take q) (y := x) Tryd.underlying23 info68x rfl (by decide) (by decide) (fun _ => rfl) encL_1 d1 (F := c.sales.take q ++ [x] ++ c.sales.drop q) (by rw [List.nil_append, List.append_assoc]; exact List.prefix_append _ _) HFL.out hC.size (hh.ext hC)
          show opGives _ _ _ _ _ _ _
          unfold opGives execOp
          simp only [resolve, invoke, builtin, Sem.run_bind, Sem.run_pure, Result.andThen_ok, List.map_toArray, List.map_cons, List.map_nil, hrun]
          exact ⟨⟨Below.trans hC hB, hR⟩, by rw [List.nil_append] at hnew; exact hnew⟩
        simp only [List.nil_append, List.cons_append]
        repeat (apply tame_q rfl; (intro ρ W hC hr hD; (obtain ⟨hrc, hrg, hrf, hrs⟩ := hr); (simp [go_sem] at hD); go_simp; first | exact ⟨⟨hC, RF.refl _⟩, rfl⟩ | exact rfl); simp only [List.nil_append, List.cons_append])
        apply tame_v rfl (OneF encL 68 x) (fun v V V' _ hR h => by obtain ⟨g, h1, h2⟩ := h; exact ⟨g, h1, hR.2.2.1 g h2⟩)
        · intro ρ V hC hr hD
          obtain ⟨hrc, hrg, hrf, hrs⟩ := hr
          simp [go_sem] at hD
          go_simp
          exact ⟨⟨hC.alloc _, RF.ext (Ext.al _ _)⟩, ⟨_, rfl, Blk.new _ _ _⟩⟩
        simp only [List.nil_append, List.cons_append]
        apply tame_v rfl (NewF encL 5 68 w6.heap.size (c.sales.take q ++ [x])) (fun v V V' _ hR h => ⟨hR.2.1 _ (List.prefix_append _ _) v h.1, h.2⟩)
        · intro ρ V hC hr hD
          obtain ⟨hrc, hrg, hrf, hrs⟩ := hr
          simp [go_sem] at hD
          obtain ⟨d1, ⟨g, d2, d3⟩, -⟩ := hD
          obtain ⟨v', V', hrun, hnew, hR, hB⟩ := run_appF (t := 23) (ty := 23) (enc := encL) (sz := 5) (m := [x]) (y := x) Tryd.underlying23 info68x rfl (by decide) (by decide) (fun _ => rfl) encL_1 d1 (F := c.sales.take q ++ [x] ++ c.sales.drop q) (List.prefix_append _ _) HFL.out hC.size (Sl.single (c := 1) d3 (Nat.le_refl _) (by decide))
          rw [← d2] at hrun
          show opGives _ _ _ _ _ _ _
          unfold opGives execOp
          simp only [resolve, invoke, builtin, Sem.run_bind, Sem.run_pure, Result.andThen_ok, List.map_toArray, List.map_cons, List.map_nil, hrun]
          exact ⟨⟨Below.trans hC hB, hR⟩, hnew⟩
        simp only [List.nil_append, List.cons_append]
        repeat (apply tame_q rfl; (intro ρ W hC hr hD; (obtain ⟨hrc, hrg, hrf, hrs⟩ := hr); (simp [go_sem] at hD); go_simp; first | exact ⟨⟨hC, RF.refl _⟩, rfl⟩ | exact rfl); simp only [List.nil_append, List.cons_append])
        apply tame_v rfl (NewF encL 5 68 w6.heap.size (c.sales.take q ++ [x] ++ c.sales.drop q)) (fun v V V' _ hR h => ⟨hR.2.1 _ (List.prefix_refl _) v h.1, h.2⟩)
        · intro ρ V hC hr hD
          obtain ⟨hrc, hrg, hrf, hrs⟩ := hr
          simp [go_sem] at hD
          obtain ⟨d1, d2, -⟩ := hD
          have hh : SlL w6 (ρ (.tmp 39)) (c.sales.drop q) := by
            rw [d2]
            have hh := Sl.tail HSL6.out hqn
            simpa [sliced, Addr.add_lit] using hh
          obtain ⟨v', V', hrun, hnew, hR, hB⟩ := run_appF (t := 23) (ty := 23) (enc := encL) (sz := 5) (m := c.sales.drop q) (y := x) Tryd.underlying23 info68x rfl (by decide) (by decide) (fun _ => rfl) encL_1 d1 (F := c.sales.take q ++ [x] ++ c.sales.drop q) (List.prefix_refl _) HFL.out hC.size (hh.ext hC)
          show opGives _ _ _ _ _ _ _
          unfold opGives execOp
          simp only [resolve, invoke, builtin, Sem.run_bind, Sem.run_pure, Result.andThen_ok, List.map_toArray, List.map_cons, List.map_nil, hrun]
          exact ⟨⟨Below.trans hC hB, hR⟩, hnew⟩
        simp only [List.nil_append, List.cons_append]
        refine tame_end 43 rfl rfl (fun ρ V hC hr hF => ?_)
        obtain ⟨hrc, hrg, hrf, hrs⟩ := hr
        simp [go_sem] at hF
        obtain ⟨f37, f38, f39, f40, f41, f42, f43, f44, f45, f46, f47, f48, f49, f50o, Af, cf, f50, -⟩ := hF
        rw [f50] at f50o
        have hln : (c.sales.take q ++ x :: c.sales.drop q).length = n2 + 1 := by have := hn2.out; simp; omega
        rw [hln] at f50 f50o
        have HFI := Lib.hid (show c.sales.take q ++ x :: c.sales.drop q = (withC c x).sales by unfold withC; rw [← HAT.out])
        rw [HFI.out] at f50o
        have HO := Lib.hid f50o
        have HEV := Lib.hid hC
        clear f37 f42 f44 f45 f49 f50o hln HTL HFL HSL6 m4 d0 d1 d2 d3 d4
        generalize ρ (Operand.tmp 27) = v37 at *
        generalize ρ (Operand.tmp 32) = v42 at *
        generalize ρ (Operand.tmp 34) = v44 at *
        generalize ρ (Operand.tmp 35) = v45 at *
        apply frame_to
        · go_simp
          exact rfl
        clear f38 f39 f40 f41 f43 f46 f47 f48 f50 hrc hrg hrf hrs hC
        have HL7 := Lib.hid (HK7.out.ext HEV.out)
        have x0 := HL7.out.c2
        have HK2V := Lib.hid (HK2.out.ext HEV.out)
        have t0 := HK2V.out.c2
        have hs6 := HS6.out
        have hne1 : ¬ w5.heap.size = w.heap.size + 1 + 1 := by omega
        have hne2 : ¬ w.heap.size + 1 + 1 = w5.heap.size := by omega
        go_wp2
        generalize hw7 : V.setCell ⟨w5.heap.size, 1, none⟩ _ = w7
        have HG7 : V.grownBy w7 (some w5.heap.size) := hw7 ▸ grown_set (World.grownBy.refl _ _) (p := ⟨w5.heap.size, 1, none⟩) (.inl rfl) _
        have R1 := Lib.hid (show Own encI 3 1 w7 W.heap.size (.slice Ad nd cd) c.houses from own_off (P1.out.ext HEV.out) HL7.out (by decide) HG7)
        have R2 := Lib.hid (show Own encL 68 5 w7 w6.heap.size (.slice Af (n2 + 1) cf) (withC c x).sales from own_off HO.out HL7.out (by decide) HG7)
        have HT7 := Lib.hid (HK2V.out.grown HG7 (by intro e; injection e with e; omega))
        have E7 := Lib.hid (show Ext w w7 from ext_grown (HE6.out.trans HEV.out) HG7 (by omega))
        refine ret_set2 HT7.out fun W' ⟨b0, b1⟩ hW => ?_
        refine bodyPost_ret (v := valC (.slice Ad nd cd) (.slice Af (n2 + 1) cf)) (by simp [results, Tryd.results101, go_sem, b0, b1]) rfl ?_
        exact ⟨⟨_, rfl, ⟨_, _, rfl, own_mono (own_kept R1.out hW (by omega)) (by omega), own_mono (own_kept R2.out hW (by omega)) (by omega)⟩⟩, ext_grownP E7.out hW (by omega)⟩
    · have hlz : ¬ (q : Int) < (n2 : Int) := by omega
      have HAT := Lib.hid (show q = posL c.sales x.number by
        have := AT.out
        rw [List.drop_eq_nil_of_le (by have := hn2.out; omega)] at this
        simpa [posL] using this.symm)
      go_wp2
      refine wp_region_tame (fun W => Ext wr W) (fun W W' => Ext W W') (by kernel_rfl) 43 rfl (by decide +kernel) (Ext.refl _).drew ?_
      repeat (apply tame_q rfl; (intro ρ W hC hr hD; (obtain ⟨hrc, hrg, hrf, hrs⟩ := hr); (simp [go_sem] at hD); go_simp; first | exact ⟨⟨hC, Ext.refl _⟩, rfl⟩ | exact ⟨⟨hC, RS.refl _⟩, rfl⟩ | exact rfl); simp only [List.nil_append, List.cons_append])
      refine tame_end 43 rfl rfl (fun ρ W hC hr hF => ?_)
      obtain ⟨hrc, hrg, hrf, hrs⟩ := hr
      simp [go_sem] at hF
      apply frame_to
      · go_simp
        exact rfl
      have HEX := Lib.hid (EX.out.trans hC)
      clear hF hrs hrc hrg hrf hC m4 e0
      clear HD0 HD1 AT EX
      have HEW := Lib.hid (HE4.out.trans HEX.out)
      have HG0 := Lib.hid (HC0.out.ext HEX.out); have HG1 := Lib.hid (HC1.out.ext HEX.out); have HG2 := Lib.hid (HC2.out.ext HEX.out)
      have x0 := HG0.out.c2
      go_wp2_with fail
      refine (twin_any c _ _ _ (HH.out.ext HEW.out) (HS.out.ext HEW.out) HLH.out (by have := HL.out; omega)).mono ?_
      rintro e w5 ⟨⟨v, rfl, dv, wv, rfl, o1, o2⟩, hE5⟩
      obtain ⟨Ad, nd, cd, rfl, -, -, -⟩ := (show SlI w5 dv c.houses from o1.sl (fun _ => rfl)).form
      obtain ⟨Aw, nw, cw, rfl, -, -, -⟩ := (show SlL w5 wv c.sales from o2.sl (fun _ => rfl)).form
      have O1 := Lib.hid o1; have HE5 := Lib.hid (HEW.out.trans hE5)
      have HH0 := Lib.hid (HG0.out.ext hE5); have HH1 := Lib.hid (HG1.out.ext hE5); have HH2 := Lib.hid (HG2.out.ext hE5)
      have HSW := Lib.hid (show w.heap.size + 3 ≤ W.heap.size ∧ W.heap.size ≤ w5.heap.size by have := hE5.size; have := HEX.out.size; have := HZ4.out; omega)
      clear o1 o2 hE5 HG0 HG1 HG2 x0
      have x0 := HH0.out.c2
      dsimp only [valC]
      go_wp2_with fail
      generalize hw6 : w5.alloc (.cells #[.slice Ad nd cd, .slice Aw nw cw] 25) = w6
      have HE6 := Lib.hid (show Ext w w6 from hw6 ▸ (HE5.out.alloc _))
      have HK0 := Lib.hid (hw6 ▸ HH0.out.alloc (.cells #[.slice Ad nd cd, .slice Aw nw cw] 25))
      have HK1 := Lib.hid (show Blk w6 (w.heap.size + 1) 68 #[.int .i64 x.number, .int .i64 x.seller, .int .i64 x.buyer, .int .i64 x.bales, .int .i64 x.price] from hw6 ▸ HH1.out.alloc _)
      have HK2 := Lib.hid (show Blk w6 (w.heap.size + 1 + 1) 25 #[.slice none 0 0, .slice none 0 0] from hw6 ▸ HH2.out.alloc _)
      have HK7 := Lib.hid (show Blk w6 w5.heap.size 25 #[.slice Ad nd cd, .slice Aw nw cw] from hw6 ▸ Blk.new _ _ _)
      have P1 := Lib.hid (show Own encI 3 1 w6 W.heap.size (.slice Ad nd cd) c.houses from hw6 ▸ O1.out.alloc _)
      have HS6 := Lib.hid (show w.heap.size + 3 ≤ W.heap.size ∧ W.heap.size ≤ w5.heap.size ∧ w6.heap.size = w5.heap.size + 1 by have := HSW.out; rw [← hw6]; simp; omega)
      have HSL6 := Lib.hid (HS.out.ext HE6.out)
      have HTL := Lib.hid (show (c.sales.take q).length = q by have := hn2.out; simp; omega)
      have HFL := Lib.hid (show (c.sales.take q ++ [x] ++ c.sales.drop q).length ≤ 1000 by have := HL.out; simp; omega)
      clear hw6 x0 HH0 HH1 HH2 O1 HSW
      have m4 := fun V (h : Ext w6 V) => (HK0.out.ext h).c2.2.1
      have d0 := fun V (h : Ext w6 V) => (HK1.out.ext h).c5.1
      have d1 := fun V (h : Ext w6 V) => (HK1.out.ext h).c5.2.1
      have d2 := fun V (h : Ext w6 V) => (HK1.out.ext h).c5.2.2.1
      have d3 := fun V (h : Ext w6 V) => (HK1.out.ext h).c5.2.2.2.1
      have d4 := fun V (h : Ext w6 V) => (HK1.out.ext h).c5.2.2.2.2.1
      have hqc : (q : Int) ≤ (cp2 : Int) := by omega
      have hqz : (0 : Int) ≤ (q : Int) := by omega
      have hqm : (q : Int) ≤ (n2 : Int) := by omega
      refine wp_region_tame_cut2 (fun V => Ext w6 V) (RF encL 5 68 w6.heap.size (c.sales.take q ++ [x] ++ c.sales.drop q) x) (by kernel_rfl) 43 rfl _ _ rfl rfl (by decide +kernel) (by decide +kernel) (by decide +kernel) (by decide +kernel) (by decide +kernel) rfl rfl (Ext.refl _).drew ?_
      simp only [List.dropLast]
      apply tame_v rfl (NewF encL 5 68 w6.heap.size ([] : List Sale)) (fun v V V' _ hR h => ⟨hR.2.1 [] List.nil_prefix v h.1, h.2⟩)
      · intro ρ V hC hr hD
        obtain ⟨hrc, hrg, hrf, hrs⟩ := hr
        simp [go_sem] at hD
        go_simp
        exact ⟨⟨hC.alloc _, RF.ext (Ext.al _ _)⟩, ⟨Own.new (Blk.new _ _ _) hC.size, _, 0, rfl, fun _ => rfl⟩⟩
      simp only [List.nil_append, List.cons_append]
      repeat (apply tame_q rfl; (intro ρ W hC hr hD; (obtain ⟨hrc, hrg, hrf, hrs⟩ := hr); (simp [go_sem] at hD); go_simp; first | exact ⟨⟨hC, RF.refl _⟩, rfl⟩ | exact rfl); simp only [List.nil_append, List.cons_append])
      apply tame_v rfl (NewF encL 5 68 w6.heap.size (c.sales.take q)) (fun v V V' _ hR h => ⟨hR.2.1 _ (by rw [List.append_assoc]; exact List.prefix_append _ _) v h.1, h.2⟩)
      · intro ρ V hC hr hD
        obtain ⟨hrc, hrg, hrf, hrs⟩ := hr
        simp [go_sem] at hD
        obtain ⟨d1, d2⟩ := hD
        have hh : SlL w6 (ρ (.tmp 31)) (c.sales.take q) := by
          rw [d2]
          exact Sl.head HSL6.out hqn
        obtain ⟨v', V', hrun, hnew, hR, hB⟩ := run_appF (t := 23) (ty := 23) (enc := encL) (sz := 5) (m := c.sales.take q) (y := x) Tryd.underlying23 info68x rfl (by decide) (by decide) (fun _ => rfl) encL_1 d1 (F := c.sales.take q ++ [x] ++ c.sales.drop q) (by rw [List.nil_append, List.append_assoc]; exact List.prefix_append _ _) HFL.out hC.size (hh.ext hC)
        show opGives _ _ _ _ _ _ _
        unfold opGives execOp
        simp only [resolve, invoke, builtin, Sem.run_bind, Sem.run_pure, Result.andThen_ok, List.map_toArray, List.map_cons, List.map_nil, hrun]
        exact ⟨⟨Below.trans hC hB, hR⟩, by rw [List.nil_append] at hnew; exact hnew⟩
      simp only [List.nil_append, List.cons_append]
      repeat (apply tame_q rfl; (intro ρ W hC hr hD; (obtain ⟨hrc, hrg, hrf, hrs⟩ := hr); (simp [go_sem] at hD); go_simp; first | exact ⟨⟨hC, RF.refl _⟩, rfl⟩ | exact rfl); simp only [List.nil_append, List.cons_append])
      apply tame_v rfl (OneF encL 68 x) (fun v V V' _ hR h => by obtain ⟨g, h1, h2⟩ := h; exact ⟨g, h1, hR.2.2.1 g h2⟩)
      · intro ρ V hC hr hD
        obtain ⟨hrc, hrg, hrf, hrs⟩ := hr
        simp [go_sem] at hD
        go_simp
        exact ⟨⟨hC.alloc _, RF.ext (Ext.al _ _)⟩, ⟨_, rfl, Blk.new _ _ _⟩⟩
      simp only [List.nil_append, List.cons_append]
      apply tame_v rfl (NewF encL 5 68 w6.heap.size (c.sales.take q ++ [x])) (fun v V V' _ hR h => ⟨hR.2.1 _ (List.prefix_append _ _) v h.1, h.2⟩)
      · intro ρ V hC hr hD
        obtain ⟨hrc, hrg, hrf, hrs⟩ := hr
        simp [go_sem] at hD
        obtain ⟨d1, ⟨g, d2, d3⟩, -⟩ := hD
        obtain ⟨v', V', hrun, hnew, hR, hB⟩ := run_appF (t := 23) (ty := 23) (enc := encL) (sz := 5) (m := [x]) (y := x) Tryd.underlying23 info68x rfl (by decide) (by decide) (fun _ => rfl) encL_1 d1 (F := c.sales.take q ++ [x] ++ c.sales.drop q) (List.prefix_append _ _) HFL.out hC.size (Sl.single (c := 1) d3 (Nat.le_refl _) (by decide))
        rw [← d2] at hrun
        show opGives _ _ _ _ _ _ _
        unfold opGives execOp
        simp only [resolve, invoke, builtin, Sem.run_bind, Sem.run_pure, Result.andThen_ok, List.map_toArray, List.map_cons, List.map_nil, hrun]
        exact ⟨⟨Below.trans hC hB, hR⟩, hnew⟩
      simp only [List.nil_append, List.cons_append]
      repeat (apply tame_q rfl; (intro ρ W hC hr hD; (obtain ⟨hrc, hrg, hrf, hrs⟩ := hr); (simp [go_sem] at hD); go_simp; first | exact ⟨⟨hC, RF.refl _⟩, rfl⟩ | exact rfl); simp only [List.nil_append, List.cons_append])
      apply tame_v rfl (NewF encL 5 68 w6.heap.size (c.sales.take q ++ [x] ++ c.sales.drop q)) (fun v V V' _ hR h => ⟨hR.2.1 _ (List.prefix_refl _) v h.1, h.2⟩)
      · intro ρ V hC hr hD
        obtain ⟨hrc, hrg, hrf, hrs⟩ := hr
        simp [go_sem] at hD
        obtain ⟨d1, d2, -⟩ := hD
        have hh : SlL w6 (ρ (.tmp 39)) (c.sales.drop q) := by
          rw [d2]
          have hh := Sl.tail HSL6.out hqn
          simpa [sliced, Addr.add_lit] using hh
        obtain ⟨v', V', hrun, hnew, hR, hB⟩ := run_appF (t := 23) (ty := 23) (enc := encL) (sz := 5) (m := c.sales.drop q) (y := x) Tryd.underlying23 info68x rfl (by decide) (by decide) (fun _ => rfl) encL_1 d1 (F := c.sales.take q ++ [x] ++ c.sales.drop q) (List.prefix_refl _) HFL.out hC.size (hh.ext hC)
        show opGives _ _ _ _ _ _ _
        unfold opGives execOp
        simp only [resolve, invoke, builtin, Sem.run_bind, Sem.run_pure, Result.andThen_ok, List.map_toArray, List.map_cons, List.map_nil, hrun]
        exact ⟨⟨Below.trans hC hB, hR⟩, hnew⟩
      simp only [List.nil_append, List.cons_append]
      refine tame_end 43 rfl rfl (fun ρ V hC hr hF => ?_)
      obtain ⟨hrc, hrg, hrf, hrs⟩ := hr
      simp [go_sem] at hF
      obtain ⟨f37, f38, f39, f40, f41, f42, f43, f44, f45, f46, f47, f48, f49, f50o, Af, cf, f50, -⟩ := hF
      rw [f50] at f50o
      have hln : (c.sales.take q ++ x :: c.sales.drop q).length = n2 + 1 := by have := hn2.out; simp; omega
      rw [hln] at f50 f50o
      have HFI := Lib.hid (show c.sales.take q ++ x :: c.sales.drop q = (withC c x).sales by unfold withC; rw [← HAT.out])
      rw [HFI.out] at f50o
      have HO := Lib.hid f50o
      have HEV := Lib.hid hC
      clear f37 f42 f44 f45 f49 f50o hln HTL HFL HSL6 m4 d0 d1 d2 d3 d4
      generalize ρ (Operand.tmp 27) = v37 at *
      generalize ρ (Operand.tmp 32) = v42 at *
      generalize ρ (Operand.tmp 34) = v44 at *
      generalize ρ (Operand.tmp 35) = v45 at *
      apply frame_to
      · go_simp
        exact rfl
      clear f38 f39 f40 f41 f43 f46 f47 f48 f50 hrc hrg hrf hrs hC
      have HL7 := Lib.hid (HK7.out.ext HEV.out)
      have x0 := HL7.out.c2
      have HK2V := Lib.hid (HK2.out.ext HEV.out)
      have t0 := HK2V.out.c2
      have hs6 := HS6.out
      have hne1 : ¬ w5.heap.size = w.heap.size + 1 + 1 := by omega
      have hne2 : ¬ w.heap.size + 1 + 1 = w5.heap.size := by omega
      go_wp2
      generalize hw7 : V.setCell ⟨w5.heap.size, 1, none⟩ _ = w7
      have HG7 : V.grownBy w7 (some w5.heap.size) := hw7 ▸ grown_set (World.grownBy.refl _ _) (p := ⟨w5.heap.size, 1, none⟩) (.inl rfl) _
      have R1 := Lib.hid (show Own encI 3 1 w7 W.heap.size (.slice Ad nd cd) c.houses from own_off (P1.out.ext HEV.out) HL7.out (by decide) HG7)
      have R2 := Lib.hid (show Own encL 68 5 w7 w6.heap.size (.slice Af (n2 + 1) cf) (withC c x).sales from own_off HO.out HL7.out (by decide) HG7)
      have HT7 := Lib.hid (HK2V.out.grown HG7 (by intro e; injection e with e; omega))
      have E7 := Lib.hid (show Ext w w7 from ext_grown (HE6.out.trans HEV.out) HG7 (by omega))
      refine ret_set2 HT7.out fun W' ⟨b0, b1⟩ hW => ?_
      refine bodyPost_ret (v := valC (.slice Ad nd cd) (.slice Af (n2 + 1) cf)) (by simp [results, Tryd.results101, go_sem, b0, b1]) rfl ?_
      exact ⟨⟨_, rfl, ⟨_, _, rfl, own_mono (own_kept R1.out hW (by omega)) (by omega), own_mono (own_kept R2.out hW (by omega)) (by omega)⟩⟩, ext_grownP E7.out hW (by omega)⟩

set_option maxHeartbeats 4000000 in
theorem refPut_any (c : Chn) (x : Sale) (hv sv : Value) (w : World) (hh : SlI w hv c.houses) (hs : SlL w sv c.sales) (hlh : c.houses.length ≤ 1000) (hls : c.sales.length ≤ 900) :
    Calls Tryd.prog 45 #[valC hv sv, valL x] w (PutP (putE c x) (putC c x) w) := by
  have HPE := Lib.hid (putE_eq c x); have HPC := Lib.hid (putC_eq c x)
  have HH := Lib.hid hh; have HS := Lib.hid hs; have HL := Lib.hid hls; have HLH := Lib.hid hlh
  obtain ⟨A, n, cp, rfl, hn, hlc, hcm⟩ := hh.form
  obtain ⟨A2, n2, cp2, rfl, hn2, hlc2, hcm2⟩ := hs.form
  clear hh hs hlh hls
  dsimp only [valL]
  go_enter Tryd.func45, Tryd.ntmps45
  go_wp2_with fail
  generalize hw3 : ((w.alloc (.cells #[.slice A n cp, .slice A2 n2 cp2] 25)).alloc (.cells #[.int .i64 x.number, .int .i64 x.seller, .int .i64 x.buyer, .int .i64 x.bales, .int .i64 x.price] 68)).alloc (.cells #[.slice none 0 0, .slice none 0 0] 25) = w3
  have HE3 := Lib.hid (show Ext w w3 from hw3 ▸ ((Ext.al _ _).alloc _).alloc _)
  have HZ3 := Lib.hid (show w3.heap.size = w.heap.size + 3 by rw [← hw3]; simp)
  have HB0 := Lib.hid (show Blk w3 w.heap.size 25 #[.slice A n cp, .slice A2 n2 cp2] from hw3 ▸ ((Blk.new _ _ _).alloc _).alloc _)
  have HB1 := Lib.hid (show Blk w3 (w.heap.size + 1) 68 #[.int .i64 x.number, .int .i64 x.seller, .int .i64 x.buyer, .int .i64 x.bales, .int .i64 x.price] from hw3 ▸ (Blk.at_ (by simp)).alloc _)
  have HB2 := Lib.hid (show Blk w3 (w.heap.size + 1 + 1) 25 #[.slice none 0 0, .slice none 0 0] from hw3 ▸ Blk.at_ (by simp))
  clear hw3
  refine (refChain_any c _ _ _ (HH.out.ext HE3.out) (HS.out.ext HE3.out)).mono ?_
  rintro e w4 ⟨rfl, hE⟩
  have HE4 := Lib.hid (HE3.out.trans hE)
  have HC0 := Lib.hid (HB0.out.ext hE); have HC1 := Lib.hid (HB1.out.ext hE); have HC2 := Lib.hid (HB2.out.ext hE)
  have HZ4 := Lib.hid (show w.heap.size + 3 ≤ w4.heap.size by have := hE.size; have := HZ3.out; omega)
  clear hE HB0 HB1 HB2 HZ3 HE3
  have t0 := HC2.out.c2
  have x0 := HC0.out.c2
  have y0 := HC1.out.c5
  cases hq : checkP c with
  | false =>
    have HQ := Lib.hid (show putE c x = 60 by unfold putE; rw [hq]; rfl)
    have HQC := Lib.hid (show putC c x = noC by unfold putC; rw [HQ.out]; rfl)
    clear hq
    go_wp2
    refine ret_set2 HC2.out fun W' ⟨b0, b1⟩ hW => ?_
    refine bodyPost_ret (v := .tuple #[.agg #[.slice none 0 0, .slice none 0 0], .int .i64 60]) (by simp [results, Tryd.results45, go_sem, b0, b1]) rfl ?_
    exact ⟨⟨_, by rw [HQ.out], by rw [HQC.out]; exact TwinC.no _ _⟩, ext_grownP HE4.out hW (by omega)⟩
  | true =>
    have HQ := Lib.hid hq; clear hq
    by_cases h10 : n2 = 10
    · have HQE := Lib.hid (show putE c x = 9 by unfold putE; rw [HQ.out, ← hn2.out, h10]; rfl)
      have HQC := Lib.hid (show putC c x = noC by unfold putC; rw [HQE.out]; rfl)
      subst h10
      go_wp2
      refine ret_set2 HC2.out fun W' ⟨b0, b1⟩ hW => ?_
      refine bodyPost_ret (v := .tuple #[.agg #[.slice none 0 0, .slice none 0 0], .int .i64 9]) (by simp [results, Tryd.results45, go_sem, b0, b1]) rfl ?_
      exact ⟨⟨_, by rw [HQE.out], by rw [HQC.out]; exact TwinC.no _ _⟩, ext_grownP HE4.out hW (by omega)⟩
    · have h10z : ¬ ((n2 : Int) = 10) := by omega
      have HH10 := Lib.hid h10
      clear h10
      go_wp2_with fail
      refine (refWith_any c x _ _ _ (HH.out.ext HE4.out) (HS.out.ext HE4.out) HLH.out HL.out).mono ?_
      rintro e w5 ⟨⟨v, rfl, dv, wv, rfl, o1, o2⟩, hE⟩
      obtain ⟨Ad, nd, cd, rfl, -, -, -⟩ := (show SlI w5 dv (withC c x).houses from o1.sl (fun _ => rfl)).form
      obtain ⟨Aw, nw, cw, rfl, -, -, -⟩ := (show SlL w5 wv (withC c x).sales from o2.sl (fun _ => rfl)).form
      have HE5 := Lib.hid (HE4.out.trans hE)
      have HD2 := Lib.hid (HC2.out.ext hE)
      have O1 := Lib.hid o1
      have O2 := Lib.hid o2
      clear o1 o2 hE HC0 HC1 HC2 x0 y0 t0
      dsimp only [valC]
      go_wp2_with fail
      generalize hw6 : w5.alloc (.cells #[.slice Ad nd cd, .slice Aw nw cw] 25) = w6
      have HK6 := Lib.hid (show Blk w6 w5.heap.size 25 #[.slice Ad nd cd, .slice Aw nw cw] from hw6 ▸ Blk.new _ _ _)
      have HK2 := Lib.hid (show Blk w6 (w.heap.size + 1 + 1) 25 #[.slice none 0 0, .slice none 0 0] from hw6 ▸ HD2.out.alloc _)
      have E6 := Lib.hid (show Ext w w6 from hw6 ▸ HE5.out.alloc _)
      have Q1 := Lib.hid (show Own encI 3 1 w6 w4.heap.size (.slice Ad nd cd) (withC c x).houses from hw6 ▸ O1.out.alloc _)
      have Q2 := Lib.hid (show Own encL 68 5 w6 w4.heap.size (.slice Aw nw cw) (withC c x).sales from hw6 ▸ O2.out.alloc _)
      clear hw6 HD2 HE5 O1 O2
      refine (refChain_any (withC c x) _ _ _ (Own.sl (fun _ => rfl) Q1.out) (Own.sl (fun _ => rfl) Q2.out)).mono ?_
      rintro e w7 ⟨rfl, hE⟩
      have HE7 := Lib.hid (E6.out.trans hE)
      have HK7 := Lib.hid (HK6.out.ext hE); have HT7 := Lib.hid (HK2.out.ext hE)
      have P1 := Lib.hid (Q1.out.ext hE); have P2 := Lib.hid (Q2.out.ext hE)
      clear hE HK6 HK2 E6 Q1 Q2
      have x0 := HK7.out.c2
      have t0 := HT7.out.c2
      have HCR := Lib.hid (show checkP (withC c x) = rightP (withC c x) by
        unfold checkP
        rw [withC_len, decide_eq_true (by have := hn2.out; have := HH10.out; have := (check_right HQ.out).2; omega), Bool.true_and])
      cases hv2 : checkP (withC c x) with
      | false =>
        have HQE := Lib.hid (show putE c x = 61 by unfold putE; rw [HQ.out, if_pos rfl, if_neg (by have := hn2.out; have := HH10.out; omega), ← HCR.out, hv2]; rfl)
        have HQC := Lib.hid (show putC c x = noC by unfold putC; rw [HQE.out]; rfl)
        clear hv2
        go_wp2
        refine ret_set2 HT7.out fun W' ⟨b0, b1⟩ hW => ?_
        refine bodyPost_ret (v := .tuple #[.agg #[.slice none 0 0, .slice none 0 0], .int .i64 61]) (by simp [results, Tryd.results45, go_sem, b0, b1]) rfl ?_
        exact ⟨⟨_, by rw [HQE.out], by rw [HQC.out]; exact TwinC.no _ _⟩, ext_grownP HE7.out hW (by omega)⟩
      | true =>
        have HQE := Lib.hid (show putE c x = 0 by unfold putE; rw [HQ.out, if_pos rfl, if_neg (by have := hn2.out; have := HH10.out; omega), ← HCR.out, hv2]; rfl)
        have HQC := Lib.hid (show putC c x = withC c x by unfold putC; rw [HQE.out]; rfl)
        clear hv2
        go_wp2
        refine ret_set2 HT7.out fun W' ⟨b0, b1⟩ hW => ?_
        refine bodyPost_ret (v := .tuple #[valC (.slice Ad nd cd) (.slice Aw nw cw), .int .i64 0]) (by simp [results, Tryd.results45, go_sem, b0, b1]) rfl ?_
        refine ⟨⟨_, by rw [HQE.out], ?_⟩, ext_grownP HE7.out hW (by omega)⟩
        rw [HQC.out]
        have hz := HZ4.out
        exact ⟨_, _, rfl, own_mono (own_kept P1.out hW (by omega)) (by omega), own_mono (own_kept P2.out hW (by omega)) (by omega)⟩
end Go.Proofs.YtafdbgielmlihaaDoor
/- The reference's Stop and Strike. -/
namespace Go.Proofs.YtafdbgielmlihaaDoor
open Go.RowKit Go.Shelf Go.Lib
set_option maxRecDepth 100000
set_option linter.unusedSimpArgs false

theorem filter_snoc {p : Sale → Bool} {l : List Sale} {q : Nat} {x : Sale} (h : l[q]? = some x) : (l.take (q + 1)).filter p = (l.take q).filter p ++ (if p x then [x] else []) := by
  rw [take_snoc h, List.filter_append]
  congr 1
  cases hp : p x <;> simp [hp]

/-- A row stands still where it lies below. -/
theorem own_kept2 {α : Type} {enc : α → List Value} {sz base g : Nat} {e : TypeId} {w w' : World} {v : Value} {l : List α} (h : Own enc e sz w base v l) (hb : Below g w w') (htop : ∀ b, v.ownBlock = some b → b < g) : Own enc e sz w' base v l := by
  refine ⟨h.1, ?_⟩
  rcases h.2 with h2 | ⟨g2, cap, cur, e1, hb2, hg, h5⟩
  · exact .inl h2
  · exact .inr ⟨g2, cap, cur, e1, hb2, (hb.block g2 (htop g2 (by rw [e1]; rfl))).trans hg, h5⟩
theorem cells5 {w : World} {b : Nat} {x y z t s : Value} (h0 : w.cell? ⟨b, 0, none⟩ = some x) (h1 : w.cell? ⟨b, 1, none⟩ = some y) (h2 : w.cell? ⟨b, 2, none⟩ = some z) (h3 : w.cell? ⟨b, 3, none⟩ = some t) (h4 : w.cell? ⟨b, 4, none⟩ = some s) : ∀ (j : Nat) (u : Value), [x, y, z, t, s][j]? = some u → w.cell? ⟨b, j, none⟩ = some u := by
  intro j u hu
  match j, hu with
  | 0, hu => simp at hu; subst hu; exact h0
  | 1, hu => simp at hu; subst hu; exact h1
  | 2, hu => simp at hu; subst hu; exact h2
  | 3, hu => simp at hu; subst hu; exact h3
  | 4, hu => simp at hu; subst hu; exact h4

set_option maxHeartbeats 4000000 in
theorem refStop_any (c : Chn) (h : Int) (hv sv : Value) (w : World) (hh : SlI w hv c.houses) (hs : SlL w sv c.sales) (hlh : c.houses.length ≤ 1000) (hls : c.sales.length ≤ 900) :
    Calls Tryd.prog 49 #[valC hv sv, .int .i64 h] w (PutP (stopE c h) (stopC c h) w) := by
  have HIX := Lib.hid (show decide (0 ≤ houseI c h) = hasI c.houses h from hasI_idx c.houses h)
  have HH := Lib.hid hh; have HS := Lib.hid hs; have HL := Lib.hid hls; have HLH := Lib.hid hlh
  obtain ⟨A, n, cp, rfl, hn, hlc, hcm⟩ := hh.form
  obtain ⟨A2, n2, cp2, rfl, hn2, hlc2, hcm2⟩ := hs.form
  clear hh hs hlh hls
  go_enter Tryd.func49, Tryd.ntmps49
  go_wp2_with fail
  generalize hw3 : (w.alloc (.cells #[.slice A n cp, .slice A2 n2 cp2] 25)).alloc (.cells #[.slice none 0 0, .slice none 0 0] 25) = w3
  have HE3 := Lib.hid (show Ext w w3 from hw3 ▸ (Ext.al _ _).alloc _)
  have HZ3 := Lib.hid (show w3.heap.size = w.heap.size + 2 by rw [← hw3]; simp)
  have HB0 := Lib.hid (show Blk w3 w.heap.size 25 #[.slice A n cp, .slice A2 n2 cp2] from hw3 ▸ (Blk.new _ _ _).alloc _)
  have HB2 := Lib.hid (show Blk w3 (w.heap.size + 1) 25 #[.slice none 0 0, .slice none 0 0] from hw3 ▸ Blk.at_ (by simp))
  clear hw3
  refine (refChain_any c _ _ _ (HH.out.ext HE3.out) (HS.out.ext HE3.out)).mono ?_
  rintro e w4 ⟨rfl, hE⟩
  have HE4 := Lib.hid (HE3.out.trans hE)
  have HC0 := Lib.hid (HB0.out.ext hE); have HC2 := Lib.hid (HB2.out.ext hE)
  clear hE HB0 HB2 HZ3 HE3
  have t0 := HC2.out.c2
  have x0 := HC0.out.c2
  cases hq : checkP c with
  | false =>
    have HQ := Lib.hid (show stopE c h = 60 by unfold stopE; rw [hq]; rfl)
    have HQC := Lib.hid (show stopC c h = noC by unfold stopC; rw [HQ.out]; rfl)
    clear hq
    go_wp2
    refine ret_set2 HC2.out fun W' ⟨b0, b1⟩ hW => ?_
    refine bodyPost_ret (v := .tuple #[.agg #[.slice none 0 0, .slice none 0 0], .int .i64 60]) (by simp [results, Tryd.results49, go_sem, b0, b1]) rfl ?_
    exact ⟨⟨_, by rw [HQ.out], by rw [HQC.out]; exact TwinC.no _ _⟩, ext_grownP HE4.out hW (by omega)⟩
  | true =>
    have HQ := Lib.hid hq; clear hq
    go_wp2_with fail
    refine (house_any c h _ _ _ (HH.out.ext HE4.out) (HS.out.ext HE4.out)).mono ?_
    rintro e w5 ⟨rfl, hE⟩
    have HE5 := Lib.hid (HE4.out.trans hE)
    have HD0 := Lib.hid (HC0.out.ext hE); have HD2 := Lib.hid (HC2.out.ext hE)
    clear hE HC0 HC2 t0 x0
    have t0 := HD2.out.c2
    have x0 := HD0.out.c2
    by_cases hA : houseI c h < 0
    · have HQE := Lib.hid (show stopE c h = 6 by unfold stopE; rw [HQ.out, ← HIX.out]; rw [decide_eq_false (show ¬ (0 ≤ houseI c h) by omega)]; rfl)
      have HQC := Lib.hid (show stopC c h = noC by unfold stopC; rw [HQE.out]; rfl)
      go_wp2
      refine ret_set2 HD2.out fun W' ⟨b0, b1⟩ hW => ?_
      refine bodyPost_ret (v := .tuple #[.agg #[.slice none 0 0, .slice none 0 0], .int .i64 6]) (by simp [results, Tryd.results49, go_sem, b0, b1]) rfl ?_
      exact ⟨⟨_, by rw [HQE.out], by rw [HQC.out]; exact TwinC.no _ _⟩, ext_grownP HE5.out hW (by omega)⟩
    · have HQE := Lib.hid (show stopE c h = 0 by unfold stopE; rw [HQ.out, ← HIX.out]; rw [decide_eq_true (show 0 ≤ houseI c h by omega)]; rfl)
      have HQC := Lib.hid (show stopC c h = lessC c (soldBy h) by unfold stopC; rw [HQE.out]; rfl)
      go_wp2_with fail
      refine (twin_any c _ _ _ (HH.out.ext HE5.out) (HS.out.ext HE5.out) HLH.out (by have := HL.out; omega)).mono ?_
      rintro e w6 ⟨⟨v, rfl, dv, wv, rfl, o1, o2⟩, hE⟩
      obtain ⟨Ad, nd, cd, rfl, -, -, -⟩ := (show SlI w6 dv c.houses from o1.sl (fun _ => rfl)).form
      obtain ⟨Aw, nw, cw, rfl, -, -, -⟩ := (show SlL w6 wv c.sales from o2.sl (fun _ => rfl)).form
      have HE6 := Lib.hid (HE5.out.trans hE)
      have HF0 := Lib.hid (HD0.out.ext hE); have HF2 := Lib.hid (HD2.out.ext hE)
      have O1 := Lib.hid o1
      have HTOP := Lib.hid (own_top o1)
      have HZ6 := Lib.hid (show w.heap.size + 2 ≤ w5.heap.size ∧ w5.heap.size ≤ w6.heap.size by have := hE.size; have := HD2.out.lt; omega)
      clear hE HD0 HD2 t0 x0 o1 o2
      have x0 := HF0.out.c2
      have hz6 := HZ6.out
      have hne : ¬ w.heap.size = w6.heap.size := by omega
      dsimp only [valC]
      go_wp2
      clear x0 hz6 hne
      generalize hw7 : (w6.alloc (.cells #[.slice Ad nd cd, .slice none 0 0] 25)) = w7
      have HG0 := Lib.hid (show Blk w7 w.heap.size 25 #[.slice A n cp, .slice A2 n2 cp2] from hw7 ▸ HF0.out.alloc _)
      have HG2 := Lib.hid (show Blk w7 (w.heap.size + 1) 25 #[.slice none 0 0, .slice none 0 0] from hw7 ▸ HF2.out.alloc _)
      have HG6 := Lib.hid (show Blk w7 w6.heap.size 25 #[.slice Ad nd cd, .slice none 0 0] from hw7 ▸ Blk.new _ _ _)
      have HE7 := Lib.hid (show Ext w w7 from hw7 ▸ HE6.out.alloc _)
      have HZ7 := Lib.hid (show w7.heap.size = w6.heap.size + 1 by rw [← hw7]; simp)
      have P1 := Lib.hid (show Own encI 3 1 w7 w5.heap.size (.slice Ad nd cd) c.houses from hw7 ▸ O1.out.alloc _)
      clear hw7 HF0 HF2 O1
      go_loopg [24] n2 (fun gg s24 wr => ∃ (q : Nat) (A1 : Option Addr) (n1 c1 : Nat), q ≤ n2 ∧ n2 - q ≤ gg ∧ s24 = .int .i64 (q : Int) ∧ Aside (Blk wr w6.heap.size 25 #[.slice Ad nd cd, .slice A1 n1 c1]) ∧ Aside (Own encL 68 5 wr w7.heap.size (.slice A1 n1 c1) ((c.sales.take q).filter fun x => !soldBy h x)) ∧ Aside (Below w6.heap.size w7 wr))
      case atStart => exact ⟨0, none, 0, 0, by omega, by omega, rfl, HG6.out, (by show Own _ _ _ _ _ _ _; simpa using Own.nil _ _), Below.refl _ _⟩
      case round =>
        obtain ⟨q, A1, n1, c1, hqn, hgq, rfl, BO, OW, BW⟩ := hrel
        have HE8 := Lib.hid (show Ext w wr from Below.trans HE7.out (BW.out.mono (by have := HZ6.out; omega)))
        have HK0 := Lib.hid (HG0.out.below BW.out (by have := HZ6.out; omega)); have HK2 := Lib.hid (HG2.out.below BW.out (by have := HZ6.out; omega))
        have HZ8 := Lib.hid (show w.heap.size + 2 ≤ w6.heap.size ∧ w7.heap.size = w6.heap.size + 1 ∧ w7.heap.size ≤ wr.heap.size by have := HZ6.out; have := HZ7.out; have := BW.out.size; omega)
        have x0 := BO.out.c2
        by_cases hlt : q < n2
        · have hltz : (q : Int) < (n2 : Int) := by omega
          obtain ⟨bb, off, x, rfl, hx, hb, hcell⟩ := HS.out.at_ hlt
          obtain ⟨c0, d1, d2, d3, d4⟩ := SlL.cells hcell HE8.out
          have HX := Lib.hid hx
          have HFS := Lib.hid (filter_snoc (p := fun x => !soldBy h x) hx)
          clear hx hcell hb
          cases e1 : (x.seller != h) with
          | false =>
            have HP := Lib.hid (show (!soldBy h x) = false by unfold soldBy; simp at e1; simp [e1])
            go_wp2
            go_roundg (n2 - (q + 1))
            case measure => omega
            case rel => exact ⟨q + 1, A1, n1, c1, by omega, by omega, by simp, BO.out.alloc _, (by show Own _ _ _ _ _ _ _; rw [HFS.out, HP.out]; simpa using OW.out.alloc _), BW.out.alloc (by have := HZ8.out; omega) _⟩
          | true =>
            cases e2 : (x.buyer != h) with
            | false =>
              have HP := Lib.hid (show (!soldBy h x) = false by unfold soldBy; simp at e2; simp [e2])
              go_wp2
              go_roundg (n2 - (q + 1))
              case measure => omega
              case rel => exact ⟨q + 1, A1, n1, c1, by omega, by omega, by simp, BO.out.alloc _, (by show Own _ _ _ _ _ _ _; rw [HFS.out, HP.out]; simpa using OW.out.alloc _), BW.out.alloc (by have := HZ8.out; omega) _⟩
            | true =>
              have HP := Lib.hid (show (!soldBy h x) = true by unfold soldBy; simp at e1 e2; simp [e1, e2])
              go_wp2_with (at_builtin; refine wpList_app encL 23 68 5 _ 40 Tryd.underlying23 info68x rfl (by decide) (by decide) (fun _ => rfl) encL_1 rfl (.tmp 39) (.tmp 41) rfl w7.heap.size _ ((c.sales.take q).filter fun x => !soldBy h x) rfl ((OW.out.alloc _).alloc _) (wr.heap.size + 1) 1 x rfl (cells5 (by simp [go_sem]) (by simp [go_sem]) (by simp [go_sem]) (by simp [go_sem]) (by simp [go_sem])) (by have h1 := List.length_filter_le (fun x => !soldBy h x) (c.sales.take q); rw [List.length_take] at h1; have := HL.out; omega) (by have := HZ8.out; simp; omega) ?_)
              intro g cap w1 hown hg1 hbel hgr
              have HO := Lib.hid hown
              have HB := Lib.hid ((BO.out.alloc _).alloc _ |>.below hbel (by have := HZ8.out; omega))
              have HW := Lib.hid (show Below w6.heap.size w7 w1 from Below.trans ((BW.out.alloc (by have := HZ8.out; omega) _).alloc (by have := HZ8.out; simp; omega) _) (hbel.mono (by have := HZ8.out; omega)))
              clear hown hbel hgr x0 c0 d1 d2 d3 d4
              have x0 := HB.out.c2
              go_wp2
              go_roundg (n2 - (q + 1))
              case measure => omega
              case rel => exact ⟨q + 1, _, _, _, by omega, by omega, by simp, (by show Blk _ _ _ _; have := HB.out.set_ 1 (.slice (some ⟨g, 0, none⟩) (((c.sales.take q).filter fun x => !soldBy h x).length + 1) cap); simpa using this), (by show Own _ _ _ _ _ _ _; rw [HFS.out, HP.out]; exact own_set HO.out (by have := HZ8.out; omega)), HW.out.setCell (Nat.le_refl _) _⟩
        · have HK := Lib.hid (show q = n2 by omega)
          have HFE := Lib.hid (show ((c.sales.take q).filter fun x => !soldBy h x) = (lessC c (soldBy h)).sales by rw [List.take_of_length_le (by have := HK.out; have := hn2.out; omega)]; rfl)
          have HT7 := Lib.hid HK2.out
          have hz8 := HZ8.out
          have PB := Lib.hid (show Own encI 3 1 wr w5.heap.size (.slice Ad nd cd) c.houses from own_kept2 P1.out BW.out HTOP.out)
          have t0 := HT7.out.c2
          go_wp2
          refine ret_set2 HT7.out fun W' ⟨b0, b1⟩ hW => ?_
          refine bodyPost_ret (v := .tuple #[valC (.slice Ad nd cd) (.slice A1 n1 c1), .int .i64 0]) (by simp [results, Tryd.results49, go_sem, b0, b1]) rfl ?_
          refine ⟨⟨_, by rw [HQE.out], ?_⟩, ext_grownP HE8.out hW (by omega)⟩
          rw [HQC.out]
          have hz := HZ6.out
          exact ⟨_, _, rfl, own_mono (own_kept PB.out hW (by omega)) (by omega), own_mono (own_kept (by rw [← HFE.out]; exact OW.out) hW (by omega)) (by omega)⟩

theorem refOk_cons (c : Chn) (last : Option Int) (n : Int) (l : List Int) : refOkL c last (n :: l) = ((decide (0 ≤ saleI c n) && !(match last with | none => false | some p => decide (n ≤ p))) && refOkL c (some n) l) := by
  cases last <;> rfl
def lastO (l : List Int) (q : Nat) : Option Int := if q = 0 then none else l[q - 1]?
theorem wrap_nat {k : Nat} (h : k ≤ 100000) : IntKind.i64.wrap (k : Int) = (k : Int) := by
  rw [IntKind.wrap_i64]
  omega
set_option maxHeartbeats 8000000 in
theorem refStrike_any (c : Chn) (l : List Int) (hv sv lv : Value) (w : World) (hh : SlI w hv c.houses) (hs : SlL w sv c.sales) (hl : SlI w lv l) (hlh : c.houses.length ≤ 1000) (hls : c.sales.length ≤ 900) (hll : l.length ≤ 1000) :
    Calls Tryd.prog 47 #[valC hv sv, lv] w (PutP (strikeE c l) (strikeC c l) w) := by
  have HEQ := Lib.hid (strikeE_eq c l); have HEC := Lib.hid (strikeC_eq c l)
  have HH := Lib.hid hh; have HS := Lib.hid hs; have HL := Lib.hid hls; have HLH := Lib.hid hlh; have HN := Lib.hid hl; have HLL := Lib.hid hll
  obtain ⟨A, n, cp, rfl, hn, hlc, hcm⟩ := hh.form
  obtain ⟨A2, n2, cp2, rfl, hn2, hlc2, hcm2⟩ := hs.form
  obtain ⟨A3, n3, cp3, rfl, hn3, hlc3, hcm3⟩ := hl.form
  clear hh hs hlh hls hl hll
  go_enter Tryd.func47, Tryd.ntmps47
  go_wp2_with fail
  generalize hw3 : (w.alloc (.cells #[.slice A n cp, .slice A2 n2 cp2] 25)).alloc (.cells #[.slice none 0 0, .slice none 0 0] 25) = w3
  have HE3 := Lib.hid (show Ext w w3 from hw3 ▸ (Ext.al _ _).alloc _)
  have HZ3 := Lib.hid (show w3.heap.size = w.heap.size + 2 by rw [← hw3]; simp)
  have HB0 := Lib.hid (show Blk w3 w.heap.size 25 #[.slice A n cp, .slice A2 n2 cp2] from hw3 ▸ (Blk.new _ _ _).alloc _)
  have HB2 := Lib.hid (show Blk w3 (w.heap.size + 1) 25 #[.slice none 0 0, .slice none 0 0] from hw3 ▸ Blk.at_ (by simp))
  clear hw3
  refine (refChain_any c _ _ _ (HH.out.ext HE3.out) (HS.out.ext HE3.out)).mono ?_
  rintro e w4 ⟨rfl, hE⟩
  have HE4 := Lib.hid (HE3.out.trans hE)
  have HC0 := Lib.hid (HB0.out.ext hE); have HC2 := Lib.hid (HB2.out.ext hE)
  clear hE HB0 HB2 HZ3 HE3
  have t0 := HC2.out.c2
  have x0 := HC0.out.c2
  cases hq : checkP c with
  | false =>
    have HQ := Lib.hid (show strikeE c l = 60 by unfold strikeE; rw [hq]; rfl)
    have HQC := Lib.hid (show strikeC c l = noC by unfold strikeC; rw [HQ.out]; rfl)
    clear hq
    go_wp2
    refine ret_set2 HC2.out fun W' ⟨b0, b1⟩ hW => ?_
    refine bodyPost_ret (v := .tuple #[.agg #[.slice none 0 0, .slice none 0 0], .int .i64 60]) (by simp [results, Tryd.results47, go_sem, b0, b1]) rfl ?_
    exact ⟨⟨_, by rw [HQ.out], by rw [HQC.out]; exact TwinC.no _ _⟩, ext_grownP HE4.out hW (by omega)⟩
  | true =>
    have HQ := Lib.hid hq; clear hq
    have HSE := Lib.hid (show strikeE c l = if refOkL c none l then 0 else 61 by rw [← HEQ.out]; unfold refStrikeE; rw [chain_eq, HQ.out]; rfl)
    go_wp2
    clear t0 x0
    go_loopg [20] n3 (fun gg s20 wr => ∃ (q : Nat), q ≤ n3 ∧ n3 - q ≤ gg ∧ s20 = .int .i64 (q : Int) ∧ Aside (refOkL c none l = refOkL c (lastO l q) (l.drop q)) ∧ Aside (Ext w4 wr))
    case atStart => exact ⟨0, by omega, by omega, rfl, rfl, Ext.refl _⟩
    case round =>
      obtain ⟨q, hq, hg, rfl, OK, BW⟩ := hrel
      have HE5 := Lib.hid (HE4.out.trans BW.out)
      have HD0 := Lib.hid (HC0.out.ext BW.out); have HD2 := Lib.hid (HC2.out.ext BW.out)
      have t0 := HD2.out.c2
      have x0 := HD0.out.c2
      by_cases hqn : q < n3
      · have hqz : (q : Int) < (n3 : Int) := by omega
        obtain ⟨bb, off, x, rfl, hx, hb, hcell⟩ := HN.out.at_ hqn
        have HX := Lib.hid hx
        have c0 := SlI.cell hcell HE5.out
        clear hx hcell hb
        go_wp2_with fail
        refine (saleIdx_any c x _ _ _ (HH.out.ext HE5.out) (HS.out.ext HE5.out)).mono ?_
        rintro e w5 ⟨rfl, hE⟩
        have HE6 := Lib.hid (HE5.out.trans hE); have HB6 := Lib.hid (BW.out.trans hE)
        have HF0 := Lib.hid (HD0.out.ext hE); have HF2 := Lib.hid (HD2.out.ext hE)
        clear t0 x0 c0 hE
        have t0 := HF2.out.c2
        by_cases hsi : saleI c x < 0
        · have HOK := Lib.hid (show refOkL c none l = false by
            rw [OK.out, drop_at HX.out, refOk_cons, decide_eq_false (show ¬ 0 ≤ saleI c x by omega)]; rfl)
          have HQE := Lib.hid (show strikeE c l = 61 by rw [HSE.out, HOK.out]; rfl)
          have HQC := Lib.hid (show strikeC c l = noC by unfold strikeC; rw [HQE.out]; rfl)
          go_wp2
          refine ret_set2 HF2.out fun W' ⟨b0, b1⟩ hW => ?_
          refine bodyPost_ret (v := .tuple #[.agg #[.slice none 0 0, .slice none 0 0], .int .i64 61]) (by simp [results, Tryd.results47, go_sem, b0, b1]) rfl ?_
          exact ⟨⟨_, by rw [HQE.out], by rw [HQC.out]; exact TwinC.no _ _⟩, ext_grownP HE6.out hW (by omega)⟩
        · have HSI := Lib.hid (show 0 ≤ saleI c x by omega)
          cases q with
          | zero =>
            have HOK := Lib.hid (show refOkL c none l = refOkL c (lastO l 1) (l.drop 1) by
              rw [OK.out, drop_at HX.out, refOk_cons, decide_eq_true HSI.out]
              have : lastO l 1 = some x := HX.out
              rw [this]
              rfl)
            go_wp2
            go_roundg (n3 - 1)
            case measure => omega
            case rel => exact ⟨1, by omega, by omega, by simp, HOK.out, HB6.out⟩
          | succ m =>
            have hmn : m < n3 := by omega
            obtain ⟨bb', off', y, e1, hy, -, hyc⟩ := HN.out.at_ hmn
            injection e1 with e1
            injection e1 with e1 e2 _
            subst e1 e2
            have d0 := SlI.cell hyc HE6.out
            have HY := Lib.hid hy
            have hkz : (0 : Int) < ((m + 1 : Nat) : Int) := by omega
            have hjs : ((m + 1 : Nat) : Int) - 1 = (m : Int) := by omega
            have hjs2 : (m : Int) + 1 - 1 = (m : Int) := by omega
            have hwm : IntKind.i64.wrap (m : Int) = (m : Int) := wrap_nat (by have := HLL.out; have := hn3.out; omega)
            have hmz : (m : Int) < (n3 : Int) := by omega
            have HLA := Lib.hid (show lastO l (m + 1) = some y from HY.out)
            clear hy hyc
            by_cases hxy : x ≤ y
            · have HOK := Lib.hid (show refOkL c none l = false by
                rw [OK.out, drop_at HX.out, refOk_cons, decide_eq_true HSI.out, HLA.out]
                simp [hxy])
              have HQE := Lib.hid (show strikeE c l = 61 by rw [HSE.out, HOK.out]; rfl)
              have HQC := Lib.hid (show strikeC c l = noC by unfold strikeC; rw [HQE.out]; rfl)
              go_wp2
              refine ret_set2 HF2.out fun W' ⟨b0, b1⟩ hW => ?_
              refine bodyPost_ret (v := .tuple #[.agg #[.slice none 0 0, .slice none 0 0], .int .i64 61]) (by simp [results, Tryd.results47, go_sem, b0, b1]) rfl ?_
              exact ⟨⟨_, by rw [HQE.out], by rw [HQC.out]; exact TwinC.no _ _⟩, ext_grownP HE6.out hW (by omega)⟩
            · have HOK := Lib.hid (show refOkL c none l = refOkL c (lastO l (m + 1 + 1)) (l.drop (m + 1 + 1)) by
                rw [OK.out, drop_at HX.out, refOk_cons, decide_eq_true HSI.out, HLA.out]
                have h2 : lastO l (m + 1 + 1) = some x := HX.out
                rw [h2]
                simp [hxy])
              go_wp2
              go_roundg (n3 - (m + 1 + 1))
              case measure => omega
              case rel => exact ⟨m + 1 + 1, by omega, by omega, by simp, HOK.out, HB6.out⟩
      · have HK := Lib.hid (show q = n3 by omega)
        have HOK := Lib.hid (show refOkL c none l = true by rw [OK.out, List.drop_eq_nil_of_le (by have := HK.out; have := hn3.out; omega)]; rfl)
        have HQE := Lib.hid (show strikeE c l = 0 by rw [HSE.out, HOK.out]; rfl)
        have HQC := Lib.hid (show strikeC c l = lessC c (fun x => hasI l x.number) by unfold strikeC; rw [HQE.out]; rfl)
        go_wp2_with fail
        refine (twin_any c _ _ _ (HH.out.ext HE5.out) (HS.out.ext HE5.out) HLH.out (by have := HL.out; omega)).mono ?_
        rintro e w6 ⟨⟨v, rfl, dv, wv, rfl, o1, o2⟩, hE⟩
        obtain ⟨Ad, nd, cd, rfl, -, -, -⟩ := (show SlI w6 dv c.houses from o1.sl (fun _ => rfl)).form
        obtain ⟨Aw, nw, cw, rfl, -, -, -⟩ := (show SlL w6 wv c.sales from o2.sl (fun _ => rfl)).form
        have HE6 := Lib.hid (HE5.out.trans hE)
        have HF0 := Lib.hid (HD0.out.ext hE); have HF2 := Lib.hid (HD2.out.ext hE)
        have O1 := Lib.hid o1
        have HTOP := Lib.hid (own_top o1)
        have HZ6 := Lib.hid (show w.heap.size + 2 ≤ wr.heap.size ∧ wr.heap.size ≤ w6.heap.size by have := hE.size; have := HD2.out.lt; omega)
        clear hE HD0 HD2 t0 x0 o1 o2
        have x0 := HF0.out.c2
        have hz6 := HZ6.out
        have hne : ¬ w.heap.size = w6.heap.size := by omega
        dsimp only [valC]
        obtain ⟨wo, hwo⟩ : ∃ wo : World, wo = wr := ⟨_, rfl⟩
        subst hwo
        go_wp2
        clear x0 hz6 hne
        generalize hw7 : (w6.alloc (.cells #[.slice Ad nd cd, .slice none 0 0] 25)) = w7
        have HG0 := Lib.hid (show Blk w7 w.heap.size 25 #[.slice A n cp, .slice A2 n2 cp2] from hw7 ▸ HF0.out.alloc _)
        have HG2 := Lib.hid (show Blk w7 (w.heap.size + 1) 25 #[.slice none 0 0, .slice none 0 0] from hw7 ▸ HF2.out.alloc _)
        have HG6 := Lib.hid (show Blk w7 w6.heap.size 25 #[.slice Ad nd cd, .slice none 0 0] from hw7 ▸ Blk.new _ _ _)
        have HE7 := Lib.hid (show Ext w w7 from hw7 ▸ HE6.out.alloc _)
        have HZ7 := Lib.hid (show w7.heap.size = w6.heap.size + 1 by rw [← hw7]; simp)
        have P1 := Lib.hid (show Own encI 3 1 w7 wo.heap.size (.slice Ad nd cd) c.houses from hw7 ▸ O1.out.alloc _)
        clear hw7 HF0 HF2 O1
        go_loopg [50] n2 (fun gg s50 wr => ∃ (q : Nat) (A1 : Option Addr) (n1 c1 : Nat), q ≤ n2 ∧ n2 - q ≤ gg ∧ s50 = .int .i64 (q : Int) ∧ Aside (Blk wr w6.heap.size 25 #[.slice Ad nd cd, .slice A1 n1 c1]) ∧ Aside (Own encL 68 5 wr w7.heap.size (.slice A1 n1 c1) ((c.sales.take q).filter fun x => !hasI l x.number)) ∧ Aside (Below w6.heap.size w7 wr))
        case atStart => exact ⟨0, none, 0, 0, by omega, by omega, rfl, HG6.out, (by show Own _ _ _ _ _ _ _; simpa using Own.nil _ _), Below.refl _ _⟩
        case round =>
          obtain ⟨q, A1, n1, c1, hqn, hgq, rfl, BO, OW, BW⟩ := hrel
          have HE8 := Lib.hid (show Ext w wr from Below.trans HE7.out (BW.out.mono (by have := HZ6.out; omega)))
          have HK0 := Lib.hid (HG0.out.below BW.out (by have := HZ6.out; omega)); have HK2 := Lib.hid (HG2.out.below BW.out (by have := HZ6.out; omega))
          have HZ8 := Lib.hid (show w.heap.size + 2 ≤ w6.heap.size ∧ w7.heap.size = w6.heap.size + 1 ∧ w7.heap.size ≤ wr.heap.size by have := HZ6.out; have := HZ7.out; have := BW.out.size; omega)
          have x0 := BO.out.c2
          by_cases hlt : q < n2
          · have hltz : (q : Int) < (n2 : Int) := by omega
            obtain ⟨bb, off, x, rfl, hx, hb, hcell⟩ := HS.out.at_ hlt
            obtain ⟨c0, d1, d2, d3, d4⟩ := SlL.cells hcell HE8.out
            have HX := Lib.hid hx
            have HFS := Lib.hid (filter_snoc (p := fun x => !hasI l x.number) hx)
            clear hx hcell hb
            obtain ⟨wp, hwp⟩ : ∃ wp : World, wp = wr := ⟨_, rfl⟩
            subst hwp
            go_wp2
            clear c0 d1 d2 d3 d4 x0
            generalize hw9 : wp.alloc (.cells #[.int .i64 x.number, .int .i64 x.seller, .int .i64 x.buyer, .int .i64 x.bales, .int .i64 x.price] 68) = w9
            have HE9 := Lib.hid (show Ext wp w9 from hw9 ▸ Ext.al _ _)
            have HBX := Lib.hid (show Blk w9 wp.heap.size 68 #[.int .i64 x.number, .int .i64 x.seller, .int .i64 x.buyer, .int .i64 x.bales, .int .i64 x.price] from hw9 ▸ Blk.new _ _ _)
            clear hw9
            have q0 := HBX.out.c5
            have HA9 := Lib.hid (HE8.out.trans HE9.out)
            go_loopg [11, 56] n3 (fun gg s11 s56 wr => ∃ (j : Nat) (is : Bool), j ≤ n3 ∧ n3 - j ≤ gg ∧ s11 = .bool is ∧ s56 = .int .i64 (j : Int) ∧ Aside (is = (l.take j).any fun y => decide (x.number = y)) ∧ Aside (wr = w9))
            case atStart => exact ⟨0, false, by omega, by omega, rfl, rfl, rfl, rfl⟩
            case round =>
              obtain ⟨j, is, hj, hgj, rfl, rfl, IS, WR⟩ := hrel
              have hwr := WR.out
              subst hwr
              by_cases hjn : j < n3
              · have hjz : (j : Int) < (n3 : Int) := by omega
                obtain ⟨b3, o3, y, rfl, hy, hb3, hyc⟩ := HN.out.at_ hjn
                have c0 := SlI.cell hyc HA9.out
                have HIS := Lib.hid (show ((l.take (j + 1)).any fun y => decide (x.number = y)) = (is || decide (x.number = y)) by rw [take_snoc hy, List.any_append, ← IS.out]; simp)
                clear hy hyc hb3
                cases is with
                | true =>
                  go_wp2
                  go_roundg (n3 - (j + 1))
                  case measure => omega
                  case rel => exact ⟨j + 1, true, by omega, by omega, rfl, by simp, (by show _ = _; rw [HIS.out]; rfl), rfl⟩
                | false =>
                  cases e1 : (y == x.number) with
                  | false =>
                    have HD := Lib.hid (show decide (x.number = y) = false by simp at e1; simpa using fun e => e1 e.symm)
                    go_wp2
                    go_roundg (n3 - (j + 1))
                    case measure => omega
                    case rel => exact ⟨j + 1, false, by omega, by omega, rfl, by simp, (by show _ = _; rw [HIS.out, HD.out]; rfl), rfl⟩
                  | true =>
                    have HD := Lib.hid (show decide (x.number = y) = true by simp at e1; simpa using e1.symm)
                    go_wp2
                    go_roundg (n3 - (j + 1))
                    case measure => omega
                    case rel => exact ⟨j + 1, true, by omega, by omega, rfl, by simp, (by show _ = _; rw [HIS.out, HD.out]; rfl), rfl⟩
              · have HJ := Lib.hid (show is = hasI l x.number by
                  rw [IS.out, List.take_of_length_le (by have := hn3.out; omega)]; rfl)
                have HB9 := Lib.hid (BO.out.ext HE9.out); have HO9 := Lib.hid (OW.out.ext HE9.out)
                have HW9 := Lib.hid (show Below w6.heap.size w7 wr from Below.trans BW.out (HE9.out.mono (by have := HZ8.out; omega)))
                have HZ9 := Lib.hid (show wp.heap.size < wr.heap.size from HBX.out.lt)
                have x0 := HB9.out.c2
                cases is with
                | true =>
                  have HP := Lib.hid (show (!hasI l x.number) = false by rw [← HJ.out]; rfl)
                  go_wp2
                  go_roundg (n2 - (q + 1))
                  case measure => omega
                  case rel => exact ⟨q + 1, A1, n1, c1, by omega, by omega, by simp, HB9.out, (by show Own _ _ _ _ _ _ _; rw [HFS.out, HP.out]; simpa using HO9.out), HW9.out⟩
                | false =>
                  have HP := Lib.hid (show (!hasI l x.number) = true by rw [← HJ.out]; rfl)
                  go_wp2_with (at_builtin; refine wpList_app encL 23 68 5 _ 40 Tryd.underlying23 info68x rfl (by decide) (by decide) (fun _ => rfl) encL_1 rfl (.tmp 71) (.tmp 73) rfl w7.heap.size _ ((c.sales.take q).filter fun x => !hasI l x.number) rfl (HO9.out.alloc _) wr.heap.size 1 x rfl (cells5 (by simp [go_sem]) (by simp [go_sem]) (by simp [go_sem]) (by simp [go_sem]) (by simp [go_sem])) (by have h1 := List.length_filter_le (fun x => !hasI l x.number) (c.sales.take q); rw [List.length_take] at h1; have := HL.out; omega) (by have := HZ8.out; have := HZ9.out; simp; omega) ?_)
                  intro g cap w1 hown hg1 hbel hgr
                  have HO := Lib.hid hown
                  have HB := Lib.hid (HB9.out.alloc _ |>.below hbel (by have := HZ8.out; omega))
                  have HW := Lib.hid (show Below w6.heap.size w7 w1 from Below.trans (HW9.out.alloc (by have := HZ8.out; have := HZ9.out; omega) _) (hbel.mono (by have := HZ8.out; omega)))
                  clear hown hbel hgr x0
                  have x0 := HB.out.c2
                  go_wp2
                  go_roundg (n2 - (q + 1))
                  case measure => omega
                  case rel => exact ⟨q + 1, _, _, _, by omega, by omega, by simp, (by show Blk _ _ _ _; have := HB.out.set_ 1 (.slice (some ⟨g, 0, none⟩) (((c.sales.take q).filter fun x => !hasI l x.number).length + 1) cap); simpa using this), (by show Own _ _ _ _ _ _ _; rw [HFS.out, HP.out]; exact own_set HO.out (by have := HZ8.out; omega)), HW.out.setCell (Nat.le_refl _) _⟩
          · have HK := Lib.hid (show q = n2 by omega)
            have HFE := Lib.hid (show ((c.sales.take q).filter fun x => !hasI l x.number) = (lessC c (fun x => hasI l x.number)).sales by rw [List.take_of_length_le (by have := HK.out; have := hn2.out; omega)]; rfl)
            have HT7 := Lib.hid HK2.out
            have hz8 := HZ8.out
            have PB := Lib.hid (show Own encI 3 1 wr wo.heap.size (.slice Ad nd cd) c.houses from own_kept2 P1.out BW.out HTOP.out)
            have t0 := HT7.out.c2
            go_wp2
            refine ret_set2 HT7.out fun W' ⟨b0, b1⟩ hW => ?_
            refine bodyPost_ret (v := .tuple #[valC (.slice Ad nd cd) (.slice A1 n1 c1), .int .i64 0]) (by simp [results, Tryd.results47, go_sem, b0, b1]) rfl ?_
            refine ⟨⟨_, by rw [HQE.out], ?_⟩, ext_grownP HE8.out hW (by omega)⟩
            rw [HQC.out]
            have hz := HZ6.out
            exact ⟨_, _, rfl, own_mono (own_kept PB.out hW (by omega)) (by omega), own_mono (own_kept (by rw [← HFE.out]; exact OW.out) hW (by omega)) (by omega)⟩
end Go.Proofs.YtafdbgielmlihaaDoor
