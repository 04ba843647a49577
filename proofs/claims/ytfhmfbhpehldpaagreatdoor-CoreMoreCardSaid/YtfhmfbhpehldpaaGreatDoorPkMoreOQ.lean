/- core.Put and core.Weighed. -/
import Derived.Test.YtfhmfbhpehldpaaGreatDoorPkMoreOP
import Derived.Test.YtfhmfbhpehldpaaGreatDoorPkMoreOM
import Derived.Test.YtfhmfbhpehldpaaGreatDoorPkMoreON
import Derived.Test.YtfhmfbhpehldpaaGreatDoorPkMoreOL
import Derived.Test.YtfhmfbhpehldpaaGreatDoorPkMoreOD
import Derived.Test.YtfhmfbhpehldpaaGreatDoorPkMoreOK
import Derived.Test.YtfhmfbhpehldpaaGreatDoorPkMoreOG
import Derived.Test.YtfhmfbhpehldpaaGreatDoorPkMoreOE
namespace Go.Proofs.YtfhmfbhpehldpaaGreatDoor
open Go.RowKit Go.Shelf Go.Lib
set_option maxRecDepth 100000
set_option linter.unusedSimpArgs false

def noB : Bale := ⟨0, 0, ⟨0, 0⟩, [], []⟩
theorem TwinV.no (base : Nat) (W : World) : TwinV noB base (.agg #[.int .i64 0, .int .i64 0, .int .i64 0, .int .i64 0, .slice none 0 0, .slice none 0 0]) W := ⟨_, _, rfl, Own.nil _ _, Own.nil _ _⟩
theorem own_set6 {α : Type} {enc : α → List Value} {sz base g : Nat} {e : TypeId} {w : World} {v : Value} {l : List α} (h : Own enc e sz w base v l) (hg : g < base) (y0 y1 y2 y3 y4 y5 : Value) : Own enc e sz (set6 w g y0 y1 y2 y3 y4 y5) base v l :=
  own_set (own_set (own_set (own_set (own_set (own_set h hg) hg) hg) hg) hg) hg
theorem ext_set6 {base g : Nat} {a w : World} (h : Below base a w) (hg : base ≤ g) (y0 y1 y2 y3 y4 y5 : Value) : Below base a (set6 w g y0 y1 y2 y3 y4 y5) :=
  (((((h.setCell hg y0).setCell hg y1).setCell hg y2).setCell hg y3).setCell hg y4).setCell hg y5
--DD
/-- A bale with a draw more. -/
def withD (b : Bale) (x : Draw) : Bale := ⟨b.id, b.layers, b.dry, sortD (b.draws ++ [x]) (b.draws.length + 1), b.weighs⟩
def putE (b : Bale) (x : Draw) : Int := if valid b then (if b.draws.length = 10 then 9 else if valid (withD b x) then 0 else 33) else 30
def putB (b : Bale) (x : Draw) : Bale := if putE b x = 0 then withD b x else noB

set_option maxHeartbeats 2000000 in
theorem f7_any (b : Bale) (x : Draw) (dv wv : Value) (w : World) (hT : Tab w) (hd : SlD w dv b.draws) (hw : SlW w wv b.weighs) :
    Calls Tryz.prog 7 #[valB b dv wv, valD x] w fun e w' => (∃ v, e = .returned (.tuple #[v, .int .i64 (putE b x)]) ∧ TwinV (putB b x) w.heap.size v w') ∧ Ext w w' := by
  have HT := Lib.hid hT
  have HD := Lib.hid hd
  have HW := Lib.hid hw
  obtain ⟨A, n, cp, rfl, hn, hlc, hcm⟩ := hd.form
  obtain ⟨A2, n2, cp2, rfl, hn2, hlc2, hcm2⟩ := hw.form
  clear hd hw hT
  dsimp only [valD]
  go_enter Tryz.func7, Tryz.ntmps7
  go_wp2_with fail
  generalize hw3 : (((w.alloc (.cells #[.int .i64 b.id, .int .i64 b.layers, .int .i64 b.dry.lo, .int .i64 b.dry.hi, .slice A n cp, .slice A2 n2 cp2] 27)).alloc (.cells #[.int .i64 x.number, .int .i64 x.layer, .int .i64 x.grade.lo, .int .i64 x.grade.hi] 37)).alloc (.cells #[.int .i64 0, .int .i64 0, .int .i64 0, .int .i64 0, .slice none 0 0, .slice none 0 0] 27)) = w3
  have HE3 := Lib.hid (show Ext w w3 from hw3 ▸ ((Ext.al _ _).alloc _).alloc _)
  have HZ3 := Lib.hid (show w3.heap.size = w.heap.size + 3 by rw [← hw3]; simp)
  have HB0 := Lib.hid (show Blk w3 w.heap.size 27 #[.int .i64 b.id, .int .i64 b.layers, .int .i64 b.dry.lo, .int .i64 b.dry.hi, .slice A n cp, .slice A2 n2 cp2] from hw3 ▸ ((Blk.new _ _ _).alloc _).alloc _)
  have HB1 := Lib.hid (show Blk w3 (w.heap.size + 1) 37 #[.int .i64 x.number, .int .i64 x.layer, .int .i64 x.grade.lo, .int .i64 x.grade.hi] from hw3 ▸ (Blk.at_ (by simp)).alloc _)
  have HB2 := Lib.hid (show Blk w3 (w.heap.size + 1 + 1) 27 #[.int .i64 0, .int .i64 0, .int .i64 0, .int .i64 0, .slice none 0 0, .slice none 0 0] from hw3 ▸ Blk.at_ (by simp))
  clear hw3
  refine (check_any b _ _ _ (HT.out.ext HE3.out) (HD.out.ext HE3.out) (HW.out.ext HE3.out)).mono ?_
  rintro e w4 ⟨rfl, hE4⟩
  have HE4 := Lib.hid (HE3.out.trans hE4)
  have HC0 := Lib.hid (HB0.out.ext hE4); have HC1 := Lib.hid (HB1.out.ext hE4); have HC2 := Lib.hid (HB2.out.ext hE4)
  have hz4 : w3.heap.size ≤ w4.heap.size := hE4.size
  have t0 := HC2.out.cell 0
  have t1 := HC2.out.cell 1
  have t2 := HC2.out.cell 2
  have t3 := HC2.out.cell 3
  have t4 := HC2.out.cell 4
  have t5 := HC2.out.cell 5
  have tl := HC2.out.lt
  have tf := HC2.out.frozen
  have x0 := HC0.out.cell 0
  have x1 := HC0.out.cell 1
  have x2 := HC0.out.cell 2
  have x3 := HC0.out.cell 3
  have x4 := HC0.out.cell 4
  have x5 := HC0.out.cell 5
  have xl := HC0.out.lt
  simp at t0 t1 t2 t3 t4 t5 x0 x1 x2 x3 x4 x5
  clear hE4 HB0 HB1 HB2
  cases hv : valid b with
  | false =>
    have HV := Lib.hid (show putE b x = 30 by unfold putE; rw [hv]; rfl)
    have HVB := Lib.hid (show putB b x = noB by unfold putB; rw [HV.out]; rfl)
    clear hv
    dsimp only [errB]
    go_wp2
    refine ret_set6 HC2.out fun W' ⟨b0, b1, b2, b3, b4, b5⟩ hW => ?_
    refine bodyPost_ret (v := .tuple #[.agg #[.int .i64 0, .int .i64 0, .int .i64 0, .int .i64 0, .slice none 0 0, .slice none 0 0], .int .i64 30]) (by simp [results, Tryz.results7, go_sem, b0, b1, b2, b3, b4, b5]) rfl ?_
    exact ⟨⟨_, by rw [HV.out], by rw [HVB.out]; exact TwinV.no _ _⟩, ext_grown HE4.out hW (by omega)⟩
  | true =>
    have HV := Lib.hid hv
    have HBD := Lib.hid (valid_bds hv)
    clear hv
    by_cases h10 : n = 10
    · have HVE := Lib.hid (show putE b x = 9 by unfold putE; rw [HV.out, ← hn.out, h10]; rfl)
      have HVB := Lib.hid (show putB b x = noB by unfold putB; rw [HVE.out]; rfl)
      subst h10
      dsimp only [errB]
      go_wp2
      refine ret_set6 HC2.out fun W' ⟨b0, b1, b2, b3, b4, b5⟩ hW => ?_
      refine bodyPost_ret (v := .tuple #[.agg #[.int .i64 0, .int .i64 0, .int .i64 0, .int .i64 0, .slice none 0 0, .slice none 0 0], .int .i64 9]) (by simp [results, Tryz.results7, go_sem, b0, b1, b2, b3, b4, b5]) rfl ?_
      exact ⟨⟨_, by rw [HVE.out], by rw [HVB.out]; exact TwinV.no _ _⟩, ext_grown HE4.out hW (by omega)⟩
    · have h10z : ¬ ((n : Int) = 10) := by omega
      dsimp only [errB]
      go_wp2_with fail
      refine (copied_any b _ _ _ (HD.out.ext HE4.out) (HW.out.ext HE4.out) (by have := HBD.out.nd; omega) (by have := HBD.out.nw; omega)).mono ?_
      rintro e w5 ⟨⟨v, rfl, dv, wv, rfl, o1, o2⟩, hE5⟩
      obtain ⟨Ad, nd, cd, rfl, -, -, -⟩ := (show SlD w5 dv b.draws from o1.sl (fun _ => rfl)).form
      obtain ⟨Aw, nw, cw, rfl, -, -, -⟩ := (show SlW w5 wv b.weighs from o2.sl (fun _ => rfl)).form
      have O1 := Lib.hid o1; have O2 := Lib.hid o2; have HE5 := Lib.hid hE5
      have HD0 := Lib.hid (HC0.out.ext hE5); have HD1 := Lib.hid (HC1.out.ext hE5); have HD2 := Lib.hid (HC2.out.ext hE5)
      have HZ4 := Lib.hid hz4
      clear o1 o2 hE5 HC0 HC1 HC2 x0 x1 x2 x3 x4 x5 xl t0 t1 t2 t3 t4 t5 tl tf hz4
      have x0 := HD0.out.cell 0
      have x1 := HD0.out.cell 1
      have x2 := HD0.out.cell 2
      have x3 := HD0.out.cell 3
      have x4 := HD0.out.cell 4
      have x5 := HD0.out.cell 5
      have xl := HD0.out.lt
      have xf := HD0.out.frozen
      simp at x0 x1 x2 x3 x4 x5
      have y0 := HD1.out.cell 0
      have y1 := HD1.out.cell 1
      have y2 := HD1.out.cell 2
      have y3 := HD1.out.cell 3
      have yl := HD1.out.lt
      simp at y0 y1 y2 y3
      have hz5 := HE5.out.size
      have hz3 := HZ3.out
      have hz4 := HZ4.out
      have HH := Lib.hid (show w.heap.size + 3 ≤ w4.heap.size ∧ w4.heap.size ≤ w5.heap.size by omega)
      clear hz5 hz3 hz4
      dsimp only [valB]
      go_wp2_with (at_builtin; refine wpList_app encD 24 37 4 _ 32 Tryz.underlying24 info37x rfl (by decide) (by decide) (fun _ => rfl) encD_1 rfl (.tmp 21) (.tmp 23) rfl w4.heap.size _ b.draws rfl ((own_set6 O1.out (by have := HH.out; omega) _ _ _ _ _ _).alloc _) w5.heap.size 1 x rfl (cells4 (by simp [go_sem]) (by simp [go_sem]) (by simp [go_sem]) (by simp [go_sem])) (by have := HBD.out.nd; omega) (by have := HH.out; simp; omega) ?_)
      intro g cap w6 hown hg2 hbel hgr
      have P1 := Lib.hid hown
      have P2 := Lib.hid (own_apart ((own_set6 O2.out (by have := HH.out; omega) _ _ _ _ _ _).alloc _) ((own_set6 O1.out (by have := HH.out; omega) _ _ _ _ _ _).alloc _) (by decide) hgr)
      have HF0 := Lib.hid (((HD0.out.set6 _ _ _ _ _ _).alloc _).below hbel (by have := HH.out; omega))
      have HF2 := Lib.hid ((((HD2.out.grown (grown_set (grown_set (grown_set (grown_set (grown_set (grown_set (World.grownBy.refl _ (some w.heap.size)) (p := ⟨w.heap.size, 0, none⟩) (.inl rfl) _) (p := ⟨w.heap.size, 1, none⟩) (.inl rfl) _) (p := ⟨w.heap.size, 2, none⟩) (.inl rfl) _) (p := ⟨w.heap.size, 3, none⟩) (.inl rfl) _) (p := ⟨w.heap.size, 4, none⟩) (.inl rfl) _) (p := ⟨w.heap.size, 5, none⟩) (.inl rfl) _) (by intro e; injection e with e; omega))).alloc _).below hbel (by have := HH.out; omega))
      have E6 := Lib.hid (show Ext w w6 from ((ext_set6 (HE4.out.trans HE5.out) (Nat.le_refl _) _ _ _ _ _ _).alloc (by have := HH.out; simp; omega) _).trans (Below.mono hbel (by have := HH.out; omega)))
      have hs6 := hbel.size
      simp at hs6
      have HG := Lib.hid (show w.heap.size + 3 ≤ w4.heap.size ∧ w4.heap.size ≤ g ∧ w4.heap.size ≤ w6.heap.size by have := HH.out; omega)
      clear hown hg2 hbel hgr hs6 HH O1 O2 HD0 HD1 HD2 x0 x1 x2 x3 x4 x5 xl xf y0 y1 y2 y3 yl
      have x0 := HF0.out.cell 0
      have x1 := HF0.out.cell 1
      have x2 := HF0.out.cell 2
      have x3 := HF0.out.cell 3
      have x4 := HF0.out.cell 4
      have x5 := HF0.out.cell 5
      have xl := HF0.out.lt
      have xf := HF0.out.frozen
      simp at x0 x1 x2 x3 x4 x5
      go_wp2_with fail
      generalize hw7 : w6.setCell ⟨w.heap.size, 4, none⟩ _ = w7
      have HK7 := Lib.hid (show Blk w7 w.heap.size 27 #[.int .i64 b.id, .int .i64 b.layers, .int .i64 b.dry.lo, .int .i64 b.dry.hi, .slice (some ⟨g, 0, none⟩) (b.draws.length + 1) cap, .slice Aw nw cw] from hw7 ▸ (by have := HF0.out.set_ 4 (.slice (some ⟨g, 0, none⟩) (b.draws.length + 1) cap); simpa using this))
      have HG2 := Lib.hid (show Blk w7 (w.heap.size + 1 + 1) 27 _ from hw7 ▸ HF2.out.far (by dsimp only; omega) _)
      have E7 := Lib.hid (show Ext w w7 from hw7 ▸ E6.out.setCell (Nat.le_refl _) _)
      have R1 := Lib.hid (show Own encD 37 4 w7 w4.heap.size (.slice (some ⟨g, 0, none⟩) (b.draws.length + 1) cap) _ from hw7 ▸ own_set P1.out (by have := HG.out; omega))
      have R2 := Lib.hid (show Own encW 41 4 w7 w4.heap.size (.slice Aw nw cw) b.weighs from hw7 ▸ own_set P2.out (by have := HG.out; omega))
      have hs7 : w7.heap.size = w6.heap.size := by rw [← hw7]; simp [World.setCell]
      have HG7 := Lib.hid (show w.heap.size + 3 ≤ w4.heap.size ∧ w4.heap.size ≤ g ∧ w4.heap.size ≤ w7.heap.size by have := HG.out; omega)
      clear hw7 hs7 HG P1 P2 HF0 HF2 E6 x0 x1 x2 x3 x4 x5 xl xf
      refine (f35_any (b.draws ++ [x]) g (b.draws.length + 1) cap w4.heap.size w7 (by simp) (by omega) (by have := HBD.out.nd; omega) R1.out).mono ?_
      rintro e w8 ⟨⟨v, rfl⟩, q1, G8⟩
      have HQ1 := Lib.hid (show Own encD 37 4 w8 w4.heap.size (.slice (some ⟨g, 0, none⟩) (b.draws.length + 1) cap) (withD b x).draws from q1)
      have HQ2 := Lib.hid (show Own encW 41 4 w8 w4.heap.size (.slice Aw nw cw) (withD b x).weighs from own_apart R2.out R1.out (by decide) G8)
      have hs8 := G8.size
      have HK8 := Lib.hid (HK7.out.grown G8 (by intro e; injection e with e; have := HG7.out; omega)); have HG8 := Lib.hid (HG2.out.grown G8 (by intro e; injection e with e; have := HG7.out; omega))
      have E8 := Lib.hid (show Ext w w8 from ext_grown E7.out G8 (by have := HG7.out; omega))
      have HS8 := Lib.hid (show w.heap.size + 3 ≤ w4.heap.size ∧ w4.heap.size ≤ w8.heap.size by have := HG7.out; omega)
      clear q1 G8 hs8 HK7 HG2 E7 R1 R2 HG7
      have x0 := HK8.out.cell 0
      have x1 := HK8.out.cell 1
      have x2 := HK8.out.cell 2
      have x3 := HK8.out.cell 3
      have x4 := HK8.out.cell 4
      have x5 := HK8.out.cell 5
      have xl := HK8.out.lt
      simp at x0 x1 x2 x3 x4 x5
      go_wp2_with fail
      refine (check_any (withD b x) _ _ _ (HT.out.ext E8.out) (Own.sl (fun _ => rfl) HQ1.out) (Own.sl (fun _ => rfl) HQ2.out)).mono ?_
      rintro e w9 ⟨rfl, hE9⟩
      have HE9 := Lib.hid hE9
      have HK9 := Lib.hid (HK8.out.ext hE9); have HG9 := Lib.hid (HG8.out.ext hE9)
      have hz9 : w8.heap.size ≤ w9.heap.size := hE9.size
      clear hE9 x0 x1 x2 x3 x4 x5 xl HK8 HG8
      have x0 := HK9.out.cell 0
      have x1 := HK9.out.cell 1
      have x2 := HK9.out.cell 2
      have x3 := HK9.out.cell 3
      have x4 := HK9.out.cell 4
      have x5 := HK9.out.cell 5
      have xl := HK9.out.lt
      have t0 := HG9.out.cell 0
      have t1 := HG9.out.cell 1
      have t2 := HG9.out.cell 2
      have t3 := HG9.out.cell 3
      have t4 := HG9.out.cell 4
      have t5 := HG9.out.cell 5
      have tl := HG9.out.lt
      have tf := HG9.out.frozen
      simp at x0 x1 x2 x3 x4 x5 t0 t1 t2 t3 t4 t5
      cases hv : valid (withD b x) with
      | false =>
        have HVE := Lib.hid (show putE b x = 33 by unfold putE; rw [HV.out, if_pos rfl, if_neg (by have := hn.out; omega), hv]; rfl)
        have HVB := Lib.hid (show putB b x = noB by unfold putB; rw [HVE.out]; rfl)
        clear hv
        dsimp only [errB]
        go_wp2
        refine ret_set6 HG9.out fun W' ⟨b0, b1, b2, b3, b4, b5⟩ hW => ?_
        refine bodyPost_ret (v := .tuple #[.agg #[.int .i64 0, .int .i64 0, .int .i64 0, .int .i64 0, .slice none 0 0, .slice none 0 0], .int .i64 33]) (by simp [results, Tryz.results7, go_sem, b0, b1, b2, b3, b4, b5]) rfl ?_
        exact ⟨⟨_, by rw [HVE.out], by rw [HVB.out]; exact TwinV.no _ _⟩, ext_grown (E8.out.trans HE9.out) hW (by omega)⟩
      | true =>
        have HVE := Lib.hid (show putE b x = 0 by unfold putE; rw [HV.out, if_pos rfl, if_neg (by have := hn.out; omega), hv]; rfl)
        have HVB := Lib.hid (show putB b x = withD b x by unfold putB; rw [HVE.out]; rfl)
        clear hv
        dsimp only [errB]
        go_wp2
        refine ret_set6 HG9.out fun W' ⟨b0, b1, b2, b3, b4, b5⟩ hW => ?_
        refine bodyPost_ret (v := .tuple #[valB (withD b x) (.slice (some ⟨g, 0, none⟩) (b.draws.length + 1) cap) (.slice Aw nw cw), .int .i64 0]) (by simp [results, Tryz.results7, go_sem, b0, b1, b2, b3, b4, b5, withD]) rfl ?_
        have hs := HS8.out
        refine ⟨⟨_, by rw [HVE.out], ?_⟩, ext_grown (E8.out.trans HE9.out) hW (by omega)⟩
        rw [HVB.out]
        exact ⟨_, _, rfl, own_mono (own_kept (HQ1.out.ext HE9.out) hW (by omega)) (by omega), own_mono (own_kept (HQ2.out.ext HE9.out) hW (by omega)) (by omega)⟩
--WW
/-- A bale with a weighing more. -/
def withX (b : Bale) (x : Weigh) : Bale := ⟨b.id, b.layers, b.dry, b.draws, sortW (b.weighs ++ [x]) (b.weighs.length + 1)⟩
def liftE (b : Bale) (x : Weigh) : Int := if valid b then (if b.weighs.length = 8 then 9 else if valid (withX b x) then 0 else 34) else 30
def liftB (b : Bale) (x : Weigh) : Bale := if liftE b x = 0 then withX b x else noB

set_option maxHeartbeats 2000000 in
theorem f9_any (b : Bale) (x : Weigh) (dv wv : Value) (w : World) (hT : Tab w) (hd : SlD w dv b.draws) (hw : SlW w wv b.weighs) :
    Calls Tryz.prog 9 #[valB b dv wv, valW x] w fun e w' => (∃ v, e = .returned (.tuple #[v, .int .i64 (liftE b x)]) ∧ TwinV (liftB b x) w.heap.size v w') ∧ Ext w w' := by
  have HT := Lib.hid hT
  have HD := Lib.hid hd
  have HW := Lib.hid hw
  obtain ⟨A, n, cp, rfl, hn, hlc, hcm⟩ := hd.form
  obtain ⟨A2, n2, cp2, rfl, hn2, hlc2, hcm2⟩ := hw.form
  clear hd hw hT
  dsimp only [valW]
  go_enter Tryz.func9, Tryz.ntmps9
  go_wp2_with fail
  generalize hw3 : (((w.alloc (.cells #[.int .i64 b.id, .int .i64 b.layers, .int .i64 b.dry.lo, .int .i64 b.dry.hi, .slice A n cp, .slice A2 n2 cp2] 27)).alloc (.cells #[.int .i64 x.number, .int .i64 x.pounds, .int .i64 x.damp.lo, .int .i64 x.damp.hi] 41)).alloc (.cells #[.int .i64 0, .int .i64 0, .int .i64 0, .int .i64 0, .slice none 0 0, .slice none 0 0] 27)) = w3
  have HE3 := Lib.hid (show Ext w w3 from hw3 ▸ ((Ext.al _ _).alloc _).alloc _)
  have HZ3 := Lib.hid (show w3.heap.size = w.heap.size + 3 by rw [← hw3]; simp)
  have HB0 := Lib.hid (show Blk w3 w.heap.size 27 #[.int .i64 b.id, .int .i64 b.layers, .int .i64 b.dry.lo, .int .i64 b.dry.hi, .slice A n cp, .slice A2 n2 cp2] from hw3 ▸ ((Blk.new _ _ _).alloc _).alloc _)
  have HB1 := Lib.hid (show Blk w3 (w.heap.size + 1) 41 #[.int .i64 x.number, .int .i64 x.pounds, .int .i64 x.damp.lo, .int .i64 x.damp.hi] from hw3 ▸ (Blk.at_ (by simp)).alloc _)
  have HB2 := Lib.hid (show Blk w3 (w.heap.size + 1 + 1) 27 #[.int .i64 0, .int .i64 0, .int .i64 0, .int .i64 0, .slice none 0 0, .slice none 0 0] from hw3 ▸ Blk.at_ (by simp))
  clear hw3
  refine (check_any b _ _ _ (HT.out.ext HE3.out) (HD.out.ext HE3.out) (HW.out.ext HE3.out)).mono ?_
  rintro e w4 ⟨rfl, hE4⟩
  have HE4 := Lib.hid (HE3.out.trans hE4)
  have HC0 := Lib.hid (HB0.out.ext hE4); have HC1 := Lib.hid (HB1.out.ext hE4); have HC2 := Lib.hid (HB2.out.ext hE4)
  have hz4 : w3.heap.size ≤ w4.heap.size := hE4.size
  have t0 := HC2.out.cell 0
  have t1 := HC2.out.cell 1
  have t2 := HC2.out.cell 2
  have t3 := HC2.out.cell 3
  have t4 := HC2.out.cell 4
  have t5 := HC2.out.cell 5
  have tl := HC2.out.lt
  have tf := HC2.out.frozen
  have x0 := HC0.out.cell 0
  have x1 := HC0.out.cell 1
  have x2 := HC0.out.cell 2
  have x3 := HC0.out.cell 3
  have x4 := HC0.out.cell 4
  have x5 := HC0.out.cell 5
  have xl := HC0.out.lt
  simp at t0 t1 t2 t3 t4 t5 x0 x1 x2 x3 x4 x5
  clear hE4 HB0 HB1 HB2
  cases hv : valid b with
  | false =>
    have HV := Lib.hid (show liftE b x = 30 by unfold liftE; rw [hv]; rfl)
    have HVB := Lib.hid (show liftB b x = noB by unfold liftB; rw [HV.out]; rfl)
    clear hv
    dsimp only [errB]
    go_wp2
    refine ret_set6 HC2.out fun W' ⟨b0, b1, b2, b3, b4, b5⟩ hW => ?_
    refine bodyPost_ret (v := .tuple #[.agg #[.int .i64 0, .int .i64 0, .int .i64 0, .int .i64 0, .slice none 0 0, .slice none 0 0], .int .i64 30]) (by simp [results, Tryz.results9, go_sem, b0, b1, b2, b3, b4, b5]) rfl ?_
    exact ⟨⟨_, by rw [HV.out], by rw [HVB.out]; exact TwinV.no _ _⟩, ext_grown HE4.out hW (by omega)⟩
  | true =>
    have HV := Lib.hid hv
    have HBD := Lib.hid (valid_bds hv)
    clear hv
    by_cases h10 : n2 = 8
    · have HVE := Lib.hid (show liftE b x = 9 by unfold liftE; rw [HV.out, ← hn2.out, h10]; rfl)
      have HVB := Lib.hid (show liftB b x = noB by unfold liftB; rw [HVE.out]; rfl)
      subst h10
      dsimp only [errB]
      go_wp2
      refine ret_set6 HC2.out fun W' ⟨b0, b1, b2, b3, b4, b5⟩ hW => ?_
      refine bodyPost_ret (v := .tuple #[.agg #[.int .i64 0, .int .i64 0, .int .i64 0, .int .i64 0, .slice none 0 0, .slice none 0 0], .int .i64 9]) (by simp [results, Tryz.results9, go_sem, b0, b1, b2, b3, b4, b5]) rfl ?_
      exact ⟨⟨_, by rw [HVE.out], by rw [HVB.out]; exact TwinV.no _ _⟩, ext_grown HE4.out hW (by omega)⟩
    · have h10z : ¬ ((n2 : Int) = 8) := by omega
      dsimp only [errB]
      go_wp2_with fail
      refine (copied_any b _ _ _ (HD.out.ext HE4.out) (HW.out.ext HE4.out) (by have := HBD.out.nd; omega) (by have := HBD.out.nw; omega)).mono ?_
      rintro e w5 ⟨⟨v, rfl, dv, wv, rfl, o1, o2⟩, hE5⟩
      obtain ⟨Ad, nd, cd, rfl, -, -, -⟩ := (show SlD w5 dv b.draws from o1.sl (fun _ => rfl)).form
      obtain ⟨Aw, nw, cw, rfl, -, -, -⟩ := (show SlW w5 wv b.weighs from o2.sl (fun _ => rfl)).form
      have O1 := Lib.hid o1; have O2 := Lib.hid o2; have HE5 := Lib.hid hE5
      have HD0 := Lib.hid (HC0.out.ext hE5); have HD1 := Lib.hid (HC1.out.ext hE5); have HD2 := Lib.hid (HC2.out.ext hE5)
      have HZ4 := Lib.hid hz4
      clear o1 o2 hE5 HC0 HC1 HC2 x0 x1 x2 x3 x4 x5 xl t0 t1 t2 t3 t4 t5 tl tf hz4
      have x0 := HD0.out.cell 0
      have x1 := HD0.out.cell 1
      have x2 := HD0.out.cell 2
      have x3 := HD0.out.cell 3
      have x4 := HD0.out.cell 4
      have x5 := HD0.out.cell 5
      have xl := HD0.out.lt
      have xf := HD0.out.frozen
      simp at x0 x1 x2 x3 x4 x5
      have y0 := HD1.out.cell 0
      have y1 := HD1.out.cell 1
      have y2 := HD1.out.cell 2
      have y3 := HD1.out.cell 3
      have yl := HD1.out.lt
      simp at y0 y1 y2 y3
      have hz5 := HE5.out.size
      have hz3 := HZ3.out
      have hz4 := HZ4.out
      have HH := Lib.hid (show w.heap.size + 3 ≤ w4.heap.size ∧ w4.heap.size ≤ w5.heap.size by omega)
      clear hz5 hz3 hz4
      dsimp only [valB]
      go_wp2_with (at_builtin; refine wpList_app encW 25 41 4 _ 32 Tryz.underlying25 info41x rfl (by decide) (by decide) (fun _ => rfl) encW_1 rfl (.tmp 21) (.tmp 23) rfl w4.heap.size _ b.weighs rfl ((own_set6 O2.out (by have := HH.out; omega) _ _ _ _ _ _).alloc _) w5.heap.size 1 x rfl (cells4 (by simp [go_sem]) (by simp [go_sem]) (by simp [go_sem]) (by simp [go_sem])) (by have := HBD.out.nw; omega) (by have := HH.out; simp; omega) ?_)
      intro g cap w6 hown hg2 hbel hgr
      have P1 := Lib.hid hown
      have P2 := Lib.hid (own_apart ((own_set6 O1.out (by have := HH.out; omega) _ _ _ _ _ _).alloc _) ((own_set6 O2.out (by have := HH.out; omega) _ _ _ _ _ _).alloc _) (by decide) hgr)
      have HF0 := Lib.hid (((HD0.out.set6 _ _ _ _ _ _).alloc _).below hbel (by have := HH.out; omega))
      have HF2 := Lib.hid ((((HD2.out.grown (grown_set (grown_set (grown_set (grown_set (grown_set (grown_set (World.grownBy.refl _ (some w.heap.size)) (p := ⟨w.heap.size, 0, none⟩) (.inl rfl) _) (p := ⟨w.heap.size, 1, none⟩) (.inl rfl) _) (p := ⟨w.heap.size, 2, none⟩) (.inl rfl) _) (p := ⟨w.heap.size, 3, none⟩) (.inl rfl) _) (p := ⟨w.heap.size, 4, none⟩) (.inl rfl) _) (p := ⟨w.heap.size, 5, none⟩) (.inl rfl) _) (by intro e; injection e with e; omega))).alloc _).below hbel (by have := HH.out; omega))
      have E6 := Lib.hid (show Ext w w6 from ((ext_set6 (HE4.out.trans HE5.out) (Nat.le_refl _) _ _ _ _ _ _).alloc (by have := HH.out; simp; omega) _).trans (Below.mono hbel (by have := HH.out; omega)))
      have hs6 := hbel.size
      simp at hs6
      have HG := Lib.hid (show w.heap.size + 3 ≤ w4.heap.size ∧ w4.heap.size ≤ g ∧ w4.heap.size ≤ w6.heap.size by have := HH.out; omega)
      clear hown hg2 hbel hgr hs6 HH O1 O2 HD0 HD1 HD2 x0 x1 x2 x3 x4 x5 xl xf y0 y1 y2 y3 yl
      have x0 := HF0.out.cell 0
      have x1 := HF0.out.cell 1
      have x2 := HF0.out.cell 2
      have x3 := HF0.out.cell 3
      have x4 := HF0.out.cell 4
      have x5 := HF0.out.cell 5
      have xl := HF0.out.lt
      have xf := HF0.out.frozen
      simp at x0 x1 x2 x3 x4 x5
      go_wp2_with fail
      generalize hw7 : w6.setCell ⟨w.heap.size, 5, none⟩ _ = w7
      have HK7 := Lib.hid (show Blk w7 w.heap.size 27 #[.int .i64 b.id, .int .i64 b.layers, .int .i64 b.dry.lo, .int .i64 b.dry.hi, .slice Ad nd cd, .slice (some ⟨g, 0, none⟩) (b.weighs.length + 1) cap] from hw7 ▸ (by have := HF0.out.set_ 5 (.slice (some ⟨g, 0, none⟩) (b.weighs.length + 1) cap); simpa using this))
      have HG2 := Lib.hid (show Blk w7 (w.heap.size + 1 + 1) 27 _ from hw7 ▸ HF2.out.far (by dsimp only; omega) _)
      have E7 := Lib.hid (show Ext w w7 from hw7 ▸ E6.out.setCell (Nat.le_refl _) _)
      have R1 := Lib.hid (show Own encW 41 4 w7 w4.heap.size (.slice (some ⟨g, 0, none⟩) (b.weighs.length + 1) cap) _ from hw7 ▸ own_set P1.out (by have := HG.out; omega))
      have R2 := Lib.hid (show Own encD 37 4 w7 w4.heap.size (.slice Ad nd cd) b.draws from hw7 ▸ own_set P2.out (by have := HG.out; omega))
      have hs7 : w7.heap.size = w6.heap.size := by rw [← hw7]; simp [World.setCell]
      have HG7 := Lib.hid (show w.heap.size + 3 ≤ w4.heap.size ∧ w4.heap.size ≤ g ∧ w4.heap.size ≤ w7.heap.size by have := HG.out; omega)
      clear hw7 hs7 HG P1 P2 HF0 HF2 E6 x0 x1 x2 x3 x4 x5 xl xf
      refine (f38_any (b.weighs ++ [x]) g (b.weighs.length + 1) cap w4.heap.size w7 (by simp) (by omega) (by have := HBD.out.nw; omega) R1.out).mono ?_
      rintro e w8 ⟨⟨v, rfl⟩, q1, G8⟩
      have HQ1 := Lib.hid (show Own encW 41 4 w8 w4.heap.size (.slice (some ⟨g, 0, none⟩) (b.weighs.length + 1) cap) (withX b x).weighs from q1)
      have HQ2 := Lib.hid (show Own encD 37 4 w8 w4.heap.size (.slice Ad nd cd) (withX b x).draws from own_apart R2.out R1.out (by decide) G8)
      have hs8 := G8.size
      have HK8 := Lib.hid (HK7.out.grown G8 (by intro e; injection e with e; have := HG7.out; omega)); have HG8 := Lib.hid (HG2.out.grown G8 (by intro e; injection e with e; have := HG7.out; omega))
      have E8 := Lib.hid (show Ext w w8 from ext_grown E7.out G8 (by have := HG7.out; omega))
      have HS8 := Lib.hid (show w.heap.size + 3 ≤ w4.heap.size ∧ w4.heap.size ≤ w8.heap.size by have := HG7.out; omega)
      clear q1 G8 hs8 HK7 HG2 E7 R1 R2 HG7
      have x0 := HK8.out.cell 0
      have x1 := HK8.out.cell 1
      have x2 := HK8.out.cell 2
      have x3 := HK8.out.cell 3
      have x4 := HK8.out.cell 4
      have x5 := HK8.out.cell 5
      have xl := HK8.out.lt
      simp at x0 x1 x2 x3 x4 x5
      go_wp2_with fail
      refine (check_any (withX b x) _ _ _ (HT.out.ext E8.out) (Own.sl (fun _ => rfl) HQ2.out) (Own.sl (fun _ => rfl) HQ1.out)).mono ?_
      rintro e w9 ⟨rfl, hE9⟩
      have HE9 := Lib.hid hE9
      have HK9 := Lib.hid (HK8.out.ext hE9); have HG9 := Lib.hid (HG8.out.ext hE9)
      have hz9 : w8.heap.size ≤ w9.heap.size := hE9.size
      clear hE9 x0 x1 x2 x3 x4 x5 xl HK8 HG8
      have x0 := HK9.out.cell 0
      have x1 := HK9.out.cell 1
      have x2 := HK9.out.cell 2
      have x3 := HK9.out.cell 3
      have x4 := HK9.out.cell 4
      have x5 := HK9.out.cell 5
      have xl := HK9.out.lt
      have t0 := HG9.out.cell 0
      have t1 := HG9.out.cell 1
      have t2 := HG9.out.cell 2
      have t3 := HG9.out.cell 3
      have t4 := HG9.out.cell 4
      have t5 := HG9.out.cell 5
      have tl := HG9.out.lt
      have tf := HG9.out.frozen
      simp at x0 x1 x2 x3 x4 x5 t0 t1 t2 t3 t4 t5
      cases hv : valid (withX b x) with
      | false =>
        have HVE := Lib.hid (show liftE b x = 34 by unfold liftE; rw [HV.out, if_pos rfl, if_neg (by have := hn2.out; omega), hv]; rfl)
        have HVB := Lib.hid (show liftB b x = noB by unfold liftB; rw [HVE.out]; rfl)
        clear hv
        dsimp only [errB]
        go_wp2
        refine ret_set6 HG9.out fun W' ⟨b0, b1, b2, b3, b4, b5⟩ hW => ?_
        refine bodyPost_ret (v := .tuple #[.agg #[.int .i64 0, .int .i64 0, .int .i64 0, .int .i64 0, .slice none 0 0, .slice none 0 0], .int .i64 34]) (by simp [results, Tryz.results9, go_sem, b0, b1, b2, b3, b4, b5]) rfl ?_
        exact ⟨⟨_, by rw [HVE.out], by rw [HVB.out]; exact TwinV.no _ _⟩, ext_grown (E8.out.trans HE9.out) hW (by omega)⟩
      | true =>
        have HVE := Lib.hid (show liftE b x = 0 by unfold liftE; rw [HV.out, if_pos rfl, if_neg (by have := hn2.out; omega), hv]; rfl)
        have HVB := Lib.hid (show liftB b x = withX b x by unfold liftB; rw [HVE.out]; rfl)
        clear hv
        dsimp only [errB]
        go_wp2
        refine ret_set6 HG9.out fun W' ⟨b0, b1, b2, b3, b4, b5⟩ hW => ?_
        refine bodyPost_ret (v := .tuple #[valB (withX b x) (.slice Ad nd cd) (.slice (some ⟨g, 0, none⟩) (b.weighs.length + 1) cap), .int .i64 0]) (by simp [results, Tryz.results9, go_sem, b0, b1, b2, b3, b4, b5, withX]) rfl ?_
        have hs := HS8.out
        refine ⟨⟨_, by rw [HVE.out], ?_⟩, ext_grown (E8.out.trans HE9.out) hW (by omega)⟩
        rw [HVB.out]
        exact ⟨_, _, rfl, own_mono (own_kept (HQ2.out.ext HE9.out) hW (by omega)) (by omega), own_mono (own_kept (HQ1.out.ext HE9.out) hW (by omega)) (by omega)⟩
end Go.Proofs.YtfhmfbhpehldpaaGreatDoor
/- Insertion at its place, plain (for bales that get a draw or a weighing more). -/
namespace Go.Proofs.YtfhmfbhpehldpaaGreatDoor
open Go.RowKit Go.Shelf Go.Lib
set_option maxRecDepth 100000
set_option linter.unusedSimpArgs false

def spotDI (l : List Draw) (x : Draw) : Nat := (l.takeWhile fun y => decide (y.number < x.number)).length
def insDI (l : List Draw) (x : Draw) : List Draw := l.take (spotDI l x) ++ [x] ++ l.drop (spotDI l x)
def spotWI (l : List Weigh) (x : Weigh) : Nat := (l.takeWhile fun y => decide (y.number < x.number)).length
def insWI (l : List Weigh) (x : Weigh) : List Weigh := l.take (spotWI l x) ++ [x] ++ l.drop (spotWI l x)
theorem rising_leI : ∀ (l : List Int) (last : Int), risingB last l = true → ∀ n ∈ l, n ≤ 9999
  | [], _, _ => by simp
  | n :: l, last, h => by
    unfold risingB inB at h
    simp only [Bool.and_eq_true, decide_eq_true_eq] at h
    intro m hm
    rcases List.mem_cons.1 hm with rfl | hm
    · omega
    · exact rising_leI l n h.2 m hm
theorem number_ltI {b : Bale} (hv : valid b = true) : (b.draws.map (·.number)).Pairwise (· < ·) ∧ (b.weighs.map (·.number)).Pairwise (· < ·) ∧ risingB 0 (b.draws.map (·.number)) = true ∧ risingB 0 (b.weighs.map (·.number)) = true := by
  have h := hv
  unfold valid chk2 at h
  simp only [Bool.and_eq_true] at h
  exact ⟨(rise_lt _ _ h.2.1.1.2).1, (rise_lt _ _ h.2.1.2).1, h.2.1.1.2, h.2.1.2⟩
theorem valid_drawsI {b : Bale} (h : valid b = true) : (b.draws.map (·.number)).Pairwise (· < ·) := by
  unfold valid chk2 at h
  simp only [Bool.and_eq_true] at h
  exact (rise_lt _ _ h.2.1.1.2).1
theorem stop_ofI {S T U : List Draw} {x : Draw} (hS : S = T ++ U) (hT : ∀ y ∈ T, y.number < x.number) (hU : ∀ y ∈ U, x.number < y.number) : ∀ i, i ≤ U.length → stopD S x (T.length + i) = T.length
  | 0, _ => by
    cases hl : T.length with
    | zero => rfl
    | succ m =>
      have hm : m < T.length := by omega
      rw [Nat.add_zero, stopD, hS, List.getElem?_append_left hm, List.getElem?_eq_getElem hm]
      simp only
      rw [if_neg (by have := hT T[m] (List.getElem_mem hm); omega)]
  | i + 1, h => by
    have hi : i < U.length := by omega
    rw [← Nat.add_assoc, stopD, hS, List.getElem?_append_right (by omega), Nat.add_sub_cancel_left, List.getElem?_eq_getElem hi]
    simp only
    rw [if_pos (hU U[i] (List.getElem_mem hi)), ← hS]
    exact stop_ofI hS hT hU i (by omega)
theorem sort_prefixI {l : List Draw} (hp : (l.map (·.number)).Pairwise (· < ·)) (x : Draw) : ∀ k, k ≤ l.length → sortD (l ++ [x]) k = l.take k
  | 0, _ => by simp [sortD]
  | k + 1, h => by
    have hk : k < l.length := by omega
    have ih := sort_prefixI hp x k (by omega)
    have hlen : (l.take k).length = k := by simp; omega
    have hs := stop_ofI (S := l.take k) (T := l.take k) (U := []) (x := l[k]) (by simp) (fun y hy => by
      obtain ⟨i, hi, rfl⟩ := List.mem_iff_getElem.1 hy
      rw [hlen] at hi
      have := List.pairwise_iff_getElem.1 hp i k (by simp; omega) (by simp; omega) hi
      simpa using this) (by simp) 0 (by simp)
    rw [hlen, Nat.add_zero] at hs
    rw [sortD, List.getElem?_append_left hk, List.getElem?_eq_getElem hk]
    simp only
    rw [ih, hs, putD, List.take_of_length_le (by omega), List.drop_eq_nil_of_le (by omega), List.take_add_one, List.getElem?_eq_getElem hk]
    rfl
theorem take_ltI (x : Draw) : ∀ (l : List Draw), ∀ y ∈ l.takeWhile (fun y => decide (y.number < x.number)), y.number < x.number
  | [], y, h => by simp at h
  | a :: r, y, h => by
    rw [List.takeWhile_cons] at h
    split at h
    · rename_i ha
      rcases List.mem_cons.1 h with rfl | h
      · simpa using ha
      · exact take_ltI x r y h
    · simp at h
theorem drop_gtI (x : Draw) : ∀ (l : List Draw), (l.map (·.number)).Pairwise (· < ·) → (∀ y ∈ l, y.number ≠ x.number) → ∀ y ∈ l.dropWhile (fun y => decide (y.number < x.number)), x.number < y.number
  | [], _, _, y, h => by simp at h
  | a :: r, hp, hne, y, h => by
    rw [List.map_cons, List.pairwise_cons] at hp
    rw [List.dropWhile_cons] at h
    split at h
    · exact drop_gtI x r hp.2 (fun z hz => hne z (List.mem_cons_of_mem _ hz)) y h
    · rename_i ha
      have h1 : x.number < a.number := by
        have := hne a (by simp)
        simp at ha
        omega
      rcases List.mem_cons.1 h with rfl | h
      · exact h1
      · have := hp.1 y.number (List.mem_map_of_mem h); omega
theorem sort_insI {l : List Draw} {x : Draw} (hp : (l.map (·.number)).Pairwise (· < ·)) (hne : ∀ y ∈ l, y.number ≠ x.number) : sortD (l ++ [x]) (l.length + 1) = insDI l x := by
  have hs := stop_ofI (S := l) (x := x) (List.takeWhile_append_dropWhile (p := fun y => decide (y.number < x.number)) (l := l)).symm (take_ltI x l) (drop_gtI x l hp hne) _ (Nat.le_refl _)
  rw [← List.length_append, List.takeWhile_append_dropWhile] at hs
  rw [sortD, List.getElem?_append_right (Nat.le_refl _), Nat.sub_self]
  simp only [List.getElem?_cons_zero]
  rw [sort_prefixI hp x _ (Nat.le_refl _), List.take_of_length_le (Nat.le_refl _), hs]
  unfold putD insDI spotDI
  simp
theorem valid_weighsI {b : Bale} (h : valid b = true) : (b.weighs.map (·.number)).Pairwise (· < ·) := by
  unfold valid chk2 at h
  simp only [Bool.and_eq_true] at h
  exact (rise_lt _ _ h.2.1.2).1
theorem stop_ofWI {S T U : List Weigh} {x : Weigh} (hS : S = T ++ U) (hT : ∀ y ∈ T, y.number < x.number) (hU : ∀ y ∈ U, x.number < y.number) : ∀ i, i ≤ U.length → stopW S x (T.length + i) = T.length
  | 0, _ => by
    cases hl : T.length with
    | zero => rfl
    | succ m =>
      have hm : m < T.length := by omega
      rw [Nat.add_zero, stopW, hS, List.getElem?_append_left hm, List.getElem?_eq_getElem hm]
      simp only
      rw [if_neg (by have := hT T[m] (List.getElem_mem hm); omega)]
  | i + 1, h => by
    have hi : i < U.length := by omega
    rw [← Nat.add_assoc, stopW, hS, List.getElem?_append_right (by omega), Nat.add_sub_cancel_left, List.getElem?_eq_getElem hi]
    simp only
    rw [if_pos (hU U[i] (List.getElem_mem hi)), ← hS]
    exact stop_ofWI hS hT hU i (by omega)
theorem sort_prefixWI {l : List Weigh} (hp : (l.map (·.number)).Pairwise (· < ·)) (x : Weigh) : ∀ k, k ≤ l.length → sortW (l ++ [x]) k = l.take k
  | 0, _ => by simp [sortW]
  | k + 1, h => by
    have hk : k < l.length := by omega
    have ih := sort_prefixWI hp x k (by omega)
    have hlen : (l.take k).length = k := by simp; omega
    have hs := stop_ofWI (S := l.take k) (T := l.take k) (U := []) (x := l[k]) (by simp) (fun y hy => by
      obtain ⟨i, hi, rfl⟩ := List.mem_iff_getElem.1 hy
      rw [hlen] at hi
      have := List.pairwise_iff_getElem.1 hp i k (by simp; omega) (by simp; omega) hi
      simpa using this) (by simp) 0 (by simp)
    rw [hlen, Nat.add_zero] at hs
    rw [sortW, List.getElem?_append_left hk, List.getElem?_eq_getElem hk]
    simp only
    rw [ih, hs, putW, List.take_of_length_le (by omega), List.drop_eq_nil_of_le (by omega), List.take_add_one, List.getElem?_eq_getElem hk]
    rfl
theorem take_ltWI (x : Weigh) : ∀ (l : List Weigh), ∀ y ∈ l.takeWhile (fun y => decide (y.number < x.number)), y.number < x.number
  | [], y, h => by simp at h
  | a :: r, y, h => by
    rw [List.takeWhile_cons] at h
    split at h
    · rename_i ha
      rcases List.mem_cons.1 h with rfl | h
      · simpa using ha
      · exact take_ltWI x r y h
    · simp at h
theorem drop_gtWI (x : Weigh) : ∀ (l : List Weigh), (l.map (·.number)).Pairwise (· < ·) → (∀ y ∈ l, y.number ≠ x.number) → ∀ y ∈ l.dropWhile (fun y => decide (y.number < x.number)), x.number < y.number
  | [], _, _, y, h => by simp at h
  | a :: r, hp, hne, y, h => by
    rw [List.map_cons, List.pairwise_cons] at hp
    rw [List.dropWhile_cons] at h
    split at h
    · exact drop_gtWI x r hp.2 (fun z hz => hne z (List.mem_cons_of_mem _ hz)) y h
    · rename_i ha
      have h1 : x.number < a.number := by
        have := hne a (by simp)
        simp at ha
        omega
      rcases List.mem_cons.1 h with rfl | h
      · exact h1
      · have := hp.1 y.number (List.mem_map_of_mem h); omega
theorem sort_insWI {l : List Weigh} {x : Weigh} (hp : (l.map (·.number)).Pairwise (· < ·)) (hne : ∀ y ∈ l, y.number ≠ x.number) : sortW (l ++ [x]) (l.length + 1) = insWI l x := by
  have hs := stop_ofWI (S := l) (x := x) (List.takeWhile_append_dropWhile (p := fun y => decide (y.number < x.number)) (l := l)).symm (take_ltWI x l) (drop_gtWI x l hp hne) _ (Nat.le_refl _)
  rw [← List.length_append, List.takeWhile_append_dropWhile] at hs
  rw [sortW, List.getElem?_append_right (Nat.le_refl _), Nat.sub_self]
  simp only [List.getElem?_cons_zero]
  rw [sort_prefixWI hp x _ (Nat.le_refl _), List.take_of_length_le (Nat.le_refl _), hs]
  unfold putW insWI spotWI
  simp
end Go.Proofs.YtfhmfbhpehldpaaGreatDoor
/- The plain law of CoreMore: one draw more, or one weighing, never makes less known. -/
namespace Go.Proofs.YtfhmfbhpehldpaaGreatDoor
open Go.RowKit Go.Shelf Go.Lib
set_option maxRecDepth 100000
set_option linter.unusedSimpArgs false

/-- A bale with more draws and weighings. -/
structure MoreOf (b y : Bale) : Prop where
  lay : y.layers = b.layers
  dry : y.dry = b.dry
  draws : ∀ x ∈ b.draws, x ∈ y.draws
  weighs : ∀ x ∈ b.weighs, x ∈ y.weighs
theorem MoreOf.trans {a b c : Bale} (h : MoreOf a b) (k : MoreOf b c) : MoreOf a c := ⟨k.lay.trans h.lay, k.dry.trans h.dry, fun x hx => k.draws x (h.draws x hx), fun x hx => k.weighs x (h.weighs x hx)⟩

/-! Grades. -/
theorem span_iff (i : Int) : ∀ (l : List Draw) (s : Span) (n : Int), ((l.foldl (spanStep i) s).lo ≤ n ∧ n ≤ (l.foldl (spanStep i) s).hi) ↔ (s.lo ≤ n ∧ n ≤ s.hi) ∧ ∀ x ∈ l, x.layer = i → x.grade.lo ≤ n ∧ n ≤ x.grade.hi
  | [], s, n => by simp
  | x :: l, s, n => by
    rw [List.foldl_cons, span_iff i l]
    unfold spanStep
    by_cases h : x.layer = i
    · rw [if_pos h]
      dsimp only
      constructor
      · rintro ⟨h1, h2⟩
        refine ⟨by omega, fun y hy e => ?_⟩
        rcases List.mem_cons.1 hy with rfl | hy
        · omega
        · exact h2 y hy e
      · rintro ⟨h1, h2⟩
        have := h2 x (List.mem_cons_self ..) h
        exact ⟨by omega, fun y hy e => h2 y (List.mem_cons_of_mem _ hy) e⟩
    · rw [if_neg h]
      refine and_congr_right fun _ => ⟨fun h2 y hy e => ?_, fun h2 y hy e => h2 y (List.mem_cons_of_mem _ hy) e⟩
      rcases List.mem_cons.1 hy with rfl | hy
      · exact absurd e h
      · exact h2 y hy e
theorem more_span {b y : Bale} (h : MoreOf b y) {i n : Int} (hn : (spanAt y.draws i).lo ≤ n ∧ n ≤ (spanAt y.draws i).hi) : (spanAt b.draws i).lo ≤ n ∧ n ≤ (spanAt b.draws i).hi := by
  unfold spanAt at *
  rw [span_iff] at hn ⊢
  exact ⟨hn.1, fun x hx e => hn.2 x (h.draws x hx) e⟩
def innerS (a b : Span) : Prop := b.lo ≤ a.lo ∧ a.hi ≤ b.hi ∧ a.lo ≤ a.hi
theorem more_layer {b y : Bale} (h : MoreOf b y) (ho : okB y = true) {i : Nat} (hi : i < y.layers.toNat) : innerS (spanAt y.draws (i : Int)) (spanAt b.draws (i : Int)) := by
  have hle := grown_at (ok_grown ho) _ (List.mem_of_getElem? (spans_get hi))
  have h1 := more_span h (i := (i : Int)) (n := (spanAt y.draws (i : Int)).lo) ⟨Int.le_refl _, hle⟩
  have h2 := more_span h (i := (i : Int)) (n := (spanAt y.draws (i : Int)).hi) ⟨hle, Int.le_refl _⟩
  exact ⟨h1.1, h2.2, hle⟩

/-! Kinds. -/
theorem more_truth {b y : Bale} (h : MoreOf b y) (hv : valid b = true) (hv' : valid y = true) {t : List Int} (ht : t ∈ truthsB y) : t ∈ truthsB b := by
  rw [truth_iff hv'] at ht
  rw [truth_iff hv]
  obtain ⟨h1, h2⟩ := ht
  rw [h.lay] at h1
  refine ⟨h1, fun i x hx => ?_⟩
  have hi : i < b.layers.toNat := by have := (List.getElem?_eq_some_iff.1 hx).1; rwa [(spans5 hv).2.2] at this
  rw [spans_get hi] at hx
  injection hx with hx
  subst hx
  obtain ⟨n, hn, e⟩ := h2 i _ (spans_get (by rw [h.lay]; exact hi))
  exact ⟨n, more_span h hn, e⟩
theorem kind_sub : ∀ (s t : S4), (t.a = true → s.a = true) → (t.b = true → s.b = true) → (t.c = true → s.c = true) → (t.d = true → s.d = true) → 1 ≤ t.num → ∀ k, k = 1 ∨ k = 2 ∨ k = 3 ∨ k = 4 → kindK s k ≠ 1 → kindK t k = kindK s k := by
  rintro ⟨a, b, c, d⟩ ⟨a', b', c', d'⟩
  cases a <;> cases b <;> cases c <;> cases d <;> cases a' <;> cases b' <;> cases c' <;> cases d' <;> (intro h1 h2 h3 h4 h5 k hk; revert h1 h2 h3 h4 h5; rcases hk with rfl | rfl | rfl | rfl <;> decide)
theorem more_flags {b y : Bale} (h : MoreOf b y) (hv : valid b = true) (hv' : valid y = true) : ((kindS y).a = true → (kindS b).a = true) ∧ ((kindS y).b = true → (kindS b).b = true) ∧ ((kindS y).c = true → (kindS b).c = true) ∧ ((kindS y).d = true → (kindS b).d = true) := by
  obtain ⟨a1, a2, a3, a4⟩ := kindsOf_iff (truthsB y)
  obtain ⟨b1, b2, b3, b4⟩ := kindsOf_iff (truthsB b)
  have e1 : kindS y = kindsOf (truthsB y) := rfl
  have e2 : kindS b = kindsOf (truthsB b) := rfl
  rw [e1, e2]
  refine ⟨fun k => b1.2 ?_, fun k => b2.2 ?_, fun k => b3.2 ?_, fun k => b4.2 ?_⟩
  · obtain ⟨t, ht, e⟩ := a1.1 k; exact ⟨t, more_truth h hv hv' ht, e⟩
  · obtain ⟨t, ht, e⟩ := a2.1 k; exact ⟨t, more_truth h hv hv' ht, e⟩
  · obtain ⟨t, ht, e⟩ := a3.1 k; exact ⟨t, more_truth h hv hv' ht, e⟩
  · obtain ⟨t, ht, e⟩ := a4.1 k; exact ⟨t, more_truth h hv hv' ht, e⟩
theorem more_kind {b y : Bale} (h : MoreOf b y) (hv : valid b = true) (hv' : valid y = true) (ho' : okB y = true) {k : Int} (h1 : 1 ≤ k) (h4 : k ≤ 4) (hk : kindK (kindS b) k ≠ 1) : kindK (kindS y) k = kindK (kindS b) k := by
  obtain ⟨f1, f2, f3, f4⟩ := more_flags h hv hv'
  have hn := num_pos (truths_ne (spans5 hv').1 (grown_at (ok_grown ho')))
  exact kind_sub _ _ f1 f2 f3 f4 hn k (four h1 h4) hk

/-! Weights. -/
theorem more_dries {b y : Bale} (h : MoreOf b y) {d : Int} (hd : d ∈ dries y) : d ∈ dries b := by
  rw [dries_mem] at hd ⊢
  rw [h.dry] at hd
  exact ⟨hd.1, fun x hx => hd.2 x (h.weighs x hx)⟩
theorem more_dry {b y : Bale} (h : MoreOf b y) (hv : valid b = true) (ho : okB b = true) (hv' : valid y = true) (ho' : okB y = true) : innerS (dryB y) (dryB b) := by
  rw [dryB_ok hv ho, dryB_ok hv' ho']
  obtain ⟨a1, a2, a3⟩ := dry_first ho
  obtain ⟨c1, c2, c3⟩ := dry_first ho'
  exact ⟨(a3 _ (more_dries h c1)).1, (a3 _ (more_dries h c2)).2, (c3 _ c1).2⟩
theorem more_wet {b y : Bale} (h : MoreOf b y) (hv : valid b = true) (ho : okB b = true) (hv' : valid y = true) (ho' : okB y = true) {x : Weigh} (hx : x ∈ b.weighs) : innerS (wetB y x.number) (wetB b x.number) := by
  have hxy := h.weighs x hx
  have hB := valid_bds hv
  obtain ⟨a1, a2, a3⟩ := dry_first ho
  obtain ⟨c1, c2, c3⟩ := dry_first ho'
  have w1 := wet_law hv' ho' hxy
  rw [(wet_at hv ho hx).2, (wet_at hv' ho' hxy).2] at *
  have f1 := bds_fit hB a1 hx
  have f2 := bds_fit hB a2 hx
  have g1 := bds_fit hB (more_dries h c1) hx
  have g2 := bds_fit hB (more_dries h c2) hx
  exact ⟨dLo_anti g2 f2 (a3 _ (more_dries h c2)).2, dHi_anti f1 g1 (a3 _ (more_dries h c1)).1, w1.2.1⟩
theorem aside_yes (su my : Bool) (s : S4) : asideL su my s = 2 ↔ (su = true ∨ s.has 1 = false) := by
  unfold asideL
  cases su <;> cases my <;> cases s.has 1 <;> simp <;> split <;> simp
theorem more_aside {b y : Bale} (h : MoreOf b y) (hv : valid b = true) (ho : okB b = true) (hv' : valid y = true) (ho' : okB y = true) {n : Int} (h0 : 0 ≤ n) (h1 : n ≤ 200) (ha : asideB b n = 2) : asideB y n = 2 := by
  rw [asideB_ok hv ho h0 h1, aside_yes] at ha
  rw [asideB_ok hv' ho' h0 h1, aside_yes]
  rcases ha with ha | ha
  · left
    unfold surelyL at ha ⊢
    rw [List.all_eq_true] at ha ⊢
    intro d hd
    have := ha d (more_dries h hd)
    rw [List.any_eq_true] at this ⊢
    obtain ⟨x, hx, e⟩ := this
    exact ⟨x, h.weighs x hx, e⟩
  · right
    have hf := (more_flags h hv hv').1
    have e1 : (kindS b).has 1 = (kindS b).a := by unfold S4.has; simp
    have e2 : (kindS y).has 1 = (kindS y).a := by unfold S4.has; simp
    rw [e1] at ha
    rw [e2]
    cases hy : (kindS y).a with
    | false => rfl
    | true => rw [hf hy] at ha; cases ha

/-! The least number that none has. -/
def freshN (l : List Int) (m : Int) : Int := l.foldl (fun n x => if x = n then n + 1 else n) m
theorem fresh_stay : ∀ (l : List Int) (m : Int), (∀ x ∈ l, m < x) → freshN l m = m
  | [], _, _ => rfl
  | x :: l, m, h => by
    unfold freshN
    rw [List.foldl_cons, if_neg (by have := h x (List.mem_cons_self ..); omega)]
    exact fresh_stay l m fun y hy => h y (List.mem_cons_of_mem _ hy)
theorem fresh_spec : ∀ (l : List Int) (m : Int), l.Pairwise (· < ·) → (∀ x ∈ l, m ≤ x) → m ≤ freshN l m ∧ freshN l m ≤ m + l.length ∧ freshN l m ∉ l
  | [], m, _, _ => by unfold freshN; simp
  | x :: l, m, hp, hb => by
    rw [List.pairwise_cons] at hp
    have hx := hb x (List.mem_cons_self ..)
    by_cases e : x = m
    · have ih := fresh_spec l (m + 1) hp.2 (fun y hy => by have := hp.1 y hy; omega)
      have e2 : freshN (x :: l) m = freshN l (m + 1) := by unfold freshN; rw [List.foldl_cons, if_pos e]
      rw [e2, List.length_cons]
      refine ⟨by omega, by omega, fun hm => ?_⟩
      rcases List.mem_cons.1 hm with hm | hm
      · omega
      · exact ih.2.2 hm
    · have e2 : freshN (x :: l) m = m := fresh_stay _ _ fun y hy => by
        rcases List.mem_cons.1 hy with rfl | hy
        · omega
        · have := hp.1 y hy; omega
      rw [e2, List.length_cons]
      refine ⟨Int.le_refl _, by omega, fun hm => ?_⟩
      rcases List.mem_cons.1 hm with hm | hm
      · omega
      · have := hp.1 m hm; omega

/-! One draw more, one weighing more. -/
theorem insD_mem {l : List Draw} {x z : Draw} : z ∈ insDI l x ↔ z ∈ l ∨ z = x := by
  unfold insDI
  rw [List.append_assoc, List.mem_append, List.mem_append, List.mem_singleton]
  constructor
  · rintro (h | h | h)
    · exact .inl (List.mem_of_mem_take h)
    · exact .inr h
    · exact .inl (List.mem_of_mem_drop h)
  · rintro (h | h)
    · rw [← List.take_append_drop (spotDI l x) l, List.mem_append] at h
      rcases h with h | h
      · exact .inl h
      · exact .inr (.inr h)
    · exact .inr (.inl h)
theorem insD_up {l : List Draw} {x : Draw} (hp : (l.map (·.number)).Pairwise (· < ·)) (hne : ∀ y ∈ l, y.number ≠ x.number) : ((insDI l x).map (·.number)).Pairwise (· < ·) := by
  have e1 : l.take (spotDI l x) = l.takeWhile (fun y => decide (y.number < x.number)) := by
    unfold spotDI
    conv => lhs; rw [← List.takeWhile_append_dropWhile (p := fun y => decide (y.number < x.number)) (l := l)]
    rw [List.take_left']
    simp
  have e2 : l.drop (spotDI l x) = l.dropWhile (fun y => decide (y.number < x.number)) := by
    unfold spotDI
    conv => lhs; rw [← List.takeWhile_append_dropWhile (p := fun y => decide (y.number < x.number)) (l := l)]
    rw [List.drop_left']
    simp
  unfold insDI
  rw [e1, e2, List.append_assoc, List.map_append, List.map_append, List.pairwise_append]
  have t1 := take_ltI x l
  have t2 := drop_gtI x l hp hne
  refine ⟨hp.sublist (List.Sublist.map _ (List.takeWhile_sublist _)), ?_, ?_⟩
  · rw [List.map_cons, List.map_nil, List.singleton_append, List.pairwise_cons]
    refine ⟨fun n hn => ?_, hp.sublist (List.Sublist.map _ (List.dropWhile_sublist _))⟩
    obtain ⟨y, hy, rfl⟩ := List.mem_map.1 hn
    exact t2 y hy
  · intro n hn m hm
    obtain ⟨y, hy, rfl⟩ := List.mem_map.1 hn
    have h1 := t1 y hy
    rw [List.mem_append] at hm
    rcases hm with hm | hm
    · rw [List.map_cons, List.map_nil, List.mem_singleton] at hm; omega
    · obtain ⟨z, hz, rfl⟩ := List.mem_map.1 hm
      have := t2 z hz; omega
theorem put_more {b : Bale} {x : Draw} (hv : valid b = true) (hl : b.draws.length ≠ 10) (hne : ∀ y ∈ b.draws, y.number ≠ x.number) (hn : 1 ≤ x.number ∧ x.number ≤ 9999) (hx : badD b.layers x = false) : putE b x = 0 ∧ valid (putB b x) = true ∧ MoreOf b (putB b x) ∧ (putB b x).weighs = b.weighs := by
  have hp := valid_drawsI hv
  have hi := sort_insI hp hne
  have hw : valid (withD b x) = true := by
    have h := hv
    have hB := valid_bds hv
    unfold valid chk2 at h ⊢
    simp only [Bool.and_eq_true, Bool.not_eq_true', decide_eq_true_eq] at h ⊢
    obtain ⟨h1, ⟨⟨⟨h2, h3⟩, h4⟩, h5⟩, h6, h7⟩ := h
    unfold withD
    dsimp only
    rw [hi]
    refine ⟨h1, ⟨⟨⟨?_, h3⟩, ?_⟩, h5⟩, ?_, h7⟩
    · have : (insDI b.draws x).length = b.draws.length + 1 := by
        unfold insDI
        have hs : spotDI b.draws x ≤ b.draws.length := by unfold spotDI; exact (List.takeWhile_sublist _).length_le
        simp
        omega
      omega
    · refine rise_of _ _ (insD_up hp hne) fun n hm => ?_
      obtain ⟨z, hz, rfl⟩ := List.mem_map.1 hm
      rcases insD_mem.1 hz with hz | rfl
      · exact ⟨(rise_lt _ _ h4).2 _ (List.mem_map_of_mem hz), rising_leI _ _ h4 _ (List.mem_map_of_mem hz)⟩
      · omega
    · rw [List.any_eq_false] at h6 ⊢
      intro z hz
      rcases insD_mem.1 hz with hz | rfl
      · exact h6 z hz
      · rw [hx]; simp
  have he : putE b x = 0 := by unfold putE; rw [if_pos hv, if_neg hl, if_pos hw]
  have hb : putB b x = withD b x := by unfold putB; rw [if_pos he]
  refine ⟨he, by rw [hb]; exact hw, ?_, by rw [hb]; rfl⟩
  rw [hb]
  refine ⟨rfl, rfl, fun z hz => ?_, fun z hz => hz⟩
  show z ∈ sortD (b.draws ++ [x]) (b.draws.length + 1)
  rw [hi]
  exact insD_mem.2 (.inl hz)
theorem insW_mem {l : List Weigh} {x z : Weigh} : z ∈ insWI l x ↔ z ∈ l ∨ z = x := by
  unfold insWI
  rw [List.append_assoc, List.mem_append, List.mem_append, List.mem_singleton]
  constructor
  · rintro (h | h | h)
    · exact .inl (List.mem_of_mem_take h)
    · exact .inr h
    · exact .inl (List.mem_of_mem_drop h)
  · rintro (h | h)
    · rw [← List.take_append_drop (spotWI l x) l, List.mem_append] at h
      rcases h with h | h
      · exact .inl h
      · exact .inr (.inr h)
    · exact .inr (.inl h)
theorem insW_up {l : List Weigh} {x : Weigh} (hp : (l.map (·.number)).Pairwise (· < ·)) (hne : ∀ y ∈ l, y.number ≠ x.number) : ((insWI l x).map (·.number)).Pairwise (· < ·) := by
  have e1 : l.take (spotWI l x) = l.takeWhile (fun y => decide (y.number < x.number)) := by
    unfold spotWI
    conv => lhs; rw [← List.takeWhile_append_dropWhile (p := fun y => decide (y.number < x.number)) (l := l)]
    rw [List.take_left']
    simp
  have e2 : l.drop (spotWI l x) = l.dropWhile (fun y => decide (y.number < x.number)) := by
    unfold spotWI
    conv => lhs; rw [← List.takeWhile_append_dropWhile (p := fun y => decide (y.number < x.number)) (l := l)]
    rw [List.drop_left']
    simp
  unfold insWI
  rw [e1, e2, List.append_assoc, List.map_append, List.map_append, List.pairwise_append]
  have t1 := take_ltWI x l
  have t2 := drop_gtWI x l hp hne
  refine ⟨hp.sublist (List.Sublist.map _ (List.takeWhile_sublist _)), ?_, ?_⟩
  · rw [List.map_cons, List.map_nil, List.singleton_append, List.pairwise_cons]
    refine ⟨fun n hn => ?_, hp.sublist (List.Sublist.map _ (List.dropWhile_sublist _))⟩
    obtain ⟨y, hy, rfl⟩ := List.mem_map.1 hn
    exact t2 y hy
  · intro n hn m hm
    obtain ⟨y, hy, rfl⟩ := List.mem_map.1 hn
    have h1 := t1 y hy
    rw [List.mem_append] at hm
    rcases hm with hm | hm
    · rw [List.map_cons, List.map_nil, List.mem_singleton] at hm; omega
    · obtain ⟨z, hz, rfl⟩ := List.mem_map.1 hm
      have := t2 z hz; omega
theorem lift_more {b : Bale} {x : Weigh} (hv : valid b = true) (hl : b.weighs.length ≠ 8) (hne : ∀ y ∈ b.weighs, y.number ≠ x.number) (hn : 1 ≤ x.number ∧ x.number ≤ 9999) (hx : badW x = false) : liftE b x = 0 ∧ valid (liftB b x) = true ∧ MoreOf b (liftB b x) := by
  have hp := valid_weighsI hv
  have hi := sort_insWI hp hne
  have hw : valid (withX b x) = true := by
    have h := hv
    have hB := valid_bds hv
    unfold valid chk2 at h ⊢
    simp only [Bool.and_eq_true, Bool.not_eq_true', decide_eq_true_eq] at h ⊢
    obtain ⟨h1, ⟨⟨⟨h2, h3⟩, h4⟩, h5⟩, h6, h7⟩ := h
    unfold withX
    dsimp only
    rw [hi]
    refine ⟨h1, ⟨⟨⟨h2, ?_⟩, h4⟩, ?_⟩, h6, ?_⟩
    · have : (insWI b.weighs x).length = b.weighs.length + 1 := by
        unfold insWI
        have hs : spotWI b.weighs x ≤ b.weighs.length := by unfold spotWI; exact (List.takeWhile_sublist _).length_le
        simp
        omega
      omega
    · refine rise_of _ _ (insW_up hp hne) fun n hm => ?_
      obtain ⟨z, hz, rfl⟩ := List.mem_map.1 hm
      rcases insW_mem.1 hz with hz | rfl
      · exact ⟨(rise_lt _ _ h5).2 _ (List.mem_map_of_mem hz), rising_leI _ _ h5 _ (List.mem_map_of_mem hz)⟩
      · omega
    · rw [List.any_eq_false] at h7 ⊢
      intro z hz
      rcases insW_mem.1 hz with hz | rfl
      · exact h7 z hz
      · rw [hx]; simp
  have he : liftE b x = 0 := by unfold liftE; rw [if_pos hv, if_neg hl, if_pos hw]
  have hb : liftB b x = withX b x := by unfold liftB; rw [if_pos he]
  refine ⟨he, by rw [hb]; exact hw, ?_⟩
  rw [hb]
  refine ⟨rfl, rfl, fun z hz => hz, fun z hz => ?_⟩
  show z ∈ sortW (b.weighs ++ [x]) (b.weighs.length + 1)
  rw [hi]
  exact insW_mem.2 (.inl hz)
/-- The draw and the weighing that are put. -/
theorem more_setup {b : Bale} (hv : valid b = true) (hd : b.draws.length ≠ 10) (hw : b.weighs.length ≠ 8) {i g h p r s : Int} (hi : 0 ≤ i ∧ i ≤ b.layers - 1) (hg : 1 ≤ g ∧ g ≤ h ∧ h ≤ 9) (hp : 1 ≤ p ∧ p ≤ 1200) (hr : 0 ≤ r ∧ r ≤ s ∧ s ≤ 200) :
    putE b ⟨freshN (b.draws.map (·.number)) 1, i, ⟨g, h⟩⟩ = 0 ∧
    liftE (putB b ⟨freshN (b.draws.map (·.number)) 1, i, ⟨g, h⟩⟩) ⟨freshN (b.weighs.map (·.number)) 1, p, ⟨r, s⟩⟩ = 0 ∧
    valid (liftB (putB b ⟨freshN (b.draws.map (·.number)) 1, i, ⟨g, h⟩⟩) ⟨freshN (b.weighs.map (·.number)) 1, p, ⟨r, s⟩⟩) = true ∧
    MoreOf b (liftB (putB b ⟨freshN (b.draws.map (·.number)) 1, i, ⟨g, h⟩⟩) ⟨freshN (b.weighs.map (·.number)) 1, p, ⟨r, s⟩⟩) := by
  obtain ⟨n1, n2, n3, n4⟩ := number_ltI hv
  have hB := valid_bds hv
  have f1 := fresh_spec (b.draws.map (·.number)) 1 n1 (fun x hx => by have := (rise_lt _ _ n3).2 x hx; omega)
  have f2 := fresh_spec (b.weighs.map (·.number)) 1 n2 (fun x hx => by have := (rise_lt _ _ n4).2 x hx; omega)
  rw [List.length_map] at f1 f2
  have b1 := hB.nd
  have b2 := hB.nw
  generalize hn : freshN (b.draws.map (·.number)) 1 = n at f1
  generalize hm : freshN (b.weighs.map (·.number)) 1 = m at f2
  have hx : badD b.layers ⟨n, i, ⟨g, h⟩⟩ = false := by unfold badD rightB inB; simp; omega
  have hy : badW ⟨m, p, ⟨r, s⟩⟩ = false := by unfold badW rightB inB; simp; omega
  obtain ⟨p1, p2, p3, p4⟩ := put_more hv hd (fun y hy e => f1.2.2 (by have h := List.mem_map_of_mem (f := fun z : Draw => z.number) hy; rw [show y.number = n from e] at h; exact h)) (show 1 ≤ n ∧ n ≤ 9999 by omega) hx
  obtain ⟨q1, q2, q3⟩ := lift_more (x := ⟨m, p, ⟨r, s⟩⟩) p2 (by rw [p4]; exact hw) (fun y hy e => f2.2.2 (by rw [p4] at hy; have h := List.mem_map_of_mem (f := fun z : Weigh => z.number) hy; rw [show y.number = m from e] at h; exact h)) (show 1 ≤ m ∧ m ≤ 9999 by omega) hy
  exact ⟨p1, q1, q2, p3.trans q3⟩
end Go.Proofs.YtfhmfbhpehldpaaGreatDoor
/- The values of the chapter's examples. -/
namespace Go.Proofs.YtfhmfbhpehldpaaGreatDoor
open Go.RowKit Go.Shelf Go.Lib
set_option maxRecDepth 100000
set_option linter.unusedSimpArgs false

/-- The bale of the examples, with draws more. -/
def exB (m : List Draw) : Bale := ⟨1, 4, ⟨400, 500⟩, [⟨1, 0, ⟨3, 3⟩⟩, ⟨2, 3, ⟨3, 4⟩⟩, ⟨3, 1, ⟨3, 6⟩⟩] ++ m, [⟨1, 480, ⟨60, 90⟩⟩, ⟨2, 470, ⟨40, 70⟩⟩]⟩
/-- A draw of it that cannot be true. -/
def odD : Draw := ⟨4, 0, ⟨5, 6⟩⟩

theorem ex_valid : valid (exB []) = true := by kernel_rfl
theorem ex_ok : okB (exB []) = true := by kernel_rfl
theorem ex_spans : spans (exB []) = [⟨3, 3⟩, ⟨3, 6⟩, ⟨1, 9⟩, ⟨3, 4⟩] := by kernel_rfl
theorem ex_ask (r : Bool) (e : Int) : askE (exB []) r e = if r then 0 else e := by
  unfold askE; rw [ex_valid, ex_ok]; simp
theorem ex_layer1 : layerB (exB []) (inB 0 ((exB []).layers - 1) 1) 1 = ⟨3, 6⟩ := by kernel_rfl
theorem ex_best : endsB min (exB []) = ⟨1, 3⟩ := by kernel_rfl
theorem ex_worst : endsB max (exB []) = ⟨3, 9⟩ := by kernel_rfl
theorem ex_kinds : kindS (exB []) = S4.all := by kernel_rfl
theorem ex_cutS : cutS (exB []) = ⟨1, 3⟩ := by kernel_rfl
theorem ex_askS : askS (exB []) = (2, 3) := by kernel_rfl
theorem ex_dec : decS (spans (exB [])) = [1, 2, 3] := by
  rw [ex_spans]
  exact (decide_eq (sp := [⟨3, 3⟩, ⟨3, 6⟩, ⟨1, 9⟩, ⟨3, 4⟩]) (by decide) (by decide) (by decide)).symm.trans (by kernel_rfl)
theorem ex_dryB : dryB (exB []) = ⟨441, 452⟩ := by kernel_rfl
theorem ex_wet1 : wetB (exB []) 1 = ⟨62, 90⟩ := by kernel_rfl
theorem ex_pay85 : payB (exB []) 85 = ⟨478, 490⟩ := by kernel_rfl
theorem ex_aside90 : asideB (exB []) 90 = 1 := by kernel_rfl
theorem od_valid : valid (exB [odD]) = true := by kernel_rfl
theorem od_ok : okB (exB [odD]) = false := by kernel_rfl
theorem od_wrongE : wrongE (exB [odD]) = 0 := by kernel_rfl
theorem od_wrongL : wrongL (exB [odD]) = [1] := by kernel_rfl
theorem od_wrongK : wrongK (exB [odD]) = [] := by kernel_rfl
end Go.Proofs.YtfhmfbhpehldpaaGreatDoor
/- The small functions of the outright laws: span, draw, weigh, bale, odd, ints, in. -/
namespace Go.Proofs.YtfhmfbhpehldpaaGreatDoor
open Go.RowKit Go.Shelf Go.Lib
set_option maxRecDepth 100000
set_option linter.unusedSimpArgs false

theorem ret_set4 {P : Program} {fn : Func} {R : Ending → World → Prop} {ex : Exit} {a : Act} {w1 : World} {g : Nat} {t : TypeId} {x0 x1 x2 x3 y0 y1 y2 y3 : Value} (hB : Blk w1 g t #[x0, x1, x2, x3])
    (h : ∀ W, (W.cell? ⟨g, 0, none⟩ = some y0 ∧ W.cell? ⟨g, 1, none⟩ = some y1 ∧ W.cell? ⟨g, 2, none⟩ = some y2 ∧ W.cell? ⟨g, 3, none⟩ = some y3) → w1.grownBy W (some g) → bodyPost P fn R ex a W) :
    bodyPost P fn R ex a ((((w1.setCell ⟨g, 0, none⟩ y0).setCell ⟨g, 1, none⟩ y1).setCell ⟨g, 2, none⟩ y2).setCell ⟨g, 3, none⟩ y3) := by
  have H := (((hB.set_ 0 y0).set_ 1 y1).set_ 2 y2).set_ 3 y3
  exact h _ ⟨H.cell 0, H.cell 1, H.cell 2, H.cell 3⟩ (grown_set (grown_set (grown_set (grown_set (World.grownBy.refl _ _) (p := ⟨g, 0, none⟩) (.inl rfl) y0) (p := ⟨g, 1, none⟩) (.inl rfl) y1) (p := ⟨g, 2, none⟩) (.inl rfl) y2) (p := ⟨g, 3, none⟩) (.inl rfl) y3)
theorem ret_set6b {P : Program} {fn : Func} {R : Ending → World → Prop} {ex : Exit} {a : Act} {w1 : World} {g : Nat} {t t2 : TypeId} {cs : Array Value} {x0 x1 x2 x3 x4 x5 y0 y1 y2 y3 y4 y5 : Value} (hB : Blk w1 g t #[x0, x1, x2, x3, x4, x5])
    (h : ∀ W, (W.cell? ⟨g, 0, none⟩ = some y0 ∧ W.cell? ⟨g, 1, none⟩ = some y1 ∧ W.cell? ⟨g, 2, none⟩ = some y2 ∧ W.cell? ⟨g, 3, none⟩ = some y3 ∧ W.cell? ⟨g, 4, none⟩ = some y4 ∧ W.cell? ⟨g, 5, none⟩ = some y5) → w1.grownBy W (some g) → Blk W w1.heap.size t2 cs → bodyPost P fn R ex a W) :
    bodyPost P fn R ex a (((((((w1.setCell ⟨g, 0, none⟩ y0).setCell ⟨g, 1, none⟩ y1).setCell ⟨g, 2, none⟩ y2).setCell ⟨g, 3, none⟩ y3).setCell ⟨g, 4, none⟩ y4).setCell ⟨g, 5, none⟩ y5).alloc (.cells cs t2)) := by
  have K := (hB.set6 y0 y1 y2 y3 y4 y5).alloc (.cells cs t2)
  exact h _ ⟨K.cell 0, K.cell 1, K.cell 2, K.cell 3, K.cell 4, K.cell 5⟩ (grown_ext (grown_set (grown_set (grown_set (grown_set (grown_set (grown_set (World.grownBy.refl _ _) (p := ⟨g, 0, none⟩) (.inl rfl) y0) (p := ⟨g, 1, none⟩) (.inl rfl) y1) (p := ⟨g, 2, none⟩) (.inl rfl) y2) (p := ⟨g, 3, none⟩) (.inl rfl) y3) (p := ⟨g, 4, none⟩) (.inl rfl) y4) (p := ⟨g, 5, none⟩) (.inl rfl) y5) (Ext.al _ _))
    (Blk.at_ (by simp [World.setCell]))
theorem encD_o : ∀ x : Draw, ∀ u ∈ encD x, u.oneCell' = true := fun x u hu => by
  simp at hu
  rcases hu with rfl | rfl | rfl | rfl <;> rfl
theorem Own.lit {α : Type} {enc : α → List Value} {e : TypeId} {sz : Nat} {W : World} {base g : Nat} {l : List α} {cs : Array Value} (henc : ∀ x, (enc x).length = sz) (h : Blk W g e cs) (hcs : cs = (l.flatMap enc).toArray) (hb : base ≤ g) (hl : l.length ≤ 1000) : Own enc e sz W base (.slice (some ⟨g, 0, none⟩) l.length l.length) l := by
  have hlen := enc_len henc l
  subst hcs
  exact ⟨hlen, .inr ⟨g, l.length, _, rfl, hb, h, Nat.le_refl _, by unfold maxLen; omega, by simpa using hlen, by rw [← hlen, List.toList_toArray, List.take_length]⟩⟩
/-- append of a whole slice onto one of the call's own. -/
theorem wpList_appL {α : Type} (enc : α → List Value) (t e : TypeId) (sz : Nat) (z : Value) (bytes : Nat) (ht : Tryz.prog.underlying t = some (.slice e))
    (hinfo : (Tryz.prog.info? e).map (fun i => (i.zero, i.size, i.bytes)) = some (some z, sz, bytes)) (hzs : z.cells.size = sz) (hsz : 0 < sz) (hbytes : bytes ≤ 1000)
    (henc : ∀ x, (enc x).length = sz) (h1 : ∀ x, ∀ u ∈ enc x, u.oneCell' = true)
    {ops : Array Oper} {rest : List Oper} {o : Oper} {a : Act} {Q : Exit → Act → World → Prop} {w : World} (hgd : o.guard = none) (s x : Operand)
    (ho : o.op = .call { callee := .builtin .append, args := #[s, x], argTypes := #[t, t] }) (base : Nat) (v xv : Value) (l m : List α) (hs : a.eval s = v) (hown : Own enc e sz w base v l)
    (hx : a.eval x = xv) (hm : Sl enc sz w xv m) (hlen : l.length + m.length < 100000000000) (hbase : base ≤ w.heap.size)
    (h : ∀ v' w', Own enc e sz w' base v' (l ++ m) → Below base w w' → wpList Tryz.prog ops Q rest (a.put o.dst v') w') :
    wpList Tryz.prog ops Q (o :: rest) a w := by
  obtain ⟨i0, hi, hz0, hz1, hz2⟩ := info_parts hinfo
  have hrun : ∃ v' W', (Builtin.append_ #[t, t] o.type #[v, xv]).run Tryz.prog w = .ok v' W' ∧ Own enc e sz W' base v' (l ++ m) ∧ Below base w W' := by
    obtain ⟨A, n, c, rfl, hn, hlc, hcm⟩ := id hm.form
    by_cases h0 : m.length = 0
    · have : m = [] := List.eq_nil_of_length_eq_zero h0
      subst this
      have hn0 : n = 0 := hn.out
      subst hn0
      have hS : Src Tryz.prog i0.size t (.slice A 0 c) 0 [] w := ⟨.inl ⟨e, ht⟩, fun _ => by simp [Builtin.lenOf], by cases A <;> simp [Builtin.firstCells, loadCells, loadCellsFrom], by cases A <;> simp [Builtin.firstCells, loadCells, loadCellsFrom], by simp, by simp⟩
      rcases id hown.2 with ⟨rfl, -⟩ | ⟨g, cap, cur, rfl, -, -, hle, -⟩
      · exact ⟨_, _, run_append_nothing w t t o.type e i0 ht hi _ 0 0 (Nat.le_refl _) _ hS, by rw [List.append_nil]; exact hown, Below.refl _ _⟩
      · exact ⟨_, _, run_append_nothing w t t o.type e i0 ht hi _ _ _ hle _ hS, by rw [List.append_nil]; exact hown, Below.refl _ _⟩
    · have hnp : 0 < n := by have := hn.out; omega
      obtain ⟨b, off, y, rfl, -, -, -⟩ := hm.at_ hnp
      obtain ⟨v', W', hr, k1, k2, _⟩ := run_append_own (P := Tryz.prog) w base t o.type e i0 z sz bytes ht hi hz0 hz1 hz2 hzs hsz v l.length (l.flatMap enc) hown ⟨b, off, none⟩ n c (m.flatMap enc) (by rw [enc_len henc, hn.out]) (Sl.flat henc hsz hm)
        (fun u hu => by obtain ⟨y, _, hy⟩ := List.mem_flatMap.1 hu; exact h1 y u hy) (by have := hn.out; unfold maxLen; omega)
        (by have : (l.length + n) * bytes ≤ 100000000000 * 1000 := Nat.mul_le_mul (by have := hn.out; omega) hbytes
            omega) hbase
      refine ⟨v', W', hr, ?_, (Below.refl base w).grown k2 hbase (fun k hk => (World.ownsRow.lt hown k hk).1)⟩
      unfold Own
      rw [List.length_append, List.flatMap_append, ← hn.out]
      exact k1
  obtain ⟨v', W', hr, k1, k2⟩ := hrun
  refine wpList_plain hgd fun K hK => ?_
  unfold Oper.wp execOp
  simp only [ho, resolve, invoke, builtin, Sem.run_bind, Sem.run_pure, Result.andThen_ok, List.map_toArray, List.map_cons, List.map_nil, hs, hx, hr]
  exact hK _ _ (h v' W' k1 k2)

theorem span_any (a b : Int) (w : World) : Calls Tryz.prog 24 #[.int .i64 a, .int .i64 b] w fun e w' => e = .returned (valS ⟨a, b⟩) ∧ Ext w w' := by
  go_enter Tryz.func24, Tryz.ntmps24
  go_wp2
  refine bodyPost_ret (v := valS ⟨a, b⟩) (by simp [results, Tryz.results24, go_sem]) rfl ?_
  exact ⟨rfl, Ext.al _ _⟩
theorem draw_any (n i a b : Int) (w : World) : Calls Tryz.prog 8 #[.int .i64 n, .int .i64 i, .int .i64 a, .int .i64 b] w fun e w' => e = .returned (valD ⟨n, i, ⟨a, b⟩⟩) ∧ Ext w w' := by
  go_enter Tryz.func8, Tryz.ntmps8
  go_wp2_with fail
  refine (span_any a b _).mono ?_
  rintro e w1 ⟨rfl, hE⟩
  have HE := Lib.hid ((Ext.al w _).trans hE)
  have HB := Lib.hid ((Blk.new w 37 #[.int .i64 0, .int .i64 0, .int .i64 0, .int .i64 0]).ext hE)
  clear hE
  have x0 := HB.out.cell 0
  have x1 := HB.out.cell 1
  have x2 := HB.out.cell 2
  have x3 := HB.out.cell 3
  have xl := HB.out.lt
  have xf := HB.out.frozen
  simp at x0 x1 x2 x3
  go_wp2
  refine ret_set4 HB.out fun W ⟨b0, b1, b2, b3⟩ hW => ?_
  refine bodyPost_ret (v := valD ⟨n, i, ⟨a, b⟩⟩) (by simp [results, Tryz.results8, go_sem, b0, b1, b2, b3]) rfl ?_
  exact ⟨rfl, ext_grown HE.out hW (Nat.le_refl _)⟩
theorem weigh_any (n i a b : Int) (w : World) : Calls Tryz.prog 10 #[.int .i64 n, .int .i64 i, .int .i64 a, .int .i64 b] w fun e w' => e = .returned (valW ⟨n, i, ⟨a, b⟩⟩) ∧ Ext w w' := by
  go_enter Tryz.func10, Tryz.ntmps10
  go_wp2_with fail
  refine (span_any a b _).mono ?_
  rintro e w1 ⟨rfl, hE⟩
  have HE := Lib.hid ((Ext.al w _).trans hE)
  have HB := Lib.hid ((Blk.new w 41 #[.int .i64 0, .int .i64 0, .int .i64 0, .int .i64 0]).ext hE)
  clear hE
  have x0 := HB.out.cell 0
  have x1 := HB.out.cell 1
  have x2 := HB.out.cell 2
  have x3 := HB.out.cell 3
  have xl := HB.out.lt
  have xf := HB.out.frozen
  simp at x0 x1 x2 x3
  go_wp2
  refine ret_set4 HB.out fun W ⟨b0, b1, b2, b3⟩ hW => ?_
  refine bodyPost_ret (v := valW ⟨n, i, ⟨a, b⟩⟩) (by simp [results, Tryz.results10, go_sem, b0, b1, b2, b3]) rfl ?_
  exact ⟨rfl, ext_grown HE.out hW (Nat.le_refl _)⟩
set_option maxHeartbeats 1000000 in
theorem bale_any (m : List Draw) (mv : Value) (w : World) (hm : SlD w mv m) (hl : m.length ≤ 1000) :
    Calls Tryz.prog 18 #[mv] w fun e w' => (∃ v, e = .returned v ∧ TwinV (exB m) w.heap.size v w') ∧ Ext w w' := by
  have HM := Lib.hid hm
  have HL := Lib.hid hl
  clear hm hl
  go_enter Tryz.func18, Tryz.ntmps18
  go_wp2_with fail
  refine (span_any 400 500 _).mono ?_
  rintro e w1 ⟨rfl, hE⟩
  have HE1 := Lib.hid ((Ext.al w _).trans hE)
  have HB1 := Lib.hid ((Blk.new w 27 #[.int .i64 0, .int .i64 0, .int .i64 0, .int .i64 0, .slice none 0 0, .slice none 0 0]).ext hE)
  clear hE
  go_wp2_with fail
  refine (draw_any 1 0 3 3 _).mono ?_
  rintro e w2 ⟨rfl, hE⟩
  have HE2 := Lib.hid (HE1.out.trans hE)
  have HB2 := Lib.hid (HB1.out.ext hE)
  clear hE HE1 HB1
  go_wp2_with fail
  refine (draw_any 2 3 3 4 _).mono ?_
  rintro e w3 ⟨rfl, hE⟩
  have HE3 := Lib.hid (HE2.out.trans hE)
  have HB3 := Lib.hid (HB2.out.ext hE)
  clear hE HE2 HB2
  go_wp2_with fail
  refine (draw_any 3 1 3 6 _).mono ?_
  rintro e w4 ⟨rfl, hE⟩
  have HE4 := Lib.hid (HE3.out.trans hE)
  have HB4 := Lib.hid (HB3.out.ext hE)
  clear hE HE3 HB3
  go_wp2_with (at_builtin; refine wpList_appL encD 24 37 4 _ 32 Tryz.underlying24 info37x rfl (by decide) (by decide) (fun _ => rfl) encD_o rfl (.tmp 7) (.tmp 8) rfl w4.heap.size _ mv [⟨1, 0, ⟨3, 3⟩⟩, ⟨2, 3, ⟨3, 4⟩⟩, ⟨3, 1, ⟨3, 6⟩⟩] m rfl ?_ rfl ((HM.out.ext HE4.out).ext (Ext.al _ _)) (by have := HL.out; simp; omega) (by simp) ?_)
  · exact Own.lit (l := ([⟨1, 0, ⟨3, 3⟩⟩, ⟨2, 3, ⟨3, 4⟩⟩, ⟨3, 1, ⟨3, 6⟩⟩] : List Draw)) (fun _ => rfl) (Blk.new _ _ _) (by simp) (Nat.le_refl _) (by decide)
  intro v1 w5 hown hbel

  have hE := (show Ext w4 w5 from Below.trans (Ext.al _ _) hbel)
  have HE5 := Lib.hid (HE4.out.trans hE)
  have HB5 := Lib.hid (HB4.out.ext hE)
  have HO5 := Lib.hid hown
  have HZ4 := Lib.hid HB4.out.lt
  clear hE HE4 HB4 hown hbel
  go_wp2_with fail
  refine (weigh_any 1 480 60 90 _).mono ?_
  rintro e w6 ⟨rfl, hE⟩
  have HE6 := Lib.hid (HE5.out.trans hE)
  have HB6 := Lib.hid (HB5.out.ext hE)
  have HO6 := Lib.hid (HO5.out.ext hE)
  clear hE HE5 HB5 HO5
  go_wp2_with fail
  refine (weigh_any 2 470 40 70 _).mono ?_
  rintro e w7 ⟨rfl, hE⟩
  have HE7 := Lib.hid (HE6.out.trans hE)
  have HB7 := Lib.hid (HB6.out.ext hE)
  have HO7 := Lib.hid (HO6.out.ext hE)
  clear hE HE6 HB6 HO6

  obtain ⟨Ad, nd, cd, rfl, -, -, -⟩ := (show SlD w7 v1 (exB m).draws from HO7.out.sl (fun _ => rfl)).form
  have x0 := HB7.out.cell 0
  have x1 := HB7.out.cell 1
  have x2 := HB7.out.cell 2
  have x3 := HB7.out.cell 3
  have x4 := HB7.out.cell 4
  have x5 := HB7.out.cell 5
  have xl := HB7.out.lt
  have xf := HB7.out.frozen
  simp at x0 x1 x2 x3 x4 x5
  have hz7 := HE7.out.size
  dsimp only [valS, valD, valW]
  iterate 6 go_wp21
  refine ret_set6b HB7.out fun W ⟨b0, b1, b2, b3, b4, b5⟩ hW hN => ?_
  refine bodyPost_ret (v := valB (exB m) (.slice Ad nd cd) (.slice (some ⟨w7.heap.size, 0, none⟩) 2 2)) (by simp [results, Tryz.results18, go_sem, b0, b1, b2, b3, b4, b5, exB]) rfl ?_
  refine ⟨⟨_, rfl, _, _, rfl, ?_, ?_⟩, ext_grownP HE7.out hW (Nat.le_refl _)⟩
  · have h4 := HZ4.out
    exact own_mono (own_kept HO7.out hW h4) (Nat.le_of_lt h4)
  · exact Own.lit (l := ([⟨1, 480, ⟨60, 90⟩⟩, ⟨2, 470, ⟨40, 70⟩⟩] : List Weigh)) (fun _ => rfl) hN (by simp) hz7 (by decide)
/-- The example's bale without more draws, and with the odd one. -/
theorem bale0_any (w : World) : Calls Tryz.prog 18 #[.slice none 0 0] w fun e w' => (∃ v, e = .returned v ∧ TwinV (exB []) w.heap.size v w') ∧ Ext w w' :=
  bale_any [] _ w (Sl.nil w) (by decide)
theorem odd_any (w : World) : Calls Tryz.prog 28 #[] w fun e w' => (∃ v, e = .returned v ∧ TwinV (exB [odD]) w.heap.size v w') ∧ Ext w w' := by
  go_enter Tryz.func28, Tryz.ntmps28
  go_wp2_with fail
  refine (draw_any 4 0 5 6 _).mono ?_
  rintro e w1 ⟨rfl, hE⟩
  have HE1 := Lib.hid ((Ext.al w _).trans hE)
  have HB1 := Lib.hid ((Blk.new w 27 #[.int .i64 0, .int .i64 0, .int .i64 0, .int .i64 0, .slice none 0 0, .slice none 0 0]).ext hE)
  clear hE
  dsimp only [valD]
  go_wp2_with fail
  have hS : SlD (w1.alloc (.cells #[.int .i64 4, .int .i64 0, .int .i64 5, .int .i64 6] 37)) (.slice (some ⟨w1.heap.size, 0, none⟩) 1 1) [odD] := Own.sl (enc := encD) (sz := 4) (fun _ => rfl) (Own.lit (enc := encD) (sz := 4) (e := 37) (base := w1.heap.size) (l := [odD]) (fun _ => rfl) (Blk.new w1 37 #[.int .i64 4, .int .i64 0, .int .i64 5, .int .i64 6]) (by simp [odD]) (Nat.le_refl _) (by decide))
  refine (bale_any [odD] _ _ hS (by decide)).mono ?_
  rintro e w2 ⟨⟨v, rfl, tv⟩, hE⟩
  have hE' := (show Ext w1 w2 from (Ext.al _ _).trans hE)
  have HE2 := Lib.hid (HE1.out.trans hE')
  have HB2 := Lib.hid (HB1.out.ext hE')
  have HZ := Lib.hid (show w.heap.size < w1.heap.size from HB1.out.lt)
  obtain ⟨dv, wv, rfl, o1, o2⟩ := tv
  obtain ⟨Ad, nd, cd, rfl, -, -, -⟩ := (show SlD w2 dv (exB [odD]).draws from o1.sl (fun _ => rfl)).form
  obtain ⟨Aw, nw, cw, rfl, -, -, -⟩ := (show SlW w2 wv (exB [odD]).weighs from o2.sl (fun _ => rfl)).form
  have O1 := Lib.hid o1; have O2 := Lib.hid o2
  clear hE hE' o1 o2 hS
  have x0 := HB2.out.cell 0
  have x1 := HB2.out.cell 1
  have x2 := HB2.out.cell 2
  have x3 := HB2.out.cell 3
  have x4 := HB2.out.cell 4
  have x5 := HB2.out.cell 5
  have xl := HB2.out.lt
  have xf := HB2.out.frozen
  simp at x0 x1 x2 x3 x4 x5
  dsimp only [valB]
  iterate 6 go_wp21
  refine ret_set6 HB2.out fun W ⟨b0, b1, b2, b3, b4, b5⟩ hW => ?_
  refine bodyPost_ret (v := valB (exB [odD]) (.slice Ad nd cd) (.slice Aw nw cw)) (by simp [results, Tryz.results28, go_sem, b0, b1, b2, b3, b4, b5]) rfl ?_
  have hz := HZ.out
  exact ⟨⟨_, rfl, _, _, rfl, own_mono (own_kept O1.out hW (by simp; omega)) (by simp; omega), own_mono (own_kept O2.out hW (by simp; omega)) (by simp; omega)⟩, ext_grownP HE2.out hW (Nat.le_refl _)⟩
theorem ints_any (l : List Int) (v v' : Value) (w : World) (h : SlI w v l) (h' : SlI w v' l) : Calls Tryz.prog 25 #[v, v'] w fun e w' => e = .returned (.bool true) ∧ Ext w w' := by
  have H := Lib.hid h; have H' := Lib.hid h'
  clear h h'
  go_enter Tryz.func25, Tryz.ntmps25
  go_wp2_with fail
  refine (sameInts_any l _ _ _ H.out H'.out).mono ?_
  rintro e w1 ⟨rfl, hE⟩
  go_wp2
  go_ret
  exact ⟨rfl, hE⟩
end Go.Proofs.YtfhmfbhpehldpaaGreatDoor
/- The outright laws' ready and chosen. -/
namespace Go.Proofs.YtfhmfbhpehldpaaGreatDoor
open Go.RowKit Go.Shelf Go.Lib
set_option maxRecDepth 100000
set_option linter.unusedSimpArgs false

/-- Bytes. -/
abbrev encU (x : Int) : List Value := [.int .u8 x]
abbrev SlU (w : World) (v : Value) (l : List Int) : Prop := Sl encU 1 w v l
def Bytes (l : List Int) : Prop := ∀ x ∈ l, 0 ≤ x ∧ x ≤ 255
theorem SlU.cell {w W : World} {b off k : Nat} {x : Int} (h : ∀ W, Ext w W → ∀ j u, (encU x)[j]? = some u → W.cell? ⟨b, off + k * 1 + j, none⟩ = some u) (hW : Ext w W) : W.cell? ⟨b, off + k, none⟩ = some (.int .u8 x) := by
  simpa using h W hW 0 _ rfl

def readyB (b : Bale) : Bool := !greatB b && (valid b && okB b)
theorem ready_any (b : Bale) (dv wv : Value) (w : World) (hd : SlD w dv b.draws) (hw : SlW w wv b.weighs) :
    Calls Tryz.prog 5 #[valB b dv wv] w fun e w' => e = .returned (.bool (readyB b)) ∧ Ext w w' := by
  have HD := Lib.hid hd
  have HW := Lib.hid hw
  obtain ⟨A, n, cp, rfl, hn, hlc, hcm⟩ := hd.form
  obtain ⟨A2, n2, cp2, rfl, hn2, hlc2, hcm2⟩ := hw.form
  clear hd hw
  go_enter Tryz.func5, Tryz.ntmps5
  go_wp2_with fail
  refine (great_any b _ _ _ (HD.out.ext (Ext.al _ _)) (HW.out.ext (Ext.al _ _))).mono ?_
  rintro e w1 ⟨rfl, hE⟩
  have HE1 := Lib.hid ((Ext.al w _).trans hE)
  have HB1 := Lib.hid ((Blk.new w 27 #[.int .i64 b.id, .int .i64 b.layers, .int .i64 b.dry.lo, .int .i64 b.dry.hi, .slice A n cp, .slice A2 n2 cp2]).ext hE)
  clear hE
  cases hg : greatB b with
  | true =>
    have HG := Lib.hid hg
    clear hg
    go_wp2
    go_ret
    exact ⟨by unfold readyB; rw [HG.out]; rfl, HE1.out⟩
  | false =>
    have HG := Lib.hid hg
    clear hg
    have x0 := HB1.out.cell 0
    have x1 := HB1.out.cell 1
    have x2 := HB1.out.cell 2
    have x3 := HB1.out.cell 3
    have x4 := HB1.out.cell 4
    have x5 := HB1.out.cell 5
    have xl := HB1.out.lt
    simp at x0 x1 x2 x3 x4 x5
    go_wp2_with fail
    clear x0 x1 x2 x3 x4 x5 xl
    refine (refBale_any b _ _ _ (HD.out.ext HE1.out) (HW.out.ext HE1.out)).mono ?_
    rintro e w2 ⟨rfl, hE⟩
    rw [refValid_eq]
    have HE2 := Lib.hid (HE1.out.trans hE)
    have HB2 := Lib.hid (HB1.out.ext hE)
    clear hE HE1 HB1
    cases hv : valid b with
    | false =>
      have HV := Lib.hid hv
      clear hv
      go_wp2
      go_ret
      exact ⟨by unfold readyB; rw [HG.out, HV.out]; rfl, HE2.out⟩
    | true =>
      have HV := Lib.hid hv
      clear hv
      have x0 := HB2.out.cell 0
      have x1 := HB2.out.cell 1
      have x2 := HB2.out.cell 2
      have x3 := HB2.out.cell 3
      have x4 := HB2.out.cell 4
      have x5 := HB2.out.cell 5
      have xl := HB2.out.lt
      simp at x0 x1 x2 x3 x4 x5
      go_wp2_with fail
      clear x0 x1 x2 x3 x4 x5 xl
      refine (true_any b _ _ _ HV.out (HD.out.ext HE2.out) (HW.out.ext HE2.out)).mono ?_
      rintro e w3 ⟨rfl, hE⟩
      go_wp2
      go_ret
      exact ⟨by unfold readyB; rw [HG.out, HV.out]; rfl, HE2.out.trans hE⟩
theorem ready_len {b : Bale} (h : readyB b = true) : valid b = true ∧ okB b = true ∧ b.draws.length ≤ 20 ∧ b.weighs.length ≤ 16 := by
  unfold readyB greatB at h
  simp at h
  exact ⟨h.2.1, h.2.2, by omega, by omega⟩

def chosenTo (b : Bale) (c : List Int) (k : Nat) : List Int := (List.range k).map fun (i : Nat) => pickN (spanAt b.draws (i : Int)) c i
theorem chosenTo_succ (b : Bale) (c : List Int) (k : Nat) : chosenTo b c (k + 1) = chosenTo b c k ++ [pickN (spanAt b.draws (k : Int)) c k] := by
  unfold chosenTo; rw [List.range_succ, List.map_append]; rfl
theorem chosenTo_len (b : Bale) (c : List Int) (k : Nat) : (chosenTo b c k).length = k := by unfold chosenTo; simp

end Go.Proofs.YtfhmfbhpehldpaaGreatDoor
