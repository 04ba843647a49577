/- core.Strike. -/
import Derived.Test.YtdlipbobfgdleaaDoorPkKindOCardC
import Derived.Test.YtdlipbobfgdleaaDoorPkKindOCardD
import Derived.Test.YtdlipbobfgdleaaDoorPkKindOCardA
namespace Go.Proofs.YtdlipbobfgdleaaDoor
open Go.RowKit Go.Shelf Go.Lib
set_option maxRecDepth 100000
set_option linter.unusedSimpArgs false

def strD (b : Bale) (l k : List Int) : Bool := risingB 0 l && decide ((withB b l k).draws.length + l.length = b.draws.length)
def strW (b : Bale) (l k : List Int) : Bool := risingB 0 k && decide ((withB b l k).weighs.length + k.length = b.weighs.length)
def strikeE (b : Bale) (l k : List Int) : Int := if valid b then (if strD b l k then (if strW b l k then 0 else 34) else 33) else 30
def strikeB (b : Bale) (l k : List Int) : Bale := if strikeE b l k = 0 then withB b l k else noB

set_option maxHeartbeats 2000000 in
theorem strike_any (b : Bale) (l k : List Int) (dv wv lv kv : Value) (w : World) (hT : Tab w) (hd : SlD w dv b.draws) (hw : SlW w wv b.weighs) (hl : SlI w lv l) (hk : SlI w kv k) (hll : l.length ≤ 1000) (hkk : k.length ≤ 1000) :
    Calls Tryd.prog 52 #[valB b dv wv, lv, kv] w fun e w' => (∃ v, e = .returned (.tuple #[v, .int .i64 (strikeE b l k)]) ∧ TwinV (strikeB b l k) w.heap.size v w') ∧ Ext w w' := by
  have HT := Lib.hid hT
  have HD := Lib.hid hd
  have HW := Lib.hid hw
  have HLL := Lib.hid hll; have HKK := Lib.hid hkk
  have HL := Lib.hid hl; have HK := Lib.hid hk
  obtain ⟨A, n, cp, rfl, hn, hlc, hcm⟩ := hd.form
  obtain ⟨A2, n2, cp2, rfl, hn2, hlc2, hcm2⟩ := hw.form
  obtain ⟨A3, n3, cp3, rfl, hn3, hlc3, hcm3⟩ := hl.form
  obtain ⟨A4, n4, cp4, rfl, hn4, hlc4, hcm4⟩ := hk.form
  clear hd hw hT hl hk hll hkk
  go_enter Tryd.func52, Tryd.ntmps52
  go_wp2_with fail
  generalize hw3 : ((w.alloc (.cells #[.int .i64 b.id, .int .i64 b.layers, .int .i64 b.dry.lo, .int .i64 b.dry.hi, .slice A n cp, .slice A2 n2 cp2] 27)).alloc (.cells #[.int .i64 0, .int .i64 0, .int .i64 0, .int .i64 0, .slice none 0 0, .slice none 0 0] 27)) = w3
  have HE3 := Lib.hid (show Ext w w3 from hw3 ▸ (Ext.al _ _).alloc _)
  have HZ3 := Lib.hid (show w3.heap.size = w.heap.size + 2 by rw [← hw3]; simp)
  have HB0 := Lib.hid (show Blk w3 w.heap.size 27 #[.int .i64 b.id, .int .i64 b.layers, .int .i64 b.dry.lo, .int .i64 b.dry.hi, .slice A n cp, .slice A2 n2 cp2] from hw3 ▸ (Blk.new _ _ _).alloc _)
  have HB2 := Lib.hid (show Blk w3 (w.heap.size + 1) 27 #[.int .i64 0, .int .i64 0, .int .i64 0, .int .i64 0, .slice none 0 0, .slice none 0 0] from hw3 ▸ Blk.at_ (by simp))
  clear hw3
  refine (check_any b _ _ _ (HT.out.ext HE3.out) (HD.out.ext HE3.out) (HW.out.ext HE3.out)).mono ?_
  rintro e w4 ⟨rfl, hE4⟩
  have HE4 := Lib.hid (HE3.out.trans hE4)
  have HC0 := Lib.hid (HB0.out.ext hE4); have HC2 := Lib.hid (HB2.out.ext hE4)
  have hz4 : w3.heap.size ≤ w4.heap.size := hE4.size
  have t0 := HC2.out.cell 0
  have t1 := HC2.out.cell 1
  have t2 := HC2.out.cell 2
  have t3 := HC2.out.cell 3
  have t4 := HC2.out.cell 4
  have t5 := HC2.out.cell 5
  have tl := HC2.out.lt
  have tf := HC2.out.frozen
  have x0 := HC0.out.cell 0
  have x1 := HC0.out.cell 1
  have x2 := HC0.out.cell 2
  have x3 := HC0.out.cell 3
  have x4 := HC0.out.cell 4
  have x5 := HC0.out.cell 5
  have xl := HC0.out.lt
  simp at t0 t1 t2 t3 t4 t5 x0 x1 x2 x3 x4 x5
  clear hE4 HB0 HB2
  cases hv : valid b with
  | false =>
    have HV := Lib.hid (show strikeE b l k = 30 by unfold strikeE; rw [hv]; rfl)
    have HVB := Lib.hid (show strikeB b l k = noB by unfold strikeB; rw [HV.out]; rfl)
    clear hv
    dsimp only [errB]
    go_wp2
    refine ret_set6 HC2.out fun W' ⟨b0, b1, b2, b3, b4, b5⟩ hW => ?_
    refine bodyPost_ret (v := .tuple #[.agg #[.int .i64 0, .int .i64 0, .int .i64 0, .int .i64 0, .slice none 0 0, .slice none 0 0], .int .i64 30]) (by simp [results, Tryd.results52, go_sem, b0, b1, b2, b3, b4, b5]) rfl ?_
    exact ⟨⟨_, by rw [HV.out], by rw [HVB.out]; exact TwinV.no _ _⟩, ext_grown HE4.out hW (by omega)⟩
  | true =>
    have HV := Lib.hid hv
    have HBD := Lib.hid (valid_bds hv)
    have HNN := Lib.hid (show n ≤ 10 ∧ n2 ≤ 8 ∧ n3 ≤ 1000 ∧ n4 ≤ 1000 by have := HBD.out.nd; have := HBD.out.nw; have := hn.out; have := hn2.out; have := hn3.out; have := hn4.out; have := HLL.out; have := HKK.out; omega)
    clear hv
    dsimp only [errB]
    go_wp2_with fail
    refine (without_any b l k _ _ _ _ _ (HD.out.ext HE4.out) (HW.out.ext HE4.out) (HL.out.ext HE4.out) (HK.out.ext HE4.out) (by have := HBD.out.nd; omega) (by have := HBD.out.nw; omega)).mono ?_
    rintro e w5 ⟨⟨v, rfl, dv, wv, rfl, o1, o2⟩, hE5⟩
    obtain ⟨Ad, nd, cd, rfl, hnd, -, -⟩ := (show SlD w5 dv (withB b l k).draws from o1.sl (fun _ => rfl)).form
    obtain ⟨Aw, nw, cw, rfl, hnw, -, -⟩ := (show SlW w5 wv (withB b l k).weighs from o2.sl (fun _ => rfl)).form
    have O1 := Lib.hid o1; have O2 := Lib.hid o2; have HE5 := Lib.hid hE5
    have HD0 := Lib.hid (HC0.out.ext hE5); have HD2 := Lib.hid (HC2.out.ext hE5)
    have hz5 := hE5.size
    have HZ5 := Lib.hid (show w.heap.size + 2 ≤ w4.heap.size ∧ w4.heap.size ≤ w5.heap.size by have := HZ3.out; omega)
    have HND := Lib.hid (show nd ≤ 10 ∧ nw ≤ 8 by
      have h1 : (withB b l k).draws.length ≤ b.draws.length := List.length_filter_le _ _
      have h2 : (withB b l k).weighs.length ≤ b.weighs.length := List.length_filter_le _ _
      have := hnd.out; have := hnw.out; have := HBD.out.nd; have := HBD.out.nw; omega)
    clear o1 o2 hE5 HC0 HC2 x0 x1 x2 x3 x4 x5 xl t0 t1 t2 t3 t4 t5 tl tf hz4 hz5
    dsimp only [valB, withB]
    have x0 := HD0.out.cell 0
    have xl := HD0.out.lt
    go_wp2_with fail
    generalize hw6 : w5.alloc (.cells #[.int .i64 b.id, .int .i64 b.layers, .int .i64 b.dry.lo, .int .i64 b.dry.hi, .slice Ad nd cd, .slice Aw nw cw] 27) = w6
    have HE6 := Lib.hid (show Ext w w6 from hw6 ▸ ((HE4.out.trans HE5.out).alloc _))
    have HF0 := Lib.hid (show Blk w6 w.heap.size 27 _ from hw6 ▸ HD0.out.alloc _)
    have HF2 := Lib.hid (show Blk w6 (w.heap.size + 1) 27 _ from hw6 ▸ HD2.out.alloc _)
    have HF9 := Lib.hid (show Blk w6 w5.heap.size 27 #[.int .i64 b.id, .int .i64 b.layers, .int .i64 b.dry.lo, .int .i64 b.dry.hi, .slice Ad nd cd, .slice Aw nw cw] from hw6 ▸ Blk.new _ _ _)
    have P1 := Lib.hid (show Own encD 63 4 w6 w4.heap.size (.slice Ad nd cd) (withB b l k).draws from hw6 ▸ O1.out.alloc _)
    have P2 := Lib.hid (show Own encW 65 4 w6 w4.heap.size (.slice Aw nw cw) (withB b l k).weighs from hw6 ▸ O2.out.alloc _)
    clear hw6 HD0 HD2 O1 O2 x0 xl
    refine (rising_any l _ _ (HL.out.ext HE6.out)).mono ?_
    rintro e w7 ⟨rfl, hE7⟩
    have HE7 := Lib.hid (HE6.out.trans hE7)
    have HG0 := Lib.hid (HF0.out.ext hE7); have HG2 := Lib.hid (HF2.out.ext hE7); have HG9 := Lib.hid (HF9.out.ext hE7)
    have Q1 := Lib.hid (P1.out.ext hE7); have Q2 := Lib.hid (P2.out.ext hE7)
    clear hE7 HF0 HF2 HF9 P1 P2
    have HZ7 := Lib.hid (show w.heap.size + 2 ≤ w7.heap.size by have := HZ5.out; have := HG2.out.lt; omega)
    have y4 := HG9.out.cell 4
    have y5 := HG9.out.cell 5
    have yl := HG9.out.lt
    have hz7 := HZ7.out
    have x0 := HG0.out.cell 0
    have x1 := HG0.out.cell 1
    have x2 := HG0.out.cell 2
    have x3 := HG0.out.cell 3
    have x4 := HG0.out.cell 4
    have x5 := HG0.out.cell 5
    have xl := HG0.out.lt
    have t0 := HG2.out.cell 0
    have t1 := HG2.out.cell 1
    have t2 := HG2.out.cell 2
    have t3 := HG2.out.cell 3
    have t4 := HG2.out.cell 4
    have t5 := HG2.out.cell 5
    have tl := HG2.out.lt
    have tf := HG2.out.frozen
    simp at x0 x1 x2 x3 x4 x5 t0 t1 t2 t3 t4 t5 y4 y5
    have hwa : IntKind.i64.wrap ((nd : Int) + (n3 : Int)) = (nd : Int) + (n3 : Int) := wrap_small _ (by omega) (by have := HND.out; have := HNN.out; omega)
    by_cases hs : strD b l k = true
    · obtain ⟨hr, heq⟩ : risingB 0 l = true ∧ (nd : Int) + (n3 : Int) = (n : Int) := by
        have h := hs
        unfold strD at h
        rw [Bool.and_eq_true, decide_eq_true_eq] at h
        have := hnd.out; have := hn3.out; have := hn.out
        exact ⟨h.1, by omega⟩
      rw [hr]
      go_wp2_with fail
      refine (rising_any k _ _ (HK.out.ext HE7.out)).mono ?_
      rintro e w8 ⟨rfl, hE8⟩
      have HE8 := Lib.hid (HE7.out.trans hE8)
      have HI0 := Lib.hid (HG0.out.ext hE8); have HI2 := Lib.hid (HG2.out.ext hE8); have HI9 := Lib.hid (HG9.out.ext hE8)
      have R1 := Lib.hid (Q1.out.ext hE8); have R2 := Lib.hid (Q2.out.ext hE8)
      clear x0 x1 x2 x3 x4 x5 xl t0 t1 t2 t3 t4 t5 tl tf y4 y5 yl hwa
      have hz8 : w7.heap.size ≤ w8.heap.size := hE8.size
      clear hE8 HG0 HG2 HG9 Q1 Q2
      have y0 := HI9.out.cell 0
      have y1 := HI9.out.cell 1
      have y2 := HI9.out.cell 2
      have y3 := HI9.out.cell 3
      have y4 := HI9.out.cell 4
      have y5 := HI9.out.cell 5
      have yl := HI9.out.lt
      have x0 := HI0.out.cell 0
      have x1 := HI0.out.cell 1
      have x2 := HI0.out.cell 2
      have x3 := HI0.out.cell 3
      have x4 := HI0.out.cell 4
      have x5 := HI0.out.cell 5
      have xl := HI0.out.lt
      have t0 := HI2.out.cell 0
      have t1 := HI2.out.cell 1
      have t2 := HI2.out.cell 2
      have t3 := HI2.out.cell 3
      have t4 := HI2.out.cell 4
      have t5 := HI2.out.cell 5
      have tl := HI2.out.lt
      have tf := HI2.out.frozen
      simp at x0 x1 x2 x3 x4 x5 t0 t1 t2 t3 t4 t5 y0 y1 y2 y3 y4 y5
      have hwb : IntKind.i64.wrap ((nw : Int) + (n4 : Int)) = (nw : Int) + (n4 : Int) := wrap_small _ (by omega) (by have := HND.out; have := HNN.out; omega)
      by_cases hs2 : strW b l k = true
      · obtain ⟨hr2, heq2⟩ : risingB 0 k = true ∧ (nw : Int) + (n4 : Int) = (n2 : Int) := by
          have h := hs2
          unfold strW at h
          rw [Bool.and_eq_true, decide_eq_true_eq] at h
          have := hnw.out; have := hn4.out; have := hn2.out
          exact ⟨h.1, by omega⟩
        rw [hr2]
        have HVE := Lib.hid (show strikeE b l k = 0 by unfold strikeE; rw [HV.out, if_pos rfl, hs, hs2]; rfl)
        have HVB := Lib.hid (show strikeB b l k = withB b l k by unfold strikeB; rw [HVE.out]; rfl)
        have HZ9 := Lib.hid (show w.heap.size ≤ w4.heap.size ∧ w.heap.size + 1 < w4.heap.size by have := HZ5.out; omega)
        go_wp2
        refine ret_set6 HI2.out fun W' ⟨b0, b1, b2, b3, b4, b5⟩ hW => ?_
        refine bodyPost_ret (v := .tuple #[valB (withB b l k) (.slice Ad nd cd) (.slice Aw nw cw), .int .i64 0]) (by simp [results, Tryd.results52, go_sem, b0, b1, b2, b3, b4, b5, withB]) rfl ?_
        have hs9 := HZ9.out
        refine ⟨⟨_, by rw [HVE.out], ?_⟩, ext_grown HE8.out hW (by omega)⟩
        rw [HVB.out]
        exact ⟨_, _, rfl, own_mono (own_kept R1.out hW (by omega)) (by omega), own_mono (own_kept R2.out hW (by omega)) (by omega)⟩
      · have hs20 : strW b l k = false := by simpa using hs2
        cases hr2 : risingB 0 k with
        | false =>
          have HVE := Lib.hid (show strikeE b l k = 34 by unfold strikeE; rw [HV.out, if_pos rfl, hs, if_pos rfl, hs20]; rfl)
          have HVB := Lib.hid (show strikeB b l k = noB by unfold strikeB; rw [HVE.out]; rfl)
          go_wp2
          refine ret_set6 HI2.out fun W' ⟨b0, b1, b2, b3, b4, b5⟩ hW => ?_
          refine bodyPost_ret (v := .tuple #[.agg #[.int .i64 0, .int .i64 0, .int .i64 0, .int .i64 0, .slice none 0 0, .slice none 0 0], .int .i64 34]) (by simp [results, Tryd.results52, go_sem, b0, b1, b2, b3, b4, b5]) rfl ?_
          exact ⟨⟨_, by rw [HVE.out], by rw [HVB.out]; exact TwinV.no _ _⟩, ext_grown HE8.out hW (by omega)⟩
        | true =>
          have hne : ¬ ((nw : Int) + (n4 : Int) = (n2 : Int)) := fun h => by
            apply hs2
            unfold strW
            rw [hr2, Bool.true_and, decide_eq_true_eq, ← hnw.out, ← hn4.out, ← hn2.out]
            omega
          have HVE := Lib.hid (show strikeE b l k = 34 by unfold strikeE; rw [HV.out, if_pos rfl, hs, if_pos rfl, hs20]; rfl)
          have HVB := Lib.hid (show strikeB b l k = noB by unfold strikeB; rw [HVE.out]; rfl)
          go_wp2
          refine ret_set6 HI2.out fun W' ⟨b0, b1, b2, b3, b4, b5⟩ hW => ?_
          refine bodyPost_ret (v := .tuple #[.agg #[.int .i64 0, .int .i64 0, .int .i64 0, .int .i64 0, .slice none 0 0, .slice none 0 0], .int .i64 34]) (by simp [results, Tryd.results52, go_sem, b0, b1, b2, b3, b4, b5]) rfl ?_
          exact ⟨⟨_, by rw [HVE.out], by rw [HVB.out]; exact TwinV.no _ _⟩, ext_grown HE8.out hW (by omega)⟩
    · have hs0 : strD b l k = false := by simpa using hs
      cases hr : risingB 0 l with
      | false =>
        have HVE := Lib.hid (show strikeE b l k = 33 by unfold strikeE; rw [HV.out, if_pos rfl, hs0]; rfl)
        have HVB := Lib.hid (show strikeB b l k = noB by unfold strikeB; rw [HVE.out]; rfl)
        go_wp2
        refine ret_set6 HG2.out fun W' ⟨b0, b1, b2, b3, b4, b5⟩ hW => ?_
        refine bodyPost_ret (v := .tuple #[.agg #[.int .i64 0, .int .i64 0, .int .i64 0, .int .i64 0, .slice none 0 0, .slice none 0 0], .int .i64 33]) (by simp [results, Tryd.results52, go_sem, b0, b1, b2, b3, b4, b5]) rfl ?_
        exact ⟨⟨_, by rw [HVE.out], by rw [HVB.out]; exact TwinV.no _ _⟩, ext_grown HE7.out hW (by omega)⟩
      | true =>
        have hne : ¬ ((nd : Int) + (n3 : Int) = (n : Int)) := fun h => by
          apply hs
          unfold strD
          rw [hr, Bool.true_and, decide_eq_true_eq, ← hnd.out, ← hn3.out, ← hn.out]
          omega
        have HVE := Lib.hid (show strikeE b l k = 33 by unfold strikeE; rw [HV.out, if_pos rfl, hs0]; rfl)
        have HVB := Lib.hid (show strikeB b l k = noB by unfold strikeB; rw [HVE.out]; rfl)
        go_wp2
        refine ret_set6 HG2.out fun W' ⟨b0, b1, b2, b3, b4, b5⟩ hW => ?_
        refine bodyPost_ret (v := .tuple #[.agg #[.int .i64 0, .int .i64 0, .int .i64 0, .int .i64 0, .slice none 0 0, .slice none 0 0], .int .i64 33]) (by simp [results, Tryd.results52, go_sem, b0, b1, b2, b3, b4, b5]) rfl ?_
        exact ⟨⟨_, by rw [HVE.out], by rw [HVB.out]; exact TwinV.no _ _⟩, ext_grown HE7.out hW (by omega)⟩
end Go.Proofs.YtdlipbobfgdleaaDoor
/- The reference's Weighed: as its Put, at weighings. -/
namespace Go.Proofs.YtdlipbobfgdleaaDoor
open Go.RowKit Go.Shelf Go.Lib
set_option maxRecDepth 100000
set_option linter.unusedSimpArgs false

def spotW (l : List Weigh) (x : Weigh) : Nat := (l.takeWhile fun y => decide (y.number < x.number)).length
def insW (l : List Weigh) (x : Weigh) : List Weigh := l.take (spotW l x) ++ [x] ++ l.drop (spotW l x)
def insC (b : Bale) (x : Weigh) : Bale := ⟨b.id, b.layers, b.dry, b.draws, insW b.weighs x⟩
def refLiftE (b : Bale) (x : Weigh) : Int := if valid b then (if b.weighs.length = 8 then 9 else if valid (insC b x) then 0 else 34) else 30
def refLiftB (b : Bale) (x : Weigh) : Bale := if refLiftE b x = 0 then insC b x else noB
theorem spotW_step {l : List Weigh} {q : Nat} {x y : Weigh} (hy : l[q]? = some y) : spotW (l.drop q) x = if y.number < x.number then spotW (l.drop (q + 1)) x + 1 else 0 := by
  rw [drop_at hy]
  unfold spotW
  rw [List.takeWhile_cons]
  by_cases h : y.number < x.number <;> simp [h]

set_option maxHeartbeats 4000000 in
theorem f51_any (b : Bale) (x : Weigh) (dv wv : Value) (w : World) (hd : SlD w dv b.draws) (hw : SlW w wv b.weighs) :
    Calls Tryd.prog 51 #[valB b dv wv, valW x] w fun e w' => (∃ v, e = .returned (.tuple #[v, .int .i64 (refLiftE b x)]) ∧ TwinV (refLiftB b x) w.heap.size v w') ∧ Ext w w' := by
  have HD := Lib.hid hd
  have HW := Lib.hid hw
  obtain ⟨A2, n2, cp2, rfl, hn2, hlc2, hcm2⟩ := hd.form
  obtain ⟨A, n, cp, rfl, hn, hlc, hcm⟩ := hw.form
  clear hd hw
  dsimp only [valW]
  go_enter Tryd.func51, Tryd.ntmps51
  go_wp2_with fail
  generalize hw3 : (((w.alloc (.cells #[.int .i64 b.id, .int .i64 b.layers, .int .i64 b.dry.lo, .int .i64 b.dry.hi, .slice A2 n2 cp2, .slice A n cp] 27)).alloc (.cells #[.int .i64 x.number, .int .i64 x.pounds, .int .i64 x.damp.lo, .int .i64 x.damp.hi] 65)).alloc (.cells #[.int .i64 0, .int .i64 0, .int .i64 0, .int .i64 0, .slice none 0 0, .slice none 0 0] 27)) = w3
  have HE3 := Lib.hid (show Ext w w3 from hw3 ▸ ((Ext.al _ _).alloc _).alloc _)
  have HZ3 := Lib.hid (show w3.heap.size = w.heap.size + 3 by rw [← hw3]; simp)
  have HB0 := Lib.hid (show Blk w3 w.heap.size 27 #[.int .i64 b.id, .int .i64 b.layers, .int .i64 b.dry.lo, .int .i64 b.dry.hi, .slice A2 n2 cp2, .slice A n cp] from hw3 ▸ ((Blk.new _ _ _).alloc _).alloc _)
  have HB1 := Lib.hid (show Blk w3 (w.heap.size + 1) 65 #[.int .i64 x.number, .int .i64 x.pounds, .int .i64 x.damp.lo, .int .i64 x.damp.hi] from hw3 ▸ (Blk.at_ (by simp)).alloc _)
  have HB2 := Lib.hid (show Blk w3 (w.heap.size + 1 + 1) 27 #[.int .i64 0, .int .i64 0, .int .i64 0, .int .i64 0, .slice none 0 0, .slice none 0 0] from hw3 ▸ Blk.at_ (by simp))
  clear hw3
  refine (refBale_v b _ _ _ (HD.out.ext HE3.out) (HW.out.ext HE3.out)).mono ?_
  rintro e w4 ⟨rfl, hE4⟩
  have HE4 := Lib.hid (HE3.out.trans hE4)
  have HC0 := Lib.hid (HB0.out.ext hE4); have HC1 := Lib.hid (HB1.out.ext hE4); have HC2 := Lib.hid (HB2.out.ext hE4)
  have hz4 : w3.heap.size ≤ w4.heap.size := hE4.size
  have t0 := HC2.out.cell 0
  have t1 := HC2.out.cell 1
  have t2 := HC2.out.cell 2
  have t3 := HC2.out.cell 3
  have t4 := HC2.out.cell 4
  have t5 := HC2.out.cell 5
  have tl := HC2.out.lt
  have tf := HC2.out.frozen
  have x0 := HC0.out.cell 0
  have x1 := HC0.out.cell 1
  have x2 := HC0.out.cell 2
  have x3 := HC0.out.cell 3
  have x4 := HC0.out.cell 4
  have x5 := HC0.out.cell 5
  have xl := HC0.out.lt
  simp at t0 t1 t2 t3 t4 t5 x0 x1 x2 x3 x4 x5
  clear hE4 HB0 HB1 HB2
  cases hv : valid b with
  | false =>
    have HV := Lib.hid (show refLiftE b x = 30 by unfold refLiftE; rw [hv]; rfl)
    have HVB := Lib.hid (show refLiftB b x = noB by unfold refLiftB; rw [HV.out]; rfl)
    clear hv
    go_wp2
    refine ret_set6 HC2.out fun W' ⟨b0, b1, b2, b3, b4, b5⟩ hW => ?_
    refine bodyPost_ret (v := .tuple #[.agg #[.int .i64 0, .int .i64 0, .int .i64 0, .int .i64 0, .slice none 0 0, .slice none 0 0], .int .i64 30]) (by simp [results, Tryd.results51, go_sem, b0, b1, b2, b3, b4, b5]) rfl ?_
    exact ⟨⟨_, by rw [HV.out], by rw [HVB.out]; exact TwinV.no _ _⟩, ext_grown HE4.out hW (by omega)⟩
  | true =>
    have HV := Lib.hid hv
    have HBD := Lib.hid (valid_bds hv)
    clear hv
    by_cases h10 : n = 8
    · have HVE := Lib.hid (show refLiftE b x = 9 by unfold refLiftE; rw [HV.out, ← hn.out, h10]; rfl)
      have HVB := Lib.hid (show refLiftB b x = noB by unfold refLiftB; rw [HVE.out]; rfl)
      subst h10
      go_wp2
      refine ret_set6 HC2.out fun W' ⟨b0, b1, b2, b3, b4, b5⟩ hW => ?_
      refine bodyPost_ret (v := .tuple #[.agg #[.int .i64 0, .int .i64 0, .int .i64 0, .int .i64 0, .slice none 0 0, .slice none 0 0], .int .i64 9]) (by simp [results, Tryd.results51, go_sem, b0, b1, b2, b3, b4, b5]) rfl ?_
      exact ⟨⟨_, by rw [HVE.out], by rw [HVB.out]; exact TwinV.no _ _⟩, ext_grown HE4.out hW (by omega)⟩
    · have h10z : ¬ ((n : Int) = 8) := by omega
      have h10b : ((n : Int) == 8) = false := by simpa using h10z
      have HZ4 := Lib.hid (show w.heap.size + 3 ≤ w4.heap.size by have := HZ3.out; omega)
      have HLN := Lib.hid (show b.weighs.length = n ∧ n ≤ 8 by have := HBD.out.nw; have := hn.out; omega)
      clear t0 t1 t2 t3 t4 t5 tl tf x0 x1 x2 x3 x4 xl hz4
      go_wp2
      clear x5
      go_loopg [6] n (fun gg s6 wr => ∃ q : Nat, q ≤ n ∧ n - q ≤ gg ∧ s6 = .int .i64 (q : Int) ∧ Aside (spotW b.weighs x = q + spotW (b.weighs.drop q) x) ∧ Aside (Ext w4 wr))
      case atStart => exact ⟨0, by omega, by omega, rfl, (by show spotW b.weighs x = 0 + spotW (b.weighs.drop 0) x; simp), Ext.refl _⟩
      case round =>
        obtain ⟨q, hqn, hgq, rfl, AT, EX⟩ := hrel
        have HD0 := Lib.hid (HC0.out.ext EX.out); have HD1 := Lib.hid (HC1.out.ext EX.out)
        have m4 := fun W (h : Ext wr W) => (show W.cell? ⟨w.heap.size, 5, none⟩ = some (.slice A n cp) from (HD0.out.ext h).cell 5)
        have n0 := fun W (h : Ext wr W) => (show W.cell? ⟨w.heap.size + 1, 0, none⟩ = some (.int .i64 x.number) from (HD1.out.ext h).cell 0)
        by_cases hlt : q < n
        · have hlz : (q : Int) < (n : Int) := by omega
          have hsl : SlW wr (.slice A n cp) b.weighs := HW.out.ext (HE4.out.trans EX.out)
          obtain ⟨bb, off, y, rfl, hy, -, hyc⟩ := hsl.at_ hlt
          have cy := fun W (h : Ext wr W) => SlW.cells hyc h
          have y0 := fun W (h : Ext wr W) => (cy W h).1
          have HST := Lib.hid (spotW_step (x := x) hy)
          clear cy hyc hsl hy
          by_cases hxy : y.number < x.number
          · have HAT := Lib.hid (show spotW b.weighs x = (q + 1) + spotW (b.weighs.drop (q + 1)) x by have h1 := HST.out; rw [if_pos hxy] at h1; have := AT.out; omega)
            go_wp2_with fail
            refine wp_region_tame (fun W => Ext wr W) (fun W W' => Ext W W') (by kernel_rfl) 57 rfl (by decide +kernel) (Ext.refl _).drew ?_
            repeat (apply tame_q rfl; (intro ρ W hC hr hD; (obtain ⟨hrc, hrg, hrf, hrs⟩ := hr); (simp [go_sem] at hD); go_simp; first | exact ⟨⟨hC, Ext.refl _⟩, rfl⟩ | exact ⟨⟨hC, RS.refl _⟩, rfl⟩ | exact rfl); simp only [List.nil_append, List.cons_append])
            refine tame_end 57 rfl rfl (fun ρ W hC hr hF => ?_)
            obtain ⟨hrc, hrg, hrf, hrs⟩ := hr
            simp [go_sem] at hF
            apply frame_to
            · go_simp
              exact rfl
            have HEX := Lib.hid (EX.out.trans hC)
            clear hF hrs hrc hrg hrf hC m4 n0 y0
            go_wp2
            go_roundg (n - (q + 1))
            case measure => omega
            case rel => exact ⟨q + 1, by omega, by omega, by simp, HAT.out, HEX.out⟩
          · have HAT := Lib.hid (show q = spotW b.weighs x by have h1 := HST.out; rw [if_neg hxy] at h1; have := AT.out; omega)
            have hxd : decide (y.number < x.number) = false := by simpa using hxy
            go_wp2_with fail
            refine wp_region_tame (fun W => Ext wr W) (fun W W' => Ext W W') (by kernel_rfl) 57 rfl (by decide +kernel) (Ext.refl _).drew ?_
            repeat (apply tame_q rfl; (intro ρ W hC hr hD; (obtain ⟨hrc, hrg, hrf, hrs⟩ := hr); (simp [go_sem] at hD); go_simp; first | exact ⟨⟨hC, Ext.refl _⟩, rfl⟩ | exact ⟨⟨hC, RS.refl _⟩, rfl⟩ | exact rfl); simp only [List.nil_append, List.cons_append])
            refine tame_end 57 rfl rfl (fun ρ W hC hr hF => ?_)
            obtain ⟨hrc, hrg, hrf, hrs⟩ := hr
            simp [go_sem] at hF
            apply frame_to
            · go_simp
              exact rfl
            have HEX := Lib.hid (EX.out.trans hC)
            clear hF hrs hrc hrg hrf hC m4 n0 y0 hxd hxy
            clear HST HD0 HD1 AT EX
--T1
            have HEW := Lib.hid (HE4.out.trans HEX.out)
            have HG0 := Lib.hid (HC0.out.ext HEX.out)
            have x0 := HG0.out.cell 0
            have x1 := HG0.out.cell 1
            have x2 := HG0.out.cell 2
            have x3 := HG0.out.cell 3
            have x4 := HG0.out.cell 4
            have x5 := HG0.out.cell 5
            have xl := HG0.out.lt
            simp at x0 x1 x2 x3 x4 x5
            go_wp2_with fail
            refine (twin_any b _ _ _ (HD.out.ext HEW.out) (HW.out.ext HEW.out) (by have := HBD.out.nd; omega) (by have := HLN.out; omega)).mono ?_
            rintro e w5 ⟨⟨v, rfl, dv, wv, rfl, o1, o2⟩, hE5⟩
            obtain ⟨Ad, nd, cd, rfl, -, -, -⟩ := (show SlD w5 dv b.draws from o1.sl (fun _ => rfl)).form
            obtain ⟨Aw, nw, cw, rfl, -, -, -⟩ := (show SlW w5 wv b.weighs from o2.sl (fun _ => rfl)).form
            have O1 := Lib.hid o1; have O2 := Lib.hid o2; have HE5 := Lib.hid (HEX.out.trans hE5)
            have HH0 := Lib.hid (HG0.out.ext hE5)
            have hs5 := hE5.size
            have hsW := HEX.out.size
            have HSW := Lib.hid (show w4.heap.size ≤ W.heap.size ∧ W.heap.size ≤ w5.heap.size by omega)
            clear o1 o2 hE5 HG0 x0 x1 x2 x3 x4 x5 xl hs5 hsW
            have x0 := HH0.out.cell 0
            have xl := HH0.out.lt
            dsimp only [valB]
            go_wp2_with fail
            generalize hw6 : w5.alloc (.cells #[.int .i64 b.id, .int .i64 b.layers, .int .i64 b.dry.lo, .int .i64 b.dry.hi, .slice Ad nd cd, .slice Aw nw cw] 27) = w6
            have HE6 := Lib.hid (show Ext w w6 from hw6 ▸ ((HE4.out.trans HE5.out).alloc _))
            have HK0 := Lib.hid (show Blk w6 w.heap.size 27 _ from hw6 ▸ HH0.out.alloc _)
            have HK1 := Lib.hid (show Blk w6 (w.heap.size + 1) 65 _ from hw6 ▸ (HC1.out.ext HE5.out).alloc _)
            have HK2 := Lib.hid (show Blk w6 (w.heap.size + 1 + 1) 27 _ from hw6 ▸ (HC2.out.ext HE5.out).alloc _)
            have HK7 := Lib.hid (show Blk w6 w5.heap.size 27 #[.int .i64 b.id, .int .i64 b.layers, .int .i64 b.dry.lo, .int .i64 b.dry.hi, .slice Ad nd cd, .slice Aw nw cw] from hw6 ▸ Blk.new _ _ _)
            have P2 := Lib.hid (show Own encD 63 4 w6 W.heap.size (.slice Ad nd cd) b.draws from hw6 ▸ O1.out.alloc _)
            have hs6 : w6.heap.size = w5.heap.size + 1 := by rw [← hw6]; simp
            have HS6 := Lib.hid (show w.heap.size + 3 ≤ W.heap.size ∧ W.heap.size ≤ w5.heap.size ∧ w6.heap.size = w5.heap.size + 1 by have := HSW.out; have := HZ4.out; omega)
            have HSL6 := Lib.hid (show SlW w6 (.slice (some ⟨bb, off, none⟩) n cp) b.weighs from HW.out.ext HE6.out)
            have HTL := Lib.hid (show (b.weighs.take q).length = q by have := HLN.out; simp; omega)
            have HFL := Lib.hid (show (b.weighs.take q ++ [x] ++ b.weighs.drop q).length ≤ 1000 by have := HLN.out; simp; omega)
            clear hw6 hs6 x0 xl HH0 O1 O2 HSW
            have m4 := fun V (h : Ext w6 V) => (show V.cell? ⟨w.heap.size, 5, none⟩ = some (.slice (some ⟨bb, off, none⟩) n cp) from (HK0.out.ext h).cell 5)
            have n0 := fun V (h : Ext w6 V) => (show V.cell? ⟨w.heap.size + 1, 0, none⟩ = some (.int .i64 x.number) from (HK1.out.ext h).cell 0)
            have n1 := fun V (h : Ext w6 V) => (show V.cell? ⟨w.heap.size + 1, 1, none⟩ = some (.int .i64 x.pounds) from (HK1.out.ext h).cell 1)
            have n2 := fun V (h : Ext w6 V) => (show V.cell? ⟨w.heap.size + 1, 2, none⟩ = some (.int .i64 x.damp.lo) from (HK1.out.ext h).cell 2)
            have n3 := fun V (h : Ext w6 V) => (show V.cell? ⟨w.heap.size + 1, 3, none⟩ = some (.int .i64 x.damp.hi) from (HK1.out.ext h).cell 3)
            have hqc : (q : Int) ≤ (cp : Int) := by omega
            have hqz : (0 : Int) ≤ (q : Int) := by omega
            have hqm : (q : Int) ≤ (n : Int) := by omega
            refine wp_region_tame_cut2 (fun V => Ext w6 V) (RF encW 4 65 w6.heap.size (b.weighs.take q ++ [x] ++ b.weighs.drop q) x) (by kernel_rfl) 57 rfl _ _ rfl rfl (by decide +kernel) (by decide +kernel) (by decide +kernel) (by decide +kernel) (by decide +kernel) rfl rfl (Ext.refl _).drew ?_
            simp only [List.dropLast]
            apply tame_v rfl (NewF encW 4 65 w6.heap.size ([] : List Weigh)) (fun v V V' _ hR h => ⟨hR.2.1 [] List.nil_prefix v h.1, h.2⟩)
            · intro ρ V hC hr hD
              obtain ⟨hrc, hrg, hrf, hrs⟩ := hr
              simp [go_sem] at hD
              go_simp
              exact ⟨⟨hC.alloc _, RF.ext (Ext.al _ _)⟩, ⟨Own.new (Blk.new _ _ _) hC.size, _, 0, rfl, fun _ => rfl⟩⟩
            simp only [List.nil_append, List.cons_append]
            repeat (apply tame_q rfl; (intro ρ W hC hr hD; (obtain ⟨hrc, hrg, hrf, hrs⟩ := hr); (simp [go_sem] at hD); go_simp; first | exact ⟨⟨hC, RF.refl _⟩, rfl⟩ | exact rfl); simp only [List.nil_append, List.cons_append])
            apply tame_v rfl (NewF encW 4 65 w6.heap.size (b.weighs.take q)) (fun v V V' _ hR h => ⟨hR.2.1 _ (by rw [List.append_assoc]; exact List.prefix_append _ _) v h.1, h.2⟩)
            · intro ρ V hC hr hD
              obtain ⟨hrc, hrg, hrf, hrs⟩ := hr
              simp [go_sem] at hD
              obtain ⟨d1, d2⟩ := hD
              have hh : SlW w6 (ρ (.tmp 41)) (b.weighs.take q) := by
                rw [d2]
                exact Sl.head HSL6.out hqn
              obtain ⟨v', V', hrun, hnew, hR, hB⟩ := run_appF (t := 25) (ty := 25) (enc := encW) (sz := 4) (m := b.weighs.take q) (y := x) Tryd.underlying25 info65x rfl (by decide) (by decide) (fun _ => rfl) encW_1 d1 (F := b.weighs.take q ++ [x] ++ b.weighs.drop q) (by rw [List.nil_append, List.append_assoc]; exact List.prefix_append _ _) HFL.out hC.size (hh.ext hC)
              show opGives _ _ _ _ _ _ _
              unfold opGives execOp
              simp only [resolve, invoke, builtin, Sem.run_bind, Sem.run_pure, Result.andThen_ok, List.map_toArray, List.map_cons, List.map_nil, hrun]
              exact ⟨⟨Below.trans hC hB, hR⟩, by rw [List.nil_append] at hnew; exact hnew⟩
            simp only [List.nil_append, List.cons_append]
            repeat (apply tame_q rfl; (intro ρ W hC hr hD; (obtain ⟨hrc, hrg, hrf, hrs⟩ := hr); (simp [go_sem] at hD); go_simp; first | exact ⟨⟨hC, RF.refl _⟩, rfl⟩ | exact rfl); simp only [List.nil_append, List.cons_append])
            apply tame_v rfl (OneF encW 65 x) (fun v V V' _ hR h => by obtain ⟨g, h1, h2⟩ := h; exact ⟨g, h1, hR.2.2.1 g h2⟩)
            · intro ρ V hC hr hD
              obtain ⟨hrc, hrg, hrf, hrs⟩ := hr
              simp [go_sem] at hD
              go_simp
              exact ⟨⟨hC.alloc _, RF.ext (Ext.al _ _)⟩, ⟨_, rfl, Blk.new _ _ _⟩⟩
            simp only [List.nil_append, List.cons_append]
            apply tame_v rfl (NewF encW 4 65 w6.heap.size (b.weighs.take q ++ [x])) (fun v V V' _ hR h => ⟨hR.2.1 _ (List.prefix_append _ _) v h.1, h.2⟩)
            · intro ρ V hC hr hD
              obtain ⟨hrc, hrg, hrf, hrs⟩ := hr
              simp [go_sem] at hD
              obtain ⟨d1, ⟨g, d2, d3⟩, -⟩ := hD
              obtain ⟨v', V', hrun, hnew, hR, hB⟩ := run_appF (t := 25) (ty := 25) (enc := encW) (sz := 4) (m := [x]) (y := x) Tryd.underlying25 info65x rfl (by decide) (by decide) (fun _ => rfl) encW_1 d1 (F := b.weighs.take q ++ [x] ++ b.weighs.drop q) (List.prefix_append _ _) HFL.out hC.size (Sl.single (c := 1) d3 (Nat.le_refl _) (by decide))
              rw [← d2] at hrun
              show opGives _ _ _ _ _ _ _
              unfold opGives execOp
              simp only [resolve, invoke, builtin, Sem.run_bind, Sem.run_pure, Result.andThen_ok, List.map_toArray, List.map_cons, List.map_nil, hrun]
              exact ⟨⟨Below.trans hC hB, hR⟩, hnew⟩
            simp only [List.nil_append, List.cons_append]
            repeat (apply tame_q rfl; (intro ρ W hC hr hD; (obtain ⟨hrc, hrg, hrf, hrs⟩ := hr); (simp [go_sem] at hD); go_simp; first | exact ⟨⟨hC, RF.refl _⟩, rfl⟩ | exact rfl); simp only [List.nil_append, List.cons_append])
            apply tame_v rfl (NewF encW 4 65 w6.heap.size (b.weighs.take q ++ [x] ++ b.weighs.drop q)) (fun v V V' _ hR h => ⟨hR.2.1 _ (List.prefix_refl _) v h.1, h.2⟩)
            · intro ρ V hC hr hD
              obtain ⟨hrc, hrg, hrf, hrs⟩ := hr
              simp [go_sem] at hD
              obtain ⟨d1, d2, -⟩ := hD
              have hh : SlW w6 (ρ (.tmp 49)) (b.weighs.drop q) := by
                rw [d2]
                have hh := Sl.tail HSL6.out hqn
                simpa [sliced, Addr.add_lit] using hh
              obtain ⟨v', V', hrun, hnew, hR, hB⟩ := run_appF (t := 25) (ty := 25) (enc := encW) (sz := 4) (m := b.weighs.drop q) (y := x) Tryd.underlying25 info65x rfl (by decide) (by decide) (fun _ => rfl) encW_1 d1 (F := b.weighs.take q ++ [x] ++ b.weighs.drop q) (List.prefix_refl _) HFL.out hC.size (hh.ext hC)
              show opGives _ _ _ _ _ _ _
              unfold opGives execOp
              simp only [resolve, invoke, builtin, Sem.run_bind, Sem.run_pure, Result.andThen_ok, List.map_toArray, List.map_cons, List.map_nil, hrun]
              exact ⟨⟨Below.trans hC hB, hR⟩, hnew⟩
            simp only [List.nil_append, List.cons_append]
            refine tame_end 57 rfl rfl (fun ρ V hC hr hF => ?_)
            obtain ⟨hrc, hrg, hrf, hrs⟩ := hr
            simp [go_sem] at hF
            obtain ⟨f37, f38, f39, f40, f41, f42, f43, f44, f45, f46, f47, f48, f49, f50o, Af, cf, f50, -⟩ := hF
            rw [f50] at f50o
            have hln : (b.weighs.take q ++ x :: b.weighs.drop q).length = n + 1 := by have := HLN.out; simp; omega
            rw [hln] at f50 f50o
            have HFI := Lib.hid (show b.weighs.take q ++ x :: b.weighs.drop q = insW b.weighs x by unfold insW; rw [← HAT.out]; simp)
            rw [HFI.out] at f50o
            have HO := Lib.hid f50o
            have HEV := Lib.hid hC
            clear f37 f42 f44 f45 f49 f50o hln HTL HFL HSL6 m4 n0 n1 n2 n3
            generalize ρ (Operand.tmp 37) = v37 at *
            generalize ρ (Operand.tmp 42) = v42 at *
            generalize ρ (Operand.tmp 44) = v44 at *
            generalize ρ (Operand.tmp 45) = v45 at *
            apply frame_to
            · go_simp
              exact rfl
            clear f38 f39 f40 f41 f43 f46 f47 f48 f50 hrc hrg hrf hrs hC
            have HL7 := Lib.hid (HK7.out.ext HEV.out)
            have x0 := HL7.out.cell 0
            have x1 := HL7.out.cell 1
            have x2 := HL7.out.cell 2
            have x3 := HL7.out.cell 3
            have x4 := HL7.out.cell 4
            have x5 := HL7.out.cell 5
            have xl := HL7.out.lt
            have xf := HL7.out.frozen
            simp at x0 x1 x2 x3 x4 x5
            go_wp2_with fail
            generalize hw7 : V.setCell ⟨w5.heap.size, 5, none⟩ _ = w7
            have HG7 : V.grownBy w7 (some w5.heap.size) := hw7 ▸ grown_set (World.grownBy.refl _ _) (p := ⟨w5.heap.size, 5, none⟩) (.inl rfl) _
            have HM7 := Lib.hid (show Blk w7 w5.heap.size 27 #[.int .i64 b.id, .int .i64 b.layers, .int .i64 b.dry.lo, .int .i64 b.dry.hi, .slice Ad nd cd, .slice Af (n + 1) cf] from hw7 ▸ (by have := HL7.out.set_ 5 (.slice Af (n + 1) cf); simpa using this))
            have HM2 := Lib.hid (show Blk w7 (w.heap.size + 1 + 1) 27 _ from (HK2.out.ext HEV.out).grown HG7 (by intro e; injection e with e; have := HS6.out; omega))
            have R1 := Lib.hid (show Own encW 65 4 w7 w6.heap.size (.slice Af (n + 1) cf) (insC b x).weighs from own_off HO.out HL7.out (by decide) HG7)
            have R2 := Lib.hid (show Own encD 63 4 w7 W.heap.size (.slice Ad nd cd) (insC b x).draws from own_off (P2.out.ext HEV.out) HL7.out (by decide) HG7)
            have E7 := Lib.hid (show Ext w w7 from ext_grown (HE6.out.trans HEV.out) HG7 (by have := HS6.out; omega))
            have hs7 := HG7.size
            have hsV := HEV.out.size
            have HS7 := Lib.hid (show w.heap.size + 3 ≤ W.heap.size ∧ W.heap.size ≤ w6.heap.size ∧ w6.heap.size ≤ w7.heap.size by have := HS6.out; omega)
            clear hw7 HG7 x0 x1 x2 x3 x4 x5 xl xf hs7 hsV HK0 HK1 HK2 HK7 HL7
            refine (refBale_v (insC b x) _ _ _ (Own.sl (fun _ => rfl) R2.out) (Own.sl (fun _ => rfl) R1.out)).mono ?_
            rintro e w9 ⟨rfl, hE9⟩
            have HE9 := Lib.hid hE9
            have HK9 := Lib.hid (HM7.out.ext hE9); have HG9 := Lib.hid (HM2.out.ext hE9)
            have hz9 : w7.heap.size ≤ w9.heap.size := hE9.size
            clear hE9 HM7 HM2
            have x0 := HK9.out.cell 0
            have x1 := HK9.out.cell 1
            have x2 := HK9.out.cell 2
            have x3 := HK9.out.cell 3
            have x4 := HK9.out.cell 4
            have x5 := HK9.out.cell 5
            have xl := HK9.out.lt
            have t0 := HG9.out.cell 0
            have t1 := HG9.out.cell 1
            have t2 := HG9.out.cell 2
            have t3 := HG9.out.cell 3
            have t4 := HG9.out.cell 4
            have t5 := HG9.out.cell 5
            have tl := HG9.out.lt
            have tf := HG9.out.frozen
            simp at x0 x1 x2 x3 x4 x5 t0 t1 t2 t3 t4 t5
            have hss := HS7.out
            cases hv : valid (insC b x) with
            | false =>
              have HVE := Lib.hid (show refLiftE b x = 34 by unfold refLiftE; rw [HV.out, if_pos rfl, if_neg (by have := hn.out; omega), hv]; rfl)
              have HVB := Lib.hid (show refLiftB b x = noB by unfold refLiftB; rw [HVE.out]; rfl)
              clear hv
              go_wp2
              refine ret_set6 HG9.out fun W' ⟨b0, b1, b2, b3, b4, b5⟩ hW => ?_
              refine bodyPost_ret (v := .tuple #[.agg #[.int .i64 0, .int .i64 0, .int .i64 0, .int .i64 0, .slice none 0 0, .slice none 0 0], .int .i64 34]) (by simp [results, Tryd.results51, go_sem, b0, b1, b2, b3, b4, b5]) rfl ?_
              exact ⟨⟨_, by rw [HVE.out], by rw [HVB.out]; exact TwinV.no _ _⟩, ext_grown (E7.out.trans HE9.out) hW (by omega)⟩
            | true =>
              have HVE := Lib.hid (show refLiftE b x = 0 by unfold refLiftE; rw [HV.out, if_pos rfl, if_neg (by have := hn.out; omega), hv]; rfl)
              have HVB := Lib.hid (show refLiftB b x = insC b x by unfold refLiftB; rw [HVE.out]; rfl)
              clear hv
              go_wp2
              refine ret_set6 HG9.out fun W' ⟨b0, b1, b2, b3, b4, b5⟩ hW => ?_
              refine bodyPost_ret (v := .tuple #[valB (insC b x) (.slice Ad nd cd) (.slice Af (n + 1) cf), .int .i64 0]) (by simp [results, Tryd.results51, go_sem, b0, b1, b2, b3, b4, b5, insC]) rfl ?_
              refine ⟨⟨_, by rw [HVE.out], ?_⟩, ext_grown (E7.out.trans HE9.out) hW (by omega)⟩
              rw [HVB.out]
              exact ⟨_, _, rfl, own_mono (own_kept (R2.out.ext HE9.out) hW (by omega)) (by omega), own_mono (own_kept (R1.out.ext HE9.out) hW (by omega)) (by omega)⟩
        · have HAT := Lib.hid (show q = spotW b.weighs x by
            have h1 : b.weighs.drop q = [] := List.drop_eq_nil_of_le (by have := HLN.out; omega)
            have h2 : spotW b.weighs x = q + spotW (b.weighs.drop q) x := AT.out
            rw [h1] at h2
            exact h2.symm)
          have hlz : ¬ ((q : Int) < (n : Int)) := by omega
          go_wp2_with fail
          refine wp_region_tame (fun W => Ext wr W) (fun W W' => Ext W W') (by kernel_rfl) 57 rfl (by decide +kernel) (Ext.refl _).drew ?_
          repeat (apply tame_q rfl; (intro ρ W hC hr hD; (obtain ⟨hrc, hrg, hrf, hrs⟩ := hr); (simp [go_sem] at hD); go_simp; first | exact ⟨⟨hC, Ext.refl _⟩, rfl⟩ | exact ⟨⟨hC, RS.refl _⟩, rfl⟩ | exact rfl); simp only [List.nil_append, List.cons_append])
          refine tame_end 57 rfl rfl (fun ρ W hC hr hF => ?_)
          obtain ⟨hrc, hrg, hrf, hrs⟩ := hr
          simp [go_sem] at hF
          apply frame_to
          · go_simp
            exact rfl
          have HEX := Lib.hid (EX.out.trans hC)
          clear hF hrs hrc hrg hrf hC m4 n0
          clear HD0 HD1 AT EX
--T2
          have HEW := Lib.hid (HE4.out.trans HEX.out)
          have HG0 := Lib.hid (HC0.out.ext HEX.out)
          have x0 := HG0.out.cell 0
          have x1 := HG0.out.cell 1
          have x2 := HG0.out.cell 2
          have x3 := HG0.out.cell 3
          have x4 := HG0.out.cell 4
          have x5 := HG0.out.cell 5
          have xl := HG0.out.lt
          simp at x0 x1 x2 x3 x4 x5
          go_wp2_with fail
          refine (twin_any b _ _ _ (HD.out.ext HEW.out) (HW.out.ext HEW.out) (by have := HBD.out.nd; omega) (by have := HLN.out; omega)).mono ?_
          rintro e w5 ⟨⟨v, rfl, dv, wv, rfl, o1, o2⟩, hE5⟩
          obtain ⟨Ad, nd, cd, rfl, -, -, -⟩ := (show SlD w5 dv b.draws from o1.sl (fun _ => rfl)).form
          obtain ⟨Aw, nw, cw, rfl, -, -, -⟩ := (show SlW w5 wv b.weighs from o2.sl (fun _ => rfl)).form
          have O1 := Lib.hid o1; have O2 := Lib.hid o2; have HE5 := Lib.hid (HEX.out.trans hE5)
          have HH0 := Lib.hid (HG0.out.ext hE5)
          have hs5 := hE5.size
          have hsW := HEX.out.size
          have HSW := Lib.hid (show w4.heap.size ≤ W.heap.size ∧ W.heap.size ≤ w5.heap.size by omega)
          clear o1 o2 hE5 HG0 x0 x1 x2 x3 x4 x5 xl hs5 hsW
          have x0 := HH0.out.cell 0
          have xl := HH0.out.lt
          dsimp only [valB]
          go_wp2_with fail
          generalize hw6 : w5.alloc (.cells #[.int .i64 b.id, .int .i64 b.layers, .int .i64 b.dry.lo, .int .i64 b.dry.hi, .slice Ad nd cd, .slice Aw nw cw] 27) = w6
          have HE6 := Lib.hid (show Ext w w6 from hw6 ▸ ((HE4.out.trans HE5.out).alloc _))
          have HK0 := Lib.hid (show Blk w6 w.heap.size 27 _ from hw6 ▸ HH0.out.alloc _)
          have HK1 := Lib.hid (show Blk w6 (w.heap.size + 1) 65 _ from hw6 ▸ (HC1.out.ext HE5.out).alloc _)
          have HK2 := Lib.hid (show Blk w6 (w.heap.size + 1 + 1) 27 _ from hw6 ▸ (HC2.out.ext HE5.out).alloc _)
          have HK7 := Lib.hid (show Blk w6 w5.heap.size 27 #[.int .i64 b.id, .int .i64 b.layers, .int .i64 b.dry.lo, .int .i64 b.dry.hi, .slice Ad nd cd, .slice Aw nw cw] from hw6 ▸ Blk.new _ _ _)
          have P2 := Lib.hid (show Own encD 63 4 w6 W.heap.size (.slice Ad nd cd) b.draws from hw6 ▸ O1.out.alloc _)
          have hs6 : w6.heap.size = w5.heap.size + 1 := by rw [← hw6]; simp
          have HS6 := Lib.hid (show w.heap.size + 3 ≤ W.heap.size ∧ W.heap.size ≤ w5.heap.size ∧ w6.heap.size = w5.heap.size + 1 by have := HSW.out; have := HZ4.out; omega)
          have HSL6 := Lib.hid (show SlW w6 (.slice A n cp) b.weighs from HW.out.ext HE6.out)
          have HTL := Lib.hid (show (b.weighs.take q).length = q by have := HLN.out; simp; omega)
          have HFL := Lib.hid (show (b.weighs.take q ++ [x] ++ b.weighs.drop q).length ≤ 1000 by have := HLN.out; simp; omega)
          clear hw6 hs6 x0 xl HH0 O1 O2 HSW
          have m4 := fun V (h : Ext w6 V) => (show V.cell? ⟨w.heap.size, 5, none⟩ = some (.slice A n cp) from (HK0.out.ext h).cell 5)
          have n0 := fun V (h : Ext w6 V) => (show V.cell? ⟨w.heap.size + 1, 0, none⟩ = some (.int .i64 x.number) from (HK1.out.ext h).cell 0)
          have n1 := fun V (h : Ext w6 V) => (show V.cell? ⟨w.heap.size + 1, 1, none⟩ = some (.int .i64 x.pounds) from (HK1.out.ext h).cell 1)
          have n2 := fun V (h : Ext w6 V) => (show V.cell? ⟨w.heap.size + 1, 2, none⟩ = some (.int .i64 x.damp.lo) from (HK1.out.ext h).cell 2)
          have n3 := fun V (h : Ext w6 V) => (show V.cell? ⟨w.heap.size + 1, 3, none⟩ = some (.int .i64 x.damp.hi) from (HK1.out.ext h).cell 3)
          have hqc : (q : Int) ≤ (cp : Int) := by omega
          have hqz : (0 : Int) ≤ (q : Int) := by omega
          have hqm : (q : Int) ≤ (n : Int) := by omega
          refine wp_region_tame_cut2 (fun V => Ext w6 V) (RF encW 4 65 w6.heap.size (b.weighs.take q ++ [x] ++ b.weighs.drop q) x) (by kernel_rfl) 57 rfl _ _ rfl rfl (by decide +kernel) (by decide +kernel) (by decide +kernel) (by decide +kernel) (by decide +kernel) rfl rfl (Ext.refl _).drew ?_
          simp only [List.dropLast]
          apply tame_v rfl (NewF encW 4 65 w6.heap.size ([] : List Weigh)) (fun v V V' _ hR h => ⟨hR.2.1 [] List.nil_prefix v h.1, h.2⟩)
          · intro ρ V hC hr hD
            obtain ⟨hrc, hrg, hrf, hrs⟩ := hr
            simp [go_sem] at hD
            go_simp
            exact ⟨⟨hC.alloc _, RF.ext (Ext.al _ _)⟩, ⟨Own.new (Blk.new _ _ _) hC.size, _, 0, rfl, fun _ => rfl⟩⟩
          simp only [List.nil_append, List.cons_append]
          repeat (apply tame_q rfl; (intro ρ W hC hr hD; (obtain ⟨hrc, hrg, hrf, hrs⟩ := hr); (simp [go_sem] at hD); go_simp; first | exact ⟨⟨hC, RF.refl _⟩, rfl⟩ | exact rfl); simp only [List.nil_append, List.cons_append])
          apply tame_v rfl (NewF encW 4 65 w6.heap.size (b.weighs.take q)) (fun v V V' _ hR h => ⟨hR.2.1 _ (by rw [List.append_assoc]; exact List.prefix_append _ _) v h.1, h.2⟩)
          · intro ρ V hC hr hD
            obtain ⟨hrc, hrg, hrf, hrs⟩ := hr
            simp [go_sem] at hD
            obtain ⟨d1, d2⟩ := hD
            have hh : SlW w6 (ρ (.tmp 41)) (b.weighs.take q) := by
              rw [d2]
              exact Sl.head HSL6.out hqn
            obtain ⟨v', V', hrun, hnew, hR, hB⟩ := run_appF (t := 25) (ty := 25) (enc := encW) (sz := 4) (m := b.weighs.take q) (y := x) Tryd.underlying25 info65x rfl (by decide) (by decide) (fun _ => rfl) encW_1 d1 (F := b.weighs.take q ++ [x] ++ b.weighs.drop q) (by rw [List.nil_append, List.append_assoc]; exact List.prefix_append _ _) HFL.out hC.size (hh.ext hC)
            show opGives _ _ _ _ _ _ _
            unfold opGives execOp
            simp only [resolve, invoke, builtin, Sem.run_bind, Sem.run_pure, Result.andThen_ok, List.map_toArray, List.map_cons, List.map_nil, hrun]
            exact ⟨⟨Below.trans hC hB, hR⟩, by rw [List.nil_append] at hnew; exact hnew⟩
          simp only [List.nil_append, List.cons_append]
          repeat (apply tame_q rfl; (intro ρ W hC hr hD; (obtain ⟨hrc, hrg, hrf, hrs⟩ := hr); (simp [go_sem] at hD); go_simp; first | exact ⟨⟨hC, RF.refl _⟩, rfl⟩ | exact rfl); simp only [List.nil_append, List.cons_append])
          apply tame_v rfl (OneF encW 65 x) (fun v V V' _ hR h => by obtain ⟨g, h1, h2⟩ := h; exact ⟨g, h1, hR.2.2.1 g h2⟩)
          · intro ρ V hC hr hD
            obtain ⟨hrc, hrg, hrf, hrs⟩ := hr
            simp [go_sem] at hD
            go_simp
            exact ⟨⟨hC.alloc _, RF.ext (Ext.al _ _)⟩, ⟨_, rfl, Blk.new _ _ _⟩⟩
          simp only [List.nil_append, List.cons_append]
          apply tame_v rfl (NewF encW 4 65 w6.heap.size (b.weighs.take q ++ [x])) (fun v V V' _ hR h => ⟨hR.2.1 _ (List.prefix_append _ _) v h.1, h.2⟩)
          · intro ρ V hC hr hD
            obtain ⟨hrc, hrg, hrf, hrs⟩ := hr
            simp [go_sem] at hD
            obtain ⟨d1, ⟨g, d2, d3⟩, -⟩ := hD
            obtain ⟨v', V', hrun, hnew, hR, hB⟩ := run_appF (t := 25) (ty := 25) (enc := encW) (sz := 4) (m := [x]) (y := x) Tryd.underlying25 info65x rfl (by decide) (by decide) (fun _ => rfl) encW_1 d1 (F := b.weighs.take q ++ [x] ++ b.weighs.drop q) (List.prefix_append _ _) HFL.out hC.size (Sl.single (c := 1) d3 (Nat.le_refl _) (by decide))
            rw [← d2] at hrun
            show opGives _ _ _ _ _ _ _
            unfold opGives execOp
            simp only [resolve, invoke, builtin, Sem.run_bind, Sem.run_pure, Result.andThen_ok, List.map_toArray, List.map_cons, List.map_nil, hrun]
            exact ⟨⟨Below.trans hC hB, hR⟩, hnew⟩
          simp only [List.nil_append, List.cons_append]
          repeat (apply tame_q rfl; (intro ρ W hC hr hD; (obtain ⟨hrc, hrg, hrf, hrs⟩ := hr); (simp [go_sem] at hD); go_simp; first | exact ⟨⟨hC, RF.refl _⟩, rfl⟩ | exact rfl); simp only [List.nil_append, List.cons_append])
          apply tame_v rfl (NewF encW 4 65 w6.heap.size (b.weighs.take q ++ [x] ++ b.weighs.drop q)) (fun v V V' _ hR h => ⟨hR.2.1 _ (List.prefix_refl _) v h.1, h.2⟩)
          · intro ρ V hC hr hD
            obtain ⟨hrc, hrg, hrf, hrs⟩ := hr
            simp [go_sem] at hD
            obtain ⟨d1, d2, -⟩ := hD
            have hh : SlW w6 (ρ (.tmp 49)) (b.weighs.drop q) := by
              rw [d2]
              have hh := Sl.tail HSL6.out hqn
              simpa [sliced, Addr.add_lit] using hh
            obtain ⟨v', V', hrun, hnew, hR, hB⟩ := run_appF (t := 25) (ty := 25) (enc := encW) (sz := 4) (m := b.weighs.drop q) (y := x) Tryd.underlying25 info65x rfl (by decide) (by decide) (fun _ => rfl) encW_1 d1 (F := b.weighs.take q ++ [x] ++ b.weighs.drop q) (List.prefix_refl _) HFL.out hC.size (hh.ext hC)
            show opGives _ _ _ _ _ _ _
            unfold opGives execOp
            simp only [resolve, invoke, builtin, Sem.run_bind, Sem.run_pure, Result.andThen_ok, List.map_toArray, List.map_cons, List.map_nil, hrun]
            exact ⟨⟨Below.trans hC hB, hR⟩, hnew⟩
          simp only [List.nil_append, List.cons_append]
          refine tame_end 57 rfl rfl (fun ρ V hC hr hF => ?_)
          obtain ⟨hrc, hrg, hrf, hrs⟩ := hr
          simp [go_sem] at hF
          obtain ⟨f37, f38, f39, f40, f41, f42, f43, f44, f45, f46, f47, f48, f49, f50o, Af, cf, f50, -⟩ := hF
          rw [f50] at f50o
          have hln : (b.weighs.take q ++ x :: b.weighs.drop q).length = n + 1 := by have := HLN.out; simp; omega
          rw [hln] at f50 f50o
          have HFI := Lib.hid (show b.weighs.take q ++ x :: b.weighs.drop q = insW b.weighs x by unfold insW; rw [← HAT.out]; simp)
          rw [HFI.out] at f50o
          have HO := Lib.hid f50o
          have HEV := Lib.hid hC
          clear f37 f42 f44 f45 f49 f50o hln HTL HFL HSL6 m4 n0 n1 n2 n3
          generalize ρ (Operand.tmp 37) = v37 at *
          generalize ρ (Operand.tmp 42) = v42 at *
          generalize ρ (Operand.tmp 44) = v44 at *
          generalize ρ (Operand.tmp 45) = v45 at *
          apply frame_to
          · go_simp
            exact rfl
          clear f38 f39 f40 f41 f43 f46 f47 f48 f50 hrc hrg hrf hrs hC
          have HL7 := Lib.hid (HK7.out.ext HEV.out)
          have x0 := HL7.out.cell 0
          have x1 := HL7.out.cell 1
          have x2 := HL7.out.cell 2
          have x3 := HL7.out.cell 3
          have x4 := HL7.out.cell 4
          have x5 := HL7.out.cell 5
          have xl := HL7.out.lt
          have xf := HL7.out.frozen
          simp at x0 x1 x2 x3 x4 x5
          go_wp2_with fail
          generalize hw7 : V.setCell ⟨w5.heap.size, 5, none⟩ _ = w7
          have HG7 : V.grownBy w7 (some w5.heap.size) := hw7 ▸ grown_set (World.grownBy.refl _ _) (p := ⟨w5.heap.size, 5, none⟩) (.inl rfl) _
          have HM7 := Lib.hid (show Blk w7 w5.heap.size 27 #[.int .i64 b.id, .int .i64 b.layers, .int .i64 b.dry.lo, .int .i64 b.dry.hi, .slice Ad nd cd, .slice Af (n + 1) cf] from hw7 ▸ (by have := HL7.out.set_ 5 (.slice Af (n + 1) cf); simpa using this))
          have HM2 := Lib.hid (show Blk w7 (w.heap.size + 1 + 1) 27 _ from (HK2.out.ext HEV.out).grown HG7 (by intro e; injection e with e; have := HS6.out; omega))
          have R1 := Lib.hid (show Own encW 65 4 w7 w6.heap.size (.slice Af (n + 1) cf) (insC b x).weighs from own_off HO.out HL7.out (by decide) HG7)
          have R2 := Lib.hid (show Own encD 63 4 w7 W.heap.size (.slice Ad nd cd) (insC b x).draws from own_off (P2.out.ext HEV.out) HL7.out (by decide) HG7)
          have E7 := Lib.hid (show Ext w w7 from ext_grown (HE6.out.trans HEV.out) HG7 (by have := HS6.out; omega))
          have hs7 := HG7.size
          have hsV := HEV.out.size
          have HS7 := Lib.hid (show w.heap.size + 3 ≤ W.heap.size ∧ W.heap.size ≤ w6.heap.size ∧ w6.heap.size ≤ w7.heap.size by have := HS6.out; omega)
          clear hw7 HG7 x0 x1 x2 x3 x4 x5 xl xf hs7 hsV HK0 HK1 HK2 HK7 HL7
          refine (refBale_v (insC b x) _ _ _ (Own.sl (fun _ => rfl) R2.out) (Own.sl (fun _ => rfl) R1.out)).mono ?_
          rintro e w9 ⟨rfl, hE9⟩
          have HE9 := Lib.hid hE9
          have HK9 := Lib.hid (HM7.out.ext hE9); have HG9 := Lib.hid (HM2.out.ext hE9)
          have hz9 : w7.heap.size ≤ w9.heap.size := hE9.size
          clear hE9 HM7 HM2
          have x0 := HK9.out.cell 0
          have x1 := HK9.out.cell 1
          have x2 := HK9.out.cell 2
          have x3 := HK9.out.cell 3
          have x4 := HK9.out.cell 4
          have x5 := HK9.out.cell 5
          have xl := HK9.out.lt
          have t0 := HG9.out.cell 0
          have t1 := HG9.out.cell 1
          have t2 := HG9.out.cell 2
          have t3 := HG9.out.cell 3
          have t4 := HG9.out.cell 4
          have t5 := HG9.out.cell 5
          have tl := HG9.out.lt
          have tf := HG9.out.frozen
          simp at x0 x1 x2 x3 x4 x5 t0 t1 t2 t3 t4 t5
          have hss := HS7.out
          cases hv : valid (insC b x) with
          | false =>
            have HVE := Lib.hid (show refLiftE b x = 34 by unfold refLiftE; rw [HV.out, if_pos rfl, if_neg (by have := hn.out; omega), hv]; rfl)
            have HVB := Lib.hid (show refLiftB b x = noB by unfold refLiftB; rw [HVE.out]; rfl)
            clear hv
            go_wp2
            refine ret_set6 HG9.out fun W' ⟨b0, b1, b2, b3, b4, b5⟩ hW => ?_
            refine bodyPost_ret (v := .tuple #[.agg #[.int .i64 0, .int .i64 0, .int .i64 0, .int .i64 0, .slice none 0 0, .slice none 0 0], .int .i64 34]) (by simp [results, Tryd.results51, go_sem, b0, b1, b2, b3, b4, b5]) rfl ?_
            exact ⟨⟨_, by rw [HVE.out], by rw [HVB.out]; exact TwinV.no _ _⟩, ext_grown (E7.out.trans HE9.out) hW (by omega)⟩
          | true =>
            have HVE := Lib.hid (show refLiftE b x = 0 by unfold refLiftE; rw [HV.out, if_pos rfl, if_neg (by have := hn.out; omega), hv]; rfl)
            have HVB := Lib.hid (show refLiftB b x = insC b x by unfold refLiftB; rw [HVE.out]; rfl)
            clear hv
            go_wp2
            refine ret_set6 HG9.out fun W' ⟨b0, b1, b2, b3, b4, b5⟩ hW => ?_
            refine bodyPost_ret (v := .tuple #[valB (insC b x) (.slice Ad nd cd) (.slice Af (n + 1) cf), .int .i64 0]) (by simp [results, Tryd.results51, go_sem, b0, b1, b2, b3, b4, b5, insC]) rfl ?_
            refine ⟨⟨_, by rw [HVE.out], ?_⟩, ext_grown (E7.out.trans HE9.out) hW (by omega)⟩
            rw [HVB.out]
            exact ⟨_, _, rfl, own_mono (own_kept (R2.out.ext HE9.out) hW (by omega)) (by omega), own_mono (own_kept (R1.out.ext HE9.out) hW (by omega)) (by omega)⟩
--EE
end Go.Proofs.YtdlipbobfgdleaaDoor
/- core.Put and the reference's Put answer alike; so do the two Weighed. -/
namespace Go.Proofs.YtdlipbobfgdleaaDoor
open Go.RowKit Go.Shelf Go.Lib
set_option maxRecDepth 100000
set_option linter.unusedSimpArgs false

theorem rising_lt : ∀ (l : List Int) (last : Int), risingB last l = true → l.Pairwise (· < ·) ∧ ∀ n ∈ l, last < n
  | [], _, _ => ⟨.nil, by simp⟩
  | n :: l, last, h => by
    unfold risingB inB at h
    simp only [Bool.and_eq_true, decide_eq_true_eq] at h
    obtain ⟨h1, h2⟩ := rising_lt l n h.2
    refine ⟨List.Pairwise.cons h2 h1, fun m hm => ?_⟩
    rcases List.mem_cons.1 hm with rfl | hm
    · omega
    · have := h2 m hm; omega
--DD
theorem valid_draws {b : Bale} (h : valid b = true) : (b.draws.map (·.number)).Pairwise (· < ·) := by
  unfold valid chk2 at h
  simp only [Bool.and_eq_true] at h
  exact (rising_lt _ _ h.2.1.1.2).1
theorem ins_unequal {l : List Draw} {x : Draw} {k : Nat} (hp : ((l.take k ++ x :: l.drop k).map (·.number)).Pairwise (· < ·)) : ∀ y ∈ l, y.number ≠ x.number := by
  rw [List.map_append, List.map_cons, List.pairwise_append] at hp
  obtain ⟨_, h2, h3⟩ := hp
  rw [List.pairwise_cons] at h2
  intro y hy
  rw [← List.take_append_drop k l, List.mem_append] at hy
  rcases hy with hy | hy
  · have := h3 y.number (List.mem_map_of_mem hy) x.number (by simp); omega
  · have := h2.1 y.number (List.mem_map_of_mem hy); omega
theorem stop_of {S T U : List Draw} {x : Draw} (hS : S = T ++ U) (hT : ∀ y ∈ T, y.number < x.number) (hU : ∀ y ∈ U, x.number < y.number) : ∀ i, i ≤ U.length → stopD S x (T.length + i) = T.length
  | 0, _ => by
    cases hl : T.length with
    | zero => rfl
    | succ m =>
      have hm : m < T.length := by omega
      rw [Nat.add_zero, stopD, hS, List.getElem?_append_left hm, List.getElem?_eq_getElem hm]
      simp only
      rw [if_neg (by have := hT T[m] (List.getElem_mem hm); omega)]
  | i + 1, h => by
    have hi : i < U.length := by omega
    rw [← Nat.add_assoc, stopD, hS, List.getElem?_append_right (by omega), Nat.add_sub_cancel_left, List.getElem?_eq_getElem hi]
    simp only
    rw [if_pos (hU U[i] (List.getElem_mem hi)), ← hS]
    exact stop_of hS hT hU i (by omega)
theorem sort_prefix {l : List Draw} (hp : (l.map (·.number)).Pairwise (· < ·)) (x : Draw) : ∀ k, k ≤ l.length → sortD (l ++ [x]) k = l.take k
  | 0, _ => by simp [sortD]
  | k + 1, h => by
    have hk : k < l.length := by omega
    have ih := sort_prefix hp x k (by omega)
    have hlen : (l.take k).length = k := by simp; omega
    have hs := stop_of (S := l.take k) (T := l.take k) (U := []) (x := l[k]) (by simp) (fun y hy => by
      obtain ⟨i, hi, rfl⟩ := List.mem_iff_getElem.1 hy
      rw [hlen] at hi
      have := List.pairwise_iff_getElem.1 hp i k (by simp; omega) (by simp; omega) hi
      simpa using this) (by simp) 0 (by simp)
    rw [hlen, Nat.add_zero] at hs
    rw [sortD, List.getElem?_append_left hk, List.getElem?_eq_getElem hk]
    simp only
    rw [ih, hs, putD, List.take_of_length_le (by omega), List.drop_eq_nil_of_le (by omega), List.take_add_one, List.getElem?_eq_getElem hk]
    rfl
theorem take_lt (x : Draw) : ∀ (l : List Draw), ∀ y ∈ l.takeWhile (fun y => decide (y.number < x.number)), y.number < x.number
  | [], y, h => by simp at h
  | a :: r, y, h => by
    rw [List.takeWhile_cons] at h
    split at h
    · rename_i ha
      rcases List.mem_cons.1 h with rfl | h
      · simpa using ha
      · exact take_lt x r y h
    · simp at h
theorem drop_gt (x : Draw) : ∀ (l : List Draw), (l.map (·.number)).Pairwise (· < ·) → (∀ y ∈ l, y.number ≠ x.number) → ∀ y ∈ l.dropWhile (fun y => decide (y.number < x.number)), x.number < y.number
  | [], _, _, y, h => by simp at h
  | a :: r, hp, hne, y, h => by
    rw [List.map_cons, List.pairwise_cons] at hp
    rw [List.dropWhile_cons] at h
    split at h
    · exact drop_gt x r hp.2 (fun z hz => hne z (List.mem_cons_of_mem _ hz)) y h
    · rename_i ha
      have h1 : x.number < a.number := by
        have := hne a (by simp)
        simp at ha
        omega
      rcases List.mem_cons.1 h with rfl | h
      · exact h1
      · have := hp.1 y.number (List.mem_map_of_mem h); omega
theorem sort_ins {l : List Draw} {x : Draw} (hp : (l.map (·.number)).Pairwise (· < ·)) (hne : ∀ y ∈ l, y.number ≠ x.number) : sortD (l ++ [x]) (l.length + 1) = insD l x := by
  have hs := stop_of (S := l) (x := x) (List.takeWhile_append_dropWhile (p := fun y => decide (y.number < x.number)) (l := l)).symm (take_lt x l) (drop_gt x l hp hne) _ (Nat.le_refl _)
  rw [← List.length_append, List.takeWhile_append_dropWhile] at hs
  rw [sortD, List.getElem?_append_right (Nat.le_refl _), Nat.sub_self]
  simp only [List.getElem?_cons_zero]
  rw [sort_prefix hp x _ (Nat.le_refl _), List.take_of_length_le (Nat.le_refl _), hs]
  unfold putD insD spotD
  simp
theorem sort_put (l : List Draw) (hp : (l.map (·.number)).Pairwise (· < ·)) (x : Draw) : ∃ k, sortD (l ++ [x]) (l.length + 1) = l.take k ++ x :: l.drop k := by
  refine ⟨stopD l x l.length, ?_⟩
  rw [sortD, List.getElem?_append_right (Nat.le_refl _), Nat.sub_self]
  simp only [List.getElem?_cons_zero]
  rw [sort_prefix hp x _ (Nat.le_refl _), List.take_of_length_le (Nat.le_refl _)]
  rfl
theorem put_law (b : Bale) (x : Draw) : putE b x = refPutE b x ∧ putB b x = refPutB b x := by
  have key : valid b = true → b.draws.length ≠ 10 → (valid (withD b x) = false ∧ valid (insB b x) = false) ∨ withD b x = insB b x := by
    intro hv _
    have hp := valid_draws hv
    by_cases hne : ∀ y ∈ b.draws, y.number ≠ x.number
    · exact .inr (by unfold withD insB; rw [sort_ins hp hne])
    · refine .inl ⟨?_, ?_⟩
      · cases h : valid (withD b x) with
        | false => rfl
        | true =>
          have h2 := valid_draws h
          obtain ⟨k, hk⟩ := sort_put b.draws hp x
          have h3 : (withD b x).draws = b.draws.take k ++ x :: b.draws.drop k := hk
          rw [h3] at h2
          exact absurd (ins_unequal h2) hne
      · cases h : valid (insB b x) with
        | false => rfl
        | true =>
          have h2 := valid_draws h
          have h3 : (insB b x).draws = b.draws.take (spotD b.draws x) ++ x :: b.draws.drop (spotD b.draws x) := by unfold insB insD; simp
          rw [h3] at h2
          exact absurd (ins_unequal h2) hne
  have hE : putE b x = refPutE b x := by
    unfold putE refPutE
    split
    · rename_i hv
      split
      · rfl
      · rename_i h10
        rcases key hv h10 with ⟨h1, h2⟩ | h
        · rw [h1, h2]
        · rw [h]
    · rfl
  refine ⟨hE, ?_⟩
  unfold putB refPutB
  rw [hE]
  split
  · rename_i h0
    unfold refPutE at h0
    split at h0
    · rename_i hv
      split at h0
      · cases h0
      · rename_i h10
        rcases key hv h10 with ⟨h1, h2⟩ | h
        · rw [h2] at h0; cases h0
        · exact h
    · cases h0
  · rfl
--WW
theorem valid_weighs {b : Bale} (h : valid b = true) : (b.weighs.map (·.number)).Pairwise (· < ·) := by
  unfold valid chk2 at h
  simp only [Bool.and_eq_true] at h
  exact (rising_lt _ _ h.2.1.2).1
theorem ins_unequalW {l : List Weigh} {x : Weigh} {k : Nat} (hp : ((l.take k ++ x :: l.drop k).map (·.number)).Pairwise (· < ·)) : ∀ y ∈ l, y.number ≠ x.number := by
  rw [List.map_append, List.map_cons, List.pairwise_append] at hp
  obtain ⟨_, h2, h3⟩ := hp
  rw [List.pairwise_cons] at h2
  intro y hy
  rw [← List.take_append_drop k l, List.mem_append] at hy
  rcases hy with hy | hy
  · have := h3 y.number (List.mem_map_of_mem hy) x.number (by simp); omega
  · have := h2.1 y.number (List.mem_map_of_mem hy); omega
theorem stop_ofW {S T U : List Weigh} {x : Weigh} (hS : S = T ++ U) (hT : ∀ y ∈ T, y.number < x.number) (hU : ∀ y ∈ U, x.number < y.number) : ∀ i, i ≤ U.length → stopW S x (T.length + i) = T.length
  | 0, _ => by
    cases hl : T.length with
    | zero => rfl
    | succ m =>
      have hm : m < T.length := by omega
      rw [Nat.add_zero, stopW, hS, List.getElem?_append_left hm, List.getElem?_eq_getElem hm]
      simp only
      rw [if_neg (by have := hT T[m] (List.getElem_mem hm); omega)]
  | i + 1, h => by
    have hi : i < U.length := by omega
    rw [← Nat.add_assoc, stopW, hS, List.getElem?_append_right (by omega), Nat.add_sub_cancel_left, List.getElem?_eq_getElem hi]
    simp only
    rw [if_pos (hU U[i] (List.getElem_mem hi)), ← hS]
    exact stop_ofW hS hT hU i (by omega)
theorem sort_prefixW {l : List Weigh} (hp : (l.map (·.number)).Pairwise (· < ·)) (x : Weigh) : ∀ k, k ≤ l.length → sortW (l ++ [x]) k = l.take k
  | 0, _ => by simp [sortW]
  | k + 1, h => by
    have hk : k < l.length := by omega
    have ih := sort_prefixW hp x k (by omega)
    have hlen : (l.take k).length = k := by simp; omega
    have hs := stop_ofW (S := l.take k) (T := l.take k) (U := []) (x := l[k]) (by simp) (fun y hy => by
      obtain ⟨i, hi, rfl⟩ := List.mem_iff_getElem.1 hy
      rw [hlen] at hi
      have := List.pairwise_iff_getElem.1 hp i k (by simp; omega) (by simp; omega) hi
      simpa using this) (by simp) 0 (by simp)
    rw [hlen, Nat.add_zero] at hs
    rw [sortW, List.getElem?_append_left hk, List.getElem?_eq_getElem hk]
    simp only
    rw [ih, hs, putW, List.take_of_length_le (by omega), List.drop_eq_nil_of_le (by omega), List.take_add_one, List.getElem?_eq_getElem hk]
    rfl
theorem take_ltW (x : Weigh) : ∀ (l : List Weigh), ∀ y ∈ l.takeWhile (fun y => decide (y.number < x.number)), y.number < x.number
  | [], y, h => by simp at h
  | a :: r, y, h => by
    rw [List.takeWhile_cons] at h
    split at h
    · rename_i ha
      rcases List.mem_cons.1 h with rfl | h
      · simpa using ha
      · exact take_ltW x r y h
    · simp at h
theorem drop_gtW (x : Weigh) : ∀ (l : List Weigh), (l.map (·.number)).Pairwise (· < ·) → (∀ y ∈ l, y.number ≠ x.number) → ∀ y ∈ l.dropWhile (fun y => decide (y.number < x.number)), x.number < y.number
  | [], _, _, y, h => by simp at h
  | a :: r, hp, hne, y, h => by
    rw [List.map_cons, List.pairwise_cons] at hp
    rw [List.dropWhile_cons] at h
    split at h
    · exact drop_gtW x r hp.2 (fun z hz => hne z (List.mem_cons_of_mem _ hz)) y h
    · rename_i ha
      have h1 : x.number < a.number := by
        have := hne a (by simp)
        simp at ha
        omega
      rcases List.mem_cons.1 h with rfl | h
      · exact h1
      · have := hp.1 y.number (List.mem_map_of_mem h); omega
theorem sort_insW {l : List Weigh} {x : Weigh} (hp : (l.map (·.number)).Pairwise (· < ·)) (hne : ∀ y ∈ l, y.number ≠ x.number) : sortW (l ++ [x]) (l.length + 1) = insW l x := by
  have hs := stop_ofW (S := l) (x := x) (List.takeWhile_append_dropWhile (p := fun y => decide (y.number < x.number)) (l := l)).symm (take_ltW x l) (drop_gtW x l hp hne) _ (Nat.le_refl _)
  rw [← List.length_append, List.takeWhile_append_dropWhile] at hs
  rw [sortW, List.getElem?_append_right (Nat.le_refl _), Nat.sub_self]
  simp only [List.getElem?_cons_zero]
  rw [sort_prefixW hp x _ (Nat.le_refl _), List.take_of_length_le (Nat.le_refl _), hs]
  unfold putW insW spotW
  simp
theorem sort_putW (l : List Weigh) (hp : (l.map (·.number)).Pairwise (· < ·)) (x : Weigh) : ∃ k, sortW (l ++ [x]) (l.length + 1) = l.take k ++ x :: l.drop k := by
  refine ⟨stopW l x l.length, ?_⟩
  rw [sortW, List.getElem?_append_right (Nat.le_refl _), Nat.sub_self]
  simp only [List.getElem?_cons_zero]
  rw [sort_prefixW hp x _ (Nat.le_refl _), List.take_of_length_le (Nat.le_refl _)]
  rfl
theorem lift_law (b : Bale) (x : Weigh) : liftE b x = refLiftE b x ∧ liftB b x = refLiftB b x := by
  have key : valid b = true → b.weighs.length ≠ 8 → (valid (withX b x) = false ∧ valid (insC b x) = false) ∨ withX b x = insC b x := by
    intro hv _
    have hp := valid_weighs hv
    by_cases hne : ∀ y ∈ b.weighs, y.number ≠ x.number
    · exact .inr (by unfold withX insC; rw [sort_insW hp hne])
    · refine .inl ⟨?_, ?_⟩
      · cases h : valid (withX b x) with
        | false => rfl
        | true =>
          have h2 := valid_weighs h
          obtain ⟨k, hk⟩ := sort_putW b.weighs hp x
          have h3 : (withX b x).weighs = b.weighs.take k ++ x :: b.weighs.drop k := hk
          rw [h3] at h2
          exact absurd (ins_unequalW h2) hne
      · cases h : valid (insC b x) with
        | false => rfl
        | true =>
          have h2 := valid_weighs h
          have h3 : (insC b x).weighs = b.weighs.take (spotW b.weighs x) ++ x :: b.weighs.drop (spotW b.weighs x) := by unfold insC insW; simp
          rw [h3] at h2
          exact absurd (ins_unequalW h2) hne
  have hE : liftE b x = refLiftE b x := by
    unfold liftE refLiftE
    split
    · rename_i hv
      split
      · rfl
      · rename_i h10
        rcases key hv h10 with ⟨h1, h2⟩ | h
        · rw [h1, h2]
        · rw [h]
    · rfl
  refine ⟨hE, ?_⟩
  unfold liftB refLiftB
  rw [hE]
  split
  · rename_i h0
    unfold refLiftE at h0
    split at h0
    · rename_i hv
      split at h0
      · cases h0
      · rename_i h10
        rcases key hv h10 with ⟨h1, h2⟩ | h
        · rw [h2] at h0; cases h0
        · exact h
    · cases h0
  · rfl
end Go.Proofs.YtdlipbobfgdleaaDoor
/- The reference's numbers, listed and Strike. -/
namespace Go.Proofs.YtdlipbobfgdleaaDoor
open Go.RowKit Go.Shelf Go.Lib
set_option maxRecDepth 100000
set_option linter.unusedSimpArgs false

set_option maxHeartbeats 1000000 in
theorem numbers_any (b : Bale) (dv wv : Value) (w : World) (hd : SlD w dv b.draws) (hw : SlW w wv b.weighs) (hlen : b.draws.length < 1000000) (hlen2 : b.weighs.length < 1000000) :
    Calls Tryd.prog 119 #[valB b dv wv] w fun e w' => (∃ v1 v2, e = .returned (.tuple #[v1, v2]) ∧ SlI w' v1 (b.draws.map (·.number)) ∧ SlI w' v2 (b.weighs.map (·.number))) ∧ Ext w w' := by
  have HD := Lib.hid hd; have HW := Lib.hid hw
  obtain ⟨A, n, cp, rfl, hn, hlc, hcm⟩ := hd.form
  obtain ⟨A2, n2, cp2, rfl, hn2, hlc2, hcm2⟩ := hw.form
  have HNN := Lib.hid (show n < 1000000 ∧ n2 < 1000000 by have := hn.out; have := hn2.out; omega)
  clear hd hw hlen hlen2
  go_enter Tryd.func119, Tryd.ntmps119
  go_wp2_with fail
  generalize hw1 : w.alloc (.cells #[.int .i64 b.id, .int .i64 b.layers, .int .i64 b.dry.lo, .int .i64 b.dry.hi, .slice A n cp, .slice A2 n2 cp2] 27) = w1
  have HE1 := Lib.hid (show Ext w w1 from hw1 ▸ Ext.al _ _)
  have HB1 := Lib.hid (show Blk w1 w.heap.size 27 #[.int .i64 b.id, .int .i64 b.layers, .int .i64 b.dry.lo, .int .i64 b.dry.hi, .slice A n cp, .slice A2 n2 cp2] from hw1 ▸ Blk.new _ _ _)
  have x4 := HB1.out.cell 4
  have xl := HB1.out.lt
  simp at x4
  clear hw1
  go_wp2
  go_loopg [4, 13] n (fun gg v s wr => ∃ kk : Nat, kk ≤ n ∧ n - kk ≤ gg ∧ s = .int .i64 kk ∧ Aside (OwnI wr w1.heap.size v ((b.draws.take kk).map (·.number))) ∧ Aside (Ext w1 wr))
  case atStart => exact ⟨0, Nat.zero_le _, by omega, rfl, World.ownsRow_nil _ _ _ _, Ext.refl _⟩
  case round =>
    obtain ⟨kk, hkk, hg, rfl, OW, BW⟩ := hrel
    have hsz : w1.heap.size ≤ wr.heap.size := BW.out.size
    by_cases hlt : kk < n
    · have hltz : (kk : Int) < (n : Int) := by omega
      obtain ⟨bb, off, x, rfl, hx, hb, hcell⟩ := (show SlD wr _ b.draws from HD.out.ext (HE1.out.trans BW.out)).at_ hlt
      obtain ⟨c0, c1, c2, c3⟩ := SlD.cells hcell (Ext.refl _)
      have HL := Lib.hid (show (b.draws.take kk).length = kk by have := hn.out; rw [List.length_take]; omega)
      have HX := Lib.hid (show b.draws.take (kk + 1) = b.draws.take kk ++ [x] by rw [List.take_add_one, hx]; rfl)
      clear hx hcell
      go_wp2_with (at_builtin; refine wpList_app_i rfl (.tmp 17) (.tmp 20) rfl w1.heap.size _ ((b.draws.take kk).map (·.number)) rfl ((OW.out.alloc _).alloc _) (wr.heap.size + 1) x.number rfl (by simp [go_sem]) (by rw [List.length_map, HL.out]; have := HNN.out; omega) (by simp; omega) ?_)
      intro g cap w' hown hg2 hbel _
      have HO := Lib.hid hown; clear hown
      have HE := Lib.hid (show Ext w1 w' from Below.trans ((BW.out.alloc _).alloc _) hbel); clear hbel
      go_wp2
      go_roundg (n - (kk + 1))
      case measure => omega
      case rel => exact ⟨kk + 1, by omega, by omega, by simp, by
        have := HO.out
        show OwnI w' w1.heap.size _ _
        rw [show (b.draws.take (kk + 1)).map (·.number) = (b.draws.take kk).map (·.number) ++ [x.number] from by rw [HX.out]; simp]
        simpa [List.length_map, HL.out] using this, HE.out⟩
    · have HS1 := Lib.hid (show SlI wr _ (b.draws.map (·.number)) by have := OW.out.sl; rwa [List.take_of_length_le (by have := hn.out; omega)] at this)
      have HEO := Lib.hid (HE1.out.trans BW.out)
      have HBO := Lib.hid (HB1.out.ext BW.out)
      have x5 := HBO.out.cell 5
      have xl2 := HBO.out.lt
      simp at x5
      clear x4 xl OW
      obtain ⟨wo, hwo⟩ : ∃ wo : World, wo = wr := ⟨_, rfl⟩
      subst hwo
      go_wp2
      go_loopg [5, 26] n2 (fun gg v s wr => ∃ kk : Nat, kk ≤ n2 ∧ n2 - kk ≤ gg ∧ s = .int .i64 kk ∧ Aside (OwnI wr wo.heap.size v ((b.weighs.take kk).map (·.number))) ∧ Aside (Ext wo wr))
      case atStart => exact ⟨0, Nat.zero_le _, by omega, rfl, World.ownsRow_nil _ _ _ _, Ext.refl _⟩
      case round =>
        obtain ⟨kk, hkk, hg, rfl, OW, BW2⟩ := hrel
        have hsz : wo.heap.size ≤ wr.heap.size := BW2.out.size
        by_cases hlt : kk < n2
        · have hltz : (kk : Int) < (n2 : Int) := by omega
          obtain ⟨bb, off, x, rfl, hx, hb, hcell⟩ := (show SlW wr _ b.weighs from HW.out.ext (HEO.out.trans BW2.out)).at_ hlt
          obtain ⟨c0, c1, c2, c3⟩ := SlW.cells hcell (Ext.refl _)
          have HL := Lib.hid (show (b.weighs.take kk).length = kk by have := hn2.out; rw [List.length_take]; omega)
          have HX := Lib.hid (show b.weighs.take (kk + 1) = b.weighs.take kk ++ [x] by rw [List.take_add_one, hx]; rfl)
          clear hx hcell
          go_wp2_with (at_builtin; refine wpList_app_i rfl (.tmp 30) (.tmp 33) rfl wo.heap.size _ ((b.weighs.take kk).map (·.number)) rfl ((OW.out.alloc _).alloc _) (wr.heap.size + 1) x.number rfl (by simp [go_sem]) (by rw [List.length_map, HL.out]; have := HNN.out; omega) (by simp; omega) ?_)
          intro g cap w' hown hg2 hbel _
          have HO := Lib.hid hown; clear hown
          have HE := Lib.hid (show Ext wo w' from Below.trans ((BW2.out.alloc _).alloc _) hbel); clear hbel
          go_wp2
          go_roundg (n2 - (kk + 1))
          case measure => omega
          case rel => exact ⟨kk + 1, by omega, by omega, by simp, by
            have := HO.out
            show OwnI w' wo.heap.size _ _
            rw [show (b.weighs.take (kk + 1)).map (·.number) = (b.weighs.take kk).map (·.number) ++ [x.number] from by rw [HX.out]; simp]
            simpa [List.length_map, HL.out] using this, HE.out⟩
        · have HS2 := Lib.hid (show SlI wr _ (b.weighs.map (·.number)) by have := OW.out.sl; rwa [List.take_of_length_le (by have := hn2.out; omega)] at this)
          go_wp2
          refine bodyPost_ret (v := .tuple #[_, _]) (by simp [results, Tryd.results119, go_sem]; exact ⟨rfl, rfl⟩) rfl ?_
          exact ⟨⟨_, _, rfl, HS1.out.ext BW2.out, HS2.out⟩, HEO.out.trans BW2.out⟩
end Go.Proofs.YtdlipbobfgdleaaDoor
/- The reference's listed. -/
namespace Go.Proofs.YtdlipbobfgdleaaDoor
open Go.RowKit Go.Shelf Go.Lib
set_option maxRecDepth 100000
set_option linter.unusedSimpArgs false

/-- Number i of the list stands on the whole list, above the one before. -/
def okL (l all : List Int) (i : Nat) : Bool := (all.any fun y => decide (l.getD i 0 = y)) && (decide (i = 0) || decide (l.getD (i - 1) 0 < l.getD i 0))
def listedB (l all : List Int) : Bool := (List.range l.length).all (okL l all)

set_option maxHeartbeats 1000000 in
theorem listed_any (l all : List Int) (lv av : Value) (w : World) (hl : SlI w lv l) (ha : SlI w av all) (hlen : l.length ≤ 1000) :
    Calls Tryd.prog 120 #[lv, av] w fun e w' => e = .returned (.bool (listedB l all)) ∧ Ext w w' := by
  have HL := Lib.hid hl; have HA := Lib.hid ha
  obtain ⟨A, n, cp, rfl, hn, hlc, hcm⟩ := hl.form
  obtain ⟨A2, n2, cp2, rfl, hn2, hlc2, hcm2⟩ := ha.form
  have HNN := Lib.hid (show n ≤ 1000 by have := hn.out; omega)
  clear hl ha hlen
  go_enter Tryd.func120, Tryd.ntmps120
  go_wp2
  go_loopg [9] n (fun gg s wr => ∃ kk : Nat, kk ≤ n ∧ n - kk ≤ gg ∧ s = .int .i64 kk ∧ Aside (∀ j, j < kk → okL l all j = true) ∧ Aside (Ext w wr))
  case atStart => exact ⟨0, Nat.zero_le _, by omega, rfl, fun _ h => absurd h (Nat.not_lt_zero _), Ext.refl _⟩
  case round =>
    obtain ⟨kk, hkk, hg, rfl, OK, BW⟩ := hrel
    by_cases hlt : kk < n
    · have hltz : (kk : Int) < (n : Int) := by omega
      have hsl : SlI wr (.slice A n cp) l := HL.out.ext BW.out
      obtain ⟨bb, off, x, rfl, hx, hb, hcell⟩ := hsl.at_ hlt
      have c0 := SlI.cell hcell (Ext.refl _)
      have hgx : l.getD kk 0 = x := by rw [List.getD_eq_getElem?_getD, hx]; rfl
      have HGX := Lib.hid hgx
      have HLN := Lib.hid (show kk < l.length by have := hn.out; omega)
      have bad : okL l all kk = false → listedB l all = false := fun h => by
        unfold listedB
        rw [List.all_eq_false]
        exact ⟨kk, by simpa using HLN.out, by simp [h]⟩
      have HBAD := Lib.hid bad
      clear bad hgx
      go_wp2_with fail
      refine (has_any all _ x _ (HA.out.ext BW.out)).mono ?_
      rintro e w2 ⟨rfl, hE⟩
      have HE := Lib.hid (BW.out.trans hE)
      cases hh : (all.any fun y => decide (x = y)) with
      | false =>
        have HF := Lib.hid (HBAD.out (by unfold okL; rw [HGX.out, hh]; rfl))
        go_wp2
        go_ret
        exact ⟨by rw [HF.out]; rfl, HE.out⟩
      | true =>
        have HH := Lib.hid hh
        by_cases h0 : kk = 0
        · have HOK := Lib.hid (show okL l all kk = true by unfold okL; rw [HGX.out, HH.out, h0]; rfl)
          subst h0
          go_wp2
          go_roundg (n - (0 + 1))
          case measure => omega
          case rel => exact ⟨0 + 1, by omega, by omega, by simp, (fun j hj => by obtain rfl : j = 0 := by omega
                                                                                 exact HOK.out), HE.out⟩
        · obtain ⟨m, hm⟩ : ∃ m, kk = m + 1 := ⟨kk - 1, by omega⟩
          have hmn : m < n := by omega
          obtain ⟨bb', off', y, e1, hy, -, hyc⟩ := hsl.at_ hmn
          injection e1 with e1
          injection e1 with e1 e2 _
          subst e1 e2
          have d0 := SlI.cell hyc hE
          have hgy : l.getD (kk - 1) 0 = y := by rw [hm, Nat.add_sub_cancel, List.getD_eq_getElem?_getD, hy]; rfl
          have HGY := Lib.hid hgy
          have hkz : (0 : Int) < (kk : Int) := by omega
          have hjs : (kk : Int) - 1 = (m : Int) := by omega
          have hwm : IntKind.i64.wrap (m : Int) = (m : Int) := wrap_nat (by have := HNN.out; omega)
          have hmz : (m : Int) < (n : Int) := by omega
          clear hy hyc hgy hsl hcell hm
          by_cases hyx : x ≤ y
          · have HF := Lib.hid (HBAD.out (by unfold okL; rw [HGX.out, HGY.out, HH.out]; simp; omega))
            go_wp2
            go_ret
            exact ⟨by rw [HF.out]; rfl, HE.out⟩
          · have HOK := Lib.hid (show okL l all kk = true by unfold okL; rw [HGX.out, HGY.out, HH.out]; simp; omega)
            go_wp2
            go_roundg (n - (kk + 1))
            case measure => omega
            case rel => exact ⟨kk + 1, by omega, by omega, by simp, (fun j hj => by
              rcases Nat.lt_or_ge j kk with h | h
              · exact OK.out j h
              · obtain rfl : j = kk := by omega
                exact HOK.out), HE.out⟩
    · have HF := Lib.hid (show listedB l all = true by
        unfold listedB
        rw [List.all_eq_true]
        intro i hi
        exact OK.out i (by have := hn.out; simp at hi; omega))
      go_wp2
      go_ret
      exact ⟨by rw [HF.out]; rfl, BW.out⟩
end Go.Proofs.YtdlipbobfgdleaaDoor
/- The reference's Strike. -/
namespace Go.Proofs.YtdlipbobfgdleaaDoor
open Go.RowKit Go.Shelf Go.Lib
set_option maxRecDepth 100000
set_option linter.unusedSimpArgs false

def refStrE (b : Bale) (l k : List Int) : Int := if valid b then (if listedB l (b.draws.map (·.number)) then (if listedB k (b.weighs.map (·.number)) then 0 else 34) else 33) else 30
def refStrB (b : Bale) (l k : List Int) : Bale := if refStrE b l k = 0 then withB b l k else noB

set_option maxHeartbeats 2000000 in
theorem refStrike_any (b : Bale) (l k : List Int) (dv wv lv kv : Value) (w : World) (hd : SlD w dv b.draws) (hw : SlW w wv b.weighs) (hl : SlI w lv l) (hk : SlI w kv k) (hll : l.length ≤ 1000) (hkk : k.length ≤ 1000) :
    Calls Tryd.prog 53 #[valB b dv wv, lv, kv] w fun e w' => (∃ v, e = .returned (.tuple #[v, .int .i64 (refStrE b l k)]) ∧ TwinV (refStrB b l k) w.heap.size v w') ∧ Ext w w' := by
  have HD := Lib.hid hd
  have HW := Lib.hid hw
  have HLL := Lib.hid hll; have HKK := Lib.hid hkk
  have HL := Lib.hid hl; have HK := Lib.hid hk
  obtain ⟨A, n, cp, rfl, hn, hlc, hcm⟩ := hd.form
  obtain ⟨A2, n2, cp2, rfl, hn2, hlc2, hcm2⟩ := hw.form
  obtain ⟨A3, n3, cp3, rfl, hn3, hlc3, hcm3⟩ := hl.form
  obtain ⟨A4, n4, cp4, rfl, hn4, hlc4, hcm4⟩ := hk.form
  clear hd hw hl hk hll hkk
  go_enter Tryd.func53, Tryd.ntmps53
  go_wp2_with fail
  generalize hw3 : ((w.alloc (.cells #[.int .i64 b.id, .int .i64 b.layers, .int .i64 b.dry.lo, .int .i64 b.dry.hi, .slice A n cp, .slice A2 n2 cp2] 27)).alloc (.cells #[.int .i64 0, .int .i64 0, .int .i64 0, .int .i64 0, .slice none 0 0, .slice none 0 0] 27)) = w3
  have HE3 := Lib.hid (show Ext w w3 from hw3 ▸ (Ext.al _ _).alloc _)
  have HZ3 := Lib.hid (show w3.heap.size = w.heap.size + 2 by rw [← hw3]; simp)
  have HB0 := Lib.hid (show Blk w3 w.heap.size 27 #[.int .i64 b.id, .int .i64 b.layers, .int .i64 b.dry.lo, .int .i64 b.dry.hi, .slice A n cp, .slice A2 n2 cp2] from hw3 ▸ (Blk.new _ _ _).alloc _)
  have HB2 := Lib.hid (show Blk w3 (w.heap.size + 1) 27 #[.int .i64 0, .int .i64 0, .int .i64 0, .int .i64 0, .slice none 0 0, .slice none 0 0] from hw3 ▸ Blk.at_ (by simp))
  clear hw3
  refine (refBale_v b _ _ _ (HD.out.ext HE3.out) (HW.out.ext HE3.out)).mono ?_
  rintro e w4 ⟨rfl, hE4⟩
  have HE4 := Lib.hid (HE3.out.trans hE4)
  have HC0 := Lib.hid (HB0.out.ext hE4); have HC2 := Lib.hid (HB2.out.ext hE4)
  have hz4 : w3.heap.size ≤ w4.heap.size := hE4.size
  have t0 := HC2.out.cell 0
  have t1 := HC2.out.cell 1
  have t2 := HC2.out.cell 2
  have t3 := HC2.out.cell 3
  have t4 := HC2.out.cell 4
  have t5 := HC2.out.cell 5
  have tl := HC2.out.lt
  have tf := HC2.out.frozen
  have x0 := HC0.out.cell 0
  have x1 := HC0.out.cell 1
  have x2 := HC0.out.cell 2
  have x3 := HC0.out.cell 3
  have x4 := HC0.out.cell 4
  have x5 := HC0.out.cell 5
  have xl := HC0.out.lt
  simp at t0 t1 t2 t3 t4 t5 x0 x1 x2 x3 x4 x5
  clear hE4 HB0 HB2
  cases hv : valid b with
  | false =>
    have HV := Lib.hid (show refStrE b l k = 30 by unfold refStrE; rw [hv]; rfl)
    have HVB := Lib.hid (show refStrB b l k = noB by unfold refStrB; rw [HV.out]; rfl)
    clear hv
    go_wp2
    refine ret_set6 HC2.out fun W' ⟨b0, b1, b2, b3, b4, b5⟩ hW => ?_
    refine bodyPost_ret (v := .tuple #[.agg #[.int .i64 0, .int .i64 0, .int .i64 0, .int .i64 0, .slice none 0 0, .slice none 0 0], .int .i64 30]) (by simp [results, Tryd.results53, go_sem, b0, b1, b2, b3, b4, b5]) rfl ?_
    exact ⟨⟨_, by rw [HV.out], by rw [HVB.out]; exact TwinV.no _ _⟩, ext_grown HE4.out hW (by omega)⟩
  | true =>
    have HV := Lib.hid hv
    have HBD := Lib.hid (valid_bds hv)
    have HNN := Lib.hid (show n ≤ 10 ∧ n2 ≤ 8 ∧ n3 ≤ 1000 ∧ n4 ≤ 1000 by have := HBD.out.nd; have := HBD.out.nw; have := hn.out; have := hn2.out; have := hn3.out; have := hn4.out; have := HLL.out; have := HKK.out; omega)
    clear hv
    go_wp2_with fail
    refine (numbers_any b _ _ _ (HD.out.ext HE4.out) (HW.out.ext HE4.out) (by have := HBD.out.nd; omega) (by have := HBD.out.nw; omega)).mono ?_
    rintro e w5 ⟨⟨v1, v2, rfl, hs1, hs2⟩, hE⟩
    have HE5 := Lib.hid (HE4.out.trans hE)
    have HD0 := Lib.hid (HC0.out.ext hE); have HD2 := Lib.hid (HC2.out.ext hE)
    have hzw5 : w4.heap.size ≤ w5.heap.size := hE.size
    clear x0 x1 x2 x3 x4 x5 xl t0 t1 t2 t3 t4 t5 tl tf
    have x0 := HD0.out.cell 0
    have x1 := HD0.out.cell 1
    have x2 := HD0.out.cell 2
    have x3 := HD0.out.cell 3
    have x4 := HD0.out.cell 4
    have x5 := HD0.out.cell 5
    have xl := HD0.out.lt
    have t0 := HD2.out.cell 0
    have t1 := HD2.out.cell 1
    have t2 := HD2.out.cell 2
    have t3 := HD2.out.cell 3
    have t4 := HD2.out.cell 4
    have t5 := HD2.out.cell 5
    have tl := HD2.out.lt
    have tf := HD2.out.frozen
    simp at x0 x1 x2 x3 x4 x5 t0 t1 t2 t3 t4 t5
    have HS1 := Lib.hid hs1; have HS2 := Lib.hid hs2
    clear hs1 hs2 hE
    go_wp2_with fail
    refine (listed_any l (b.draws.map (·.number)) _ _ _ (HL.out.ext HE5.out) HS1.out (by have := HLL.out; omega)).mono ?_
    rintro e w6 ⟨rfl, hE⟩
    have HE6 := Lib.hid (HE5.out.trans hE)
    have HF0 := Lib.hid (HD0.out.ext hE); have HF2 := Lib.hid (HD2.out.ext hE)
    have hzw6 : w5.heap.size ≤ w6.heap.size := hE.size
    clear x0 x1 x2 x3 x4 x5 xl t0 t1 t2 t3 t4 t5 tl tf
    have x0 := HF0.out.cell 0
    have x1 := HF0.out.cell 1
    have x2 := HF0.out.cell 2
    have x3 := HF0.out.cell 3
    have x4 := HF0.out.cell 4
    have x5 := HF0.out.cell 5
    have xl := HF0.out.lt
    have t0 := HF2.out.cell 0
    have t1 := HF2.out.cell 1
    have t2 := HF2.out.cell 2
    have t3 := HF2.out.cell 3
    have t4 := HF2.out.cell 4
    have t5 := HF2.out.cell 5
    have tl := HF2.out.lt
    have tf := HF2.out.frozen
    simp at x0 x1 x2 x3 x4 x5 t0 t1 t2 t3 t4 t5
    have HS3 := Lib.hid (HS2.out.ext hE)
    clear hE
    cases h1 : listedB l (b.draws.map (·.number)) with
    | false =>
      have HVE := Lib.hid (show refStrE b l k = 33 by unfold refStrE; rw [HV.out, if_pos rfl, h1]; rfl)
      have HVB := Lib.hid (show refStrB b l k = noB by unfold refStrB; rw [HVE.out]; rfl)
      go_wp2
      refine ret_set6 HF2.out fun W' ⟨b0, b1, b2, b3, b4, b5⟩ hW => ?_
      refine bodyPost_ret (v := .tuple #[.agg #[.int .i64 0, .int .i64 0, .int .i64 0, .int .i64 0, .slice none 0 0, .slice none 0 0], .int .i64 33]) (by simp [results, Tryd.results53, go_sem, b0, b1, b2, b3, b4, b5]) rfl ?_
      exact ⟨⟨_, by rw [HVE.out], by rw [HVB.out]; exact TwinV.no _ _⟩, ext_grown HE6.out hW (by omega)⟩
    | true =>
      go_wp2_with fail
      refine (listed_any k (b.weighs.map (·.number)) _ _ _ (HK.out.ext HE6.out) HS3.out (by have := HKK.out; omega)).mono ?_
      rintro e w7 ⟨rfl, hE⟩
      have HE7 := Lib.hid (HE6.out.trans hE)
      have HG0 := Lib.hid (HF0.out.ext hE); have HG2 := Lib.hid (HF2.out.ext hE)
      have hzw7 : w6.heap.size ≤ w7.heap.size := hE.size
      clear x0 x1 x2 x3 x4 x5 xl t0 t1 t2 t3 t4 t5 tl tf
      have x0 := HG0.out.cell 0
      have x1 := HG0.out.cell 1
      have x2 := HG0.out.cell 2
      have x3 := HG0.out.cell 3
      have x4 := HG0.out.cell 4
      have x5 := HG0.out.cell 5
      have xl := HG0.out.lt
      have t0 := HG2.out.cell 0
      have t1 := HG2.out.cell 1
      have t2 := HG2.out.cell 2
      have t3 := HG2.out.cell 3
      have t4 := HG2.out.cell 4
      have t5 := HG2.out.cell 5
      have tl := HG2.out.lt
      have tf := HG2.out.frozen
      simp at x0 x1 x2 x3 x4 x5 t0 t1 t2 t3 t4 t5
      clear hE
      cases h2 : listedB k (b.weighs.map (·.number)) with
      | false =>
        have HVE := Lib.hid (show refStrE b l k = 34 by unfold refStrE; rw [HV.out, if_pos rfl, h1, if_pos rfl, h2]; rfl)
        have HVB := Lib.hid (show refStrB b l k = noB by unfold refStrB; rw [HVE.out]; rfl)
        go_wp2
        refine ret_set6 HG2.out fun W' ⟨b0, b1, b2, b3, b4, b5⟩ hW => ?_
        refine bodyPost_ret (v := .tuple #[.agg #[.int .i64 0, .int .i64 0, .int .i64 0, .int .i64 0, .slice none 0 0, .slice none 0 0], .int .i64 34]) (by simp [results, Tryd.results53, go_sem, b0, b1, b2, b3, b4, b5]) rfl ?_
        exact ⟨⟨_, by rw [HVE.out], by rw [HVB.out]; exact TwinV.no _ _⟩, ext_grown HE7.out hW (by omega)⟩
      | true =>
        have HVE := Lib.hid (show refStrE b l k = 0 by unfold refStrE; rw [HV.out, if_pos rfl, h1, if_pos rfl, h2]; rfl)
        have HVB := Lib.hid (show refStrB b l k = withB b l k by unfold refStrB; rw [HVE.out]; rfl)
        have hz3 := HZ3.out
        have HZ9 := Lib.hid (show w.heap.size + 2 ≤ w7.heap.size by omega)
        clear hz3
        go_wp2_with fail
        refine (refWithout_any b l k _ _ _ _ _ (HD.out.ext HE7.out) (HW.out.ext HE7.out) (HL.out.ext HE7.out) (HK.out.ext HE7.out) (by have := HBD.out.nd; omega) (by have := HBD.out.nw; omega)).mono ?_
        rintro e w8 ⟨⟨v, rfl, dv, wv, rfl, o1, o2⟩, hE⟩
        have HE8 := Lib.hid (HE7.out.trans hE)
        have HI0 := Lib.hid (HG0.out.ext hE); have HI2 := Lib.hid (HG2.out.ext hE)
        have hzw8 : w7.heap.size ≤ w8.heap.size := hE.size
        clear x0 x1 x2 x3 x4 x5 xl t0 t1 t2 t3 t4 t5 tl tf
        have x0 := HI0.out.cell 0
        have x1 := HI0.out.cell 1
        have x2 := HI0.out.cell 2
        have x3 := HI0.out.cell 3
        have x4 := HI0.out.cell 4
        have x5 := HI0.out.cell 5
        have xl := HI0.out.lt
        have t0 := HI2.out.cell 0
        have t1 := HI2.out.cell 1
        have t2 := HI2.out.cell 2
        have t3 := HI2.out.cell 3
        have t4 := HI2.out.cell 4
        have t5 := HI2.out.cell 5
        have tl := HI2.out.lt
        have tf := HI2.out.frozen
        simp at x0 x1 x2 x3 x4 x5 t0 t1 t2 t3 t4 t5
        have O1 := Lib.hid o1; have O2 := Lib.hid o2
        obtain ⟨Ad, nd, cd, rfl, -, -, -⟩ := (show SlD w8 dv (withB b l k).draws from o1.sl (fun _ => rfl)).form
        obtain ⟨Aw, nw, cw, rfl, -, -, -⟩ := (show SlW w8 wv (withB b l k).weighs from o2.sl (fun _ => rfl)).form
        clear o1 o2 hE
        dsimp only [valB, withB]
        go_wp2
        refine ret_set6 HI2.out fun W' ⟨b0, b1, b2, b3, b4, b5⟩ hW => ?_
        refine bodyPost_ret (v := .tuple #[valB (withB b l k) (.slice Ad nd cd) (.slice Aw nw cw), .int .i64 0]) (by simp [results, Tryd.results53, go_sem, b0, b1, b2, b3, b4, b5, withB]) rfl ?_
        have hs9 := HZ9.out
        refine ⟨⟨_, by rw [HVE.out], ?_⟩, ext_grown HE8.out hW (by omega)⟩
        rw [HVB.out]
        exact ⟨_, _, rfl, own_mono (own_kept O1.out hW (by omega)) (by omega), own_mono (own_kept O2.out hW (by omega)) (by omega)⟩
end Go.Proofs.YtdlipbobfgdleaaDoor
