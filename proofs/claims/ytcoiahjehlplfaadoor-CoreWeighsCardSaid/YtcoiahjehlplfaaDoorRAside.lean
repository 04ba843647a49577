/- The reference's Aside. -/
import Derived.Test.YtcoiahjehlplfaaDoorSides
namespace Go.Proofs.YtcoiahjehlplfaaDoor
open Go.RowKit Go.Shelf
set_option maxRecDepth 100000
set_option linter.unusedSimpArgs false

def asideOf (plain : Int) (surely never : Bool) : Int := if plain = 0 ∨ surely = true then 2 else if plain = 2 ∧ never = true then 0 else 1
def asideR (b : Bale) (damp : Int) : Int := if askE b (inB 0 200 damp) 35 = 0 then asideOf (kindK (kindS b) 1) (surelyR b damp) (neverR b damp) else 0
theorem kindK_cases (s : S4) (k : Int) : kindK s k = 0 ∨ kindK s k = 1 ∨ kindK s k = 2 := by unfold kindK; split; split; all_goals simp

set_option maxHeartbeats 4000000 in
theorem refAside_any (b : Bale) (damp : Int) (dv wv : Value) (w : World) (hd : SlD w dv b.draws) (hw : SlW w wv b.weighs) :
    Calls Tryd.prog 29 #[valB b dv wv, .int .i64 damp] w fun e w' => e = .returned (.tuple #[.int .u8 (asideR b damp), .int .i64 (askE b (inB 0 200 damp) 35)]) ∧ Ext w w' := by
  have HD := Lib.hid hd
  have HW := Lib.hid hw
  obtain ⟨A, n, cp, rfl, hn, hlc, hcm⟩ := hd.form
  obtain ⟨A2, n2, cp2, rfl, hn2, hlc2, hcm2⟩ := hw.form
  clear hd hw
  go_enter Tryd.func29, Tryd.ntmps29
  go_wp2_with fail
  refine (refBale_v b _ _ _ (HD.out.ext (Ext.al _ _)) (HW.out.ext (Ext.al _ _))).mono ?_
  rintro e w1 ⟨rfl, hE⟩
  obtain ⟨hc, hf, hz, HE⟩ := hE.use
  have HE1 := Lib.hid ((Ext.al w _).trans HE.out)
  have HBX := Lib.hid ((Blk.at_ (t := 27) (cs := #[.int .i64 b.id, .int .i64 b.layers, .int .i64 b.dry.lo, .int .i64 b.dry.hi, .slice A n cp, .slice A2 n2 cp2]) (w := w) (g := w.heap.size) rfl).ext hE)
  cases hv : valid b with
  | false =>
    have hE : askE b (inB 0 200 damp) 35 = 30 := by unfold askE; rw [hv]; rfl
    have HK := Lib.hid (show asideR b damp = 0 by unfold asideR; rw [hE]; rfl)
    have HA := Lib.hid hE; clear hE hv
    go_wp2
    refine bodyPost_ret (v := .tuple #[.int .u8 0, .int .i64 30]) (by simp [results, Tryd.results29, go_sem]) rfl ?_
    exact ⟨by rw [HK.out, HA.out], HE1.out⟩
  | true =>
    have HV := Lib.hid hv; clear hv
    generalize hi : inB 0 200 damp = q
    have HI := Lib.hid hi; clear hi
    go_wp2_with fail
    refine (within_any damp 0 200 _).mono ?_
    rintro e w' ⟨rfl, rfl⟩
    rw [HI.out]
    cases q with
    | false =>
      have hE : askE b (inB 0 200 damp) 35 = 35 := by unfold askE; rw [HV.out, HI.out]; rfl
      have HK := Lib.hid (show asideR b damp = 0 by unfold asideR; rw [hE]; rfl)
      have HA := Lib.hid hE; clear hE
      go_wp2
      refine bodyPost_ret (v := .tuple #[.int .u8 0, .int .i64 35]) (by simp [results, Tryd.results29, go_sem]) rfl ?_
      exact ⟨by rw [HK.out, HA.out], HE1.out⟩
    | true =>
      have HA := Lib.hid (askE_true HV.out 35)
      have HA2 := Lib.hid (show askE b (inB 1 4 1) 32 = askE b true 0 by rw [show inB 1 4 1 = true by decide]; exact askE_true HV.out 32)
      go_wp2_with fail
      refine (refKind_any b 1 _ _ _ (HD.out.ext HE1.out) (HW.out.ext HE1.out)).mono ?_
      rintro e w2 ⟨rfl, hE2⟩
      have HE2 := Lib.hid (HE1.out.trans hE2)
      have HBX2 := Lib.hid (HBX.out.ext hE2)
      rw [HA2.out]
      clear hc hf hE2
      have x0 := HBX2.out.cell 0
      have x1 := HBX2.out.cell 1
      have x2 := HBX2.out.cell 2
      have x3 := HBX2.out.cell 3
      have x4 := HBX2.out.cell 4
      have x5 := HBX2.out.cell 5
      simp at x0 x1 x2 x3 x4 x5
      by_cases hz9 : askE b true 0 = 0
      · have HP := Lib.hid (show kindB b 1 = kindK (kindS b) 1 by unfold kindB; rw [HA2.out, if_pos hz9])
        have HK := Lib.hid (show asideR b damp = asideOf (kindK (kindS b) 1) (surelyR b damp) (neverR b damp) by unfold asideR; rw [HI.out, HA.out, if_pos hz9])
        have HZ := Lib.hid hz9
        rw [hz9, HP.out]
        have hkc := kindK_cases (kindS b) 1
        generalize kindK (kindS b) 1 = pl at *
        clear hz9
        go_wp2_with fail
        refine (sides_any b damp _ _ _ HV.out (HD.out.ext HE2.out) (HW.out.ext HE2.out)).mono ?_
        rintro e w3 ⟨rfl, hE3⟩
        have HE3 := Lib.hid (HE2.out.trans hE3)
        clear hE3 x0 x1 x2 x3 x4 x5
        generalize surelyR b damp = su at *
        generalize neverR b damp = ne at *
        rcases hkc with rfl | rfl | rfl <;> cases su <;> cases ne
        · go_wp2
          refine bodyPost_ret (v := .tuple #[.int .u8 (asideOf 0 false false), .int .i64 0]) (by simp [results, Tryd.results29, go_sem, asideOf]) rfl ?_
          exact ⟨by rw [HK.out, HI.out, HA.out, HZ.out], HE3.out⟩
        · go_wp2
          refine bodyPost_ret (v := .tuple #[.int .u8 (asideOf 0 false true), .int .i64 0]) (by simp [results, Tryd.results29, go_sem, asideOf]) rfl ?_
          exact ⟨by rw [HK.out, HI.out, HA.out, HZ.out], HE3.out⟩
        · go_wp2
          refine bodyPost_ret (v := .tuple #[.int .u8 (asideOf 0 true false), .int .i64 0]) (by simp [results, Tryd.results29, go_sem, asideOf]) rfl ?_
          exact ⟨by rw [HK.out, HI.out, HA.out, HZ.out], HE3.out⟩
        · go_wp2
          refine bodyPost_ret (v := .tuple #[.int .u8 (asideOf 0 true true), .int .i64 0]) (by simp [results, Tryd.results29, go_sem, asideOf]) rfl ?_
          exact ⟨by rw [HK.out, HI.out, HA.out, HZ.out], HE3.out⟩
        · go_wp2
          refine bodyPost_ret (v := .tuple #[.int .u8 (asideOf 1 false false), .int .i64 0]) (by simp [results, Tryd.results29, go_sem, asideOf]) rfl ?_
          exact ⟨by rw [HK.out, HI.out, HA.out, HZ.out], HE3.out⟩
        · go_wp2
          refine bodyPost_ret (v := .tuple #[.int .u8 (asideOf 1 false true), .int .i64 0]) (by simp [results, Tryd.results29, go_sem, asideOf]) rfl ?_
          exact ⟨by rw [HK.out, HI.out, HA.out, HZ.out], HE3.out⟩
        · go_wp2
          refine bodyPost_ret (v := .tuple #[.int .u8 (asideOf 1 true false), .int .i64 0]) (by simp [results, Tryd.results29, go_sem, asideOf]) rfl ?_
          exact ⟨by rw [HK.out, HI.out, HA.out, HZ.out], HE3.out⟩
        · go_wp2
          refine bodyPost_ret (v := .tuple #[.int .u8 (asideOf 1 true true), .int .i64 0]) (by simp [results, Tryd.results29, go_sem, asideOf]) rfl ?_
          exact ⟨by rw [HK.out, HI.out, HA.out, HZ.out], HE3.out⟩
        · go_wp2
          refine bodyPost_ret (v := .tuple #[.int .u8 (asideOf 2 false false), .int .i64 0]) (by simp [results, Tryd.results29, go_sem, asideOf]) rfl ?_
          exact ⟨by rw [HK.out, HI.out, HA.out, HZ.out], HE3.out⟩
        · go_wp2
          refine bodyPost_ret (v := .tuple #[.int .u8 (asideOf 2 false true), .int .i64 0]) (by simp [results, Tryd.results29, go_sem, asideOf]) rfl ?_
          exact ⟨by rw [HK.out, HI.out, HA.out, HZ.out], HE3.out⟩
        · go_wp2
          refine bodyPost_ret (v := .tuple #[.int .u8 (asideOf 2 true false), .int .i64 0]) (by simp [results, Tryd.results29, go_sem, asideOf]) rfl ?_
          exact ⟨by rw [HK.out, HI.out, HA.out, HZ.out], HE3.out⟩
        · go_wp2
          refine bodyPost_ret (v := .tuple #[.int .u8 (asideOf 2 true true), .int .i64 0]) (by simp [results, Tryd.results29, go_sem, asideOf]) rfl ?_
          exact ⟨by rw [HK.out, HI.out, HA.out, HZ.out], HE3.out⟩
      · have HK := Lib.hid (show asideR b damp = 0 by unfold asideR; rw [HI.out, HA.out, if_neg hz9])
        generalize hE9 : askE b true 0 = E at hz9
        have HE9 := Lib.hid hE9; clear hE9
        go_wp2
        refine bodyPost_ret (v := .tuple #[.int .u8 0, .int .i64 E]) (by simp [results, Tryd.results29, go_sem]) rfl ?_
        exact ⟨by rw [HK.out, HI.out, HA.out, HE9.out], HE2.out⟩
end Go.Proofs.YtcoiahjehlplfaaDoor
