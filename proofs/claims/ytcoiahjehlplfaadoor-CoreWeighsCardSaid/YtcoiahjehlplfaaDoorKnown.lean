/- core.Known and the reference's. -/
import Derived.Test.YtcoiahjehlplfaaDoorWetLaw
namespace Go.Proofs.YtcoiahjehlplfaaDoor
open Go.RowKit Go.Shelf
set_option maxRecDepth 100000
set_option linter.unusedSimpArgs false

def knownOf (s : Span) (E damp : Int) : Int := if E = 0 then (if damp < s.lo then 2 else if damp < s.hi then 1 else 0) else 0

set_option maxHeartbeats 1000000 in
theorem known_any (b : Bale) (number damp : Int) (dv wv : Value) (w : World) (hT : Tab w) (hd : SlD w dv b.draws) (hw : SlW w wv b.weighs) (hlen : b.weighs.length < 1000000) :
    Calls Tryd.prog 26 #[valB b dv wv, .int .i64 number, .int .i64 damp] w fun e w' => e = .returned (.tuple #[.int .u8 (knownOf (wetB b number) (askE b (decide (0 ≤ wIdx b number)) 6) damp), .int .i64 (askE b (decide (0 ≤ wIdx b number)) 6)]) ∧ Ext w w' := by
  have HT := Lib.hid hT
  have HD := Lib.hid hd
  have HW := Lib.hid hw
  obtain ⟨A, n, cp, rfl, hn, hlc, hcm⟩ := hd.form
  obtain ⟨A2, n2, cp2, rfl, hn2, hlc2, hcm2⟩ := hw.form
  clear hd hw hT
  go_enter Tryd.func26, Tryd.ntmps26
  go_wp2_with fail
  refine (wet_any b number _ _ _ (HT.out.ext (Ext.al _ _)) (HD.out.ext (Ext.al _ _)) (HW.out.ext (Ext.al _ _)) hlen).mono ?_
  rintro e w1 ⟨rfl, hE⟩
  have HE := Lib.hid ((Ext.al w _).trans hE)
  clear hE
  show _
  generalize hs : wetB b number = s
  generalize hq : askE b (decide (0 ≤ wIdx b number)) 6 = E
  have HS := Lib.hid hs; have HQ := Lib.hid hq; clear hs hq
  obtain ⟨lo, hi⟩ := s
  dsimp only [valS]
  by_cases h0 : E = 0
  · subst h0
    by_cases h1 : damp < lo
    · have HK := Lib.hid (show knownOf ⟨lo, hi⟩ 0 damp = 2 by unfold knownOf; rw [if_pos rfl, if_pos h1])
      go_wp2
      refine bodyPost_ret (v := .tuple #[.int .u8 2, .int .i64 0]) (by simp [results, Tryd.results26, go_sem]) rfl ?_
      exact ⟨by rw [HS.out, HQ.out, HK.out], HE.out.alloc _⟩
    · by_cases h2 : damp < hi
      · have HK := Lib.hid (show knownOf ⟨lo, hi⟩ 0 damp = 1 by unfold knownOf; rw [if_pos rfl, if_neg h1, if_pos h2])
        go_wp2
        refine bodyPost_ret (v := .tuple #[.int .u8 1, .int .i64 0]) (by simp [results, Tryd.results26, go_sem]) rfl ?_
        exact ⟨by rw [HS.out, HQ.out, HK.out], HE.out.alloc _⟩
      · have HK := Lib.hid (show knownOf ⟨lo, hi⟩ 0 damp = 0 by unfold knownOf; rw [if_pos rfl, if_neg h1, if_neg h2])
        go_wp2
        refine bodyPost_ret (v := .tuple #[.int .u8 0, .int .i64 0]) (by simp [results, Tryd.results26, go_sem]) rfl ?_
        exact ⟨by rw [HS.out, HQ.out, HK.out], HE.out.alloc _⟩
  · have HK := Lib.hid (show knownOf ⟨lo, hi⟩ E damp = 0 by unfold knownOf; rw [if_neg h0])
    go_wp2
    refine bodyPost_ret (v := .tuple #[.int .u8 0, .int .i64 E]) (by simp [results, Tryd.results26, go_sem]) rfl ?_
    exact ⟨by rw [HS.out, HQ.out, HK.out], HE.out.alloc _⟩

set_option maxHeartbeats 1000000 in
theorem refKnown_any (b : Bale) (number damp : Int) (dv wv : Value) (w : World) (hd : SlD w dv b.draws) (hw : SlW w wv b.weighs) :
    Calls Tryd.prog 27 #[valB b dv wv, .int .i64 number, .int .i64 damp] w fun e w' => e = .returned (.tuple #[.int .u8 (knownOf (wetB b number) (askE b (decide (0 ≤ wIdx b number)) 6) damp), .int .i64 (askE b (decide (0 ≤ wIdx b number)) 6)]) ∧ Ext w w' := by
  have HD := Lib.hid hd
  have HW := Lib.hid hw
  obtain ⟨A, n, cp, rfl, hn, hlc, hcm⟩ := hd.form
  obtain ⟨A2, n2, cp2, rfl, hn2, hlc2, hcm2⟩ := hw.form
  clear hd hw
  go_enter Tryd.func27, Tryd.ntmps27
  go_wp2_with fail
  refine (refWet_any b number _ _ _ (HD.out.ext (Ext.al _ _)) (HW.out.ext (Ext.al _ _))).mono ?_
  rintro e w1 ⟨rfl, hE⟩
  have HE := Lib.hid ((Ext.al w _).trans hE)
  clear hE
  rw [rwet_eq]
  show _
  generalize hs : wetB b number = s
  generalize hq : askE b (decide (0 ≤ wIdx b number)) 6 = E
  have HS := Lib.hid hs; have HQ := Lib.hid hq; clear hs hq
  obtain ⟨lo, hi⟩ := s
  dsimp only [valS]
  by_cases h0 : E = 0
  · subst h0
    by_cases h1 : damp < lo
    · have HK := Lib.hid (show knownOf ⟨lo, hi⟩ 0 damp = 2 by unfold knownOf; rw [if_pos rfl, if_pos h1])
      go_wp2
      refine bodyPost_ret (v := .tuple #[.int .u8 2, .int .i64 0]) (by simp [results, Tryd.results27, go_sem]) rfl ?_
      exact ⟨by rw [HS.out, HQ.out, HK.out], HE.out.alloc _⟩
    · by_cases h2 : damp < hi
      · have HK := Lib.hid (show knownOf ⟨lo, hi⟩ 0 damp = 1 by unfold knownOf; rw [if_pos rfl, if_neg h1, if_pos h2])
        go_wp2
        refine bodyPost_ret (v := .tuple #[.int .u8 1, .int .i64 0]) (by simp [results, Tryd.results27, go_sem]) rfl ?_
        exact ⟨by rw [HS.out, HQ.out, HK.out], HE.out.alloc _⟩
      · have HK := Lib.hid (show knownOf ⟨lo, hi⟩ 0 damp = 0 by unfold knownOf; rw [if_pos rfl, if_neg h1, if_neg h2])
        go_wp2
        refine bodyPost_ret (v := .tuple #[.int .u8 0, .int .i64 0]) (by simp [results, Tryd.results27, go_sem]) rfl ?_
        exact ⟨by rw [HS.out, HQ.out, HK.out], HE.out.alloc _⟩
  · have HK := Lib.hid (show knownOf ⟨lo, hi⟩ E damp = 0 by unfold knownOf; rw [if_neg h0])
    go_wp2
    refine bodyPost_ret (v := .tuple #[.int .u8 0, .int .i64 E]) (by simp [results, Tryd.results27, go_sem]) rfl ?_
    exact ⟨by rw [HS.out, HQ.out, HK.out], HE.out.alloc _⟩
end Go.Proofs.YtcoiahjehlplfaaDoor
