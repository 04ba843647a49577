/- The reference's Kind. -/
import Derived.Test.YtcoiahjehlplfaaDoorPkChangesCardL
import Derived.Test.YtcoiahjehlplfaaDoorPkChangesCardD
namespace Go.Proofs.YtcoiahjehlplfaaDoor
open Go.RowKit Go.Shelf
set_option maxRecDepth 100000
set_option linter.unusedSimpArgs false

/-- All kinds that a bale can be. -/
def kindS (b : Bale) : S4 := kindsOf (truthsL ((spans b).zip [0, 0, 0, 0, 0]))
def kindK (s : S4) (k : Int) : Int := if s.has k then (if s.num = 1 then 2 else 1) else 0
def kindB (b : Bale) (k : Int) : Int := if askE b (inB 1 4 k) 32 = 0 then kindK (kindS b) k else 0
theorem kindS_eq {b : Bale} (hv : valid b = true) : rk S4.none (exts [] (zOf (spans b))) = kindS b := by
  have hB := valid_bds hv
  have hl := spans_len b
  exact rk_eq (by have := hB.l5; omega) (by have := hB.l1; omega) (fun x hx => by have := spans_bd hv x hx; omega)

set_option maxHeartbeats 4000000 in
theorem refKind_any (b : Bale) (k : Int) (dv wv : Value) (w : World) (hd : SlD w dv b.draws) (hw : SlW w wv b.weighs) :
    Calls Tryd.prog 31 #[valB b dv wv, .int .i64 k] w fun e w' => e = .returned (.tuple #[.int .u8 (kindB b k), .int .i64 (askE b (inB 1 4 k) 32)]) ∧ Ext w w' := by
  have HD := Lib.hid hd
  have HW := Lib.hid hw
  obtain ⟨A, n, cp, rfl, hn, hlc, hcm⟩ := hd.form
  obtain ⟨A2, n2, cp2, rfl, hn2, hlc2, hcm2⟩ := hw.form
  clear hd hw
  go_enter Tryd.func31, Tryd.ntmps31
  go_wp2_with fail
  refine (refBale_v b _ _ _ (HD.out.ext (Ext.al _ _)) (HW.out.ext (Ext.al _ _))).mono ?_
  rintro e w1 ⟨rfl, hE⟩
  obtain ⟨hc, hf, hz, HE⟩ := hE.use
  have HE1 := Lib.hid ((Ext.al w _).trans HE.out)
  cases hv : valid b with
  | false =>
    have hE : askE b (inB 1 4 k) 32 = 30 := by unfold askE; rw [hv]; rfl
    have HK := Lib.hid (show kindB b k = 0 by unfold kindB; rw [hE]; rfl)
    have HA := Lib.hid hE; clear hE hv
    go_wp2
    refine bodyPost_ret (v := .tuple #[.int .u8 0, .int .i64 30]) (by simp [results, Tryd.results31, go_sem]) rfl ?_
    exact ⟨by rw [HK.out, HA.out], HE1.out⟩
  | true =>
    have HV := Lib.hid hv; clear hv
    generalize hi : inB 1 4 k = q
    have HI := Lib.hid hi; clear hi
    go_wp2_with fail
    refine (within_any k 1 4 _).mono ?_
    rintro e w' ⟨rfl, rfl⟩
    rw [HI.out]
    cases q with
    | false =>
      have hE : askE b (inB 1 4 k) 32 = 32 := by unfold askE; rw [HV.out, HI.out]; rfl
      have HK := Lib.hid (show kindB b k = 0 by unfold kindB; rw [hE]; rfl)
      have HA := Lib.hid hE; clear hE
      go_wp2
      refine bodyPost_ret (v := .tuple #[.int .u8 0, .int .i64 32]) (by simp [results, Tryd.results31, go_sem]) rfl ?_
      exact ⟨by rw [HK.out, HA.out], HE1.out⟩
    | true =>
      have HA := Lib.hid (askE_true HV.out 32)
      have hk4 : 1 ≤ k ∧ k ≤ 4 := by have := HI.out; unfold inB at this; simpa using this
      go_wp2_with fail
      refine (refAsked_any b _ _ _ (HD.out.ext HE1.out) (HW.out.ext HE1.out)).mono ?_
      rintro e w2 ⟨sv, lv, rfl, hsl, hE2⟩
      have HE2 := Lib.hid (HE1.out.trans hE2)
      clear hc hf hE2
      by_cases hz9 : askE b true 0 = 0
      · have HK := Lib.hid (show kindB b k = kindK (kindS b) k by unfold kindB; rw [HI.out, HA.out, if_pos hz9])
        have HZ := Lib.hid hz9
        obtain ⟨hs, hl⟩ := hsl hz9
        obtain ⟨Al, nl, cl, rfl, -, hlc', hlm⟩ := hl.form
        obtain ⟨As, cs, rfl, hsc, hsm, -⟩ := id hs
        have hB := valid_bds HV.out
        have hln := spans_len b
        have hl0 : 0 < (spans b).length := by have := hB.l1; omega
        have hl5 : (spans b).length ≤ 1000 := by have := hB.l5; omega
        obtain ⟨bb, off, x, rfl, -, -, -⟩ := hs.at_ hl0
        have HS := Lib.hid hs
        have hbd : ∀ x ∈ spans b, 1 ≤ x.lo ∧ x.lo ≤ 1000 ∧ x.hi ≤ 9 := fun x hx => by have := spans_bd HV.out x hx; omega
        have hks := kindS_eq HV.out
        have hMA := fun W hS => many_any (sp := spans b) (bb := bb) (off := off) (cs := cs) W hl5 hl0 hbd hS
        rw [hks] at hMA
        have HMA := Lib.hid hMA
        clear hMA hbd hks hl hs hsl hln hl0 hl5 hB
        rw [hz9]
        clear hz9
        generalize kindS b = s at HMA HK ⊢
        generalize hsp : spans b = sp at *
        go_wp2_with fail
        refine (HMA.out w2 HS.out).mono ?_
        rintro e w3 ⟨rfl, hE3⟩
        have HE3 := Lib.hid (HE2.out.trans hE3); clear hE3
        show _
        dsimp only [flagsV]
        have hnb := S4.num_le s
        have hb4 := four hk4.1 hk4.2
        rcases hb4 with rfl | rfl | rfl | rfl
        · cases hh : s.a
          · have HKK := Lib.hid (show kindK s 1 = 0 by unfold kindK S4.has; simp [hh])
            go_wp2
            refine bodyPost_ret (v := .tuple #[.int .u8 0, .int .i64 0]) (by simp [results, Tryd.results31, go_sem]) rfl ?_
            exact ⟨by rw [HK.out, HI.out, HA.out, HKK.out, HZ.out], HE3.out.alloc _⟩
          · by_cases hn1 : s.num = 1
            · have HKK := Lib.hid (show kindK s 1 = 2 by unfold kindK S4.has; simp [hh, hn1])
              rw [hn1]
              clear hn1
              go_wp2
              refine bodyPost_ret (v := .tuple #[.int .u8 2, .int .i64 0]) (by simp [results, Tryd.results31, go_sem]) rfl ?_
              exact ⟨by rw [HK.out, HI.out, HA.out, HKK.out, HZ.out], HE3.out.alloc _⟩
            · have HKK := Lib.hid (show kindK s 1 = 1 by unfold kindK S4.has; simp [hh, hn1])
              have hn1' : ¬ ((s.num : Int) = 1) := by omega
              clear hn1
              go_wp2
              refine bodyPost_ret (v := .tuple #[.int .u8 1, .int .i64 0]) (by simp [results, Tryd.results31, go_sem]) rfl ?_
              exact ⟨by rw [HK.out, HI.out, HA.out, HKK.out, HZ.out], HE3.out.alloc _⟩
        · cases hh : s.b
          · have HKK := Lib.hid (show kindK s 2 = 0 by unfold kindK S4.has; simp [hh])
            go_wp2
            refine bodyPost_ret (v := .tuple #[.int .u8 0, .int .i64 0]) (by simp [results, Tryd.results31, go_sem]) rfl ?_
            exact ⟨by rw [HK.out, HI.out, HA.out, HKK.out, HZ.out], HE3.out.alloc _⟩
          · by_cases hn1 : s.num = 1
            · have HKK := Lib.hid (show kindK s 2 = 2 by unfold kindK S4.has; simp [hh, hn1])
              rw [hn1]
              clear hn1
              go_wp2
              refine bodyPost_ret (v := .tuple #[.int .u8 2, .int .i64 0]) (by simp [results, Tryd.results31, go_sem]) rfl ?_
              exact ⟨by rw [HK.out, HI.out, HA.out, HKK.out, HZ.out], HE3.out.alloc _⟩
            · have HKK := Lib.hid (show kindK s 2 = 1 by unfold kindK S4.has; simp [hh, hn1])
              have hn1' : ¬ ((s.num : Int) = 1) := by omega
              clear hn1
              go_wp2
              refine bodyPost_ret (v := .tuple #[.int .u8 1, .int .i64 0]) (by simp [results, Tryd.results31, go_sem]) rfl ?_
              exact ⟨by rw [HK.out, HI.out, HA.out, HKK.out, HZ.out], HE3.out.alloc _⟩
        · cases hh : s.c
          · have HKK := Lib.hid (show kindK s 3 = 0 by unfold kindK S4.has; simp [hh])
            go_wp2
            refine bodyPost_ret (v := .tuple #[.int .u8 0, .int .i64 0]) (by simp [results, Tryd.results31, go_sem]) rfl ?_
            exact ⟨by rw [HK.out, HI.out, HA.out, HKK.out, HZ.out], HE3.out.alloc _⟩
          · by_cases hn1 : s.num = 1
            · have HKK := Lib.hid (show kindK s 3 = 2 by unfold kindK S4.has; simp [hh, hn1])
              rw [hn1]
              clear hn1
              go_wp2
              refine bodyPost_ret (v := .tuple #[.int .u8 2, .int .i64 0]) (by simp [results, Tryd.results31, go_sem]) rfl ?_
              exact ⟨by rw [HK.out, HI.out, HA.out, HKK.out, HZ.out], HE3.out.alloc _⟩
            · have HKK := Lib.hid (show kindK s 3 = 1 by unfold kindK S4.has; simp [hh, hn1])
              have hn1' : ¬ ((s.num : Int) = 1) := by omega
              clear hn1
              go_wp2
              refine bodyPost_ret (v := .tuple #[.int .u8 1, .int .i64 0]) (by simp [results, Tryd.results31, go_sem]) rfl ?_
              exact ⟨by rw [HK.out, HI.out, HA.out, HKK.out, HZ.out], HE3.out.alloc _⟩
        · cases hh : s.d
          · have HKK := Lib.hid (show kindK s 4 = 0 by unfold kindK S4.has; simp [hh])
            go_wp2
            refine bodyPost_ret (v := .tuple #[.int .u8 0, .int .i64 0]) (by simp [results, Tryd.results31, go_sem]) rfl ?_
            exact ⟨by rw [HK.out, HI.out, HA.out, HKK.out, HZ.out], HE3.out.alloc _⟩
          · by_cases hn1 : s.num = 1
            · have HKK := Lib.hid (show kindK s 4 = 2 by unfold kindK S4.has; simp [hh, hn1])
              rw [hn1]
              clear hn1
              go_wp2
              refine bodyPost_ret (v := .tuple #[.int .u8 2, .int .i64 0]) (by simp [results, Tryd.results31, go_sem]) rfl ?_
              exact ⟨by rw [HK.out, HI.out, HA.out, HKK.out, HZ.out], HE3.out.alloc _⟩
            · have HKK := Lib.hid (show kindK s 4 = 1 by unfold kindK S4.has; simp [hh, hn1])
              have hn1' : ¬ ((s.num : Int) = 1) := by omega
              clear hn1
              go_wp2
              refine bodyPost_ret (v := .tuple #[.int .u8 1, .int .i64 0]) (by simp [results, Tryd.results31, go_sem]) rfl ?_
              exact ⟨by rw [HK.out, HI.out, HA.out, HKK.out, HZ.out], HE3.out.alloc _⟩
      · have HK := Lib.hid (show kindB b k = 0 by unfold kindB; rw [HI.out, HA.out, if_neg hz9])
        generalize hE9 : askE b true 0 = E at hz9
        have HE9 := Lib.hid hE9; clear hE9
        clear hsl
        go_wp2
        refine bodyPost_ret (v := .tuple #[.int .u8 0, .int .i64 E]) (by simp [results, Tryd.results31, go_sem]) rfl ?_
        exact ⟨by rw [HK.out, HI.out, HA.out, HE9.out], HE2.out⟩
end Go.Proofs.YtcoiahjehlplfaaDoor
