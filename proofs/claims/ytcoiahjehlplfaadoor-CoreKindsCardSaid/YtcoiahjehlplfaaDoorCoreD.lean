/- The walks of the reference's within, Bale, Check and Great. -/
import Derived.Test.YtcoiahjehlplfaaDoorCoreC
namespace Go.Proofs.YtcoiahjehlplfaaDoor
open Go.RowKit Go.Shelf
set_option maxRecDepth 100000

theorem within_any (n lo hi : Int) (w : World) : Calls Tryd.prog 54 #[.int .i64 n, .int .i64 lo, .int .i64 hi] w fun e w' => e = .returned (.bool (inB lo hi n)) ∧ w = w' := by
  go_enter Tryd.func54, Tryd.ntmps54
  go_wp2
  all_goals go_ret
  all_goals exact ⟨ret_bool (by unfold inB; first | (simp [*]; done) | (simp [*]; omega)), rfl⟩

def refD (layers last : Int) (x : Draw) : Bool := ((inB (last + 1) 9999 x.number && inB 0 (layers - 1) x.layer) && inB 1 x.grade.hi x.grade.lo) && !decide (9 < x.grade.hi)
def refW (last : Int) (x : Weigh) : Bool := ((inB (last + 1) 9999 x.number && inB 1 1200 x.pounds) && inB 0 x.damp.hi x.damp.lo) && !decide (200 < x.damp.hi)
def refDs (layers : Int) : Int → List Draw → Bool
  | _, [] => true
  | last, x :: l => refD layers last x && refDs layers x.number l
def refWs : Int → List Weigh → Bool
  | _, [] => true
  | last, x :: l => refW last x && refWs x.number l
def refHead (b : Bale) : Bool := ((((inB 1 9999 b.id && inB 1 5 b.layers) && inB 1 b.dry.hi b.dry.lo) && !decide (600 < b.dry.hi)) && !decide (10 < (b.draws.length : Int))) && !decide (8 < (b.weighs.length : Int))
def refValid (b : Bale) : Bool := (refHead b && refDs b.layers 0 b.draws) && refWs 0 b.weighs

set_option maxHeartbeats 2000000 in
theorem refBale_any (b : Bale) (dv wv : Value) (w : World) (hd : SlD w dv b.draws) (hw : SlW w wv b.weighs) :
    Calls Tryd.prog 49 #[valB b dv wv] w fun e w' => e = .returned (.bool (refValid b)) ∧ Ext w w' := by
  have HD := Lib.hid hd
  have HW := Lib.hid hw
  obtain ⟨A, n, cp, rfl, hn, hlc, hcm⟩ := hd.form
  obtain ⟨A2, n2, cp2, rfl, hn2, hlc2, hcm2⟩ := hw.form
  clear hd hw
  have F : ∀ x, refHead b = x → x = false → refValid b = false := fun x h1 h2 => by unfold refValid; rw [h1, h2]; rfl
  have HF := Lib.hid F; clear F
  go_enter Tryd.func49, Tryd.ntmps49
  go_wp2_with fail
  refine (within_any b.id 1 9999 _).mono ?_
  rintro e w1 ⟨rfl, rfl⟩
  cases hq : inB 1 9999 b.id
  · have HQ := Lib.hid hq; clear hq
    go_wp2
    go_ret
    exact ⟨ret_bool (HF.out _ rfl (by unfold refHead; rw [HQ.out]; rfl)).symm, Ext.al _ _⟩
  have HA := Lib.hid hq; clear hq
  go_wp2_with fail
  refine (within_any b.layers 1 5 _).mono ?_
  rintro e w1 ⟨rfl, rfl⟩
  cases hq : inB 1 5 b.layers
  · have HQ := Lib.hid hq; clear hq
    go_wp2
    go_ret
    exact ⟨ret_bool (HF.out _ rfl (by unfold refHead; rw [HA.out, HQ.out]; rfl)).symm, Ext.al _ _⟩
  have HB := Lib.hid hq; clear hq
  go_wp2_with fail
  refine (within_any b.dry.lo 1 b.dry.hi _).mono ?_
  rintro e w1 ⟨rfl, rfl⟩
  cases hq : inB 1 b.dry.hi b.dry.lo
  · have HQ := Lib.hid hq; clear hq
    go_wp2
    go_ret
    exact ⟨ret_bool (HF.out _ rfl (by unfold refHead; rw [HA.out, HB.out, HQ.out]; rfl)).symm, Ext.al _ _⟩
  have HC := Lib.hid hq; clear hq
  by_cases h6 : 600 < b.dry.hi
  · go_wp2
    go_ret
    exact ⟨ret_bool (HF.out _ rfl (by unfold refHead; rw [HA.out, HB.out, HC.out]; simp [h6])).symm, Ext.al _ _⟩
  by_cases h10 : (10 : Int) < n
  · go_wp2
    go_ret
    exact ⟨ret_bool (HF.out _ rfl (by unfold refHead; rw [HA.out, HB.out, HC.out]; have := hn.out; simp; omega)).symm, Ext.al _ _⟩
  by_cases h8 : (8 : Int) < n2
  · go_wp2
    go_ret
    exact ⟨ret_bool (HF.out _ rfl (by unfold refHead; rw [HA.out, HB.out, HC.out]; have := hn2.out; simp; omega)).symm, Ext.al _ _⟩
  have HH := Lib.hid (show refHead b = true by unfold refHead; rw [HA.out, HB.out, HC.out]; have := hn.out; have := hn2.out; simp; omega)
  have HL := HB.out
  unfold inB at HL
  simp at HL
  obtain ⟨hl1, hl5⟩ := HL
  clear HF
  go_wp2
  go_loopg [3, 49] n (fun gg la s wr => ∃ (kk : Nat) (last : Int), kk ≤ n ∧ n - kk ≤ gg ∧ s = .int .i64 kk ∧ la = .int .i64 last ∧ 0 ≤ last ∧ last ≤ 9999 ∧ Aside (refDs b.layers 0 b.draws = refDs b.layers last (b.draws.drop kk)) ∧ Aside (Ext (w.alloc (.cells #[.int .i64 b.id, .int .i64 b.layers, .int .i64 b.dry.lo, .int .i64 b.dry.hi, .slice A n cp, .slice A2 n2 cp2] 27)) wr))
  case atStart => exact ⟨0, 0, Nat.zero_le _, by omega, rfl, rfl, by omega, by omega, rfl, Ext.refl _⟩
  case round =>
    obtain ⟨kk, last, hkk, hg, rfl, rfl, h0, h9, RE, BW⟩ := hrel
    obtain ⟨hc, hf, hz, -⟩ := BW.out.use
    simp at hz
    have hz1 : w.heap.size < wr.heap.size := by omega
    by_cases hlt : kk < n
    · have hltz : (kk : Int) < (n : Int) := by omega
      obtain ⟨bb, off, x, rfl, hx, hb, hcell⟩ := HD.out.at_ hlt
      obtain ⟨c0, c1, c2, c3⟩ := SlD.cells hcell ((Ext.al w _).trans BW.out)
      have HX := Lib.hid hx; clear hx hcell hb
      have hE := (Ext.al w _).trans (BW.out.trans (Ext.al wr (.cells #[.int .i64 x.number, .int .i64 x.layer, .int .i64 x.grade.lo, .int .i64 x.grade.hi] 63)))
      have HE := Lib.hid hE; clear hE
      have F : refD b.layers last x = false → refValid b = false := fun h => by unfold refValid; rw [RE.out, drop_at HX.out, refDs, h]; simp
      have HF := Lib.hid F; clear F
      go_wp2_with fail
      refine (within_any x.number (last + 1) 9999 _).mono ?_
      rintro e w1 ⟨rfl, rfl⟩
      cases hq : inB (last + 1) 9999 x.number
      · have HQ := Lib.hid hq; clear hq
        go_wp2
        go_ret
        exact ⟨ret_bool (HF.out (by unfold refD; rw [HQ.out]; rfl)).symm, HE.out⟩
      have GA := Lib.hid hq; clear hq
      go_wp2_with fail
      refine (within_any x.layer 0 (b.layers - 1) _).mono ?_
      rintro e w1 ⟨rfl, rfl⟩
      cases hq : inB 0 (b.layers - 1) x.layer
      · have HQ := Lib.hid hq; clear hq
        go_wp2
        go_ret
        exact ⟨ret_bool (HF.out (by unfold refD; rw [GA.out, HQ.out]; rfl)).symm, HE.out⟩
      have GB := Lib.hid hq; clear hq
      go_wp2_with fail
      refine (within_any x.grade.lo 1 x.grade.hi _).mono ?_
      rintro e w1 ⟨rfl, rfl⟩
      cases hq : inB 1 x.grade.hi x.grade.lo
      · have HQ := Lib.hid hq; clear hq
        go_wp2
        go_ret
        exact ⟨ret_bool (HF.out (by unfold refD; rw [GA.out, GB.out, HQ.out]; rfl)).symm, HE.out⟩
      have GC := Lib.hid hq; clear hq
      by_cases hg9 : 9 < x.grade.hi
      · go_wp2
        go_ret
        exact ⟨ret_bool (HF.out (by unfold refD; rw [GA.out, GB.out, GC.out]; simp [hg9])).symm, HE.out⟩
      have hq' := GA.out
      unfold inB at hq'
      simp at hq'
      have i1 : 0 ≤ x.number := by omega
      have i2 : x.number ≤ 9999 := by omega
      have HR := Lib.hid (show refD b.layers last x = true by unfold refD; rw [GA.out, GB.out, GC.out]; simp; omega)
      clear hq' HF
      go_wp2
      go_roundg (n - (kk + 1))
      case measure => omega
      case rel => exact ⟨kk + 1, x.number, by omega, by omega, rfl, rfl, i1, i2, by show _ = _; rw [RE.out, drop_at HX.out, refDs, HR.out]; rfl, BW.out.trans (Ext.al _ _)⟩
    · have HK := Lib.hid (show kk = n by omega)
      have DD := Lib.hid (show refDs b.layers 0 b.draws = true by rw [RE.out, List.drop_eq_nil_of_le (by have := HK.out; have := hn.out; omega)]; rfl)
      obtain ⟨wo, hwo⟩ : ∃ wo : World, wo = wr := ⟨_, rfl⟩
      subst hwo
      go_wp2
      go_loopg [3, 90] n2 (fun gg la s wr => ∃ (kk : Nat) (last : Int), kk ≤ n2 ∧ n2 - kk ≤ gg ∧ s = .int .i64 kk ∧ la = .int .i64 last ∧ 0 ≤ last ∧ last ≤ 9999 ∧ Aside (refWs 0 b.weighs = refWs last (b.weighs.drop kk)) ∧ Aside (Ext (w.alloc (.cells #[.int .i64 b.id, .int .i64 b.layers, .int .i64 b.dry.lo, .int .i64 b.dry.hi, .slice A n cp, .slice A2 n2 cp2] 27)) wr))
      case atStart => exact ⟨0, 0, Nat.zero_le _, by omega, rfl, rfl, by omega, by omega, rfl, BW.out⟩
      case round =>
        clear hc hf hz hz1
        obtain ⟨kk, last, hkk, hg, rfl, rfl, h0, h9, RE, BW⟩ := hrel
        obtain ⟨hc, hf, hz, -⟩ := BW.out.use
        simp at hz
        have hz1 : w.heap.size < wr.heap.size := by omega
        by_cases hlt : kk < n2
        · have hltz : (kk : Int) < (n2 : Int) := by omega
          obtain ⟨bb, off, x, rfl, hx, hb, hcell⟩ := HW.out.at_ hlt
          obtain ⟨c0, c1, c2, c3⟩ := SlW.cells hcell ((Ext.al w _).trans BW.out)
          have HX := Lib.hid hx; clear hx hcell hb
          have hE := (Ext.al w _).trans (BW.out.trans (Ext.al wr (.cells #[.int .i64 x.number, .int .i64 x.pounds, .int .i64 x.damp.lo, .int .i64 x.damp.hi] 65)))
          have HE := Lib.hid hE; clear hE
          have F : refW last x = false → refValid b = false := fun h => by unfold refValid; rw [HH.out, DD.out, RE.out, drop_at HX.out, refWs, h]; simp
          have HF := Lib.hid F; clear F
          go_wp2_with fail
          refine (within_any x.number (last + 1) 9999 _).mono ?_
          rintro e w1 ⟨rfl, rfl⟩
          cases hq : inB (last + 1) 9999 x.number
          · have HQ := Lib.hid hq; clear hq
            go_wp2
            go_ret
            exact ⟨ret_bool (HF.out (by unfold refW; rw [HQ.out]; rfl)).symm, HE.out⟩
          have GA := Lib.hid hq; clear hq
          go_wp2_with fail
          refine (within_any x.pounds 1 1200 _).mono ?_
          rintro e w1 ⟨rfl, rfl⟩
          cases hq : inB 1 1200 x.pounds
          · have HQ := Lib.hid hq; clear hq
            go_wp2
            go_ret
            exact ⟨ret_bool (HF.out (by unfold refW; rw [GA.out, HQ.out]; rfl)).symm, HE.out⟩
          have GB := Lib.hid hq; clear hq
          go_wp2_with fail
          refine (within_any x.damp.lo 0 x.damp.hi _).mono ?_
          rintro e w1 ⟨rfl, rfl⟩
          cases hq : inB 0 x.damp.hi x.damp.lo
          · have HQ := Lib.hid hq; clear hq
            go_wp2
            go_ret
            exact ⟨ret_bool (HF.out (by unfold refW; rw [GA.out, GB.out, HQ.out]; rfl)).symm, HE.out⟩
          have GC := Lib.hid hq; clear hq
          by_cases hg9 : 200 < x.damp.hi
          · go_wp2
            go_ret
            exact ⟨ret_bool (HF.out (by unfold refW; rw [GA.out, GB.out, GC.out]; simp [hg9])).symm, HE.out⟩
          have hq' := GA.out
          unfold inB at hq'
          simp at hq'
          have i1 : 0 ≤ x.number := by omega
          have i2 : x.number ≤ 9999 := by omega
          have HR := Lib.hid (show refW last x = true by unfold refW; rw [GA.out, GB.out, GC.out]; simp; omega)
          clear hq' HF
          go_wp2
          go_roundg (n2 - (kk + 1))
          case measure => omega
          case rel => exact ⟨kk + 1, x.number, by omega, by omega, rfl, rfl, i1, i2, by show _ = _; rw [RE.out, drop_at HX.out, refWs, HR.out]; rfl, BW.out.trans (Ext.al _ _)⟩
        · have HK2 := Lib.hid (show kk = n2 by omega)
          go_wp2
          go_ret
          exact ⟨ret_bool (by unfold refValid; rw [HH.out, DD.out, RE.out, List.drop_eq_nil_of_le (by have := HK2.out; have := hn2.out; omega)]; rfl), (Ext.al w _).trans BW.out⟩

theorem refCheck_any (b : Bale) (dv wv : Value) (w : World) (hd : SlD w dv b.draws) (hw : SlW w wv b.weighs) :
    Calls Tryd.prog 14 #[valB b dv wv] w fun e w' => e = .returned (.int .i64 (errB (refValid b) 30)) ∧ Ext w w' := by
  have HD := Lib.hid hd
  have HW := Lib.hid hw
  obtain ⟨A, n, cp, rfl, hn, hlc, hcm⟩ := hd.form
  obtain ⟨A2, n2, cp2, rfl, hn2, hlc2, hcm2⟩ := hw.form
  clear hd hw
  go_enter Tryd.func14, Tryd.ntmps14
  go_wp2_with fail
  refine (refBale_any b _ _ _ (HD.out.ext (Ext.al _ _)) (HW.out.ext (Ext.al _ _))).mono ?_
  rintro e w1 ⟨rfl, hb⟩
  have HB := Lib.hid ((Ext.al _ _).trans hb); clear hb
  cases hq : refValid b
  all_goals
    have HQ := Lib.hid hq; clear hq
    go_wp2
    go_ret
    exact ⟨ret_int (by unfold errB; rw [HQ.out]; rfl), HB.out⟩

def greatB (b : Bale) : Bool := decide (20 < (b.draws.length : Int)) || decide (16 < (b.weighs.length : Int))
theorem great_any (b : Bale) (dv wv : Value) (w : World) (hd : SlD w dv b.draws) (hw : SlW w wv b.weighs) :
    Calls Tryd.prog 7 #[valB b dv wv] w fun e w' => e = .returned (.bool (greatB b)) ∧ Ext w w' := by
  obtain ⟨A, n, cp, rfl, hn, hlc, hcm⟩ := hd.form
  obtain ⟨A2, n2, cp2, rfl, hn2, hlc2, hcm2⟩ := hw.form
  clear hd hw
  go_enter Tryd.func7, Tryd.ntmps7
  go_wp2
  all_goals go_ret
  all_goals exact ⟨ret_bool (by unfold greatB; rw [← hn.out, ← hn2.out]; try simp [*]), Ext.al _ _⟩
end Go.Proofs.YtcoiahjehlplfaaDoor
