/- The walks of core.rising, of the four checks of a bale, and of core.Check. -/
import Derived.Test.YtcoiahjehlplfaaDoorCoreB
namespace Go.Proofs.YtcoiahjehlplfaaDoor
open Go.RowKit Go.Shelf
set_option maxRecDepth 100000

set_option maxHeartbeats 400000 in
theorem rising_any (l : List Int) (v : Value) (w : World) (hs : SlI w v l) :
    Calls Tryd.prog 97 #[v] w fun e w' => e = .returned (.bool (risingB 0 l)) ∧ Ext w w' := by
  obtain ⟨A, n, cp, rfl, hn, hlc, hcm⟩ := hs.form
  go_enter Tryd.func97, Tryd.ntmps97
  go_wp2
  go_loopg [3, 8] n (fun gg la s wr => ∃ (kk : Nat) (last : Int), kk ≤ n ∧ n - kk ≤ gg ∧ s = .int .i64 kk ∧ la = .int .i64 last ∧ 0 ≤ last ∧ last ≤ 9999 ∧ Aside (risingB 0 l = risingB last (l.drop kk)) ∧ Aside (Ext w wr))
  case atStart => exact ⟨0, 0, Nat.zero_le _, by omega, rfl, rfl, by omega, by omega, rfl, Ext.refl w⟩
  case round =>
    obtain ⟨kk, last, hkk, hg, rfl, rfl, h0, h9, RE, BW⟩ := hrel
    by_cases hlt : kk < n
    · have hltz : (kk : Int) < (n : Int) := by omega
      obtain ⟨b, off, x, rfl, hx, hb, hcell⟩ := hs.at_ hlt
      have c0 := SlI.cell hcell BW.out
      have HX := Lib.hid hx; clear hx hcell
      go_wp2_with fail
      refine (in1_any (last + 1) 9999 x _ _ (by simp) (by simp [go_sem])).mono ?_
      rintro e w' ⟨rfl, hb'⟩
      have hE := BW.out.trans ((Ext.al _ _).trans hb')
      have HE := Lib.hid hE; clear hE hb'
      cases hq : inB (last + 1) 9999 x
      · have HQ := Lib.hid hq; clear hq
        go_wp2
        go_ret
        exact ⟨ret_bool (by rw [RE.out, drop_at HX.out, risingB, HQ.out]; rfl), HE.out⟩
      · have hq' := hq
        unfold inB at hq'
        simp at hq'
        have h1 : 0 ≤ x := by omega
        have h2 : x ≤ 9999 := by omega
        have HQ := Lib.hid hq; clear hq hq'
        go_wp2
        go_roundg (n - (kk + 1))
        case measure => omega
        case rel => exact ⟨kk + 1, x, by omega, by omega, rfl, rfl, h1, h2, by show _ = _; rw [RE.out, drop_at HX.out, risingB, HQ.out]; rfl, HE.out⟩
    · have HE := Lib.hid (show kk = n by omega)
      go_wp2
      go_ret
      exact ⟨ret_bool (by rw [RE.out, List.drop_eq_nil_of_le (by have := HE.out; have := hn.out; omega)]; rfl), BW.out⟩

def chk1 (b : Bale) : Bool := (inB 1 9999 b.id && inB 1 5 b.layers) && rightB b.dry.lo b.dry.hi 1 600
set_option maxHeartbeats 400000 in
theorem f160_any (b : Bale) (dv wv : Value) (w : World) (hd : SlD w dv b.draws) (hw : SlW w wv b.weighs) :
    Calls Tryd.prog 160 #[valB b dv wv] w fun e w' => e = .returned (.bool (chk1 b)) ∧ Ext w w' := by
  obtain ⟨A, n, cp, rfl, hn, hlc, hcm⟩ := hd.form
  obtain ⟨A2, n2, cp2, rfl, hn2, hlc2, hcm2⟩ := hw.form
  go_enter Tryd.func160, Tryd.ntmps160
  go_wp2_with fail
  refine (in1_any 1 9999 b.id _ _ (by simp) (by simp [go_sem])).mono ?_
  rintro e w1 ⟨rfl, hb1⟩
  obtain ⟨hc, hf⟩ := hb1.cells
  have hz := hb1.size
  simp at hz
  have E1 := Lib.hid (((Ext.al w _).trans (Ext.al _ _)).trans hb1); clear hb1
  have hz1 : w.heap.size < w1.heap.size := by omega
  cases hA : inB 1 9999 b.id
  · have HA := Lib.hid hA; clear hA
    go_wp2
    go_ret
    exact ⟨ret_bool (by unfold chk1; rw [HA.out]; rfl), E1.out⟩
  have HA := Lib.hid hA; clear hA
  go_wp2_with fail
  refine (in1_any 1 5 b.layers _ _ (by simp) (by simp [go_sem])).mono ?_
  rintro e w2 ⟨rfl, hb2⟩
  obtain ⟨hc2, hf2⟩ := hb2.cells
  have hz := hb2.size
  simp at hz
  have hz2 : w.heap.size < w2.heap.size := by omega
  have hz12 : w1.heap.size < w2.heap.size := by omega
  have E2 := Lib.hid ((E1.out.trans (Ext.al _ _)).trans hb2); clear hb2 E1
  cases hB : inB 1 5 b.layers
  · have HB := Lib.hid hB; clear hB
    go_wp2
    go_ret
    exact ⟨ret_bool (by unfold chk1; rw [HA.out, HB.out]; rfl), E2.out⟩
  have HB := Lib.hid hB; clear hB
  go_wp2_with fail
  refine (right_any b.dry.lo b.dry.hi 1 600 _).mono ?_
  rintro e w3 ⟨rfl, hb3⟩
  have E3 := Lib.hid (E2.out.trans hb3); clear hb3 E2
  go_wp2
  go_ret
  exact ⟨ret_bool (by unfold chk1; rw [HA.out, HB.out]; rfl), E3.out⟩

def chk2 (b : Bale) : Bool := ((decide ((b.draws.length : Int) ≤ 10) && decide ((b.weighs.length : Int) ≤ 8)) && risingB 0 (b.draws.map (·.number))) && risingB 0 (b.weighs.map (·.number))
set_option maxHeartbeats 400000 in
theorem f162_any (b : Bale) (dv wv : Value) (w : World) (hd : SlD w dv b.draws) (hw : SlW w wv b.weighs) :
    Calls Tryd.prog 162 #[valB b dv wv] w fun e w' => e = .returned (.bool (chk2 b)) ∧ Ext w w' := by
  obtain ⟨A, n, cp, hdv, hn, hlc, hcm⟩ := hd.form
  obtain ⟨A2, n2, cp2, hwv, hn2, hlc2, hcm2⟩ := hw.form
  by_cases h10 : (n : Int) ≤ 10
  · have D1 := Lib.hid (show decide ((b.draws.length : Int) ≤ 10) = true by have := hn.out; simp; omega)
    by_cases h8 : (n2 : Int) ≤ 8
    · have D2 := Lib.hid (show decide ((b.weighs.length : Int) ≤ 8) = true by have := hn2.out; simp; omega)
      have F1 := fun W (h : Ext w W) => f84_any b dv wv W (hd.ext h) (hw.ext h) (by have := hn.out; omega)
      have F2 := fun W (h : Ext w W) => f60_any b dv wv W (hd.ext h) (hw.ext h) (by have := hn2.out; omega)
      subst hdv hwv
      have G1 := Lib.hid F1; have G2 := Lib.hid F2; clear F1 F2 hd hw
      go_enter Tryd.func162, Tryd.ntmps162
      go_wp2_with fail
      refine (G1.out _ (Ext.al _ _)).mono ?_
      rintro e w1 ⟨v1, rfl, hs1, hb1⟩
      have E1 := Lib.hid ((Ext.al _ _).trans hb1)
      obtain ⟨hc, hf, hz, -⟩ := hb1.use
      simp at hz
      clear hb1
      go_wp2_with fail
      refine (rising_any _ _ _ hs1).mono ?_
      rintro e w2 ⟨rfl, hb2⟩
      obtain ⟨hc2, hf2, hz2, -⟩ := hb2.use
      have hz12 : w.heap.size < w1.heap.size := by omega
      have E2 := Lib.hid (E1.out.trans hb2); clear hb2
      cases hA : risingB 0 (b.draws.map (·.number))
      · have HA := Lib.hid hA; clear hA
        go_wp2
        go_ret
        exact ⟨ret_bool (by unfold chk2; rw [D1.out, D2.out, HA.out]; rfl), E2.out⟩
      have HA := Lib.hid hA; clear hA
      go_wp2_with fail
      refine (G2.out _ E2.out).mono ?_
      rintro e w3 ⟨v3, rfl, hs3, hb3⟩
      have E3 := Lib.hid (E2.out.trans hb3); clear hb3
      go_wp2_with fail
      refine (rising_any _ _ _ hs3).mono ?_
      rintro e w4 ⟨rfl, hb4⟩
      have E4 := Lib.hid (E3.out.trans hb4); clear hb4
      go_wp2
      go_ret
      exact ⟨ret_bool (by unfold chk2; rw [D1.out, D2.out, HA.out]; rfl), E4.out⟩
    · have D2 := Lib.hid (show decide ((b.weighs.length : Int) ≤ 8) = false by have := hn2.out; simp; omega)
      subst hdv hwv
      clear hd hw
      go_enter Tryd.func162, Tryd.ntmps162
      go_wp2
      go_ret
      exact ⟨ret_bool (by unfold chk2; rw [D1.out, D2.out]; rfl), Ext.al _ _⟩
  · have D1 := Lib.hid (show decide ((b.draws.length : Int) ≤ 10) = false by have := hn.out; simp; omega)
    subst hdv hwv
    clear hd hw
    go_enter Tryd.func162, Tryd.ntmps162
    go_wp2
    go_ret
    exact ⟨ret_bool (by unfold chk2; rw [D1.out]; rfl), Ext.al _ _⟩

def badD (layers : Int) (x : Draw) : Bool := !inB 0 (layers - 1) x.layer || !rightB x.grade.lo x.grade.hi 1 9
def badW (x : Weigh) : Bool := !inB 1 1200 x.pounds || !rightB x.damp.lo x.damp.hi 0 200
theorem f165_any (layers : Int) (x : Draw) (B : Nat) (w : World) (hB : B < w.heap.size) (h : w.cell? ⟨B, 1, none⟩ = some (.int .i64 layers)) (h1 : 1 ≤ layers) (h5 : layers ≤ 5) :
    Calls Tryd.prog 165 #[valD x, .pointer (some ⟨B, 0, none⟩)] w fun e w' => e = .returned (.bool (badD layers x)) ∧ Ext w w' := by
  go_enter Tryd.func165, Tryd.ntmps165
  go_wp2_with fail
  refine (in1_any 0 (layers - 1) x.layer _ _ (by simp) (by simp [go_sem])).mono ?_
  rintro e w1 ⟨rfl, hb1⟩
  obtain ⟨hc, hf, hz, -⟩ := hb1.use
  simp at hz
  have hz1 : w.heap.size < w1.heap.size := by omega
  have E1 := Lib.hid (((Ext.al w _).trans (Ext.al _ _)).trans hb1); clear hb1
  cases hA : inB 0 (layers - 1) x.layer
  · have HA := Lib.hid hA; clear hA
    go_wp2
    go_ret
    exact ⟨ret_bool (by unfold badD; rw [HA.out]; rfl), E1.out⟩
  have HA := Lib.hid hA; clear hA
  go_wp2_with fail
  refine (right_any x.grade.lo x.grade.hi 1 9 _).mono ?_
  rintro e w3 ⟨rfl, hb3⟩
  have E3 := Lib.hid (E1.out.trans hb3); clear hb3
  go_wp2
  go_ret
  exact ⟨ret_bool (by unfold badD; rw [HA.out]; rfl), E3.out⟩
theorem f167_any (x : Weigh) (w : World) :
    Calls Tryd.prog 167 #[valW x] w fun e w' => e = .returned (.bool (badW x)) ∧ Ext w w' := by
  go_enter Tryd.func167, Tryd.ntmps167
  go_wp2_with fail
  refine (in1_any 1 1200 x.pounds _ _ (by simp) (by simp [go_sem])).mono ?_
  rintro e w1 ⟨rfl, hb1⟩
  obtain ⟨hc, hf, hz, -⟩ := hb1.use
  simp at hz
  have hz1 : w.heap.size < w1.heap.size := by omega
  have E1 := Lib.hid (((Ext.al w _).trans (Ext.al _ _)).trans hb1); clear hb1
  cases hA : inB 1 1200 x.pounds
  · have HA := Lib.hid hA; clear hA
    go_wp2
    go_ret
    exact ⟨ret_bool (by unfold badW; rw [HA.out]; rfl), E1.out⟩
  have HA := Lib.hid hA; clear hA
  go_wp2_with fail
  refine (right_any x.damp.lo x.damp.hi 0 200 _).mono ?_
  rintro e w3 ⟨rfl, hb3⟩
  have E3 := Lib.hid (E1.out.trans hb3); clear hb3
  go_wp2
  go_ret
  exact ⟨ret_bool (by unfold badW; rw [HA.out]; rfl), E3.out⟩

theorem f163_any (b : Bale) (dv wv : Value) (w : World) (hd : SlD w dv b.draws) (hw : SlW w wv b.weighs) (h1 : 1 ≤ b.layers) (h5 : b.layers ≤ 5) :
    Calls Tryd.prog 163 #[valB b dv wv] w fun e w' => e = .returned (.bool (!b.draws.any (badD b.layers))) ∧ Ext w w' := by
  have hmf := hmf Tryd.prog
  obtain ⟨A, n, cp, rfl, hn, hlc, hcm⟩ := hd.form
  obtain ⟨A2, n2, cp2, rfl, hn2, hlc2, hcm2⟩ := hw.form
  have HD := Lib.hid hd; clear hd hw
  go_enter Tryd.func163, Tryd.ntmps163
  go_wp2_with fail
  refine (f164_any 165 _ (enters_of Tryd.func165 (by kernel_rfl) rfl) (badD b.layers) b.draws _ _ (HD.out.ext (Ext.al _ _)) ?_).mono ?_
  · intro W x _ hW
    exact f165_any b.layers x w.heap.size W (by have := hW.size; simp at this; omega) ((hW.cell (p := ⟨w.heap.size, 1, none⟩) (by simp)).trans (by simp [go_sem])) h1 h5
  rintro e w1 ⟨rfl, hb1⟩
  generalize hr : b.draws.any (badD b.layers) = r
  have HR := Lib.hid hr; clear hr
  go_wp2
  go_ret
  exact ⟨ret_bool (congrArg (!·) HR.out.symm), (Ext.al _ _).trans hb1⟩
theorem f166_any (b : Bale) (dv wv : Value) (w : World) (hd : SlD w dv b.draws) (hw : SlW w wv b.weighs) :
    Calls Tryd.prog 166 #[valB b dv wv] w fun e w' => e = .returned (.bool (!b.weighs.any badW)) ∧ Ext w w' := by
  obtain ⟨A, n, cp, rfl, hn, hlc, hcm⟩ := hd.form
  obtain ⟨A2, n2, cp2, rfl, hn2, hlc2, hcm2⟩ := hw.form
  have HW := Lib.hid hw; clear hd hw
  go_enter Tryd.func166, Tryd.ntmps166
  go_wp2_with fail
  refine (f68_any 167 _ (enters_of Tryd.func167 (by kernel_rfl) rfl) badW b.weighs _ _ (HW.out.ext (Ext.al _ _)) ?_).mono ?_
  · intro W x _ hW
    exact f167_any x W
  rintro e w1 ⟨rfl, hb1⟩
  generalize hr : b.weighs.any badW = r
  have HR := Lib.hid hr; clear hr
  go_wp2
  go_ret
  exact ⟨ret_bool (congrArg (!·) HR.out.symm), (Ext.al _ _).trans hb1⟩

/-- The table of checks, as the program lays it. -/
def Tab (w : World) : Prop := 0 < w.heap.size ∧ w.cell? ⟨0, 0, none⟩ = some (.func (.func 160) #[] #[]) ∧ w.cell? ⟨0, 1, none⟩ = some (.func (.func 162) #[] #[]) ∧ w.cell? ⟨0, 2, none⟩ = some (.func (.func 163) #[] #[]) ∧ w.cell? ⟨0, 3, none⟩ = some (.func (.func 166) #[] #[])
theorem Tab.ext {w w' : World} (h : Tab w) (e : Ext w w') : Tab w' := by
  obtain ⟨h0, h1, h2, h3, h4⟩ := h
  exact ⟨Nat.lt_of_lt_of_le h0 e.size, (e.cells.1 _ _ h0).trans h1, (e.cells.1 _ _ h0).trans h2, (e.cells.1 _ _ h0).trans h3, (e.cells.1 _ _ h0).trans h4⟩

theorem tab_i0 (W : World) : Sem.run Tryd.prog (Instr.index 93 (.agg #[.func (.func 160) #[] #[], .func (.func 162) #[] #[], .func (.func 163) #[] #[], .func (.func 166) #[] #[]]) (.int .i64 0)) W = .ok (.agg #[.func (.func 160) #[] #[]]) W := by kernel_rfl
theorem tab_i1 (W : World) : Sem.run Tryd.prog (Instr.index 93 (.agg #[.func (.func 160) #[] #[], .func (.func 162) #[] #[], .func (.func 163) #[] #[], .func (.func 166) #[] #[]]) (.int .i64 1)) W = .ok (.agg #[.func (.func 162) #[] #[]]) W := by kernel_rfl
theorem tab_i2 (W : World) : Sem.run Tryd.prog (Instr.index 93 (.agg #[.func (.func 160) #[] #[], .func (.func 162) #[] #[], .func (.func 163) #[] #[], .func (.func 166) #[] #[]]) (.int .i64 2)) W = .ok (.agg #[.func (.func 163) #[] #[]]) W := by kernel_rfl
theorem tab_i3 (W : World) : Sem.run Tryd.prog (Instr.index 93 (.agg #[.func (.func 160) #[] #[], .func (.func 162) #[] #[], .func (.func 163) #[] #[], .func (.func 166) #[] #[]]) (.int .i64 3)) W = .ok (.agg #[.func (.func 166) #[] #[]]) W := by kernel_rfl
/-- Whether a bale is valid. -/
def valid (b : Bale) : Bool := chk1 b && (chk2 b && (!b.draws.any (badD b.layers) && !b.weighs.any badW))
def errB (ok : Bool) (e : Int) : Int := if ok then 0 else e
theorem chk1_layers {b : Bale} (h : chk1 b = true) : 1 ≤ b.layers ∧ b.layers ≤ 5 := by
  unfold chk1 inB at h
  simp at h
  omega
set_option maxHeartbeats 1000000 in
set_option maxHeartbeats 1000000 in
theorem check_any (b : Bale) (dv wv : Value) (w : World) (hT : Tab w) (hd : SlD w dv b.draws) (hw : SlW w wv b.weighs) :
    Calls Tryd.prog 13 #[valB b dv wv] w fun e w' => e = .returned (.int .i64 (errB (valid b) 30)) ∧ Ext w w' := by
  have i0 := tab_i0
  have i1 := tab_i1
  have i2 := tab_i2
  have i3 := tab_i3
  have HD := Lib.hid hd
  have HW := Lib.hid hw
  obtain ⟨A, n, cp, rfl, hn, hlc, hcm⟩ := hd.form
  obtain ⟨A2, n2, cp2, rfl, hn2, hlc2, hcm2⟩ := hw.form
  obtain ⟨h0, t0, t1, t2, t3⟩ := hT
  clear hd hw
  go_enter Tryd.func13, Tryd.ntmps13
  go_wp2
  go_loopg [6] 4 (fun gg s wr => ∃ i : Int, s = .int .i64 i ∧ (i = 0 ∨ i = 1 ∨ i = 2 ∨ i = 3 ∨ i = 4) ∧ (4 - i).toNat ≤ gg ∧ Aside ((0 < i → chk1 b = true) ∧ (1 < i → chk2 b = true) ∧ (2 < i → (!b.draws.any (badD b.layers)) = true) ∧ (3 < i → (!b.weighs.any badW) = true)) ∧
    Aside (Ext (w.alloc (.cells #[.int .i64 b.id, .int .i64 b.layers, .int .i64 b.dry.lo, .int .i64 b.dry.hi, .slice A n cp, .slice A2 n2 cp2] 27)) wr))
  case atStart => exact ⟨0, rfl, .inl rfl, by omega, ⟨by omega, by omega, by omega, by omega⟩, Ext.refl _⟩
  case round =>
    obtain ⟨i, rfl, hi, hg, CH, BW⟩ := hrel
    obtain ⟨hc, hf, hz, -⟩ := BW.out.use
    simp at hz
    have hz1 : w.heap.size < wr.heap.size := by omega
    have hE : Ext w wr := (Ext.al _ _).trans BW.out
    have HE := Lib.hid hE; clear hE
    have t0' := (HE.out.cells.1 _ 0 h0).trans t0
    rcases hi with rfl | rfl | rfl | rfl | rfl
    · go_wp2_with fail
      refine (f160_any b _ _ _ (HD.out.ext (HE.out.trans (Ext.al _ _))) (HW.out.ext (HE.out.trans (Ext.al _ _)))).mono ?_
      rintro e w' ⟨rfl, hb'⟩
      have E2 := Lib.hid ((BW.out.trans (Ext.al _ _)).trans hb'); clear hb'
      cases hq : chk1 b
      · have HQ := Lib.hid hq; clear hq
        go_wp2
        go_ret
        exact ⟨ret_int (by unfold errB valid; rw [HQ.out]; rfl), (Ext.al _ _).trans E2.out⟩
      · have HQ := Lib.hid hq; clear hq
        go_wp2
        go_roundg 3
        case measure => omega
        case rel => exact ⟨1, rfl, by omega, by omega, ⟨fun _ => HQ.out, by omega, by omega, by omega⟩, E2.out⟩
    · go_wp2_with fail
      refine (f162_any b _ _ _ (HD.out.ext (HE.out.trans (Ext.al _ _))) (HW.out.ext (HE.out.trans (Ext.al _ _)))).mono ?_
      rintro e w' ⟨rfl, hb'⟩
      have E2 := Lib.hid ((BW.out.trans (Ext.al _ _)).trans hb'); clear hb'
      cases hq : chk2 b
      · have HQ := Lib.hid hq; clear hq
        go_wp2
        go_ret
        exact ⟨ret_int (by unfold errB valid; rw [HQ.out, CH.out.1 (by omega)]; rfl), (Ext.al _ _).trans E2.out⟩
      · have HQ := Lib.hid hq; clear hq
        go_wp2
        go_roundg 2
        case measure => omega
        case rel => exact ⟨2, rfl, by omega, by omega, ⟨fun _ => CH.out.1 (by omega), fun _ => HQ.out, by omega, by omega⟩, E2.out⟩
    · have hl := chk1_layers (CH.out.1 (by omega))
      go_wp2_with fail
      refine (f163_any b _ _ _ (HD.out.ext (HE.out.trans (Ext.al _ _))) (HW.out.ext (HE.out.trans (Ext.al _ _))) hl.1 hl.2).mono ?_
      clear hl
      rintro e w' ⟨rfl, hb'⟩
      have E2 := Lib.hid ((BW.out.trans (Ext.al _ _)).trans hb'); clear hb'
      cases hq : (!b.draws.any (badD b.layers))
      · have HQ := Lib.hid hq; clear hq
        go_wp2
        go_ret
        exact ⟨ret_int (by unfold errB valid; rw [HQ.out, CH.out.1 (by omega), CH.out.2.1 (by omega)]; rfl), (Ext.al _ _).trans E2.out⟩
      · have HQ := Lib.hid hq; clear hq
        go_wp2
        go_roundg 1
        case measure => omega
        case rel => exact ⟨3, rfl, by omega, by omega, ⟨fun _ => CH.out.1 (by omega), fun _ => CH.out.2.1 (by omega), fun _ => HQ.out, by omega⟩, E2.out⟩
    · go_wp2_with fail
      refine (f166_any b _ _ _ (HD.out.ext (HE.out.trans (Ext.al _ _))) (HW.out.ext (HE.out.trans (Ext.al _ _)))).mono ?_
      rintro e w' ⟨rfl, hb'⟩
      have E2 := Lib.hid ((BW.out.trans (Ext.al _ _)).trans hb'); clear hb'
      cases hq : (!b.weighs.any badW)
      · have HQ := Lib.hid hq; clear hq
        go_wp2
        go_ret
        exact ⟨ret_int (by unfold errB valid; rw [HQ.out, CH.out.1 (by omega), CH.out.2.1 (by omega), CH.out.2.2.1 (by omega)]; rfl), (Ext.al _ _).trans E2.out⟩
      · have HQ := Lib.hid hq; clear hq
        go_wp2
        go_roundg 0
        case measure => omega
        case rel => exact ⟨4, rfl, by omega, by omega, ⟨fun _ => CH.out.1 (by omega), fun _ => CH.out.2.1 (by omega), fun _ => CH.out.2.2.1 (by omega), fun _ => HQ.out⟩, E2.out⟩
    · go_wp2
      go_ret
      exact ⟨ret_int (by unfold errB valid; rw [CH.out.1 (by omega), CH.out.2.1 (by omega), CH.out.2.2.1 (by omega), CH.out.2.2.2 (by omega)]; rfl), HE.out⟩
end Go.Proofs.YtcoiahjehlplfaaDoor
