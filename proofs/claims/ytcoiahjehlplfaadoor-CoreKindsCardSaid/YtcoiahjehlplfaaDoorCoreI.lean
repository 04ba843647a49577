/- core.asked, Can, Layer, ends, Best, Worst. -/
import Derived.Test.YtcoiahjehlplfaaDoorCoreH
namespace Go.Proofs.YtcoiahjehlplfaaDoor
open Go.RowKit Go.Shelf
set_option maxRecDepth 100000

def askE (b : Bale) (r : Bool) (e : Int) : Int := if valid b then (if r then (if okB b then 0 else 8) else e) else 30
abbrev zP : Value := .agg #[.int .i64 0, .int .i64 0, .int .i64 0, .int .i64 0, .slice none 0 0, .slice none 0 0, .slice none 0 0, .slice none 0 0]
/-- What a press that is asked for holds. -/
def AskedPost (b : Bale) (dv wv : Value) (E : Int) (w : World) (e : Ending) (w' : World) : Prop :=
  ∃ pv, e = .returned (.tuple #[pv, .int .i64 E]) ∧ (E = 0 → ∃ sv lv, pv = valP b dv wv sv lv ∧ SlS w' sv (spans b) ∧ SlI w' lv (dries b)) ∧ (E ≠ 0 → pv = zP) ∧ Ext w w'
theorem AskedPost.bad {b : Bale} {dv wv : Value} {E E' : Int} {w w' : World} (hE : E' = E) (h0 : E ≠ 0) (h : Ext w w') : AskedPost b dv wv E w (.returned (.tuple #[zP, .int .i64 E'])) w' := by
  subst hE
  exact ⟨_, rfl, fun h => absurd h h0, fun _ => rfl, h⟩

theorem ret_set8 {P : Program} {fn : Func} {R : Ending → World → Prop} {ex : Exit} {a : Act} {w1 : World} {g : Nat} {t : TypeId} {x0 x1 x2 x3 x4 x5 x6 x7 y0 y1 y2 y3 y4 y5 y6 y7 : Value} (hB : Blk w1 g t #[x0, x1, x2, x3, x4, x5, x6, x7])
    (h : ∀ W, (W.cell? ⟨g, 0, none⟩ = some y0 ∧ W.cell? ⟨g, 1, none⟩ = some y1 ∧ W.cell? ⟨g, 2, none⟩ = some y2 ∧ W.cell? ⟨g, 3, none⟩ = some y3 ∧ W.cell? ⟨g, 4, none⟩ = some y4 ∧ W.cell? ⟨g, 5, none⟩ = some y5 ∧ W.cell? ⟨g, 6, none⟩ = some y6 ∧ W.cell? ⟨g, 7, none⟩ = some y7) → w1.grownBy W (some g) → bodyPost P fn R ex a W) :
    bodyPost P fn R ex a (set8 w1 g y0 y1 y2 y3 y4 y5 y6 y7) :=
  have H := hB.set8 y0 y1 y2 y3 y4 y5 y6 y7
  h _ ⟨H.cell 0, H.cell 1, H.cell 2, H.cell 3, H.cell 4, H.cell 5, H.cell 6, H.cell 7⟩ (grown_set8 (World.grownBy.refl _ _) ..)
theorem ret_set8a {P : Program} {fn : Func} {R : Ending → World → Prop} {ex : Exit} {a : Act} {w1 : World} {g : Nat} {t : TypeId} {x0 x1 x2 x3 x4 x5 x6 x7 y0 y1 y2 y3 y4 y5 y6 y7 : Value} {o : Obj} (hB : Blk w1 g t #[x0, x1, x2, x3, x4, x5, x6, x7])
    (h : ∀ W, (W.cell? ⟨g, 0, none⟩ = some y0 ∧ W.cell? ⟨g, 1, none⟩ = some y1 ∧ W.cell? ⟨g, 2, none⟩ = some y2 ∧ W.cell? ⟨g, 3, none⟩ = some y3 ∧ W.cell? ⟨g, 4, none⟩ = some y4 ∧ W.cell? ⟨g, 5, none⟩ = some y5 ∧ W.cell? ⟨g, 6, none⟩ = some y6 ∧ W.cell? ⟨g, 7, none⟩ = some y7) → w1.grownBy W (some g) → bodyPost P fn R ex a W) :
    bodyPost P fn R ex a ((set8 w1 g y0 y1 y2 y3 y4 y5 y6 y7).alloc o) :=
  have H := (hB.set8 y0 y1 y2 y3 y4 y5 y6 y7).alloc o
  h _ ⟨H.cell 0, H.cell 1, H.cell 2, H.cell 3, H.cell 4, H.cell 5, H.cell 6, H.cell 7⟩ (grown_ext (grown_set8 (World.grownBy.refl _ _) ..) (Ext.al _ _))
theorem ext_grown {w w1 W : World} {g : Nat} (h : Ext w w1) (k : w1.grownBy W (some g)) (hg : w.heap.size ≤ g) : Ext w W :=
  ⟨k.os.trans h.os, k.tape.trans h.tape, k.output.trans h.output, Nat.le_trans h.size k.size, fun i hi => (k.block i (Nat.lt_of_lt_of_le hi h.size) (by intro e; injection e with e; omega)).trans (h.block i hi)⟩
theorem neq88n (w : World) : (binOp .neq 88 .nilFunc .nilFunc).run Tryd.prog w = .ok (.bool false) w := by kernel_rfl
theorem neq88f (w : World) (g : FuncId) (x y : Array Value) : (binOp .neq 88 (.func (.func g) x y) .nilFunc).run Tryd.prog w = .ok (.bool true) w := by kernel_rfl

set_option maxHeartbeats 1000000 in
theorem asked_nil (b : Bale) (dv wv : Value) (w : World) (hT : Tab w) (hd : SlD w dv b.draws) (hw : SlW w wv b.weighs) :
    Calls Tryd.prog 51 #[valB b dv wv, .nilFunc, .int .i64 0] w (AskedPost b dv wv (askE b true 0) w) := by
  have HT := Lib.hid hT
  have HD := Lib.hid hd
  have HW := Lib.hid hw
  obtain ⟨A, n, cp, rfl, hn, hlc, hcm⟩ := hd.form
  obtain ⟨A2, n2, cp2, rfl, hn2, hlc2, hcm2⟩ := hw.form
  clear hd hw hT
  have nq := neq88n
  go_enter Tryd.func51, Tryd.ntmps51
  go_wp2_with fail
  refine (check_any b _ _ _ ((HT.out.ext (Ext.al _ _)).ext (Ext.al _ _)) ((HD.out.ext (Ext.al _ _)).ext (Ext.al _ _)) ((HW.out.ext (Ext.al _ _)).ext (Ext.al _ _))).mono ?_
  rintro e w1 ⟨rfl, hb⟩
  obtain ⟨hc, hf, hz, HE⟩ := hb.use
  cases hv : valid b with
  | false =>
    have HV := Lib.hid hv; clear hv
    go_wp2
    refine ret_set8 ((Blk.at_ (by simp)).ext HE.out) fun W ⟨b0, b1, b2, b3, b4, b5, b6, b7⟩ hW => ?_
    refine bodyPost_ret (v := .tuple #[zP, .int .i64 (errB false 30)]) (by simp [results, Tryd.results51, go_sem, b0, b1, b2, b3, b4, b5, b6, b7]) rfl ?_
    exact AskedPost.bad (by unfold askE errB; rw [HV.out]; rfl) (by unfold askE; rw [HV.out]; simp) (ext_grown (((Ext.al _ _).trans (Ext.al _ _)).trans HE.out) hW (by omega))
  | true =>
    have HV := Lib.hid hv; clear hv
    have HB := Lib.hid (valid_bds HV.out)
    have HDW := Lib.hid (show SlD w1 (.slice A n cp) b.draws ∧ SlW w1 (.slice A2 n2 cp2) b.weighs from ⟨((HD.out.ext (Ext.al _ _)).ext (Ext.al _ _)).ext HE.out, ((HW.out.ext (Ext.al _ _)).ext (Ext.al _ _)).ext HE.out⟩)
    go_wp2_with fail
    refine (opened_any b _ _ _ HDW.out.1 HDW.out.2 HB.out.l1 HB.out.l5 HB.out.lo HB.out.lh HB.out.hi (fun x hx => by have := HB.out.w x hx; omega)).mono ?_
    rintro e w2 ⟨sv, lv, rfl, h1, h2, hE2⟩
    obtain ⟨As, ns, cs, rfl, hns, hsc, hsm⟩ := (show SlS w2 sv (spans b) from h1.sl (fun _ => rfl)).form
    obtain ⟨Al, nl, cl, rfl, hnl, hlc', hlm⟩ := (show SlI w2 lv (dries b) from h2.sl (fun _ => rfl)).form
    dsimp only [valP]
    have H1 := Lib.hid h1; have H2 := Lib.hid h2; clear h1 h2
    have HE3 := Lib.hid ((((Ext.al w _).trans (Ext.al _ _)).trans HE.out).trans hE2)
    have HBk := Lib.hid ((Blk.at_ (t := 82) (cs := #[.int .i64 0, .int .i64 0, .int .i64 0, .int .i64 0, .slice none 0 0, .slice none 0 0, .slice none 0 0, .slice none 0 0]) (w := w.alloc (.cells #[.int .i64 b.id, .int .i64 b.layers, .int .i64 b.dry.lo, .int .i64 b.dry.hi, .slice A n cp, .slice A2 n2 cp2] 27)) (g := w.heap.size + 1) (by simp)).ext (HE.out.trans hE2))
    clear hE2 hc hf
    have hc0 := HBk.out.cell 0
    have hc1 := HBk.out.cell 1
    have hc2 := HBk.out.cell 2
    have hc3 := HBk.out.cell 3
    have hc4 := HBk.out.cell 4
    have hc5 := HBk.out.cell 5
    have hc6 := HBk.out.cell 6
    have hc7 := HBk.out.cell 7
    have hfr := HBk.out.frozen
    have hlt := HBk.out.lt
    simp at hc0 hc1 hc2 hc3 hc4 hc5 hc6 hc7
    cases ho : okB b with
    | false =>
      have HO := Lib.hid ho; clear ho
      go_wp2
      refine ret_set8a HBk.out fun W ⟨b0, b1, b2, b3, b4, b5, b6, b7⟩ hW => ?_
      refine bodyPost_ret (v := .tuple #[zP, .int .i64 8]) (by simp [results, Tryd.results51, go_sem, b0, b1, b2, b3, b4, b5, b6, b7]) rfl ?_
      exact AskedPost.bad (by unfold askE; rw [HV.out, HO.out]; rfl) (by unfold askE; rw [HV.out, HO.out]; simp) (ext_grown HE3.out hW (by omega))
    | true =>
      have HO := Lib.hid ho; clear ho
      go_wp2
      refine ret_set8a HBk.out fun W ⟨b0, b1, b2, b3, b4, b5, b6, b7⟩ hW => ?_
      refine bodyPost_ret (v := .tuple #[valP b (.slice A n cp) (.slice A2 n2 cp2) (.slice As ns cs) (.slice Al nl cl), .int .i64 0]) (by simp [results, Tryd.results51, go_sem, b0, b1, b2, b3, b4, b5, b6, b7]) rfl ?_
      refine ⟨_, by unfold askE; rw [HV.out, HO.out]; rfl, fun _ => ⟨_, _, rfl, ?_, ?_⟩, fun h => absurd (by unfold askE; rw [HV.out, HO.out]; rfl) h, ext_grown HE3.out hW (by omega)⟩
      · exact Sl.of_own (fun _ => rfl) (own_kept H1.out hW (by simp at hz; omega))
      · exact Sl.of_own (fun _ => rfl) (own_kept H2.out hW (by simp at hz; omega))
set_option maxHeartbeats 1000000 in
theorem asked_fn (b : Bale) (dv wv : Value) (w : World) (g : FuncId) (cap : Array Value) (eg : ∀ args w, (callFunc g args).run Tryd.prog w = .ok (.enter g args) w) (r : Bool) (E0 : Int) (hE0 : E0 ≠ 0) (hr : valid b = true → ∀ W, Ext w W → Calls Tryd.prog g cap W fun e W' => e = .returned (.bool r) ∧ Ext W W') (hT : Tab w) (hd : SlD w dv b.draws) (hw : SlW w wv b.weighs) :
    Calls Tryd.prog 51 #[valB b dv wv, .func (.func g) #[] cap, .int .i64 E0] w (AskedPost b dv wv (askE b r E0) w) := by
  have HT := Lib.hid hT
  have HD := Lib.hid hd
  have HW := Lib.hid hw
  obtain ⟨A, n, cp, rfl, hn, hlc, hcm⟩ := hd.form
  obtain ⟨A2, n2, cp2, rfl, hn2, hlc2, hcm2⟩ := hw.form
  have HR := Lib.hid hr
  clear hd hw hT hr
  have nq := neq88f
  go_enter Tryd.func51, Tryd.ntmps51
  go_wp2_with fail
  refine (check_any b _ _ _ ((HT.out.ext (Ext.al _ _)).ext (Ext.al _ _)) ((HD.out.ext (Ext.al _ _)).ext (Ext.al _ _)) ((HW.out.ext (Ext.al _ _)).ext (Ext.al _ _))).mono ?_
  rintro e w1 ⟨rfl, hb⟩
  obtain ⟨hc, hf, hz, HE⟩ := hb.use
  cases hv : valid b with
  | false =>
    have HV := Lib.hid hv; clear hv
    go_wp2
    refine ret_set8 ((Blk.at_ (by simp)).ext HE.out) fun W ⟨b0, b1, b2, b3, b4, b5, b6, b7⟩ hW => ?_
    refine bodyPost_ret (v := .tuple #[zP, .int .i64 (errB false 30)]) (by simp [results, Tryd.results51, go_sem, b0, b1, b2, b3, b4, b5, b6, b7]) rfl ?_
    exact AskedPost.bad (by unfold askE errB; rw [HV.out]; rfl) (by unfold askE; rw [HV.out]; simp) (ext_grown (((Ext.al _ _).trans (Ext.al _ _)).trans HE.out) hW (by omega))
  | true =>
    have HV := Lib.hid hv; clear hv
    have HB := Lib.hid (valid_bds HV.out)
    obtain ⟨w0, hw0⟩ : ∃ w0 : World, w0 = w1 := ⟨_, rfl⟩
    subst hw0
    have hza : w.heap.size + 1 < w0.heap.size := by simp at hz; omega
    have hzb : w.heap.size < w0.heap.size := by omega
    have hcall := HR.out HV.out w0 (((Ext.al _ _).trans (Ext.al _ _)).trans HE.out)
    cases hrr : r with
    | false =>
      rw [hrr] at hcall
      have HC := Lib.hid hcall; clear hcall
      have HRR := Lib.hid hrr; clear hrr
      go_wp2_with (go_at_fn g; refine HC.out.mono ?_; rintro e w1 ⟨rfl, hb2⟩; obtain ⟨hc2, hf2, hz2, HE2⟩ := hb2.use)
      refine ret_set8 ((Blk.at_ (by simp)).ext (HE.out.trans HE2.out)) fun W ⟨b0, b1, b2, b3, b4, b5, b6, b7⟩ hW => ?_
      refine bodyPost_ret (v := .tuple #[zP, .int .i64 E0]) (by simp [results, Tryd.results51, go_sem, b0, b1, b2, b3, b4, b5, b6, b7]) rfl ?_
      exact AskedPost.bad (by unfold askE; rw [HV.out, HRR.out]; rfl) (by unfold askE; rw [HV.out, HRR.out]; simpa using hE0) (ext_grown (((Ext.al _ _).trans (Ext.al _ _)).trans (HE.out.trans HE2.out)) hW (by omega))
    | true =>
    rw [hrr] at hcall
    have HC := Lib.hid hcall; clear hcall
    have HRR := Lib.hid hrr; clear hrr
    go_wp2_with (go_at_fn g; refine HC.out.mono ?_; rintro e w1 ⟨rfl, hb2⟩; obtain ⟨hc2, hf2, hz2, HE2⟩ := hb2.use)
    have HE1 := Lib.hid (HE.out.trans HE2.out)
    clear HE HE2
    have HE := HE1; clear HE1
    have HDW := Lib.hid (show SlD w1 (.slice A n cp) b.draws ∧ SlW w1 (.slice A2 n2 cp2) b.weighs from ⟨((HD.out.ext (Ext.al _ _)).ext (Ext.al _ _)).ext HE.out, ((HW.out.ext (Ext.al _ _)).ext (Ext.al _ _)).ext HE.out⟩)
    refine (opened_any b _ _ _ HDW.out.1 HDW.out.2 HB.out.l1 HB.out.l5 HB.out.lo HB.out.lh HB.out.hi (fun x hx => by have := HB.out.w x hx; omega)).mono ?_
    rintro e w2 ⟨sv, lv, rfl, h1, h2, hE2⟩
    obtain ⟨As, ns, cs, rfl, hns, hsc, hsm⟩ := (show SlS w2 sv (spans b) from h1.sl (fun _ => rfl)).form
    obtain ⟨Al, nl, cl, rfl, hnl, hlc', hlm⟩ := (show SlI w2 lv (dries b) from h2.sl (fun _ => rfl)).form
    dsimp only [valP]
    have H1 := Lib.hid h1; have H2 := Lib.hid h2; clear h1 h2
    have HE3 := Lib.hid ((((Ext.al w _).trans (Ext.al _ _)).trans HE.out).trans hE2)
    have HBk := Lib.hid ((Blk.at_ (t := 82) (cs := #[.int .i64 0, .int .i64 0, .int .i64 0, .int .i64 0, .slice none 0 0, .slice none 0 0, .slice none 0 0, .slice none 0 0]) (w := w.alloc (.cells #[.int .i64 b.id, .int .i64 b.layers, .int .i64 b.dry.lo, .int .i64 b.dry.hi, .slice A n cp, .slice A2 n2 cp2] 27)) (g := w.heap.size + 1) (by simp)).ext (HE.out.trans hE2))
    clear hE2 hc hf hc2 hf2
    have hc0 := HBk.out.cell 0
    have hc1 := HBk.out.cell 1
    have hc2 := HBk.out.cell 2
    have hc3 := HBk.out.cell 3
    have hc4 := HBk.out.cell 4
    have hc5 := HBk.out.cell 5
    have hc6 := HBk.out.cell 6
    have hc7 := HBk.out.cell 7
    have hfr := HBk.out.frozen
    have hlt := HBk.out.lt
    simp at hc0 hc1 hc2 hc3 hc4 hc5 hc6 hc7
    cases ho : okB b with
    | false =>
      have HO := Lib.hid ho; clear ho
      go_wp2
      refine ret_set8a HBk.out fun W ⟨b0, b1, b2, b3, b4, b5, b6, b7⟩ hW => ?_
      refine bodyPost_ret (v := .tuple #[zP, .int .i64 8]) (by simp [results, Tryd.results51, go_sem, b0, b1, b2, b3, b4, b5, b6, b7]) rfl ?_
      exact AskedPost.bad (by unfold askE; rw [HV.out, HRR.out, HO.out]; rfl) (by unfold askE; rw [HV.out, HRR.out, HO.out]; simp) (ext_grown HE3.out hW (by omega))
    | true =>
      have HO := Lib.hid ho; clear ho
      go_wp2
      refine ret_set8a HBk.out fun W ⟨b0, b1, b2, b3, b4, b5, b6, b7⟩ hW => ?_
      refine bodyPost_ret (v := .tuple #[valP b (.slice A n cp) (.slice A2 n2 cp2) (.slice As ns cs) (.slice Al nl cl), .int .i64 0]) (by simp [results, Tryd.results51, go_sem, b0, b1, b2, b3, b4, b5, b6, b7]) rfl ?_
      refine ⟨_, by unfold askE; rw [HV.out, HRR.out, HO.out]; rfl, fun _ => ⟨_, _, rfl, ?_, ?_⟩, fun h => absurd (by unfold askE; rw [HV.out, HRR.out, HO.out]; rfl) h, ext_grown HE3.out hW (by omega)⟩
      · exact Sl.of_own (fun _ => rfl) (own_kept H1.out hW (by omega))
      · exact Sl.of_own (fun _ => rfl) (own_kept H2.out hW (by omega))
end Go.Proofs.YtcoiahjehlplfaaDoor
