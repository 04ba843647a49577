/- middlinglaw03.CoreTells: the walk. -/
import Derived.Test.YtdlipbobfgdleaaDoorPkTruthCardD
import Derived.Test.YtdlipbobfgdleaaDoorPkTruthCardF
import Derived.Test.YtdlipbobfgdleaaDoorPkTruthCardJ
namespace Go.Proofs.YtdlipbobfgdleaaDoor
open Go.RowKit Go.Shelf
set_option maxRecDepth 100000
set_option linter.unusedSimpArgs false

/-- The two boxes of a law: the bale that came in, and its twin. -/
structure St (b : Bale) (w : World) (p q : Nat) (dv wv d2 w2 : Value) (W : World) : Prop where
  e : Ext w W
  p : Blk W p 27 #[.int .i64 b.id, .int .i64 b.layers, .int .i64 b.dry.lo, .int .i64 b.dry.hi, dv, wv]
  q : Blk W q 27 #[.int .i64 b.id, .int .i64 b.layers, .int .i64 b.dry.lo, .int .i64 b.dry.hi, d2, w2]
  t : Tab W
  a1 : SlD W dv b.draws
  a2 : SlW W wv b.weighs
  b1 : SlD W d2 b.draws
  b2 : SlW W w2 b.weighs
theorem St.ext {b : Bale} {w : World} {p q : Nat} {dv wv d2 w2 : Value} {W W' : World} (h : St b w p q dv wv d2 w2 W) (e : Ext W W') : St b w p q dv wv d2 w2 W' :=
  ⟨h.e.trans e, h.p.ext e, h.q.ext e, h.t.ext e, h.a1.ext e, h.a2.ext e, h.b1.ext e, h.b2.ext e⟩
theorem St.cells {b : Bale} {w : World} {p q : Nat} {dv wv d2 w2 : Value} {W : World} (h : St b w p q dv wv d2 w2 W) :
    (W.cell? ⟨p, 0, none⟩ = some (.int .i64 b.id) ∧ W.cell? ⟨p, 1, none⟩ = some (.int .i64 b.layers) ∧ W.cell? ⟨p, 2, none⟩ = some (.int .i64 b.dry.lo) ∧ W.cell? ⟨p, 3, none⟩ = some (.int .i64 b.dry.hi) ∧ W.cell? ⟨p, 4, none⟩ = some dv ∧ W.cell? ⟨p, 5, none⟩ = some wv) ∧
    (W.cell? ⟨q, 0, none⟩ = some (.int .i64 b.id) ∧ W.cell? ⟨q, 1, none⟩ = some (.int .i64 b.layers) ∧ W.cell? ⟨q, 2, none⟩ = some (.int .i64 b.dry.lo) ∧ W.cell? ⟨q, 3, none⟩ = some (.int .i64 b.dry.hi) ∧ W.cell? ⟨q, 4, none⟩ = some d2 ∧ W.cell? ⟨q, 5, none⟩ = some w2) ∧ p < W.heap.size ∧ q < W.heap.size :=
  ⟨⟨h.p.cell 0, h.p.cell 1, h.p.cell 2, h.p.cell 3, h.p.cell 4, h.p.cell 5⟩, ⟨h.q.cell 0, h.q.cell 1, h.q.cell 2, h.q.cell 3, h.q.cell 4, h.q.cell 5⟩, h.p.lt, h.q.lt⟩

theorem eql23s (a b : Int) (w : World) : (binOp .eql 23 (.agg #[.int .i64 a, .int .i64 b]) (.agg #[.int .i64 a, .int .i64 b])).run Tryd.prog w = .ok (.bool true) w := by
  rw [run_eql_struct, show (10000 : Nat) = 9998 + 2 from rfl, eqin23]; simp [Result.andThen]

set_option maxHeartbeats 2000000 in
theorem tells_any (b : Bale) (at' : Int) (dv wv : Value) (w : World) (hT : Tab w) (hd : SlD w dv b.draws) (hw : SlW w wv b.weighs) :
    Calls Tryd.prog 3 #[valB b dv wv, .int .i64 at'] w fun e w' => e = .returned (.bool true) ∧ Ext w w' := by
  have HT := Lib.hid hT
  have HD := Lib.hid hd
  have HW := Lib.hid hw
  obtain ⟨A, n, cp, rfl, hn, hlc, hcm⟩ := hd.form
  obtain ⟨A2, n2, cp2, rfl, hn2, hlc2, hcm2⟩ := hw.form
  clear hd hw hT
  have nq := neq23
  go_enter Tryd.func3, Tryd.ntmps3
  go_wp2_with fail
  refine (great_any b _ _ _ (HD.out.ext (Ext.al _ _)) (HW.out.ext (Ext.al _ _))).mono ?_
  rintro e w1 ⟨rfl, hE⟩
  obtain ⟨hc, hf, hz, HE⟩ := hE.use
  have HE1 := Lib.hid ((Ext.al w _).trans HE.out)
  have hz0 : w.heap.size < w1.heap.size := by simp at hz; omega
  cases hg : greatB b with
  | true =>
    go_wp2
    go_ret
    exact ⟨rfl, HE1.out⟩
  | false =>
    have hlen : b.draws.length ≤ 20 ∧ b.weighs.length ≤ 16 := by
      unfold greatB at hg; simp at hg; omega
    clear hg
    have HLE := Lib.hid hlen; clear hlen
    have HB1 := Lib.hid (show Blk w1 w.heap.size 27 #[.int .i64 b.id, .int .i64 b.layers, .int .i64 b.dry.lo, .int .i64 b.dry.hi, .slice A n cp, .slice A2 n2 cp2] from (Blk.at_ rfl).ext HE.out)
    go_wp2_with fail
    refine (twin_any b _ _ _ (HD.out.ext HE1.out) (HW.out.ext HE1.out) (by have := HLE.out; omega) (by have := HLE.out; omega)).mono ?_
    rintro e w2 ⟨⟨v, rfl, tv⟩, hE2⟩
    obtain ⟨dv, wv, rfl, o1, o2⟩ := tv
    obtain ⟨Ad, nd, cd, rfl, -, -, -⟩ := (show SlD w2 dv b.draws from o1.sl (fun _ => rfl)).form
    obtain ⟨Aw, nw, cw, rfl, -, -, -⟩ := (show SlW w2 wv b.weighs from o2.sl (fun _ => rfl)).form
    have HTD := Lib.hid (show SlD w2 (.slice Ad nd cd) b.draws from o1.sl (fun _ => rfl))
    have HTW := Lib.hid (show SlW w2 (.slice Aw nw cw) b.weighs from o2.sl (fun _ => rfl))
    have HE2 := Lib.hid (HE1.out.trans hE2)
    have HBx := Lib.hid (HB1.out.ext hE2)
    clear o1 o2 hE2 hc hf
    have x0 := HBx.out.cell 0
    have x1 := HBx.out.cell 1
    have x2 := HBx.out.cell 2
    have x3 := HBx.out.cell 3
    have x4 := HBx.out.cell 4
    have x5 := HBx.out.cell 5
    have xl := HBx.out.lt
    simp at x0 x1 x2 x3 x4 x5
    dsimp only [valB]
    go_wp2_with fail
    have S := Lib.hid (show St b w w.heap.size w2.heap.size (.slice A n cp) (.slice A2 n2 cp2) (.slice Ad nd cd) (.slice Aw nw cw) _ from ⟨HE2.out.alloc (.cells #[.int .i64 b.id, .int .i64 b.layers, .int .i64 b.dry.lo, .int .i64 b.dry.hi, .slice Ad nd cd, .slice Aw nw cw] 27), HBx.out.alloc _, Blk.new _ _ _, (HT.out.ext HE2.out).ext (Ext.al _ _), (HD.out.ext HE2.out).ext (Ext.al _ _), (HW.out.ext HE2.out).ext (Ext.al _ _), HTD.out.ext (Ext.al _ _), HTW.out.ext (Ext.al _ _)⟩)
    clear x0 x1 x2 x3 x4 x5 xl HTD HTW HBx HE2
    refine (can_any b _ _ _ S.out.t S.out.b1 S.out.b2).mono ?_
    rintro e w3 ⟨rfl, hE3⟩
    have S3 := Lib.hid (S.out.ext hE3); clear S hE3
    obtain ⟨⟨x0, x1, x2, x3, x4, x5⟩, ⟨y0, y1, y2, y3, y4, y5⟩, xl, yl⟩ := S3.out.cells
    go_wp2_with fail
    refine (refCan_any b _ _ _ S3.out.a1 S3.out.a2).mono ?_
    rintro e w4 ⟨rfl, hE4⟩
    have E4 := Lib.hid hE4
    have S4 := Lib.hid (S3.out.ext hE4); clear hE4 x0 x1 x2 x3 x4 x5 y0 y1 y2 y3 y4 y5 xl yl
    obtain ⟨⟨x0, x1, x2, x3, x4, x5⟩, ⟨y0, y1, y2, y3, y4, y5⟩, xl, yl⟩ := S4.out.cells
    go_wp2_with fail
    refine (layer_any b at' _ _ _ S4.out.t S4.out.b1 S4.out.b2).mono ?_
    rintro e w5 ⟨rfl, hE5⟩
    have E5 := Lib.hid (E4.out.trans hE5)
    have S5 := Lib.hid (S4.out.ext hE5); clear S4 E4 hE5 x0 x1 x2 x3 x4 x5 y0 y1 y2 y3 y4 y5 xl yl
    obtain ⟨⟨x0, x1, x2, x3, x4, x5⟩, ⟨y0, y1, y2, y3, y4, y5⟩, xl, yl⟩ := S5.out.cells
    have z5 : w.heap.size < w5.heap.size := xl
    have z5' : w2.heap.size < w5.heap.size := yl
    have hge : w3.heap.size ≤ w5.heap.size := E5.out.size
    dsimp only [valS]
    go_wp2_with fail
    have S5a := Lib.hid (S5.out.ext (Ext.al _ (.cells #[.int .i64 (layerB b (inB 0 (b.layers - 1) at') at').lo, .int .i64 (layerB b (inB 0 (b.layers - 1) at') at').hi] 23)))
    have HS1 := Lib.hid (Blk.new w5 23 #[.int .i64 (layerB b (inB 0 (b.layers - 1) at') at').lo, .int .i64 (layerB b (inB 0 (b.layers - 1) at') at').hi])
    refine (refLayer_any b at' _ _ _ S5a.out.a1 S5a.out.a2).mono ?_
    rintro e w6 ⟨rfl, hE6⟩
    have S6 := Lib.hid (S5a.out.ext hE6)
    have HS2 := Lib.hid (HS1.out.ext hE6)
    have E6 := Lib.hid ((E5.out.trans (Ext.al _ _)).trans hE6)
    have z6 : w5.heap.size < w6.heap.size := by have := hE6.size; simp at this; omega
    clear S5 S5a HS1 hE6 x0 x1 x2 x3 x4 x5 y0 y1 y2 y3 y4 y5 xl yl
    obtain ⟨⟨x0, x1, x2, x3, x4, x5⟩, ⟨y0, y1, y2, y3, y4, y5⟩, xl, yl⟩ := S6.out.cells
    dsimp only [valS]
    go_wp2
    generalize hW7 : w6.alloc (.cells #[.int .i64 (layerB b (inB 0 (b.layers - 1) at') at').lo, .int .i64 (layerB b (inB 0 (b.layers - 1) at') at').hi] 23) = w7
    have HS3 := Lib.hid (show Blk w7 w6.heap.size 23 #[.int .i64 (layerB b (inB 0 (b.layers - 1) at') at').lo, .int .i64 (layerB b (inB 0 (b.layers - 1) at') at').hi] from hW7 ▸ Blk.new _ _ _)
    have HS4 := Lib.hid (show Blk w7 w5.heap.size 23 #[.int .i64 (layerB b (inB 0 (b.layers - 1) at') at').lo, .int .i64 (layerB b (inB 0 (b.layers - 1) at') at').hi] from hW7 ▸ HS2.out.alloc _)
    have E7 := Lib.hid (show Ext w3 w7 from hW7 ▸ E6.out.trans (Ext.al _ _))
    have S7 := Lib.hid (show St b w w.heap.size w2.heap.size (.slice A n cp) (.slice A2 n2 cp2) (.slice Ad nd cd) (.slice Aw nw cw) w7 from hW7 ▸ S6.out.ext (Ext.al _ _))
    clear hW7 x0 x1 x2 x3 x4 x5 y0 y1 y2 y3 y4 y5 xl yl S6 HS2
    have mx := fun W (h : Ext w7 W) => (S7.out.ext h).cells.1
    have my := fun W (h : Ext w7 W) => (S7.out.ext h).cells.2.1
    have x0 := fun W (h : Ext w7 W) => (mx W h).1
    have x1 := fun W (h : Ext w7 W) => (mx W h).2.1
    have x2 := fun W (h : Ext w7 W) => (mx W h).2.2.1
    have x3 := fun W (h : Ext w7 W) => (mx W h).2.2.2.1
    have x4 := fun W (h : Ext w7 W) => (mx W h).2.2.2.2.1
    have x5 := fun W (h : Ext w7 W) => (mx W h).2.2.2.2.2
    have y0 := fun W (h : Ext w7 W) => (my W h).1
    have y1 := fun W (h : Ext w7 W) => (my W h).2.1
    have y2 := fun W (h : Ext w7 W) => (my W h).2.2.1
    have y3 := fun W (h : Ext w7 W) => (my W h).2.2.2.1
    have y4 := fun W (h : Ext w7 W) => (my W h).2.2.2.2.1
    have y5 := fun W (h : Ext w7 W) => (my W h).2.2.2.2.2
    have s0 := fun W (h : Ext w7 W) => (show W.cell? ⟨w5.heap.size, 0, none⟩ = some (.int .i64 (layerB b (inB 0 (b.layers - 1) at') at').lo) from (HS4.out.ext h).cell 0)
    have s1 := fun W (h : Ext w7 W) => (show W.cell? ⟨w5.heap.size, 1, none⟩ = some (.int .i64 (layerB b (inB 0 (b.layers - 1) at') at').hi) from (HS4.out.ext h).cell 1)
    have s2 := fun W (h : Ext w7 W) => (show W.cell? ⟨w6.heap.size, 0, none⟩ = some (.int .i64 (layerB b (inB 0 (b.layers - 1) at') at').lo) from (HS3.out.ext h).cell 0)
    have s3 := fun W (h : Ext w7 W) => (show W.cell? ⟨w6.heap.size, 1, none⟩ = some (.int .i64 (layerB b (inB 0 (b.layers - 1) at') at').hi) from (HS3.out.ext h).cell 1)
    clear mx my
    refine wp_region_tame (fun W => Ext w7 W) (fun W W' => Ext W W') (by kernel_rfl) 110 rfl (by decide +kernel) (Ext.refl _).drew ?_
    repeat (apply tame_q rfl; (intro ρ W hC hr hD; (obtain ⟨hrc, hrg, hrf, hrs⟩ := hr); (simp [go_sem] at hD); go_simp; first | exact ⟨⟨hC, Ext.refl _⟩, rfl⟩ | exact ⟨⟨hC, RS.refl _⟩, rfl⟩ | exact rfl); simp only [List.nil_append, List.cons_append])
    apply tame_q rfl
    · intro ρ W hC hr hD
      obtain ⟨hrc, hrg, hrf, hrs⟩ := hr
      simp [go_sem] at hD
      go_simp
      have S8 := S7.out.ext hC
      refine (check_any b _ _ _ S8.t S8.b1 S8.b2).mono ?_
      rintro e w' ⟨rfl, hE⟩
      exact ⟨_, rfl, ⟨hC.trans hE, hE⟩, rfl⟩
    simp only [List.nil_append, List.cons_append]
    repeat (apply tame_q rfl; (intro ρ W hC hr hD; (obtain ⟨hrc, hrg, hrf, hrs⟩ := hr); (simp [go_sem] at hD); go_simp; first | exact ⟨⟨hC, Ext.refl _⟩, rfl⟩ | exact ⟨⟨hC, RS.refl _⟩, rfl⟩ | exact rfl); simp only [List.nil_append, List.cons_append])
    apply tame_q rfl
    · intro ρ W hC hr hD
      obtain ⟨hrc, hrg, hrf, hrs⟩ := hr
      simp [go_sem] at hD
      go_simp
      have S8 := S7.out.ext hC
      refine (refCheck_v b _ _ _ S8.a1 S8.a2).mono ?_
      rintro e w' ⟨rfl, hE⟩
      exact ⟨_, rfl, ⟨hC.trans hE, hE⟩, rfl⟩
    simp only [List.nil_append, List.cons_append]
    repeat (apply tame_q rfl; (intro ρ W hC hr hD; (obtain ⟨hrc, hrg, hrf, hrs⟩ := hr); (simp [go_sem] at hD); go_simp; first | exact ⟨⟨hC, Ext.refl _⟩, rfl⟩ | exact ⟨⟨hC, RS.refl _⟩, rfl⟩ | exact rfl); simp only [List.nil_append, List.cons_append])
    refine tame_end 110 rfl rfl (fun ρ W hC hr hF => ?_)
    obtain ⟨hrc, hrg, hrf, hrs⟩ := hr
    simp [go_sem] at hF
    apply frame_to
    · go_simp
      exact rfl
    clear hF hrs hrc hrg hrf x0 x1 x2 x3 x4 x5 y0 y1 y2 y3 y4 y5 s0 s1 s2 s3
    have E8 := Lib.hid (E7.out.trans hC)
    have HS5 := Lib.hid (HS3.out.ext hC)
    have HS6 := Lib.hid (HS4.out.ext hC)
    have S8 := Lib.hid (S3.out.ext E8.out)
    clear hC S7 E7 HS3 HS4
    obtain ⟨⟨x0, x1, x2, x3, x4, x5⟩, ⟨y0, y1, y2, y3, y4, y5⟩, xl, yl⟩ := S8.out.cells
    go_wp2_with fail
    clear x0 x1 x2 x3 x4 x5 y0 y1 y2 y3 y4 y5 xl yl
    refine (best_any b _ _ _ S8.out.t S8.out.b1 S8.out.b2).mono ?_
    rintro e w9 ⟨rfl, hE9⟩
    have S9 := Lib.hid (S8.out.ext hE9)
    have E9 := Lib.hid (E8.out.trans hE9)
    have HA9 := Lib.hid (HS6.out.ext hE9)
    have HB9 := Lib.hid (HS5.out.ext hE9)
    clear S8 E8 HS5 HS6 hE9
    obtain ⟨⟨x0, x1, x2, x3, x4, x5⟩, ⟨y0, y1, y2, y3, y4, y5⟩, xl, yl⟩ := S9.out.cells
    have n1 : ¬ w.heap.size = w5.heap.size := by omega
    have n2' : ¬ w2.heap.size = w5.heap.size := by omega
    have n3 : ¬ w5.heap.size = w.heap.size := by omega
    have n4 : ¬ w5.heap.size = w2.heap.size := by omega
    have a0 := HA9.out.cell 0
    have a1 := HA9.out.cell 1
    have af := HA9.out.frozen
    have al := HA9.out.lt
    simp at a0 a1
    dsimp only [valS]
    go_wp2_with fail
    have E9s := Lib.hid (show Ext w3 ((w9.setCell ⟨w5.heap.size, 0, none⟩ (.int .i64 (endsB min b).lo)).setCell ⟨w5.heap.size, 1, none⟩ (.int .i64 (endsB min b).hi)) from (E9.out.setCell (by have := hge; dsimp only; omega) _).setCell (by have := hge; dsimp only; omega) _)
    have HA9s := Lib.hid (show Blk ((w9.setCell ⟨w5.heap.size, 0, none⟩ (.int .i64 (endsB min b).lo)).setCell ⟨w5.heap.size, 1, none⟩ (.int .i64 (endsB min b).hi)) w5.heap.size 23 #[.int .i64 (endsB min b).lo, .int .i64 (endsB min b).hi] from (HA9.out.set_ 0 _).set_ 1 _)
    have HB9s := Lib.hid (show Blk ((w9.setCell ⟨w5.heap.size, 0, none⟩ (.int .i64 (endsB min b).lo)).setCell ⟨w5.heap.size, 1, none⟩ (.int .i64 (endsB min b).hi)) w6.heap.size 23 _ from (HB9.out.far (by dsimp only; omega) _).far (by dsimp only; omega) _)
    have S9s := Lib.hid (S3.out.ext E9s.out)
    clear S9 E9 HA9 HB9 x0 x1 x2 x3 x4 x5 y0 y1 y2 y3 y4 y5 xl yl a0 a1 af al
    refine (refBest_any b _ _ _ S9s.out.a1 S9s.out.a2).mono ?_
    rintro e w10 ⟨rfl, hE10⟩
    have S10 := Lib.hid (S9s.out.ext hE10)
    have E10 := Lib.hid (E9s.out.trans hE10)
    have HA10 := Lib.hid (HA9s.out.ext hE10)
    have HB10 := Lib.hid (HB9s.out.ext hE10)
    clear S9s E9s HA9s HB9s hE10
    obtain ⟨⟨x0, x1, x2, x3, x4, x5⟩, ⟨y0, y1, y2, y3, y4, y5⟩, xl, yl⟩ := S10.out.cells
    have a0 := HB10.out.cell 0
    have a1 := HB10.out.cell 1
    have af := HB10.out.frozen
    have al := HB10.out.lt
    simp at a0 a1
    dsimp only [valS]
    go_wp2_with fail
    have hge6 : w3.heap.size ≤ w6.heap.size := by omega
    have E10s := Lib.hid (show Ext w3 ((w10.setCell ⟨w6.heap.size, 0, none⟩ (.int .i64 (endsB min b).lo)).setCell ⟨w6.heap.size, 1, none⟩ (.int .i64 (endsB min b).hi)) from (E10.out.setCell (by have := hge6; dsimp only; omega) _).setCell (by have := hge6; dsimp only; omega) _)
    have HB10s := Lib.hid (show Blk ((w10.setCell ⟨w6.heap.size, 0, none⟩ (.int .i64 (endsB min b).lo)).setCell ⟨w6.heap.size, 1, none⟩ (.int .i64 (endsB min b).hi)) w6.heap.size 23 #[.int .i64 (endsB min b).lo, .int .i64 (endsB min b).hi] from (HB10.out.set_ 0 _).set_ 1 _)
    have HA10s := Lib.hid (show Blk ((w10.setCell ⟨w6.heap.size, 0, none⟩ (.int .i64 (endsB min b).lo)).setCell ⟨w6.heap.size, 1, none⟩ (.int .i64 (endsB min b).hi)) w5.heap.size 23 #[.int .i64 (endsB min b).lo, .int .i64 (endsB min b).hi] from (HA10.out.far (by dsimp only; omega) _).far (by dsimp only; omega) _)
    have S10s := Lib.hid (S3.out.ext E10s.out)
    clear S10 E10 HA10 HB10 x0 x1 x2 x3 x4 x5 y0 y1 y2 y3 y4 y5 xl yl a0 a1 af al
    refine (worst_any b _ _ _ S10s.out.t S10s.out.b1 S10s.out.b2).mono ?_
    rintro e w11 ⟨rfl, hE11⟩
    have S11 := Lib.hid (S10s.out.ext hE11)
    have E11 := Lib.hid (E10s.out.trans hE11)
    have HA11 := Lib.hid (HA10s.out.ext hE11)
    have HB11 := Lib.hid (HB10s.out.ext hE11)
    clear S10s E10s HA10s HB10s hE11
    obtain ⟨⟨x0, x1, x2, x3, x4, x5⟩, ⟨y0, y1, y2, y3, y4, y5⟩, xl, yl⟩ := S11.out.cells
    have z11 : w6.heap.size < w11.heap.size := HB11.out.lt
    have hge11 : w3.heap.size ≤ w11.heap.size := by omega
    dsimp only [valS]
    go_wp2_with fail
    have S11a := Lib.hid (S11.out.ext (Ext.al _ (.cells #[.int .i64 (endsB max b).lo, .int .i64 (endsB max b).hi] 23)))
    have E11a := Lib.hid (E11.out.trans (Ext.al _ (.cells #[.int .i64 (endsB max b).lo, .int .i64 (endsB max b).hi] 23)))
    have HA11a := Lib.hid (HA11.out.alloc (.cells #[.int .i64 (endsB max b).lo, .int .i64 (endsB max b).hi] 23))
    have HB11a := Lib.hid (HB11.out.alloc (.cells #[.int .i64 (endsB max b).lo, .int .i64 (endsB max b).hi] 23))
    have HC1 := Lib.hid (Blk.new w11 23 #[.int .i64 (endsB max b).lo, .int .i64 (endsB max b).hi])
    clear S11 E11 HA11 HB11 x0 x1 x2 x3 x4 x5 y0 y1 y2 y3 y4 y5 xl yl
    refine (refWorst_any b _ _ _ S11a.out.a1 S11a.out.a2).mono ?_
    rintro e w12 ⟨rfl, hE12⟩
    have S12 := Lib.hid (S11a.out.ext hE12)
    have E12 := Lib.hid (E11a.out.trans hE12)
    have HA12 := Lib.hid (HA11a.out.ext hE12)
    have HB12 := Lib.hid (HB11a.out.ext hE12)
    have HC12 := Lib.hid (HC1.out.ext hE12)
    clear S11a E11a HA11a HB11a HC1 hE12
    obtain ⟨⟨x0, x1, x2, x3, x4, x5⟩, ⟨y0, y1, y2, y3, y4, y5⟩, xl, yl⟩ := S12.out.cells
    have a0 := HA12.out.cell 0
    have a1 := HA12.out.cell 1
    have al := HA12.out.lt
    have b0 := HB12.out.cell 0
    have b1 := HB12.out.cell 1
    have bl := HB12.out.lt
    have c0 := HC12.out.cell 0
    have c1 := HC12.out.cell 1
    have cl := HC12.out.lt
    simp at a0 a1 b0 b1 c0 c1
    have S12a := Lib.hid (S12.out.ext (Ext.al _ (.cells #[.int .i64 (endsB max b).lo, .int .i64 (endsB max b).hi] 23)))
    have eq := eql23s
    dsimp only [valS]
    go_wp2_with fail
    refine (same_any b _ _ _ _ _ S12a.out.b1 S12a.out.b2 S12a.out.a1 S12a.out.a2).mono ?_
    rintro e w13 ⟨rfl, hE13⟩
    go_wp2
    go_ret
    exact ⟨rfl, (S12a.out.ext hE13).e⟩
end Go.Proofs.YtdlipbobfgdleaaDoor
