/- The small functions of the outright laws: span, draw, weigh, bale, odd, ints, in. -/
import Derived.Test.YtdlipbobfgdleaaDoorPkTruthCardR
import Derived.Test.YtdlipbobfgdleaaDoorPkTruthCardF
import Derived.Test.YtdlipbobfgdleaaDoorPkTruthCardC
import Derived.Test.YtdlipbobfgdleaaDoorPkTruthCardO
import Derived.Test.YtdlipbobfgdleaaDoorPkTruthCardP
import Derived.Test.YtdlipbobfgdleaaDoorPkTruthCardD
import Derived.Test.YtdlipbobfgdleaaDoorPkTruthCardK
namespace Go.Proofs.YtdlipbobfgdleaaDoor
open Go.RowKit Go.Shelf Go.Lib
set_option maxRecDepth 100000
set_option linter.unusedSimpArgs false

theorem ret_set4 {P : Program} {fn : Func} {R : Ending → World → Prop} {ex : Exit} {a : Act} {w1 : World} {g : Nat} {t : TypeId} {x0 x1 x2 x3 y0 y1 y2 y3 : Value} (hB : Blk w1 g t #[x0, x1, x2, x3])
    (h : ∀ W, (W.cell? ⟨g, 0, none⟩ = some y0 ∧ W.cell? ⟨g, 1, none⟩ = some y1 ∧ W.cell? ⟨g, 2, none⟩ = some y2 ∧ W.cell? ⟨g, 3, none⟩ = some y3) → w1.grownBy W (some g) → bodyPost P fn R ex a W) :
    bodyPost P fn R ex a ((((w1.setCell ⟨g, 0, none⟩ y0).setCell ⟨g, 1, none⟩ y1).setCell ⟨g, 2, none⟩ y2).setCell ⟨g, 3, none⟩ y3) := by
  have H := (((hB.set_ 0 y0).set_ 1 y1).set_ 2 y2).set_ 3 y3
  exact h _ ⟨H.cell 0, H.cell 1, H.cell 2, H.cell 3⟩ (grown_set (grown_set (grown_set (grown_set (World.grownBy.refl _ _) (p := ⟨g, 0, none⟩) (.inl rfl) y0) (p := ⟨g, 1, none⟩) (.inl rfl) y1) (p := ⟨g, 2, none⟩) (.inl rfl) y2) (p := ⟨g, 3, none⟩) (.inl rfl) y3)
theorem ret_set6b {P : Program} {fn : Func} {R : Ending → World → Prop} {ex : Exit} {a : Act} {w1 : World} {g : Nat} {t t2 : TypeId} {cs : Array Value} {x0 x1 x2 x3 x4 x5 y0 y1 y2 y3 y4 y5 : Value} (hB : Blk w1 g t #[x0, x1, x2, x3, x4, x5])
    (h : ∀ W, (W.cell? ⟨g, 0, none⟩ = some y0 ∧ W.cell? ⟨g, 1, none⟩ = some y1 ∧ W.cell? ⟨g, 2, none⟩ = some y2 ∧ W.cell? ⟨g, 3, none⟩ = some y3 ∧ W.cell? ⟨g, 4, none⟩ = some y4 ∧ W.cell? ⟨g, 5, none⟩ = some y5) → w1.grownBy W (some g) → Blk W w1.heap.size t2 cs → bodyPost P fn R ex a W) :
    bodyPost P fn R ex a (((((((w1.setCell ⟨g, 0, none⟩ y0).setCell ⟨g, 1, none⟩ y1).setCell ⟨g, 2, none⟩ y2).setCell ⟨g, 3, none⟩ y3).setCell ⟨g, 4, none⟩ y4).setCell ⟨g, 5, none⟩ y5).alloc (.cells cs t2)) := by
  have K := (hB.set6 y0 y1 y2 y3 y4 y5).alloc (.cells cs t2)
  exact h _ ⟨K.cell 0, K.cell 1, K.cell 2, K.cell 3, K.cell 4, K.cell 5⟩ (grown_ext (grown_set (grown_set (grown_set (grown_set (grown_set (grown_set (World.grownBy.refl _ _) (p := ⟨g, 0, none⟩) (.inl rfl) y0) (p := ⟨g, 1, none⟩) (.inl rfl) y1) (p := ⟨g, 2, none⟩) (.inl rfl) y2) (p := ⟨g, 3, none⟩) (.inl rfl) y3) (p := ⟨g, 4, none⟩) (.inl rfl) y4) (p := ⟨g, 5, none⟩) (.inl rfl) y5) (Ext.al _ _))
    (Blk.at_ (by simp [World.setCell]))
theorem encD_o : ∀ x : Draw, ∀ u ∈ encD x, u.oneCell' = true := fun x u hu => by
  simp at hu
  rcases hu with rfl | rfl | rfl | rfl <;> rfl
theorem Own.lit {α : Type} {enc : α → List Value} {e : TypeId} {sz : Nat} {W : World} {base g : Nat} {l : List α} {cs : Array Value} (henc : ∀ x, (enc x).length = sz) (h : Blk W g e cs) (hcs : cs = (l.flatMap enc).toArray) (hb : base ≤ g) (hl : l.length ≤ 1000) : Own enc e sz W base (.slice (some ⟨g, 0, none⟩) l.length l.length) l := by
  have hlen := enc_len henc l
  subst hcs
  exact ⟨hlen, .inr ⟨g, l.length, _, rfl, hb, h, Nat.le_refl _, by unfold maxLen; omega, by simpa using hlen, by rw [← hlen, List.toList_toArray, List.take_length]⟩⟩
/-- append of a whole slice onto one of the call's own. -/
theorem wpList_appL {α : Type} (enc : α → List Value) (t e : TypeId) (sz : Nat) (z : Value) (bytes : Nat) (ht : Tryd.prog.underlying t = some (.slice e))
    (hinfo : (Tryd.prog.info? e).map (fun i => (i.zero, i.size, i.bytes)) = some (some z, sz, bytes)) (hzs : z.cells.size = sz) (hsz : 0 < sz) (hbytes : bytes ≤ 1000)
    (henc : ∀ x, (enc x).length = sz) (h1 : ∀ x, ∀ u ∈ enc x, u.oneCell' = true)
    {ops : Array Oper} {rest : List Oper} {o : Oper} {a : Act} {Q : Exit → Act → World → Prop} {w : World} (hgd : o.guard = none) (s x : Operand)
    (ho : o.op = .call { callee := .builtin .append, args := #[s, x], argTypes := #[t, t] }) (base : Nat) (v xv : Value) (l m : List α) (hs : a.eval s = v) (hown : Own enc e sz w base v l)
    (hx : a.eval x = xv) (hm : Sl enc sz w xv m) (hlen : l.length + m.length < 100000000000) (hbase : base ≤ w.heap.size)
    (h : ∀ v' w', Own enc e sz w' base v' (l ++ m) → Below base w w' → wpList Tryd.prog ops Q rest (a.put o.dst v') w') :
    wpList Tryd.prog ops Q (o :: rest) a w := by
  obtain ⟨i0, hi, hz0, hz1, hz2⟩ := info_parts hinfo
  have hrun : ∃ v' W', (Builtin.append_ #[t, t] o.type #[v, xv]).run Tryd.prog w = .ok v' W' ∧ Own enc e sz W' base v' (l ++ m) ∧ Below base w W' := by
    obtain ⟨A, n, c, rfl, hn, hlc, hcm⟩ := id hm.form
    by_cases h0 : m.length = 0
    · have : m = [] := List.eq_nil_of_length_eq_zero h0
      subst this
      have hn0 : n = 0 := hn.out
      subst hn0
      have hS : Src Tryd.prog i0.size t (.slice A 0 c) 0 [] w := ⟨.inl ⟨e, ht⟩, fun _ => by simp [Builtin.lenOf], by cases A <;> simp [Builtin.firstCells, loadCells, loadCellsFrom], by cases A <;> simp [Builtin.firstCells, loadCells, loadCellsFrom], by simp, by simp⟩
      rcases id hown.2 with ⟨rfl, -⟩ | ⟨g, cap, cur, rfl, -, -, hle, -⟩
      · exact ⟨_, _, run_append_nothing w t t o.type e i0 ht hi _ 0 0 (Nat.le_refl _) _ hS, by rw [List.append_nil]; exact hown, Below.refl _ _⟩
      · exact ⟨_, _, run_append_nothing w t t o.type e i0 ht hi _ _ _ hle _ hS, by rw [List.append_nil]; exact hown, Below.refl _ _⟩
    · have hnp : 0 < n := by have := hn.out; omega
      obtain ⟨b, off, y, rfl, -, -, -⟩ := hm.at_ hnp
      obtain ⟨v', W', hr, k1, k2, _⟩ := run_append_own (P := Tryd.prog) w base t o.type e i0 z sz bytes ht hi hz0 hz1 hz2 hzs hsz v l.length (l.flatMap enc) hown ⟨b, off, none⟩ n c (m.flatMap enc) (by rw [enc_len henc, hn.out]) (Sl.flat henc hsz hm)
        (fun u hu => by obtain ⟨y, _, hy⟩ := List.mem_flatMap.1 hu; exact h1 y u hy) (by have := hn.out; unfold maxLen; omega)
        (by have : (l.length + n) * bytes ≤ 100000000000 * 1000 := Nat.mul_le_mul (by have := hn.out; omega) hbytes
            omega) hbase
      refine ⟨v', W', hr, ?_, (Below.refl base w).grown k2 hbase (fun k hk => (World.ownsRow.lt hown k hk).1)⟩
      unfold Own
      rw [List.length_append, List.flatMap_append, ← hn.out]
      exact k1
  obtain ⟨v', W', hr, k1, k2⟩ := hrun
  refine wpList_plain hgd fun K hK => ?_
  unfold Oper.wp execOp
  simp only [ho, resolve, invoke, builtin, Sem.run_bind, Sem.run_pure, Result.andThen_ok, List.map_toArray, List.map_cons, List.map_nil, hs, hx, hr]
  exact hK _ _ (h v' W' k1 k2)

theorem span_any (a b : Int) (w : World) : Calls Tryd.prog 62 #[.int .i64 a, .int .i64 b] w fun e w' => e = .returned (valS ⟨a, b⟩) ∧ Ext w w' := by
  go_enter Tryd.func62, Tryd.ntmps62
  go_wp2
  refine bodyPost_ret (v := valS ⟨a, b⟩) (by simp [results, Tryd.results62, go_sem]) rfl ?_
  exact ⟨rfl, Ext.al _ _⟩
theorem draw_any (n i a b : Int) (w : World) : Calls Tryd.prog 63 #[.int .i64 n, .int .i64 i, .int .i64 a, .int .i64 b] w fun e w' => e = .returned (valD ⟨n, i, ⟨a, b⟩⟩) ∧ Ext w w' := by
  go_enter Tryd.func63, Tryd.ntmps63
  go_wp2_with fail
  refine (span_any a b _).mono ?_
  rintro e w1 ⟨rfl, hE⟩
  have HE := Lib.hid ((Ext.al w _).trans hE)
  have HB := Lib.hid ((Blk.new w 63 #[.int .i64 0, .int .i64 0, .int .i64 0, .int .i64 0]).ext hE)
  clear hE
  have x0 := HB.out.cell 0
  have x1 := HB.out.cell 1
  have x2 := HB.out.cell 2
  have x3 := HB.out.cell 3
  have xl := HB.out.lt
  have xf := HB.out.frozen
  simp at x0 x1 x2 x3
  go_wp2
  refine ret_set4 HB.out fun W ⟨b0, b1, b2, b3⟩ hW => ?_
  refine bodyPost_ret (v := valD ⟨n, i, ⟨a, b⟩⟩) (by simp [results, Tryd.results63, go_sem, b0, b1, b2, b3]) rfl ?_
  exact ⟨rfl, ext_grown HE.out hW (Nat.le_refl _)⟩
theorem weigh_any (n i a b : Int) (w : World) : Calls Tryd.prog 69 #[.int .i64 n, .int .i64 i, .int .i64 a, .int .i64 b] w fun e w' => e = .returned (valW ⟨n, i, ⟨a, b⟩⟩) ∧ Ext w w' := by
  go_enter Tryd.func69, Tryd.ntmps69
  go_wp2_with fail
  refine (span_any a b _).mono ?_
  rintro e w1 ⟨rfl, hE⟩
  have HE := Lib.hid ((Ext.al w _).trans hE)
  have HB := Lib.hid ((Blk.new w 65 #[.int .i64 0, .int .i64 0, .int .i64 0, .int .i64 0]).ext hE)
  clear hE
  have x0 := HB.out.cell 0
  have x1 := HB.out.cell 1
  have x2 := HB.out.cell 2
  have x3 := HB.out.cell 3
  have xl := HB.out.lt
  have xf := HB.out.frozen
  simp at x0 x1 x2 x3
  go_wp2
  refine ret_set4 HB.out fun W ⟨b0, b1, b2, b3⟩ hW => ?_
  refine bodyPost_ret (v := valW ⟨n, i, ⟨a, b⟩⟩) (by simp [results, Tryd.results69, go_sem, b0, b1, b2, b3]) rfl ?_
  exact ⟨rfl, ext_grown HE.out hW (Nat.le_refl _)⟩
theorem inS_any (n : Int) (s : Span) (w : World) : Calls Tryd.prog 58 #[.int .i64 n, valS s] w fun e w' => e = .returned (.bool (decide (s.lo ≤ n) && decide (n ≤ s.hi))) ∧ Ext w w' := by
  go_enter Tryd.func58, Tryd.ntmps58
  by_cases h : s.lo ≤ n <;> by_cases h2 : n ≤ s.hi
  all_goals
    go_wp2
    go_ret
    refine ⟨?_, Ext.al _ _⟩
    simp [h, h2]
set_option maxHeartbeats 1000000 in
theorem bale_any (m : List Draw) (mv : Value) (w : World) (hm : SlD w mv m) (hl : m.length ≤ 1000) :
    Calls Tryd.prog 68 #[mv] w fun e w' => (∃ v, e = .returned v ∧ TwinV (exB m) w.heap.size v w') ∧ Ext w w' := by
  have HM := Lib.hid hm
  have HL := Lib.hid hl
  clear hm hl
  go_enter Tryd.func68, Tryd.ntmps68
  go_wp2_with fail
  refine (span_any 400 500 _).mono ?_
  rintro e w1 ⟨rfl, hE⟩
  have HE1 := Lib.hid ((Ext.al w _).trans hE)
  have HB1 := Lib.hid ((Blk.new w 27 #[.int .i64 0, .int .i64 0, .int .i64 0, .int .i64 0, .slice none 0 0, .slice none 0 0]).ext hE)
  clear hE
  go_wp2_with fail
  refine (draw_any 1 0 3 3 _).mono ?_
  rintro e w2 ⟨rfl, hE⟩
  have HE2 := Lib.hid (HE1.out.trans hE)
  have HB2 := Lib.hid (HB1.out.ext hE)
  clear hE HE1 HB1
  go_wp2_with fail
  refine (draw_any 2 3 3 4 _).mono ?_
  rintro e w3 ⟨rfl, hE⟩
  have HE3 := Lib.hid (HE2.out.trans hE)
  have HB3 := Lib.hid (HB2.out.ext hE)
  clear hE HE2 HB2
  go_wp2_with fail
  refine (draw_any 3 1 3 6 _).mono ?_
  rintro e w4 ⟨rfl, hE⟩
  have HE4 := Lib.hid (HE3.out.trans hE)
  have HB4 := Lib.hid (HB3.out.ext hE)
  clear hE HE3 HB3
  go_wp2_with (at_builtin; refine wpList_appL encD 24 63 4 _ 32 Tryd.underlying24 info63x rfl (by decide) (by decide) (fun _ => rfl) encD_o rfl (.tmp 7) (.tmp 8) rfl w4.heap.size _ mv [⟨1, 0, ⟨3, 3⟩⟩, ⟨2, 3, ⟨3, 4⟩⟩, ⟨3, 1, ⟨3, 6⟩⟩] m rfl ?_ rfl ((HM.out.ext HE4.out).ext (Ext.al _ _)) (by have := HL.out; simp; omega) (by simp) ?_)
  · exact Own.lit (l := ([⟨1, 0, ⟨3, 3⟩⟩, ⟨2, 3, ⟨3, 4⟩⟩, ⟨3, 1, ⟨3, 6⟩⟩] : List Draw)) (fun _ => rfl) (Blk.new _ _ _) (by simp) (Nat.le_refl _) (by decide)
  intro v1 w5 hown hbel

  have hE := (show Ext w4 w5 from Below.trans (Ext.al _ _) hbel)
  have HE5 := Lib.hid (HE4.out.trans hE)
  have HB5 := Lib.hid (HB4.out.ext hE)
  have HO5 := Lib.hid hown
  have HZ4 := Lib.hid HB4.out.lt
  clear hE HE4 HB4 hown hbel
  go_wp2_with fail
  refine (weigh_any 1 480 60 90 _).mono ?_
  rintro e w6 ⟨rfl, hE⟩
  have HE6 := Lib.hid (HE5.out.trans hE)
  have HB6 := Lib.hid (HB5.out.ext hE)
  have HO6 := Lib.hid (HO5.out.ext hE)
  clear hE HE5 HB5 HO5
  go_wp2_with fail
  refine (weigh_any 2 470 40 70 _).mono ?_
  rintro e w7 ⟨rfl, hE⟩
  have HE7 := Lib.hid (HE6.out.trans hE)
  have HB7 := Lib.hid (HB6.out.ext hE)
  have HO7 := Lib.hid (HO6.out.ext hE)
  clear hE HE6 HB6 HO6

  obtain ⟨Ad, nd, cd, rfl, -, -, -⟩ := (show SlD w7 v1 (exB m).draws from HO7.out.sl (fun _ => rfl)).form
  have x0 := HB7.out.cell 0
  have x1 := HB7.out.cell 1
  have x2 := HB7.out.cell 2
  have x3 := HB7.out.cell 3
  have x4 := HB7.out.cell 4
  have x5 := HB7.out.cell 5
  have xl := HB7.out.lt
  have xf := HB7.out.frozen
  simp at x0 x1 x2 x3 x4 x5
  have hz7 := HE7.out.size
  dsimp only [valS, valD, valW]
  iterate 6 go_wp21
  refine ret_set6b HB7.out fun W ⟨b0, b1, b2, b3, b4, b5⟩ hW hN => ?_
  refine bodyPost_ret (v := valB (exB m) (.slice Ad nd cd) (.slice (some ⟨w7.heap.size, 0, none⟩) 2 2)) (by simp [results, Tryd.results68, go_sem, b0, b1, b2, b3, b4, b5, exB]) rfl ?_
  refine ⟨⟨_, rfl, _, _, rfl, ?_, ?_⟩, ext_grownP HE7.out hW (Nat.le_refl _)⟩
  · have h4 := HZ4.out
    exact own_mono (own_kept HO7.out hW h4) (Nat.le_of_lt h4)
  · exact Own.lit (l := ([⟨1, 480, ⟨60, 90⟩⟩, ⟨2, 470, ⟨40, 70⟩⟩] : List Weigh)) (fun _ => rfl) hN (by simp) hz7 (by decide)
/-- The example's bale without more draws, and with the odd one. -/
theorem bale0_any (w : World) : Calls Tryd.prog 68 #[.slice none 0 0] w fun e w' => (∃ v, e = .returned v ∧ TwinV (exB []) w.heap.size v w') ∧ Ext w w' :=
  bale_any [] _ w (Sl.nil w) (by decide)
theorem odd_any (w : World) : Calls Tryd.prog 70 #[] w fun e w' => (∃ v, e = .returned v ∧ TwinV (exB [odD]) w.heap.size v w') ∧ Ext w w' := by
  go_enter Tryd.func70, Tryd.ntmps70
  go_wp2_with fail
  refine (draw_any 4 0 5 6 _).mono ?_
  rintro e w1 ⟨rfl, hE⟩
  have HE1 := Lib.hid ((Ext.al w _).trans hE)
  have HB1 := Lib.hid ((Blk.new w 27 #[.int .i64 0, .int .i64 0, .int .i64 0, .int .i64 0, .slice none 0 0, .slice none 0 0]).ext hE)
  clear hE
  dsimp only [valD]
  go_wp2_with fail
  have hS : SlD (w1.alloc (.cells #[.int .i64 4, .int .i64 0, .int .i64 5, .int .i64 6] 63)) (.slice (some ⟨w1.heap.size, 0, none⟩) 1 1) [odD] := Own.sl (enc := encD) (sz := 4) (fun _ => rfl) (Own.lit (enc := encD) (sz := 4) (e := 63) (base := w1.heap.size) (l := [odD]) (fun _ => rfl) (Blk.new w1 63 #[.int .i64 4, .int .i64 0, .int .i64 5, .int .i64 6]) (by simp [odD]) (Nat.le_refl _) (by decide))
  refine (bale_any [odD] _ _ hS (by decide)).mono ?_
  rintro e w2 ⟨⟨v, rfl, tv⟩, hE⟩
  have hE' := (show Ext w1 w2 from (Ext.al _ _).trans hE)
  have HE2 := Lib.hid (HE1.out.trans hE')
  have HB2 := Lib.hid (HB1.out.ext hE')
  have HZ := Lib.hid (show w.heap.size < w1.heap.size from HB1.out.lt)
  obtain ⟨dv, wv, rfl, o1, o2⟩ := tv
  obtain ⟨Ad, nd, cd, rfl, -, -, -⟩ := (show SlD w2 dv (exB [odD]).draws from o1.sl (fun _ => rfl)).form
  obtain ⟨Aw, nw, cw, rfl, -, -, -⟩ := (show SlW w2 wv (exB [odD]).weighs from o2.sl (fun _ => rfl)).form
  have O1 := Lib.hid o1; have O2 := Lib.hid o2
  clear hE hE' o1 o2 hS
  have x0 := HB2.out.cell 0
  have x1 := HB2.out.cell 1
  have x2 := HB2.out.cell 2
  have x3 := HB2.out.cell 3
  have x4 := HB2.out.cell 4
  have x5 := HB2.out.cell 5
  have xl := HB2.out.lt
  have xf := HB2.out.frozen
  simp at x0 x1 x2 x3 x4 x5
  dsimp only [valB]
  iterate 6 go_wp21
  refine ret_set6 HB2.out fun W ⟨b0, b1, b2, b3, b4, b5⟩ hW => ?_
  refine bodyPost_ret (v := valB (exB [odD]) (.slice Ad nd cd) (.slice Aw nw cw)) (by simp [results, Tryd.results70, go_sem, b0, b1, b2, b3, b4, b5]) rfl ?_
  have hz := HZ.out
  exact ⟨⟨_, rfl, _, _, rfl, own_mono (own_kept O1.out hW (by simp; omega)) (by simp; omega), own_mono (own_kept O2.out hW (by simp; omega)) (by simp; omega)⟩, ext_grownP HE2.out hW (Nat.le_refl _)⟩
theorem ints_any (l : List Int) (v v' : Value) (w : World) (h : SlI w v l) (h' : SlI w v' l) : Calls Tryd.prog 71 #[v, v'] w fun e w' => e = .returned (.bool true) ∧ Ext w w' := by
  have H := Lib.hid h; have H' := Lib.hid h'
  clear h h'
  go_enter Tryd.func71, Tryd.ntmps71
  go_wp2_with fail
  refine (sameInts_any l _ _ _ H.out H'.out).mono ?_
  rintro e w1 ⟨rfl, hE⟩
  go_wp2
  go_ret
  exact ⟨rfl, hE⟩
end Go.Proofs.YtdlipbobfgdleaaDoor
/- The plain law of CoreTruth: what holds of each truth of a bale. -/
namespace Go.Proofs.YtdlipbobfgdleaaDoor
open Go.RowKit Go.Shelf Go.Lib
set_option maxRecDepth 100000
set_option linter.unusedSimpArgs false

theorem rise_lt : ∀ (l : List Int) (last : Int), risingB last l = true → l.Pairwise (· < ·) ∧ ∀ n ∈ l, last < n
  | [], _, _ => ⟨.nil, by simp⟩
  | n :: l, last, h => by
    unfold risingB inB at h
    simp only [Bool.and_eq_true, decide_eq_true_eq] at h
    obtain ⟨h1, h2⟩ := rise_lt l n h.2
    refine ⟨List.Pairwise.cons h2 h1, fun m hm => ?_⟩
    rcases List.mem_cons.1 hm with rfl | hm
    · omega
    · have := h2 m hm; omega
theorem rise_of : ∀ (l : List Int) (last : Int), l.Pairwise (· < ·) → (∀ n ∈ l, last < n ∧ n ≤ 9999) → risingB last l = true
  | [], _, _, _ => rfl
  | n :: l, last, h, hb => by
    rw [List.pairwise_cons] at h
    unfold risingB inB
    simp only [Bool.and_eq_true, decide_eq_true_eq]
    have h1 := hb n (by simp)
    exact ⟨by omega, rise_of l n h.2 fun m hm => ⟨h.1 m hm, (hb m (by simp [hm])).2⟩⟩
/-- The grade of a layer, by choices. -/
def pickN (s : Span) (c : List Int) (i : Nat) : Int := if c.length = 0 then s.lo else s.lo + (c[i % c.length]?).getD 0 % (s.hi - s.lo + 1)
def chosenL (b : Bale) (c : List Int) : List Int := (List.range b.layers.toNat).map fun (i : Nat) => pickN (spanAt b.draws (i : Int)) c i
theorem pick_in {s : Span} (h : s.lo ≤ s.hi) (c : List Int) (i : Nat) : s.lo ≤ pickN s c i ∧ pickN s c i ≤ s.hi := by
  unfold pickN
  split
  · omega
  · have h1 := Int.emod_nonneg ((c[i % c.length]?).getD 0) (show s.hi - s.lo + 1 ≠ 0 by omega)
    have h2 := Int.emod_lt_of_pos ((c[i % c.length]?).getD 0) (show 0 < s.hi - s.lo + 1 by omega)
    omega
theorem spans_get {b : Bale} {i : Nat} (h : i < b.layers.toNat) : (spans b)[i]? = some (spanAt b.draws (i : Int)) := by
  unfold spans spansTo
  rw [List.getElem?_map, List.getElem?_range h]
  rfl
theorem grown_at {b : Bale} (h : grown (spans b) = true) : ∀ x ∈ spans b, x.lo ≤ x.hi := by
  unfold grown at h
  rw [List.all_eq_true] at h
  intro x hx
  simpa [okS] using h x hx
theorem ok_grown {b : Bale} (h : okB b = true) : grown (spans b) = true := by
  unfold okB at h
  simp only [Bool.and_eq_true] at h
  exact h.1
theorem spans5 {b : Bale} (hv : valid b = true) : (spans b).length ≤ 5 ∧ 0 < (spans b).length ∧ (spans b).length = b.layers.toNat := by
  have hB := valid_bds hv
  have hl := spans_len b
  have := hB.l1; have := hB.l5
  omega
theorem truth_iff {b : Bale} (hv : valid b = true) (t : List Int) : t ∈ truthsB b ↔ t.length = b.layers.toNat ∧ ∀ (i : Nat) x, (spans b)[i]? = some x → ∃ n, (x.lo ≤ n ∧ n ≤ x.hi) ∧ t[i]? = some n := by
  unfold truthsB
  rw [truths_mem (spans5 hv).1, (spans5 hv).2.2]
theorem chosen_mem {b : Bale} (hv : valid b = true) (hg : grown (spans b) = true) (c : List Int) : chosenL b c ∈ truthsB b := by
  rw [truth_iff hv]
  refine ⟨by unfold chosenL; simp, fun i x hx => ?_⟩
  have hi : i < b.layers.toNat := by have := (List.getElem?_eq_some_iff.1 hx).1; rw [(spans5 hv).2.2] at this; exact this
  have hx2 := hx
  rw [spans_get hi] at hx
  injection hx with hx
  subst hx
  have hlh := grown_at hg _ (List.mem_of_getElem? hx2)
  exact ⟨_, pick_in hlh c i, by unfold chosenL; rw [List.getElem?_map, List.getElem?_range hi]; rfl⟩
theorem ask_ok {b : Bale} (hv : valid b = true) (ho : okB b = true) (e : Int) : askE b true e = 0 := by
  unfold askE; rw [hv, ho]; rfl
theorem layer_ok {b : Bale} (hv : valid b = true) (ho : okB b = true) {i : Nat} (hi : i < b.layers.toNat) : layerB b (inB 0 (b.layers - 1) (i : Int)) (i : Int) = spanAt b.draws (i : Int) ∧ inB 0 (b.layers - 1) (i : Int) = true := by
  have h1 : inB 0 (b.layers - 1) (i : Int) = true := by unfold inB; simp; omega
  rw [h1]
  refine ⟨?_, rfl⟩
  unfold layerB
  rw [ask_ok hv ho, if_pos rfl, Int.toNat_natCast, spans_get hi]
  rfl
theorem truth_layer {b : Bale} (hv : valid b = true) {t : List Int} (ht : t ∈ truthsB b) {i : Nat} (hi : i < b.layers.toNat) : ∃ n, t[i]? = some n ∧ (spanAt b.draws (i : Int)).lo ≤ n ∧ n ≤ (spanAt b.draws (i : Int)).hi := by
  obtain ⟨n, h1, h2⟩ := ((truth_iff hv t).1 ht).2 i _ (spans_get hi)
  exact ⟨n, h2, h1.1, h1.2⟩

/-! The kinds. -/
theorem kind_in {b : Bale} {t : List Int} (ht : t ∈ truthsB b) : (kindS b).has (kindL t) = true := by
  obtain ⟨h1, h2, h3, h4⟩ := kindsOf_iff (truthsB b)
  have hb := kindL_bd t
  have hk : kindL t = 1 ∨ kindL t = 2 ∨ kindL t = 3 ∨ kindL t = 4 := by omega
  unfold S4.has kindS
  rcases hk with e | e | e | e
  · have := h1.2 ⟨t, ht, e⟩; unfold truthsB at this; rw [e, this]; rfl
  · have := h2.2 ⟨t, ht, e⟩; unfold truthsB at this; rw [e, this]; simp
  · have := h3.2 ⟨t, ht, e⟩; unfold truthsB at this; rw [e, this]; simp
  · have := h4.2 ⟨t, ht, e⟩; unfold truthsB at this; rw [e, this]; simp
theorem has2_iff {b : Bale} : (kindS b).has 2 = true ↔ ∃ t ∈ truthsB b, kindL t = 2 := by
  have h2 := (kindsOf_iff (truthsB b)).2.1
  rw [← h2]
  unfold S4.has kindS truthsB
  simp
theorem kindB_ok {b : Bale} (hv : valid b = true) (ho : okB b = true) {k : Int} (h1 : 1 ≤ k) (h4 : k ≤ 4) : kindB b k = kindK (kindS b) k ∧ inB 1 4 k = true := by
  have h : inB 1 4 k = true := by unfold inB; simp; omega
  refine ⟨?_, h⟩
  unfold kindB
  rw [h, ask_ok hv ho, if_pos rfl]
/-- How many kinds are sure, and how many may be, of those up to n. -/
def sureN (s : S4) : Nat → Int
  | 0 => 0
  | n + 1 => sureN s n + (if kindK s ((n : Int) + 1) = 2 then 1 else 0)
def mayN (s : S4) : Nat → Int
  | 0 => 0
  | n + 1 => mayN s n + (if kindK s ((n : Int) + 1) = 0 then 0 else 1)
theorem kind_own {s : S4} {own k : Int} (h : s.has own = true) (h1 : 1 ≤ k) (h4 : k ≤ 4) : (k = own → kindK s k ≠ 0) ∧ (k ≠ own → kindK s k ≠ 2) := by
  have hb : own = 1 ∨ own = 2 ∨ own = 3 ∨ own = 4 := by
    unfold S4.has at h
    simp at h
    omega
  have hk : k = 1 ∨ k = 2 ∨ k = 3 ∨ k = 4 := by omega
  obtain ⟨a, b, c, d⟩ := s
  rcases hb with rfl | rfl | rfl | rfl <;> rcases hk with rfl | rfl | rfl | rfl <;> revert h <;> cases a <;> cases b <;> cases c <;> cases d <;> decide
theorem sure_may {s : S4} {own : Int} (h : s.has own = true) : mayN s 4 ≠ 0 ∧ (sureN s 4 = 1 ↔ mayN s 4 = 1) ∧ sureN s 4 ≤ 1 := by
  have hb : own = 1 ∨ own = 2 ∨ own = 3 ∨ own = 4 := by
    unfold S4.has at h
    simp at h
    omega
  obtain ⟨a, b, c, d⟩ := s
  rcases hb with rfl | rfl | rfl | rfl <;> revert h <;> cases a <;> cases b <;> cases c <;> cases d <;> decide
theorem sureN_bd (s : S4) : ∀ n, 0 ≤ sureN s n ∧ sureN s n ≤ n
  | 0 => by simp [sureN]
  | n + 1 => by have := sureN_bd s n; unfold sureN; split <;> omega
theorem mayN_bd (s : S4) : ∀ n, 0 ≤ mayN s n ∧ mayN s n ≤ n
  | 0 => by simp [mayN]
  | n + 1 => by have := mayN_bd s n; unfold mayN; split <;> omega
theorem kindK_bd (s : S4) (k : Int) : kindK s k = 0 ∨ kindK s k = 1 ∨ kindK s k = 2 := by
  unfold kindK; split
  · split <;> simp
  · simp

/-! The ends. -/
theorem ends_fold (f : Int → Int → Int) : ∀ (l : List Span) (s : Span), l.foldl (endStep f) s = ⟨(l.map (·.lo)).foldl f s.lo, (l.map (·.hi)).foldl f s.hi⟩
  | [], s => rfl
  | x :: l, s => by rw [List.foldl_cons, ends_fold f l]; rfl
theorem ends_min {l : List Span} (h0 : 0 < l.length) : endsOf min l = ⟨mins (l.map (·.lo)), mins (l.map (·.hi))⟩ := by
  unfold endsOf mins
  rw [ends_fold]
  simp [List.getElem?_eq_getElem h0]
theorem ends_max {l : List Span} (h0 : 0 < l.length) : endsOf max l = ⟨maxs (l.map (·.lo)), maxs (l.map (·.hi))⟩ := by
  unfold endsOf maxs
  rw [ends_fold]
  simp [List.getElem?_eq_getElem h0]
theorem mins_le {l : List Int} : ∀ y ∈ l, mins l ≤ y := (foldl_min_le l _).2
theorem maxs_ge {l : List Int} : ∀ y ∈ l, y ≤ maxs l := (foldl_max_ge l _).2
theorem ends_law {b : Bale} (hv : valid b = true) (ho : okB b = true) {t : List Int} (ht : t ∈ truthsB b) :
    ((endsB min b).lo ≤ t.foldl min 9 ∧ t.foldl min 9 ≤ (endsB min b).hi) ∧ ((endsB max b).lo ≤ t.foldl max 1 ∧ t.foldl max 1 ≤ (endsB max b).hi) ∧ (endsB min b).hi ≤ (endsB max b).hi ∧ (endsB min b).lo ≤ (endsB max b).lo := by
  obtain ⟨h5, h0, hl⟩ := spans5 hv
  have hgr := truths_gr hv t ht
  have ht0 : 0 < t.length := by have := hgr.1; omega
  have hM := (truth_iff hv t).1 ht
  unfold endsB
  rw [ask_ok hv ho, if_pos rfl, if_pos rfl, ends_min h0, ends_max h0]
  rw [max_eq ht0 (fun y hy => (hgr.2 y hy).1), min_eq ht0 (fun y hy => (hgr.2 y hy).2)]
  dsimp only
  have at_t : ∀ x ∈ t, ∃ s ∈ spans b, s.lo ≤ x ∧ x ≤ s.hi := fun x hx => by
    obtain ⟨i, hi, rfl⟩ := List.mem_iff_getElem.1 hx
    have hi2 : i < (spans b).length := by rw [hl]; have := hgr.1; omega
    obtain ⟨n, h1, h2⟩ := hM.2 i _ (List.getElem?_eq_getElem hi2)
    rw [List.getElem?_eq_getElem hi] at h2
    injection h2 with h2
    exact ⟨_, List.getElem_mem hi2, by rw [h2]; exact h1⟩
  have at_s : ∀ s ∈ spans b, ∃ x ∈ t, s.lo ≤ x ∧ x ≤ s.hi := fun s hs => by
    obtain ⟨i, hi, rfl⟩ := List.mem_iff_getElem.1 hs
    obtain ⟨n, h1, h2⟩ := hM.2 i _ (List.getElem?_eq_getElem hi)
    exact ⟨n, List.mem_of_getElem? h2, h1⟩
  have hmn := mins_mem ht0
  have hmx := maxs_mem ht0
  have hlo0 : 0 < ((spans b).map (·.lo)).length := by simpa using h0
  have hhi0 : 0 < ((spans b).map (·.hi)).length := by simpa using h0
  obtain ⟨a, ha, ha2⟩ := List.mem_map.1 (mins_mem hlo0)
  obtain ⟨c, hc, hc2⟩ := List.mem_map.1 (mins_mem hhi0)
  obtain ⟨d, hd, hd2⟩ := List.mem_map.1 (maxs_mem hlo0)
  obtain ⟨e, he, he2⟩ := List.mem_map.1 (maxs_mem hhi0)
  obtain ⟨s1, hs1, g1⟩ := at_t _ hmn
  obtain ⟨s2, hs2, g2⟩ := at_t _ hmx
  obtain ⟨x1, hx1, g3⟩ := at_s c hc
  obtain ⟨x2, hx2, g4⟩ := at_s d hd
  have k1 := mins_le _ (List.mem_map_of_mem (f := (·.lo)) hs1)
  have k2 := mins_le _ hx1
  have k3 := maxs_ge _ hx2
  have k4 := maxs_ge _ (List.mem_map_of_mem (f := (·.hi)) hs2)
  have k5 := maxs_ge _ (List.mem_map_of_mem (f := (·.hi)) hc)
  have k6 := maxs_ge _ (List.mem_map_of_mem (f := (·.lo)) ha)
  exact ⟨⟨by omega, by omega⟩, ⟨by omega, by omega⟩, by omega, by omega⟩

/-! The cuts. -/
theorem kind2_iff (t : List Int) : kindL t = 2 ↔ 0 < (cutsL t).length := by
  unfold kindL
  by_cases ha : alikeL t = true
  · rw [if_pos ha]
    unfold cutsL
    rw [if_pos ha]
    simp
  · rw [if_neg ha]
    split
    · simp_all
    · split <;> simp_all
theorem cut_hi {b : Bale} : (cutS b).hi ≠ 0 ↔ ∃ t ∈ truthsB b, kindL t = 2 := by
  unfold cutS
  rw [cutFold_flat]
  obtain ⟨h1, h2, h3, h4, h5⟩ := cutStep_fold ((truthsB b).flatMap cutsL) ⟨b.layers, 0⟩
  have hpos : ∀ k ∈ (truthsB b).flatMap cutsL, 1 ≤ k := fun k hk => by
    obtain ⟨t, _, h⟩ := List.mem_flatMap.1 hk
    obtain ⟨j, hj, _, e⟩ := cutsL_bd h
    omega
  constructor
  · intro h
    rcases h5 with e | e
    · exact absurd e h
    · obtain ⟨t, ht, h⟩ := List.mem_flatMap.1 e
      exact ⟨t, ht, (kind2_iff t).2 (List.length_pos_of_mem h)⟩
  · rintro ⟨t, ht, h⟩
    rw [kind2_iff] at h
    obtain ⟨k, hk⟩ := List.exists_mem_of_length_pos h
    have hm := List.mem_flatMap.2 ⟨t, ht, hk⟩
    have := h3 k hm
    have := hpos k hm
    omega
theorem cutE_ok {b : Bale} (hv : valid b = true) (ho : okB b = true) : (cutE b = 0 ∨ cutE b = 6) ∧ (cutE b = 0 ↔ kindK (kindS b) 2 ≠ 0) := by
  have h : kindK (kindS b) 2 ≠ 0 ↔ (cutS b).hi ≠ 0 := by
    rw [cut_hi, ← has2_iff]
    unfold kindK
    cases hh : (kindS b).has 2
    · simp
    · simp only [if_true]
      split <;> simp
  unfold cutE
  rw [ask_ok hv ho, if_pos rfl, h]
  split <;> simp_all
theorem cut_in {b : Bale} (hv : valid b = true) (ho : okB b = true) {t : List Int} (ht : t ∈ truthsB b) {k : Nat} (h1 : 1 ≤ k) (hk : k < t.length) (ha : alikeL t = false) (hl : alikeL (t.take k) = true) (hr : alikeL (t.drop k) = true) :
    (cutB b).lo ≤ k ∧ k ≤ (cutB b).hi := by
  have hm : (k : Int) ∈ cutsL t := by
    unfold cutsL
    rw [ha]
    refine (cutsTo_mem t.length).2 ⟨k, hk, ?_, rfl⟩
    unfold cutAt
    rw [hl, hr]
    simpa using h1
  have hin := List.mem_flatMap.2 ⟨t, ht, hm⟩
  have hh : (cutS b).hi ≠ 0 := cut_hi.2 ⟨t, ht, (kind2_iff t).2 (List.length_pos_of_mem hm)⟩
  unfold cutB
  rw [ask_ok hv ho, if_pos rfl, if_neg hh]
  unfold cutS
  rw [cutFold_flat]
  exact (cutStep_fold ((truthsB b).flatMap cutsL) ⟨b.layers, 0⟩).2.2.1 _ hin
theorem kind1_iff {t : List Int} : kindL t = 1 ↔ alikeL t = true := by
  unfold kindL
  by_cases ha : alikeL t = true
  · rw [if_pos ha]; simp [ha]
  · rw [if_neg ha]
    constructor
    · intro h
      split at h
      · cases h
      · split at h <;> cases h
    · intro h; exact absurd h ha
end Go.Proofs.YtdlipbobfgdleaaDoor
/- The outright laws' ready and chosen. -/
namespace Go.Proofs.YtdlipbobfgdleaaDoor
open Go.RowKit Go.Shelf Go.Lib
set_option maxRecDepth 100000
set_option linter.unusedSimpArgs false

/-- Bytes. -/
abbrev encU (x : Int) : List Value := [.int .u8 x]
abbrev SlU (w : World) (v : Value) (l : List Int) : Prop := Sl encU 1 w v l
def Bytes (l : List Int) : Prop := ∀ x ∈ l, 0 ≤ x ∧ x ≤ 255
theorem SlU.cell {w W : World} {b off k : Nat} {x : Int} (h : ∀ W, Ext w W → ∀ j u, (encU x)[j]? = some u → W.cell? ⟨b, off + k * 1 + j, none⟩ = some u) (hW : Ext w W) : W.cell? ⟨b, off + k, none⟩ = some (.int .u8 x) := by
  simpa using h W hW 0 _ rfl

def readyB (b : Bale) : Bool := !greatB b && (valid b && okB b)
theorem ready_any (b : Bale) (dv wv : Value) (w : World) (hd : SlD w dv b.draws) (hw : SlW w wv b.weighs) :
    Calls Tryd.prog 56 #[valB b dv wv] w fun e w' => e = .returned (.bool (readyB b)) ∧ Ext w w' := by
  have HD := Lib.hid hd
  have HW := Lib.hid hw
  obtain ⟨A, n, cp, rfl, hn, hlc, hcm⟩ := hd.form
  obtain ⟨A2, n2, cp2, rfl, hn2, hlc2, hcm2⟩ := hw.form
  clear hd hw
  go_enter Tryd.func56, Tryd.ntmps56
  go_wp2_with fail
  refine (great_any b _ _ _ (HD.out.ext (Ext.al _ _)) (HW.out.ext (Ext.al _ _))).mono ?_
  rintro e w1 ⟨rfl, hE⟩
  have HE1 := Lib.hid ((Ext.al w _).trans hE)
  have HB1 := Lib.hid ((Blk.new w 27 #[.int .i64 b.id, .int .i64 b.layers, .int .i64 b.dry.lo, .int .i64 b.dry.hi, .slice A n cp, .slice A2 n2 cp2]).ext hE)
  clear hE
  cases hg : greatB b with
  | true =>
    have HG := Lib.hid hg
    clear hg
    go_wp2
    go_ret
    exact ⟨by unfold readyB; rw [HG.out]; rfl, HE1.out⟩
  | false =>
    have HG := Lib.hid hg
    clear hg
    have x0 := HB1.out.cell 0
    have x1 := HB1.out.cell 1
    have x2 := HB1.out.cell 2
    have x3 := HB1.out.cell 3
    have x4 := HB1.out.cell 4
    have x5 := HB1.out.cell 5
    have xl := HB1.out.lt
    simp at x0 x1 x2 x3 x4 x5
    go_wp2_with fail
    clear x0 x1 x2 x3 x4 x5 xl
    refine (refBale_any b _ _ _ (HD.out.ext HE1.out) (HW.out.ext HE1.out)).mono ?_
    rintro e w2 ⟨rfl, hE⟩
    rw [refValid_eq]
    have HE2 := Lib.hid (HE1.out.trans hE)
    have HB2 := Lib.hid (HB1.out.ext hE)
    clear hE HE1 HB1
    cases hv : valid b with
    | false =>
      have HV := Lib.hid hv
      clear hv
      go_wp2
      go_ret
      exact ⟨by unfold readyB; rw [HG.out, HV.out]; rfl, HE2.out⟩
    | true =>
      have HV := Lib.hid hv
      clear hv
      have x0 := HB2.out.cell 0
      have x1 := HB2.out.cell 1
      have x2 := HB2.out.cell 2
      have x3 := HB2.out.cell 3
      have x4 := HB2.out.cell 4
      have x5 := HB2.out.cell 5
      have xl := HB2.out.lt
      simp at x0 x1 x2 x3 x4 x5
      go_wp2_with fail
      clear x0 x1 x2 x3 x4 x5 xl
      refine (true_any b _ _ _ HV.out (HD.out.ext HE2.out) (HW.out.ext HE2.out)).mono ?_
      rintro e w3 ⟨rfl, hE⟩
      go_wp2
      go_ret
      exact ⟨by unfold readyB; rw [HG.out, HV.out]; rfl, HE2.out.trans hE⟩
theorem ready_len {b : Bale} (h : readyB b = true) : valid b = true ∧ okB b = true ∧ b.draws.length ≤ 20 ∧ b.weighs.length ≤ 16 := by
  unfold readyB greatB at h
  simp at h
  exact ⟨h.2.1, h.2.2, by omega, by omega⟩

def chosenTo (b : Bale) (c : List Int) (k : Nat) : List Int := (List.range k).map fun (i : Nat) => pickN (spanAt b.draws (i : Int)) c i
theorem chosenTo_succ (b : Bale) (c : List Int) (k : Nat) : chosenTo b c (k + 1) = chosenTo b c k ++ [pickN (spanAt b.draws (k : Int)) c k] := by
  unfold chosenTo; rw [List.range_succ, List.map_append]; rfl
theorem chosenTo_len (b : Bale) (c : List Int) (k : Nat) : (chosenTo b c k).length = k := by unfold chosenTo; simp

set_option maxHeartbeats 2000000 in
theorem chosen_any (b : Bale) (c : List Int) (dv wv cv : Value) (w : World) (hv : valid b = true) (hgr : grown (spans b) = true) (hd : SlD w dv b.draws) (hw : SlW w wv b.weighs) (hc : SlU w cv c) (hcb : Bytes c) :
    Calls Tryd.prog 57 #[valB b dv wv, cv] w fun e w' => (∃ v, e = .returned (.tuple #[v, .bool true]) ∧ SlI w' v (chosenL b c)) ∧ Ext w w' := by
  have HD := Lib.hid hd
  have HC := Lib.hid hc
  have HCB := Lib.hid hcb
  have HGR := Lib.hid hgr
  have HV := Lib.hid hv
  have hB := valid_bds hv
  have hl1 := hB.l1
  have hl5 := hB.l5
  obtain ⟨A, n, cp, rfl, hn, hlc, hcm⟩ := hd.form
  obtain ⟨A2, n2, cp2, rfl, hn2, hlc2, hcm2⟩ := hw.form
  obtain ⟨A3, n3, cp3, rfl, hn3, hlc3, hcm3⟩ := hc.form
  clear hd hw hc hcb hgr hv hB
  go_enter Tryd.func57, Tryd.ntmps57
  go_wp2
  go_loopg [6, 14] 5 (fun gg v s wr => ∃ kk : Nat, (kk : Int) ≤ b.layers ∧ (b.layers - kk).toNat ≤ gg ∧ s = .int .i64 kk ∧ Aside (Own encI 3 1 wr (w.heap.size + 1) v (chosenTo b c kk)) ∧
    Aside (Below (w.heap.size + 1) (w.alloc (.cells #[.int .i64 b.id, .int .i64 b.layers, .int .i64 b.dry.lo, .int .i64 b.dry.hi, .slice A n cp, .slice A2 n2 cp2] 27)) wr))
  case atStart => exact ⟨0, by omega, by omega, rfl, Own.nil _ _, Below.refl _ _⟩
  case round =>
    obtain ⟨kk, hkk, hg, rfl, OW, BW⟩ := hrel
    have hz := BW.out.size
    simp at hz
    have hz1 : w.heap.size < wr.heap.size := by omega
    have q1 : wr.cell? ⟨w.heap.size, 1, none⟩ = some (.int .i64 b.layers) := (BW.out.cell (p := ⟨w.heap.size, 1, none⟩) (by simp)).trans (by simp [go_sem])
    by_cases hlt : (kk : Int) < b.layers
    · obtain ⟨wo, hwo⟩ : ∃ wo : World, wo = wr := ⟨_, rfl⟩
      subst hwo
      go_wp2_with fail
      refine (span_any 1 9 _).mono ?_
      rintro e w1 ⟨rfl, hE⟩
      have HE1 := Lib.hid hE
      have HZ1 := Lib.hid hE.size
      have HBW := Lib.hid (show Ext (w.alloc (.cells #[.int .i64 b.id, .int .i64 b.layers, .int .i64 b.dry.lo, .int .i64 b.dry.hi, .slice A n cp, .slice A2 n2 cp2] 27)) wo from BW.out.mono (by simp))
      have q4 : w1.cell? ⟨w.heap.size, 4, none⟩ = some (.slice A n cp) := ((HBW.out.trans hE).cell (p := ⟨w.heap.size, 4, none⟩) (by simp)).trans (by simp [go_sem])
      have hz2 : w.heap.size < w1.heap.size := by have := hE.size; omega
      clear hE
      dsimp only [valS]
      go_wp2
      go_loopg [21] n (fun gg s wr => ∃ (j : Nat) (lo hi : Int), j ≤ n ∧ n - j ≤ gg ∧ s = .int .i64 j ∧ Aside ((b.draws.take j).foldl (spanStep kk) ⟨1, 9⟩ = ⟨lo, hi⟩) ∧ Aside (Blk wr w1.heap.size 23 #[.int .i64 lo, .int .i64 hi]) ∧ Aside (Ext wo wr))
      case atStart => exact ⟨0, 1, 9, Nat.zero_le _, by omega, rfl, rfl, Blk.new _ _ _, HE1.out.alloc _⟩
      case round =>
        obtain ⟨j, lo, hi, hj, hgj, rfl, FO, BL, EX⟩ := hrel
        have s0 : wr.cell? ⟨w1.heap.size, 0, none⟩ = some (.int .i64 lo) := BL.out.cell 0
        have s1 : wr.cell? ⟨w1.heap.size, 1, none⟩ = some (.int .i64 hi) := BL.out.cell 1
        have f0 : wr.frozen? ⟨w1.heap.size, 0, none⟩ = false := BL.out.frozen 0
        have f1 : wr.frozen? ⟨w1.heap.size, 1, none⟩ = false := BL.out.frozen 1
        have hso : w1.heap.size < wr.heap.size := BL.out.lt
        by_cases hjn : j < n
        · have hjz : (j : Int) < (n : Int) := by omega
          obtain ⟨bb, off, x, rfl, hx, hb, hcell⟩ := HD.out.at_ hjn
          obtain ⟨c0, c1, c2, c3⟩ := SlD.cells hcell (((Ext.al w _).trans HBW.out).trans EX.out)
          have HX := Lib.hid hx; clear hx hcell hb
          have HFO := Lib.hid (foldl_snoc (spanStep kk) ⟨1, 9⟩ _ _ _ HX.out)
          by_cases he : x.layer = kk
          · have HE := Lib.hid he
            have he' : (x.layer == (kk : Int)) = true := by simpa using he
            clear he
            go_wp2_with fail
            refine (span_any (max lo x.grade.lo) (min hi x.grade.hi) _).mono ?_
            rintro e w3 ⟨rfl, hE3⟩
            have BL3 := Lib.hid ((BL.out.alloc (.cells #[.int .i64 x.number, .int .i64 x.layer, .int .i64 x.grade.lo, .int .i64 x.grade.hi] 63)).ext hE3)
            have EX3 := Lib.hid ((EX.out.alloc (.cells #[.int .i64 x.number, .int .i64 x.layer, .int .i64 x.grade.lo, .int .i64 x.grade.hi] 63)).trans hE3)
            clear s0 s1 f0 f1 hso hE3
            have s0 : w3.cell? ⟨w1.heap.size, 0, none⟩ = some (.int .i64 lo) := BL3.out.cell 0
            have s1 : w3.cell? ⟨w1.heap.size, 1, none⟩ = some (.int .i64 hi) := BL3.out.cell 1
            have f0 : w3.frozen? ⟨w1.heap.size, 0, none⟩ = false := BL3.out.frozen 0
            have f1 : w3.frozen? ⟨w1.heap.size, 1, none⟩ = false := BL3.out.frozen 1
            have hso : w1.heap.size < w3.heap.size := BL3.out.lt
            dsimp only [valS]
            go_wp2
            go_roundg (n - (j + 1))
            case measure => omega
            case rel => exact ⟨j + 1, max lo x.grade.lo, min hi x.grade.hi, by omega, by omega, rfl, by show _ = _; rw [HFO.out, FO.out, spanStep, if_pos HE.out], (BL3.out.set_ 0 _).set_ 1 _, (EX3.out.setCell HZ1.out _).setCell HZ1.out _⟩
          · have HE := Lib.hid he
            have he' : (x.layer == (kk : Int)) = false := by simpa using he
            clear he
            go_wp2
            go_roundg (n - (j + 1))
            case measure => omega
            case rel => exact ⟨j + 1, lo, hi, by omega, by omega, rfl, by show _ = _; rw [HFO.out, FO.out, spanStep, if_neg HE.out], BL.out.alloc _, EX.out.alloc _⟩
        · have HSP := Lib.hid (show spanAt b.draws kk = ⟨lo, hi⟩ by unfold spanAt; rw [← FO.out, List.take_of_length_le (by have := hn.out; omega)])
          have hsp := grown_at HGR.out _ (List.mem_of_getElem? (spans_get (b := b) (i := kk) (by omega)))
          rw [HSP.out] at hsp
          have hlh : lo ≤ hi := hsp
          clear hsp
          have HOL := Lib.hid (chosenTo_len b c kk)
          by_cases hc0 : n3 = 0
          · have HP := Lib.hid (show pickN (spanAt b.draws (kk : Int)) c kk = lo by unfold pickN; rw [← hn3.out, if_pos hc0, HSP.out])
            subst hc0
            go_wp2_with (at_builtin; refine wpList_app encI 56 3 1 _ 8 Tryd.underlying56 info3x rfl (by decide) (by decide) (fun _ => rfl) encI_one rfl (.tmp 70) (.tmp 72) rfl (w.heap.size + 1) _ (chosenTo b c kk) rfl ((OW.out.ext EX.out).alloc _) wr.heap.size 1 lo rfl (cells1 (by simp [go_sem])) (by rw [HOL.out]; omega) (by have := EX.out.size; simp; omega) ?_)
            intro g cap w' hown hg2 hbel _
            have HO := Lib.hid (show Own encI 3 1 w' (w.heap.size + 1) _ (chosenTo b c (kk + 1)) by rw [chosenTo_succ, HP.out]; rw [HOL.out] at hown; exact hown)
            have HB := Lib.hid (((BW.out.trans (EX.out.mono (by omega))).alloc (by omega) _).trans hbel)
            clear hown hbel
            go_wp2
            go_roundg (b.layers - (kk + 1)).toNat
            case measure => omega
            case rel => exact ⟨kk + 1, by omega, by omega, by simp, (by rw [HOL.out]; exact HO.out), HB.out⟩
          · have hsb := spans_bd HV.out _ (List.mem_of_getElem? (spans_get (b := b) (i := kk) (by omega)))
            rw [HSP.out] at hsb
            obtain ⟨m, hm0⟩ : ∃ m : Nat, m = kk % n3 := ⟨_, rfl⟩
            have hm : m < n3 := by rw [hm0]; exact Nat.mod_lt _ (by omega)
            obtain ⟨b9, off9, y, rfl, hy, hb9, hcell⟩ := HC.out.at_ hm
            have c9 := fun W (h : Ext wr W) => SlU.cell hcell ((((Ext.al w _).trans HBW.out).trans EX.out).trans h)
            have k0 := fun W (h : Ext wr W) => (show W.cell? ⟨w1.heap.size, 0, none⟩ = some (.int .i64 lo) from (BL.out.ext h).cell 0)
            have k1 := fun W (h : Ext wr W) => (show W.cell? ⟨w1.heap.size, 1, none⟩ = some (.int .i64 hi) from (BL.out.ext h).cell 1)
            obtain ⟨hy0, hy1⟩ := HCB.out y (List.mem_of_getElem? hy)
            obtain ⟨r, hr0⟩ : ∃ r : Int, r = y % (hi - lo + 1) := ⟨_, rfl⟩
            have hlo1 : 1 ≤ lo := hsb.1
            have hhi9 : hi ≤ 9 := hsb.2.2.1
            have hr1 : 0 ≤ r := by rw [hr0]; exact Int.emod_nonneg _ (by omega)
            have hr2 : r ≤ hi - lo := by have := Int.emod_lt_of_pos y (show 0 < hi - lo + 1 by omega); omega
            have HP := Lib.hid (show pickN (spanAt b.draws (kk : Int)) c kk = lo + r by
              unfold pickN
              rw [← hn3.out, if_neg hc0, HSP.out, ← hm0, hy, hr0]
              rfl)
            have hrem : (kk : Int).tmod (n3 : Int) = (m : Int) := by rw [hm0]; rfl
            have hrem2 : y.tmod (hi - lo + 1) = r := by rw [Int.tmod_eq_emod_of_nonneg hy0]; exact hr0.symm
            have hmz : (m : Int) < (n3 : Int) := by omega
            have hn0 : 0 < n3 := by omega
            have hnz : (0 : Int) < (n3 : Int) := by omega
            have hnz2 : ¬ hi - lo + 1 = 0 := by omega
            have hwy : IntKind.i64.wrap y = y := wrap_small _ (by omega) (by omega)
            have hw1 : IntKind.i64.wrap (hi - lo) = hi - lo := wrap_small _ (by omega) (by omega)
            have hw2 : IntKind.i64.wrap (hi - lo + 1) = hi - lo + 1 := wrap_small _ (by omega) (by omega)
            have hw3 : IntKind.i64.wrap (lo + r) = lo + r := wrap_small _ (by omega) (by omega)
            clear hy hcell hb9 hsb hr0 hm0
            go_wp2
            refine wp_region_tame_cut (fun W => Ext wr W) (fun W W' => Ext W W') (by kernel_rfl) 76 rfl _ rfl (by decide +kernel) (by decide +kernel) (by decide +kernel) rfl (Ext.refl _).drew ?_
            simp only [List.dropLast]
            repeat (apply tame_q rfl; (intro ρ W hC hr hD; (obtain ⟨hrc, hrg, hrf, hrs⟩ := hr); (simp [go_sem] at hD); go_simp; first | exact ⟨⟨hC, Ext.refl _⟩, rfl⟩ | exact ⟨⟨hC, RS.refl _⟩, rfl⟩ | exact rfl); simp only [List.nil_append, List.cons_append])
            refine tame_end 76 rfl rfl (fun ρ W hC hr hF => ?_)
            obtain ⟨hrc, hrg, hrf, hrs⟩ := hr
            simp [go_sem] at hF
            apply frame_to
            · simp (maxSteps := 4000000) [go_sem, hF, hrs]
              exact rfl
            have EXC := Lib.hid (EX.out.trans hC)
            clear hF hrs hrc hrg hrf c9 k0 k1 hC hrem hrem2
            go_wp2_with (at_builtin; refine wpList_app encI 56 3 1 _ 8 Tryd.underlying56 info3x rfl (by decide) (by decide) (fun _ => rfl) encI_one rfl (.tmp 70) (.tmp 72) rfl (w.heap.size + 1) _ (chosenTo b c kk) rfl ((OW.out.ext EXC.out).alloc _) W.heap.size 1 (lo + r) rfl (cells1 (by simp [go_sem])) (by rw [HOL.out]; omega) (by have := EXC.out.size; simp; omega) ?_)
            intro g cap w' hown hg2 hbel _
            have HO := Lib.hid (show Own encI 3 1 w' (w.heap.size + 1) _ (chosenTo b c (kk + 1)) by rw [chosenTo_succ, HP.out]; rw [HOL.out] at hown; exact hown)
            have HB := Lib.hid (((BW.out.trans (EXC.out.mono (by omega))).alloc (by have := EXC.out.size; omega) _).trans hbel)
            clear hown hbel
            go_wp2
            go_roundg (b.layers - (kk + 1)).toNat
            case measure => omega
            case rel => exact ⟨kk + 1, by omega, by omega, by simp, (by rw [HOL.out]; exact HO.out), HB.out⟩
    · have HK := Lib.hid (show b.layers.toNat = kk by omega)
      go_wp2
      go_ret2
      exact ⟨⟨_, rfl, by unfold chosenL; rw [HK.out]; exact OW.out.sl (fun _ => rfl)⟩, (Ext.al w _).trans (BW.out.mono (by simp))⟩
end Go.Proofs.YtdlipbobfgdleaaDoor
/- The outright laws' alive: the chapter's examples hold. -/
namespace Go.Proofs.YtdlipbobfgdleaaDoor
open Go.RowKit Go.Shelf Go.Lib
set_option maxRecDepth 100000
set_option linter.unusedSimpArgs false

theorem exLayer (w : World) (v : Value) (base : Nat) (hT : Tab w) (tv : TwinV (exB []) base v w) : Calls Tryd.prog 18 #[v, .int .i64 1] w fun e w' => e = .returned (.tuple #[.agg #[.int .i64 3, .int .i64 6], .int .i64 0]) ∧ Ext w w' := by
  obtain ⟨dv, wv, rfl, o1, o2⟩ := tv
  refine (layer_any (exB []) 1 dv wv w hT (o1.sl fun _ => rfl) (o2.sl fun _ => rfl)).mono fun e w' h => ⟨h.1.trans ?_, h.2⟩
  kernel_rfl
theorem exBest (w : World) (v : Value) (base : Nat) (hT : Tab w) (tv : TwinV (exB []) base v w) : Calls Tryd.prog 22 #[v] w fun e w' => e = .returned (.tuple #[.agg #[.int .i64 1, .int .i64 3], .int .i64 0]) ∧ Ext w w' := by
  obtain ⟨dv, wv, rfl, o1, o2⟩ := tv
  refine (best_any (exB []) dv wv w hT (o1.sl fun _ => rfl) (o2.sl fun _ => rfl)).mono fun e w' h => ⟨h.1.trans ?_, h.2⟩
  kernel_rfl
theorem exWorst (w : World) (v : Value) (base : Nat) (hT : Tab w) (tv : TwinV (exB []) base v w) : Calls Tryd.prog 24 #[v] w fun e w' => e = .returned (.tuple #[.agg #[.int .i64 3, .int .i64 9], .int .i64 0]) ∧ Ext w w' := by
  obtain ⟨dv, wv, rfl, o1, o2⟩ := tv
  refine (worst_any (exB []) dv wv w hT (o1.sl fun _ => rfl) (o2.sl fun _ => rfl)).mono fun e w' h => ⟨h.1.trans ?_, h.2⟩
  kernel_rfl
theorem exKind (w : World) (v : Value) (base : Nat) (hT : Tab w) (tv : TwinV (exB []) base v w) : Calls Tryd.prog 37 #[v, .int .i64 3] w fun e w' => e = .returned (.tuple #[.int .u8 1, .int .i64 0]) ∧ Ext w w' := by
  obtain ⟨dv, wv, rfl, o1, o2⟩ := tv
  refine (kindC_any (exB []) 3 dv wv w hT (o1.sl fun _ => rfl) (o2.sl fun _ => rfl)).mono fun e w' h => ⟨h.1.trans ?_, h.2⟩
  kernel_rfl
theorem exCut (w : World) (v : Value) (base : Nat) (hT : Tab w) (tv : TwinV (exB []) base v w) : Calls Tryd.prog 39 #[v] w fun e w' => e = .returned (.tuple #[.agg #[.int .i64 1, .int .i64 3], .int .i64 0]) ∧ Ext w w' := by
  obtain ⟨dv, wv, rfl, o1, o2⟩ := tv
  refine (cut_any (exB []) dv wv w hT (o1.sl fun _ => rfl) (o2.sl fun _ => rfl)).mono fun e w' h => ⟨h.1.trans ?_, h.2⟩
  kernel_rfl
theorem exAsk (w : World) (v : Value) (base : Nat) (hT : Tab w) (tv : TwinV (exB []) base v w) : Calls Tryd.prog 41 #[v] w fun e w' => e = .returned (.tuple #[.int .i64 2, .int .i64 3, .int .i64 0]) ∧ Ext w w' := by
  obtain ⟨dv, wv, rfl, o1, o2⟩ := tv
  refine (ask_any (exB []) dv wv w hT (o1.sl fun _ => rfl) (o2.sl fun _ => rfl)).mono fun e w' h => ⟨h.1.trans ?_, h.2⟩
  kernel_rfl
theorem exDry (w : World) (v : Value) (base : Nat) (hT : Tab w) (tv : TwinV (exB []) base v w) : Calls Tryd.prog 27 #[v] w fun e w' => e = .returned (.tuple #[.agg #[.int .i64 441, .int .i64 452], .int .i64 0]) ∧ Ext w w' := by
  obtain ⟨dv, wv, rfl, o1, o2⟩ := tv
  refine (dry_any (exB []) dv wv w hT (o1.sl fun _ => rfl) (o2.sl fun _ => rfl)).mono fun e w' h => ⟨h.1.trans ?_, h.2⟩
  kernel_rfl
theorem exWet (w : World) (v : Value) (base : Nat) (hT : Tab w) (tv : TwinV (exB []) base v w) : Calls Tryd.prog 29 #[v, .int .i64 1] w fun e w' => e = .returned (.tuple #[.agg #[.int .i64 62, .int .i64 90], .int .i64 0]) ∧ Ext w w' := by
  obtain ⟨dv, wv, rfl, o1, o2⟩ := tv
  refine (wet_any (exB []) 1 dv wv w hT (o1.sl fun _ => rfl) (o2.sl fun _ => rfl) (by decide)).mono fun e w' h => ⟨h.1.trans ?_, h.2⟩
  kernel_rfl
theorem exKnown (w : World) (v : Value) (base : Nat) (hT : Tab w) (tv : TwinV (exB []) base v w) : Calls Tryd.prog 33 #[v, .int .i64 1, .int .i64 61] w fun e w' => e = .returned (.tuple #[.int .u8 2, .int .i64 0]) ∧ Ext w w' := by
  obtain ⟨dv, wv, rfl, o1, o2⟩ := tv
  refine (known_any (exB []) 1 61 dv wv w hT (o1.sl fun _ => rfl) (o2.sl fun _ => rfl) (by decide)).mono fun e w' h => ⟨h.1.trans ?_, h.2⟩
  kernel_rfl
theorem exPays (w : World) (v : Value) (base : Nat) (hT : Tab w) (tv : TwinV (exB []) base v w) : Calls Tryd.prog 31 #[v, .int .i64 85] w fun e w' => e = .returned (.tuple #[.agg #[.int .i64 478, .int .i64 490], .int .i64 0]) ∧ Ext w w' := by
  obtain ⟨dv, wv, rfl, o1, o2⟩ := tv
  refine (pays_any (exB []) 85 dv wv w hT (o1.sl fun _ => rfl) (o2.sl fun _ => rfl)).mono fun e w' h => ⟨h.1.trans ?_, h.2⟩
  kernel_rfl
theorem exAside (w : World) (v : Value) (base : Nat) (hT : Tab w) (tv : TwinV (exB []) base v w) : Calls Tryd.prog 35 #[v, .int .i64 90] w fun e w' => e = .returned (.tuple #[.int .u8 1, .int .i64 0]) ∧ Ext w w' := by
  obtain ⟨dv, wv, rfl, o1, o2⟩ := tv
  refine (aside_any (exB []) 90 dv wv w hT (o1.sl fun _ => rfl) (o2.sl fun _ => rfl)).mono fun e w' h => ⟨h.1.trans ?_, h.2⟩
  kernel_rfl
theorem odCan (w : World) (v : Value) (base : Nat) (hT : Tab w) (tv : TwinV (exB [odD]) base v w) : Calls Tryd.prog 16 #[v] w fun e w' => e = .returned (.tuple #[.bool false, .int .i64 0]) ∧ Ext w w' := by
  obtain ⟨dv, wv, rfl, o1, o2⟩ := tv
  refine (can_any (exB [odD]) dv wv w hT (o1.sl fun _ => rfl) (o2.sl fun _ => rfl)).mono fun e w' h => ⟨h.1.trans ?_, h.2⟩
  kernel_rfl
theorem exDecide (w : World) (v : Value) (base : Nat) (hT : Tab w) (tv : TwinV (exB []) base v w) : Calls Tryd.prog 43 #[v] w fun e w' => (∃ u, e = .returned (.tuple #[u, .int .i64 0]) ∧ SlI w' u [1, 2, 3]) ∧ Ext w w' := by
  obtain ⟨dv, wv, rfl, o1, o2⟩ := tv
  refine (decide_any (exB []) dv wv w hT (o1.sl fun _ => rfl) (o2.sl fun _ => rfl)).mono ?_
  rintro e w' ⟨u, rfl, h, hE⟩
  have h0 : askE (exB []) true 0 = 0 := ex_ask true 0
  refine ⟨⟨u, by rw [h0], ?_⟩, hE⟩
  unfold decB at h
  rw [if_pos h0, ex_dec] at h
  exact h
theorem odWrong (w : World) (v : Value) (base : Nat) (hT : Tab w) (tv : TwinV (exB [odD]) base v w) : Calls Tryd.prog 46 #[v] w fun e w' => (∃ u u', e = .returned (.tuple #[u, u', .int .i64 0]) ∧ SlI w' u [1] ∧ SlI w' u' []) ∧ Ext w w' := by
  obtain ⟨dv, wv, rfl, o1, o2⟩ := tv
  refine (wrong_any (exB [odD]) dv wv w hT (o1.sl fun _ => rfl) (o2.sl fun _ => rfl)).mono ?_
  rintro e w' ⟨u, u', rfl, h, h', hE⟩
  rw [od_wrongL] at h
  rw [od_wrongK] at h'
  exact ⟨⟨u, u', by rw [od_wrongE], h, h'⟩, hE⟩

set_option maxHeartbeats 4000000 in
theorem alive_any (w : World) (hT : Tab w) : Calls Tryd.prog 55 #[] w fun e w' => e = .returned (.bool true) ∧ Ext w w' := by
  have HT := Lib.hid hT
  have E := Lib.hid (Ext.refl w)
  clear hT
  go_enter Tryd.func55, Tryd.ntmps55
  go_wp2_with fail
  refine (bale0_any _).mono ?_
  rintro e w1 ⟨⟨v, rfl, tv⟩, hE⟩
  replace E := Lib.hid (E.out.trans hE)
  clear hE
  have TV := Lib.hid tv; clear tv
  go_wp2_with fail
  refine (exLayer _ _ _ (HT.out.ext E.out) TV.out).mono ?_
  rintro e w2 ⟨rfl, hE⟩
  replace E := Lib.hid (E.out.trans hE)
  clear TV
  clear hE
  go_wp2_with fail
  have A1 := Lib.hid (Blk.new w2 23 #[.int .i64 3, .int .i64 6])
  have ZA1 := Lib.hid (show w.heap.size ≤ w2.heap.size from E.out.size)
  replace E := Lib.hid (E.out.alloc (.cells #[.int .i64 3, .int .i64 6] 23))
  refine (bale0_any _).mono ?_
  rintro e w3 ⟨⟨v, rfl, tv⟩, hE⟩
  replace E := Lib.hid (E.out.trans hE)
  replace A1 := Lib.hid (A1.out.ext hE)
  clear hE
  have TV := Lib.hid tv; clear tv
  go_wp2_with fail
  refine (exBest _ _ _ (HT.out.ext E.out) TV.out).mono ?_
  rintro e w4 ⟨rfl, hE⟩
  replace E := Lib.hid (E.out.trans hE)
  replace A1 := Lib.hid (A1.out.ext hE)
  clear TV
  clear hE
  go_wp2_with fail
  have A3 := Lib.hid (Blk.new w4 23 #[.int .i64 1, .int .i64 3])
  have ZA3 := Lib.hid (show w.heap.size ≤ w4.heap.size from E.out.size)
  have NA1A3 := Lib.hid (Nat.ne_of_lt A1.out.lt)
  replace A1 := Lib.hid (A1.out.alloc (.cells #[.int .i64 1, .int .i64 3] 23))
  replace E := Lib.hid (E.out.alloc (.cells #[.int .i64 1, .int .i64 3] 23))
  refine (bale0_any _).mono ?_
  rintro e w5 ⟨⟨v, rfl, tv⟩, hE⟩
  replace E := Lib.hid (E.out.trans hE)
  replace A1 := Lib.hid (A1.out.ext hE)
  replace A3 := Lib.hid (A3.out.ext hE)
  clear hE
  have TV := Lib.hid tv; clear tv
  go_wp2_with fail
  refine (exWorst _ _ _ (HT.out.ext E.out) TV.out).mono ?_
  rintro e w6 ⟨rfl, hE⟩
  replace E := Lib.hid (E.out.trans hE)
  replace A1 := Lib.hid (A1.out.ext hE)
  replace A3 := Lib.hid (A3.out.ext hE)
  clear TV
  clear hE
  go_wp2_with fail
  have A5 := Lib.hid (Blk.new w6 23 #[.int .i64 3, .int .i64 9])
  have ZA5 := Lib.hid (show w.heap.size ≤ w6.heap.size from E.out.size)
  have NA1A5 := Lib.hid (Nat.ne_of_lt A1.out.lt)
  replace A1 := Lib.hid (A1.out.alloc (.cells #[.int .i64 3, .int .i64 9] 23))
  have NA3A5 := Lib.hid (Nat.ne_of_lt A3.out.lt)
  replace A3 := Lib.hid (A3.out.alloc (.cells #[.int .i64 3, .int .i64 9] 23))
  replace E := Lib.hid (E.out.alloc (.cells #[.int .i64 3, .int .i64 9] 23))
  refine (bale0_any _).mono ?_
  rintro e w7 ⟨⟨v, rfl, tv⟩, hE⟩
  replace E := Lib.hid (E.out.trans hE)
  replace A1 := Lib.hid (A1.out.ext hE)
  replace A3 := Lib.hid (A3.out.ext hE)
  replace A5 := Lib.hid (A5.out.ext hE)
  clear hE
  have TV := Lib.hid tv; clear tv
  go_wp2_with fail
  refine (exKind _ _ _ (HT.out.ext E.out) TV.out).mono ?_
  rintro e w8 ⟨rfl, hE⟩
  replace E := Lib.hid (E.out.trans hE)
  replace A1 := Lib.hid (A1.out.ext hE)
  replace A3 := Lib.hid (A3.out.ext hE)
  replace A5 := Lib.hid (A5.out.ext hE)
  clear TV
  clear hE
  go_wp2_with fail
  refine (bale0_any _).mono ?_
  rintro e w9 ⟨⟨v, rfl, tv⟩, hE⟩
  replace E := Lib.hid (E.out.trans hE)
  replace A1 := Lib.hid (A1.out.ext hE)
  replace A3 := Lib.hid (A3.out.ext hE)
  replace A5 := Lib.hid (A5.out.ext hE)
  clear hE
  have TV := Lib.hid tv; clear tv
  go_wp2_with fail
  refine (exCut _ _ _ (HT.out.ext E.out) TV.out).mono ?_
  rintro e w10 ⟨rfl, hE⟩
  replace E := Lib.hid (E.out.trans hE)
  replace A1 := Lib.hid (A1.out.ext hE)
  replace A3 := Lib.hid (A3.out.ext hE)
  replace A5 := Lib.hid (A5.out.ext hE)
  clear TV
  clear hE
  go_wp2_with fail
  have A9 := Lib.hid (Blk.new w10 23 #[.int .i64 1, .int .i64 3])
  have ZA9 := Lib.hid (show w.heap.size ≤ w10.heap.size from E.out.size)
  have NA1A9 := Lib.hid (Nat.ne_of_lt A1.out.lt)
  replace A1 := Lib.hid (A1.out.alloc (.cells #[.int .i64 1, .int .i64 3] 23))
  have NA3A9 := Lib.hid (Nat.ne_of_lt A3.out.lt)
  replace A3 := Lib.hid (A3.out.alloc (.cells #[.int .i64 1, .int .i64 3] 23))
  have NA5A9 := Lib.hid (Nat.ne_of_lt A5.out.lt)
  replace A5 := Lib.hid (A5.out.alloc (.cells #[.int .i64 1, .int .i64 3] 23))
  replace E := Lib.hid (E.out.alloc (.cells #[.int .i64 1, .int .i64 3] 23))
  refine (bale0_any _).mono ?_
  rintro e w11 ⟨⟨v, rfl, tv⟩, hE⟩
  replace E := Lib.hid (E.out.trans hE)
  replace A1 := Lib.hid (A1.out.ext hE)
  replace A3 := Lib.hid (A3.out.ext hE)
  replace A5 := Lib.hid (A5.out.ext hE)
  replace A9 := Lib.hid (A9.out.ext hE)
  clear hE
  have TV := Lib.hid tv; clear tv
  go_wp2_with fail
  refine (exAsk _ _ _ (HT.out.ext E.out) TV.out).mono ?_
  rintro e w12 ⟨rfl, hE⟩
  replace E := Lib.hid (E.out.trans hE)
  replace A1 := Lib.hid (A1.out.ext hE)
  replace A3 := Lib.hid (A3.out.ext hE)
  replace A5 := Lib.hid (A5.out.ext hE)
  replace A9 := Lib.hid (A9.out.ext hE)
  clear TV
  clear hE
  go_wp2_with fail
  refine (bale0_any _).mono ?_
  rintro e w13 ⟨⟨v, rfl, tv⟩, hE⟩
  replace E := Lib.hid (E.out.trans hE)
  replace A1 := Lib.hid (A1.out.ext hE)
  replace A3 := Lib.hid (A3.out.ext hE)
  replace A5 := Lib.hid (A5.out.ext hE)
  replace A9 := Lib.hid (A9.out.ext hE)
  clear hE
  have TV := Lib.hid tv; clear tv
  go_wp2_with fail
  refine (exDecide _ _ _ (HT.out.ext E.out) TV.out).mono ?_
  rintro e w14 ⟨⟨u14, rfl, hu⟩, hE⟩
  replace E := Lib.hid (E.out.trans hE)
  replace A1 := Lib.hid (A1.out.ext hE)
  replace A3 := Lib.hid (A3.out.ext hE)
  replace A5 := Lib.hid (A5.out.ext hE)
  replace A9 := Lib.hid (A9.out.ext hE)
  clear TV
  clear hE
  have HU := Lib.hid hu; clear hu
  have nq := neq23
  go_wp2
  have A1a := fun W (h : Ext w14 W) => (show W.cell? ⟨w2.heap.size, 0, none⟩ = some (.int .i64 3) from (A1.out.ext h).cell 0)
  have A1b := fun W (h : Ext w14 W) => (show W.cell? ⟨w2.heap.size, 1, none⟩ = some (.int .i64 6) from (A1.out.ext h).cell 1)
  have A3a := fun W (h : Ext w14 W) => (show W.cell? ⟨w4.heap.size, 0, none⟩ = some (.int .i64 1) from (A3.out.ext h).cell 0)
  have A3b := fun W (h : Ext w14 W) => (show W.cell? ⟨w4.heap.size, 1, none⟩ = some (.int .i64 3) from (A3.out.ext h).cell 1)
  have A5a := fun W (h : Ext w14 W) => (show W.cell? ⟨w6.heap.size, 0, none⟩ = some (.int .i64 3) from (A5.out.ext h).cell 0)
  have A5b := fun W (h : Ext w14 W) => (show W.cell? ⟨w6.heap.size, 1, none⟩ = some (.int .i64 9) from (A5.out.ext h).cell 1)
  have A9a := fun W (h : Ext w14 W) => (show W.cell? ⟨w10.heap.size, 0, none⟩ = some (.int .i64 1) from (A9.out.ext h).cell 0)
  have A9b := fun W (h : Ext w14 W) => (show W.cell? ⟨w10.heap.size, 1, none⟩ = some (.int .i64 3) from (A9.out.ext h).cell 1)
  refine wp_region_tame (fun W => Ext w14 W) (fun W W' => Ext W W') (by kernel_rfl) 219 rfl (by decide +kernel) (Ext.refl _).drew ?_
  repeat (apply tame_q rfl; (intro ρ W hC hr hD; (obtain ⟨hrc, hrg, hrf, hrs⟩ := hr); (simp [go_sem] at hD); go_simp; first | exact ⟨⟨hC, Ext.refl _⟩, rfl⟩ | exact ⟨⟨hC, RS.refl _⟩, rfl⟩ | exact rfl); simp only [List.nil_append, List.cons_append])
  apply tame_q rfl
  · intro ρ W hC hr hD
    obtain ⟨hrc, hrg, hrf, hrs⟩ := hr
    simp [go_sem] at hD
    go_simp
    refine (span_any 3 6 _).mono ?_
    rintro e w' ⟨rfl, hE⟩
    exact ⟨_, rfl, ⟨hC.trans hE, hE⟩, rfl⟩
  simp only [List.nil_append, List.cons_append]
  repeat (apply tame_q rfl; (intro ρ W hC hr hD; (obtain ⟨hrc, hrg, hrf, hrs⟩ := hr); (simp [go_sem] at hD); go_simp; first | exact ⟨⟨hC, Ext.refl _⟩, rfl⟩ | exact ⟨⟨hC, RS.refl _⟩, rfl⟩ | exact rfl); simp only [List.nil_append, List.cons_append])
  apply tame_q rfl
  · intro ρ W hC hr hD
    obtain ⟨hrc, hrg, hrf, hrs⟩ := hr
    simp [go_sem] at hD
    go_simp
    refine (span_any 1 3 _).mono ?_
    rintro e w' ⟨rfl, hE⟩
    exact ⟨_, rfl, ⟨hC.trans hE, hE⟩, rfl⟩
  simp only [List.nil_append, List.cons_append]
  repeat (apply tame_q rfl; (intro ρ W hC hr hD; (obtain ⟨hrc, hrg, hrf, hrs⟩ := hr); (simp [go_sem] at hD); go_simp; first | exact ⟨⟨hC, Ext.refl _⟩, rfl⟩ | exact ⟨⟨hC, RS.refl _⟩, rfl⟩ | exact rfl); simp only [List.nil_append, List.cons_append])
  apply tame_q rfl
  · intro ρ W hC hr hD
    obtain ⟨hrc, hrg, hrf, hrs⟩ := hr
    simp [go_sem] at hD
    go_simp
    refine (span_any 3 9 _).mono ?_
    rintro e w' ⟨rfl, hE⟩
    exact ⟨_, rfl, ⟨hC.trans hE, hE⟩, rfl⟩
  simp only [List.nil_append, List.cons_append]
  repeat (apply tame_q rfl; (intro ρ W hC hr hD; (obtain ⟨hrc, hrg, hrf, hrs⟩ := hr); (simp [go_sem] at hD); go_simp; first | exact ⟨⟨hC, Ext.refl _⟩, rfl⟩ | exact ⟨⟨hC, RS.refl _⟩, rfl⟩ | exact rfl); simp only [List.nil_append, List.cons_append])
  apply tame_q rfl
  · intro ρ W hC hr hD
    obtain ⟨hrc, hrg, hrf, hrs⟩ := hr
    simp [go_sem] at hD
    go_simp
    refine (span_any 1 3 _).mono ?_
    rintro e w' ⟨rfl, hE⟩
    exact ⟨_, rfl, ⟨hC.trans hE, hE⟩, rfl⟩
  simp only [List.nil_append, List.cons_append]
  repeat (apply tame_q rfl; (intro ρ W hC hr hD; (obtain ⟨hrc, hrg, hrf, hrs⟩ := hr); (simp [go_sem] at hD); go_simp; first | exact ⟨⟨hC, Ext.refl _⟩, rfl⟩ | exact ⟨⟨hC, RS.refl _⟩, rfl⟩ | exact rfl); simp only [List.nil_append, List.cons_append])
  apply tame_v rfl (fun v W => SlI W v [1, 2, 3]) (fun v W W' _ hE h => h.ext hE)
  · intro ρ W hC hr hD
    obtain ⟨hrc, hrg, hrf, hrs⟩ := hr
    simp [go_sem] at hD
    go_simp
    exact ⟨⟨hC.alloc _, Ext.al _ _⟩, Own.sl (enc := encI) (sz := 1) (fun _ => rfl) (Own.lit (enc := encI) (sz := 1) (e := 3) (base := W.heap.size) (l := ([1, 2, 3] : List Int)) (fun _ => rfl) (Blk.new W 3 #[.int .i64 1, .int .i64 2, .int .i64 3]) (by simp) (Nat.le_refl _) (by decide))⟩
  simp only [List.nil_append, List.cons_append]
  apply tame_q rfl
  · intro ρ W hC hr hD
    obtain ⟨hrc, hrg, hrf, hrs⟩ := hr
    simp [go_sem] at hD
    have hL : SlI W _ [1, 2, 3] := hD.2.1
    go_simp
    refine (ints_any [1, 2, 3] _ _ _ (HU.out.ext hC) hL).mono ?_
    rintro e w' ⟨rfl, hE⟩
    exact ⟨_, rfl, ⟨hC.trans hE, hE⟩, rfl⟩
  simp only [List.nil_append, List.cons_append]
  repeat (apply tame_q rfl; (intro ρ W hC hr hD; (obtain ⟨hrc, hrg, hrf, hrs⟩ := hr); (simp [go_sem] at hD); go_simp; first | exact ⟨⟨hC, Ext.refl _⟩, rfl⟩ | exact ⟨⟨hC, RS.refl _⟩, rfl⟩ | exact rfl); simp only [List.nil_append, List.cons_append])
  refine tame_end 219 rfl rfl (fun ρ W hC hr hF => ?_)
  obtain ⟨hrc, hrg, hrf, hrs⟩ := hr
  simp [go_sem] at hF
  apply frame_to
  · simp (maxSteps := 4000000) [go_sem, hF, hrs]
    exact rfl
  clear hF hrs hrc hrg hrf
  clear A1a A1b
  clear A3a A3b
  clear A5a A5b
  clear A9a A9b
  replace E := Lib.hid (E.out.trans hC)
  replace A1 := Lib.hid (A1.out.ext hC)
  replace A3 := Lib.hid (A3.out.ext hC)
  replace A5 := Lib.hid (A5.out.ext hC)
  replace A9 := Lib.hid (A9.out.ext hC)
  clear hC
  clear HU
  go_wp2_with fail
  refine (bale0_any _).mono ?_
  rintro e w16 ⟨⟨v, rfl, tv⟩, hE⟩
  replace E := Lib.hid (E.out.trans hE)
  replace A1 := Lib.hid (A1.out.ext hE)
  replace A3 := Lib.hid (A3.out.ext hE)
  replace A5 := Lib.hid (A5.out.ext hE)
  replace A9 := Lib.hid (A9.out.ext hE)
  clear hE
  have TV := Lib.hid tv; clear tv
  go_wp2_with fail
  refine (exDry _ _ _ (HT.out.ext E.out) TV.out).mono ?_
  rintro e w17 ⟨rfl, hE⟩
  replace E := Lib.hid (E.out.trans hE)
  replace A1 := Lib.hid (A1.out.ext hE)
  replace A3 := Lib.hid (A3.out.ext hE)
  replace A5 := Lib.hid (A5.out.ext hE)
  replace A9 := Lib.hid (A9.out.ext hE)
  clear TV
  clear hE
  have af := A1.out.frozen
  have al := A1.out.lt
  have a0 := A1.out.cell 0
  have a1 := A1.out.cell 1
  simp at a0 a1
  go_wp2_with fail
  clear af al a0 a1
  replace E := Lib.hid (show Ext w ((w17.setCell ⟨w2.heap.size, 0, none⟩ (.int .i64 441)).setCell ⟨w2.heap.size, 1, none⟩ (.int .i64 452)) from (E.out.setCell (by have := ZA1.out; dsimp only; omega) _).setCell (by have := ZA1.out; dsimp only; omega) _)
  replace A1 := Lib.hid (show Blk ((w17.setCell ⟨w2.heap.size, 0, none⟩ (.int .i64 441)).setCell ⟨w2.heap.size, 1, none⟩ (.int .i64 452)) w2.heap.size 23 #[.int .i64 441, .int .i64 452] from (A1.out.set_ 0 _).set_ 1 _)
  replace A3 := Lib.hid (show Blk ((w17.setCell ⟨w2.heap.size, 0, none⟩ (.int .i64 441)).setCell ⟨w2.heap.size, 1, none⟩ (.int .i64 452)) w4.heap.size 23 _ from (A3.out.far NA1A3.out.symm _).far NA1A3.out.symm _)
  replace A5 := Lib.hid (show Blk ((w17.setCell ⟨w2.heap.size, 0, none⟩ (.int .i64 441)).setCell ⟨w2.heap.size, 1, none⟩ (.int .i64 452)) w6.heap.size 23 _ from (A5.out.far NA1A5.out.symm _).far NA1A5.out.symm _)
  replace A9 := Lib.hid (show Blk ((w17.setCell ⟨w2.heap.size, 0, none⟩ (.int .i64 441)).setCell ⟨w2.heap.size, 1, none⟩ (.int .i64 452)) w10.heap.size 23 _ from (A9.out.far NA1A9.out.symm _).far NA1A9.out.symm _)
  refine (bale0_any _).mono ?_
  rintro e w18 ⟨⟨v, rfl, tv⟩, hE⟩
  replace E := Lib.hid (E.out.trans hE)
  replace A1 := Lib.hid (A1.out.ext hE)
  replace A3 := Lib.hid (A3.out.ext hE)
  replace A5 := Lib.hid (A5.out.ext hE)
  replace A9 := Lib.hid (A9.out.ext hE)
  clear hE
  have TV := Lib.hid tv; clear tv
  go_wp2_with fail
  refine (exWet _ _ _ (HT.out.ext E.out) TV.out).mono ?_
  rintro e w19 ⟨rfl, hE⟩
  replace E := Lib.hid (E.out.trans hE)
  replace A1 := Lib.hid (A1.out.ext hE)
  replace A3 := Lib.hid (A3.out.ext hE)
  replace A5 := Lib.hid (A5.out.ext hE)
  replace A9 := Lib.hid (A9.out.ext hE)
  clear TV
  clear hE
  have af := A3.out.frozen
  have al := A3.out.lt
  have a0 := A3.out.cell 0
  have a1 := A3.out.cell 1
  simp at a0 a1
  go_wp2_with fail
  clear af al a0 a1
  replace E := Lib.hid (show Ext w ((w19.setCell ⟨w4.heap.size, 0, none⟩ (.int .i64 62)).setCell ⟨w4.heap.size, 1, none⟩ (.int .i64 90)) from (E.out.setCell (by have := ZA3.out; dsimp only; omega) _).setCell (by have := ZA3.out; dsimp only; omega) _)
  replace A1 := Lib.hid (show Blk ((w19.setCell ⟨w4.heap.size, 0, none⟩ (.int .i64 62)).setCell ⟨w4.heap.size, 1, none⟩ (.int .i64 90)) w2.heap.size 23 _ from (A1.out.far NA1A3.out _).far NA1A3.out _)
  replace A3 := Lib.hid (show Blk ((w19.setCell ⟨w4.heap.size, 0, none⟩ (.int .i64 62)).setCell ⟨w4.heap.size, 1, none⟩ (.int .i64 90)) w4.heap.size 23 #[.int .i64 62, .int .i64 90] from (A3.out.set_ 0 _).set_ 1 _)
  replace A5 := Lib.hid (show Blk ((w19.setCell ⟨w4.heap.size, 0, none⟩ (.int .i64 62)).setCell ⟨w4.heap.size, 1, none⟩ (.int .i64 90)) w6.heap.size 23 _ from (A5.out.far NA3A5.out.symm _).far NA3A5.out.symm _)
  replace A9 := Lib.hid (show Blk ((w19.setCell ⟨w4.heap.size, 0, none⟩ (.int .i64 62)).setCell ⟨w4.heap.size, 1, none⟩ (.int .i64 90)) w10.heap.size 23 _ from (A9.out.far NA3A9.out.symm _).far NA3A9.out.symm _)
  refine (bale0_any _).mono ?_
  rintro e w20 ⟨⟨v, rfl, tv⟩, hE⟩
  replace E := Lib.hid (E.out.trans hE)
  replace A1 := Lib.hid (A1.out.ext hE)
  replace A3 := Lib.hid (A3.out.ext hE)
  replace A5 := Lib.hid (A5.out.ext hE)
  replace A9 := Lib.hid (A9.out.ext hE)
  clear hE
  have TV := Lib.hid tv; clear tv
  go_wp2_with fail
  refine (exKnown _ _ _ (HT.out.ext E.out) TV.out).mono ?_
  rintro e w21 ⟨rfl, hE⟩
  replace E := Lib.hid (E.out.trans hE)
  replace A1 := Lib.hid (A1.out.ext hE)
  replace A3 := Lib.hid (A3.out.ext hE)
  replace A5 := Lib.hid (A5.out.ext hE)
  replace A9 := Lib.hid (A9.out.ext hE)
  clear TV
  clear hE
  go_wp2_with fail
  refine (bale0_any _).mono ?_
  rintro e w22 ⟨⟨v, rfl, tv⟩, hE⟩
  replace E := Lib.hid (E.out.trans hE)
  replace A1 := Lib.hid (A1.out.ext hE)
  replace A3 := Lib.hid (A3.out.ext hE)
  replace A5 := Lib.hid (A5.out.ext hE)
  replace A9 := Lib.hid (A9.out.ext hE)
  clear hE
  have TV := Lib.hid tv; clear tv
  go_wp2_with fail
  refine (exPays _ _ _ (HT.out.ext E.out) TV.out).mono ?_
  rintro e w23 ⟨rfl, hE⟩
  replace E := Lib.hid (E.out.trans hE)
  replace A1 := Lib.hid (A1.out.ext hE)
  replace A3 := Lib.hid (A3.out.ext hE)
  replace A5 := Lib.hid (A5.out.ext hE)
  replace A9 := Lib.hid (A9.out.ext hE)
  clear TV
  clear hE
  have af := A5.out.frozen
  have al := A5.out.lt
  have a0 := A5.out.cell 0
  have a1 := A5.out.cell 1
  simp at a0 a1
  go_wp2_with fail
  clear af al a0 a1
  replace E := Lib.hid (show Ext w ((w23.setCell ⟨w6.heap.size, 0, none⟩ (.int .i64 478)).setCell ⟨w6.heap.size, 1, none⟩ (.int .i64 490)) from (E.out.setCell (by have := ZA5.out; dsimp only; omega) _).setCell (by have := ZA5.out; dsimp only; omega) _)
  replace A1 := Lib.hid (show Blk ((w23.setCell ⟨w6.heap.size, 0, none⟩ (.int .i64 478)).setCell ⟨w6.heap.size, 1, none⟩ (.int .i64 490)) w2.heap.size 23 _ from (A1.out.far NA1A5.out _).far NA1A5.out _)
  replace A3 := Lib.hid (show Blk ((w23.setCell ⟨w6.heap.size, 0, none⟩ (.int .i64 478)).setCell ⟨w6.heap.size, 1, none⟩ (.int .i64 490)) w4.heap.size 23 _ from (A3.out.far NA3A5.out _).far NA3A5.out _)
  replace A5 := Lib.hid (show Blk ((w23.setCell ⟨w6.heap.size, 0, none⟩ (.int .i64 478)).setCell ⟨w6.heap.size, 1, none⟩ (.int .i64 490)) w6.heap.size 23 #[.int .i64 478, .int .i64 490] from (A5.out.set_ 0 _).set_ 1 _)
  replace A9 := Lib.hid (show Blk ((w23.setCell ⟨w6.heap.size, 0, none⟩ (.int .i64 478)).setCell ⟨w6.heap.size, 1, none⟩ (.int .i64 490)) w10.heap.size 23 _ from (A9.out.far NA5A9.out.symm _).far NA5A9.out.symm _)
  refine (bale0_any _).mono ?_
  rintro e w24 ⟨⟨v, rfl, tv⟩, hE⟩
  replace E := Lib.hid (E.out.trans hE)
  replace A1 := Lib.hid (A1.out.ext hE)
  replace A3 := Lib.hid (A3.out.ext hE)
  replace A5 := Lib.hid (A5.out.ext hE)
  replace A9 := Lib.hid (A9.out.ext hE)
  clear hE
  have TV := Lib.hid tv; clear tv
  go_wp2_with fail
  refine (exAside _ _ _ (HT.out.ext E.out) TV.out).mono ?_
  rintro e w25 ⟨rfl, hE⟩
  replace E := Lib.hid (E.out.trans hE)
  replace A1 := Lib.hid (A1.out.ext hE)
  replace A3 := Lib.hid (A3.out.ext hE)
  replace A5 := Lib.hid (A5.out.ext hE)
  replace A9 := Lib.hid (A9.out.ext hE)
  clear TV
  clear hE
  go_wp2_with fail
  refine (odd_any _).mono ?_
  rintro e w26 ⟨⟨v, rfl, tv⟩, hE⟩
  replace E := Lib.hid (E.out.trans hE)
  replace A1 := Lib.hid (A1.out.ext hE)
  replace A3 := Lib.hid (A3.out.ext hE)
  replace A5 := Lib.hid (A5.out.ext hE)
  replace A9 := Lib.hid (A9.out.ext hE)
  clear hE
  have TV := Lib.hid tv; clear tv
  go_wp2_with fail
  refine (odCan _ _ _ (HT.out.ext E.out) TV.out).mono ?_
  rintro e w27 ⟨rfl, hE⟩
  replace E := Lib.hid (E.out.trans hE)
  replace A1 := Lib.hid (A1.out.ext hE)
  replace A3 := Lib.hid (A3.out.ext hE)
  replace A5 := Lib.hid (A5.out.ext hE)
  replace A9 := Lib.hid (A9.out.ext hE)
  clear TV
  clear hE
  go_wp2_with fail
  refine (odd_any _).mono ?_
  rintro e w28 ⟨⟨v, rfl, tv⟩, hE⟩
  replace E := Lib.hid (E.out.trans hE)
  replace A1 := Lib.hid (A1.out.ext hE)
  replace A3 := Lib.hid (A3.out.ext hE)
  replace A5 := Lib.hid (A5.out.ext hE)
  replace A9 := Lib.hid (A9.out.ext hE)
  clear hE
  have TV := Lib.hid tv; clear tv
  go_wp2_with fail
  refine (odWrong _ _ _ (HT.out.ext E.out) TV.out).mono ?_
  rintro e w29 ⟨⟨u18, u19, rfl, hu, hu2⟩, hE⟩
  replace E := Lib.hid (E.out.trans hE)
  replace A1 := Lib.hid (A1.out.ext hE)
  replace A3 := Lib.hid (A3.out.ext hE)
  replace A5 := Lib.hid (A5.out.ext hE)
  replace A9 := Lib.hid (A9.out.ext hE)
  clear TV
  clear hE
  have HU := Lib.hid hu; have HU2 := Lib.hid hu2; clear hu hu2
  have eq23 := eql23s
  go_wp2
  have A1a := fun W (h : Ext w29 W) => (show W.cell? ⟨w2.heap.size, 0, none⟩ = some (.int .i64 441) from (A1.out.ext h).cell 0)
  have A1b := fun W (h : Ext w29 W) => (show W.cell? ⟨w2.heap.size, 1, none⟩ = some (.int .i64 452) from (A1.out.ext h).cell 1)
  have A3a := fun W (h : Ext w29 W) => (show W.cell? ⟨w4.heap.size, 0, none⟩ = some (.int .i64 62) from (A3.out.ext h).cell 0)
  have A3b := fun W (h : Ext w29 W) => (show W.cell? ⟨w4.heap.size, 1, none⟩ = some (.int .i64 90) from (A3.out.ext h).cell 1)
  have A5a := fun W (h : Ext w29 W) => (show W.cell? ⟨w6.heap.size, 0, none⟩ = some (.int .i64 478) from (A5.out.ext h).cell 0)
  have A5b := fun W (h : Ext w29 W) => (show W.cell? ⟨w6.heap.size, 1, none⟩ = some (.int .i64 490) from (A5.out.ext h).cell 1)
  have A9a := fun W (h : Ext w29 W) => (show W.cell? ⟨w10.heap.size, 0, none⟩ = some (.int .i64 1) from (A9.out.ext h).cell 0)
  have A9b := fun W (h : Ext w29 W) => (show W.cell? ⟨w10.heap.size, 1, none⟩ = some (.int .i64 3) from (A9.out.ext h).cell 1)
  refine wp_region_tame (fun W => Ext w29 W) (fun W W' => Ext W W') (by kernel_rfl) 219 rfl (by decide +kernel) (Ext.refl _).drew ?_
  repeat (apply tame_q rfl; (intro ρ W hC hr hD; (obtain ⟨hrc, hrg, hrf, hrs⟩ := hr); (simp [go_sem] at hD); go_simp; first | exact ⟨⟨hC, Ext.refl _⟩, rfl⟩ | exact ⟨⟨hC, RS.refl _⟩, rfl⟩ | exact rfl); simp only [List.nil_append, List.cons_append])
  apply tame_q rfl
  · intro ρ W hC hr hD
    obtain ⟨hrc, hrg, hrf, hrs⟩ := hr
    simp [go_sem] at hD
    go_simp
    refine (span_any 441 452 _).mono ?_
    rintro e w' ⟨rfl, hE⟩
    exact ⟨_, rfl, ⟨hC.trans hE, hE⟩, rfl⟩
  simp only [List.nil_append, List.cons_append]
  repeat (apply tame_q rfl; (intro ρ W hC hr hD; (obtain ⟨hrc, hrg, hrf, hrs⟩ := hr); (simp [go_sem] at hD); go_simp; first | exact ⟨⟨hC, Ext.refl _⟩, rfl⟩ | exact ⟨⟨hC, RS.refl _⟩, rfl⟩ | exact rfl); simp only [List.nil_append, List.cons_append])
  apply tame_q rfl
  · intro ρ W hC hr hD
    obtain ⟨hrc, hrg, hrf, hrs⟩ := hr
    simp [go_sem] at hD
    go_simp
    refine (span_any 62 90 _).mono ?_
    rintro e w' ⟨rfl, hE⟩
    exact ⟨_, rfl, ⟨hC.trans hE, hE⟩, rfl⟩
  simp only [List.nil_append, List.cons_append]
  repeat (apply tame_q rfl; (intro ρ W hC hr hD; (obtain ⟨hrc, hrg, hrf, hrs⟩ := hr); (simp [go_sem] at hD); go_simp; first | exact ⟨⟨hC, Ext.refl _⟩, rfl⟩ | exact ⟨⟨hC, RS.refl _⟩, rfl⟩ | exact rfl); simp only [List.nil_append, List.cons_append])
  apply tame_q rfl
  · intro ρ W hC hr hD
    obtain ⟨hrc, hrg, hrf, hrs⟩ := hr
    simp [go_sem] at hD
    go_simp
    refine (span_any 478 490 _).mono ?_
    rintro e w' ⟨rfl, hE⟩
    exact ⟨_, rfl, ⟨hC.trans hE, hE⟩, rfl⟩
  simp only [List.nil_append, List.cons_append]
  repeat (apply tame_q rfl; (intro ρ W hC hr hD; (obtain ⟨hrc, hrg, hrf, hrs⟩ := hr); (simp [go_sem] at hD); go_simp; first | exact ⟨⟨hC, Ext.refl _⟩, rfl⟩ | exact ⟨⟨hC, RS.refl _⟩, rfl⟩ | exact rfl); simp only [List.nil_append, List.cons_append])
  apply tame_v rfl (fun v W => SlI W v [1]) (fun v W W' _ hE h => h.ext hE)
  · intro ρ W hC hr hD
    obtain ⟨hrc, hrg, hrf, hrs⟩ := hr
    simp [go_sem] at hD
    go_simp
    exact ⟨⟨hC.alloc _, Ext.al _ _⟩, Own.sl (enc := encI) (sz := 1) (fun _ => rfl) (Own.lit (enc := encI) (sz := 1) (e := 3) (base := W.heap.size) (l := ([1] : List Int)) (fun _ => rfl) (Blk.new W 3 #[.int .i64 1]) (by simp) (Nat.le_refl _) (by decide))⟩
  simp only [List.nil_append, List.cons_append]
  apply tame_q rfl
  · intro ρ W hC hr hD
    obtain ⟨hrc, hrg, hrf, hrs⟩ := hr
    simp [go_sem] at hD
    have hL : SlI W _ [1] := hD.2.1
    go_simp
    refine (ints_any [1] _ _ _ (HU.out.ext hC) hL).mono ?_
    rintro e w' ⟨rfl, hE⟩
    exact ⟨_, rfl, ⟨hC.trans hE, hE⟩, rfl⟩
  simp only [List.nil_append, List.cons_append]
  repeat (apply tame_q rfl; (intro ρ W hC hr hD; (obtain ⟨hrc, hrg, hrf, hrs⟩ := hr); (simp [go_sem] at hD); go_simp; first | exact ⟨⟨hC, Ext.refl _⟩, rfl⟩ | exact ⟨⟨hC, RS.refl _⟩, rfl⟩ | exact rfl); simp only [List.nil_append, List.cons_append])
  apply tame_q rfl
  · intro ρ W hC hr hD
    obtain ⟨hrc, hrg, hrf, hrs⟩ := hr
    simp [go_sem] at hD
    have hL : SlI W _ [] := Sl.nil W
    go_simp
    refine (ints_any [] _ _ _ (HU2.out.ext hC) hL).mono ?_
    rintro e w' ⟨rfl, hE⟩
    exact ⟨_, rfl, ⟨hC.trans hE, hE⟩, rfl⟩
  simp only [List.nil_append, List.cons_append]
  repeat (apply tame_q rfl; (intro ρ W hC hr hD; (obtain ⟨hrc, hrg, hrf, hrs⟩ := hr); (simp [go_sem] at hD); go_simp; first | exact ⟨⟨hC, Ext.refl _⟩, rfl⟩ | exact ⟨⟨hC, RS.refl _⟩, rfl⟩ | exact rfl); simp only [List.nil_append, List.cons_append])
  refine tame_end 219 rfl rfl (fun ρ W hC hr hF => ?_)
  obtain ⟨hrc, hrg, hrf, hrs⟩ := hr
  simp [go_sem] at hF
  apply frame_to
  · simp (maxSteps := 4000000) [go_sem, hF, hrs]
    exact rfl
  clear hF hrs hrc hrg hrf
  clear A1a A1b
  clear A3a A3b
  clear A5a A5b
  clear A9a A9b
  replace E := Lib.hid (E.out.trans hC)
  replace A1 := Lib.hid (A1.out.ext hC)
  replace A3 := Lib.hid (A3.out.ext hC)
  replace A5 := Lib.hid (A5.out.ext hC)
  replace A9 := Lib.hid (A9.out.ext hC)
  clear hC
  go_wp2
  go_ret
  exact ⟨rfl, E.out⟩
end Go.Proofs.YtdlipbobfgdleaaDoor
