/- The reference's TwinCotton, Twin: a mill in new memory. -/
import Derived.Test.YtkpengeaolcjhaaDoorPkMlTellsCardU
import Derived.Maps.AppendAt
import Derived.Test.YtkpengeaolcjhaaDoorPkMlTellsCardS
import Derived.Test.YtkpengeaolcjhaaDoorPkMlTellsCardT
import Derived.Test.YtkpengeaolcjhaaDoorPkMlTellsCardD
namespace Go.Proofs.YtkpengeaolcjhaaDoor
open Go.RowKit Go.Shelf Go.Lib
set_option maxRecDepth 100000
set_option linter.unusedSimpArgs false

theorem info61x : (Tryd.prog.info? 61).map (fun i => (i.zero, i.size, i.bytes)) = some (some (.agg #[.int .i64 0, .int .i64 0, .int .i64 0, .int .i64 0, .slice none 0 0, .slice none 0 0, .int .i64 0, .int .i64 0]), 8, 96) := by kernel_rfl
theorem encC_len (r : Rc) : (encC r).length = 8 := rfl
theorem encC_one (r : Rc) : ∀ u ∈ encC r, u.oneCell' = true := by
  intro u hu
  simp at hu
  rcases hu with rfl | rfl | rfl | rfl | rfl | rfl | rfl | rfl <;> rfl
/-- A cotton whose lists are the call's own. -/
def OwnR (base : Nat) (r : Rc) (W : World) : Prop := Own encD 81 4 W base (.slice r.da r.dn r.dc) r.c.b.draws ∧ Own encW 141 4 W base (.slice r.wa r.wn r.wc) r.c.b.weighs
theorem OwnR.ext {base : Nat} {r : Rc} {W W' : World} (h : OwnR base r W) (e : Ext W W') : OwnR base r W' := ⟨h.1.ext e, h.2.ext e⟩
theorem OwnR.off {base : Nat} {r : Rc} {W W' : World} (h : OwnR base r W) (k : OffX 61 W W') : OwnR base r W' := ⟨h.1.offX k (by decide), h.2.offX k (by decide)⟩
theorem OwnR.mono {base base' : Nat} {r : Rc} {W : World} (h : OwnR base r W) (hb : base' ≤ base) : OwnR base' r W := ⟨h.1.mono hb, h.2.mono hb⟩
/-- A cotton's value with the data of another one, in new memory. -/
def TwinR (c : Cot) (base : Nat) (v : Value) (W : World) : Prop := ∃ r : Rc, v = valC r ∧ r.c = c ∧ OwnR base r W
set_option maxHeartbeats 2000000 in
theorem twinCotton_any (r : Rc) (w : World) (hd : SlD w (.slice r.da r.dn r.dc) r.c.b.draws) (hw : SlW w (.slice r.wa r.wn r.wc) r.c.b.weighs) (hld : r.c.b.draws.length ≤ 1000) (hlw : r.c.b.weighs.length ≤ 1000) :
    Calls Tryd.prog 29 #[valC r] w fun e w' => (∃ v, e = .returned v ∧ TwinR r.c w.heap.size v w') ∧ Ext w w' := by
  have HD := Lib.hid hd; have HW := Lib.hid hw; have HLD := Lib.hid hld; have HLW := Lib.hid hlw
  clear hd hw hld hlw
  go_enter Tryd.func29, Tryd.ntmps29
  go_wp2
  obtain ⟨w2, hw2⟩ : ∃ w2, w2 = (w.alloc (.cells #[.int .i64 r.c.b.id, .int .i64 r.c.b.layers, .int .i64 r.c.b.dry.lo, .int .i64 r.c.b.dry.hi, .slice r.da r.dn r.dc, .slice r.wa r.wn r.wc, .int .i64 r.c.len, .int .i64 r.c.str] 61)).alloc (.cells #[.int .i64 0, .int .i64 0, .int .i64 0, .int .i64 0, .slice none 0 0, .slice none 0 0, .int .i64 0, .int .i64 0] 61) := ⟨_, rfl⟩
  rw [← hw2]
  have B0 := Lib.hid (show Blk w2 w.heap.size 61 #[.int .i64 r.c.b.id, .int .i64 r.c.b.layers, .int .i64 r.c.b.dry.lo, .int .i64 r.c.b.dry.hi, .slice r.da r.dn r.dc, .slice r.wa r.wn r.wc, .int .i64 r.c.len, .int .i64 r.c.str] from hw2 ▸ (Blk.new _ _ _).alloc _)
  have B1 := Lib.hid (show Blk w2 (w.heap.size + 1) 61 #[.int .i64 0, .int .i64 0, .int .i64 0, .int .i64 0, .slice none 0 0, .slice none 0 0, .int .i64 0, .int .i64 0] from hw2 ▸ Blk.at_ (by simp))
  have E2 := Lib.hid (show Ext w w2 from hw2 ▸ (Ext.al _ _).alloc _)
  have HZ2 := Lib.hid (show w2.heap.size = w.heap.size + 2 by rw [hw2]; simp)
  clear hw2
  have q0 := fun V (h : Ext w2 V) => (show V.cell? ⟨w.heap.size, 0, none⟩ = some (.int .i64 r.c.b.id) from (B0.out.ext h).cell 0)
  have q1 := fun V (h : Ext w2 V) => (show V.cell? ⟨w.heap.size, 1, none⟩ = some (.int .i64 r.c.b.layers) from (B0.out.ext h).cell 1)
  have q2 := fun V (h : Ext w2 V) => (show V.cell? ⟨w.heap.size, 2, none⟩ = some (.int .i64 r.c.b.dry.lo) from (B0.out.ext h).cell 2)
  have q3 := fun V (h : Ext w2 V) => (show V.cell? ⟨w.heap.size, 3, none⟩ = some (.int .i64 r.c.b.dry.hi) from (B0.out.ext h).cell 3)
  have q4 := fun V (h : Ext w2 V) => (show V.cell? ⟨w.heap.size, 4, none⟩ = some (.slice r.da r.dn r.dc) from (B0.out.ext h).cell 4)
  have q5 := fun V (h : Ext w2 V) => (show V.cell? ⟨w.heap.size, 5, none⟩ = some (.slice r.wa r.wn r.wc) from (B0.out.ext h).cell 5)
  have q6 := fun V (h : Ext w2 V) => (show V.cell? ⟨w.heap.size, 6, none⟩ = some (.int .i64 r.c.len) from (B0.out.ext h).cell 6)
  have q7 := fun V (h : Ext w2 V) => (show V.cell? ⟨w.heap.size, 7, none⟩ = some (.int .i64 r.c.str) from (B0.out.ext h).cell 7)
  refine wp_region_tame_cut (fun W => Ext w2 W) (fun W W' => Ext W W') (by kernel_rfl) 11 rfl _ rfl (by decide +kernel) (by decide +kernel) (by decide +kernel) rfl (Ext.refl _).drew ?_
  simp only [List.dropLast]
  repeat (apply tame_q rfl; (intro ρ W hC hr hD; (obtain ⟨hrc, hrg, hrf, hrs⟩ := hr); (simp [go_sem] at hD); go_simp; first | exact ⟨⟨hC, Ext.refl _⟩, rfl⟩ | exact ⟨⟨hC, RS.refl _⟩, rfl⟩ | exact rfl); simp only [List.nil_append, List.cons_append])
  apply tame_v rfl (TwinV r.c.b w2.heap.size) (fun v V V' _ hE h => h.ext hE)
  · intro ρ V hC hr hD
    obtain ⟨hrc, hrg, hrf, hrs⟩ := hr
    simp [go_sem] at hD
    have HC := Lib.hid hC
    go_simp
    refine (twin_any r.c.b _ _ V (HD.out.ext (E2.out.trans HC.out)) (HW.out.ext (E2.out.trans HC.out)) HLD.out HLW.out).mono ?_
    rintro e w' ⟨⟨v, rfl, hv⟩, hE⟩
    obtain ⟨dv, wv, h1, h2, h3⟩ := hv
    exact ⟨_, rfl, ⟨HC.out.trans hE, hE⟩, ⟨dv, wv, h1, h2.mono HC.out.size, h3.mono HC.out.size⟩⟩
  simp only [List.nil_append, List.cons_append]
  repeat (apply tame_q rfl; (intro ρ W hC hr hD; (obtain ⟨hrc, hrg, hrf, hrs⟩ := hr); (simp [go_sem] at hD); go_simp; first | exact ⟨⟨hC, Ext.refl _⟩, rfl⟩ | exact ⟨⟨hC, RS.refl _⟩, rfl⟩ | exact rfl); simp only [List.nil_append, List.cons_append])
  apply tame_v rfl (TwinR r.c w2.heap.size) (fun v V V' _ hE h => by obtain ⟨r', h1, h2, h3⟩ := h; exact ⟨r', h1, h2, h3.ext hE⟩)
  · intro ρ V hC hr hD
    obtain ⟨hrc, hrg, hrf, hrs⟩ := hr
    simp [go_sem] at hD
    obtain ⟨⟨dv, wv, d1, d2, d3⟩, d4⟩ := hD
    obtain ⟨Ad, nd, cd, ed, -, -, -⟩ := (show SlD V dv r.c.b.draws from d2.sl (fun _ => rfl)).form
    obtain ⟨Aw, nw, cw, ew, -, -, -⟩ := (show SlW V wv r.c.b.weighs from d3.sl (fun _ => rfl)).form
    subst ed ew
    have H2 := Lib.hid d2; have H3 := Lib.hid d3; have HC := Lib.hid hC
    clear d2 d3
    go_simp
    exact ⟨⟨HC.out, Ext.refl _⟩, ⟨⟨r.c, Ad, nd, cd, Aw, nw, cw⟩, rfl, rfl, H2.out, H3.out⟩⟩
  simp only [List.nil_append, List.cons_append]
  refine tame_end 11 rfl rfl (fun ρ V hC hr hF => ?_)
  obtain ⟨hrc, hrg, hrf, hrs⟩ := hr
  have h10 : TwinR r.c w2.heap.size (ρ (.tmp 10)) V := by
    simp [go_sem] at hF
    exact hF.2.2.2.2.2.2.2
  obtain ⟨r', e10, hrc', ho⟩ := h10
  simp [go_sem] at hF
  apply frame_to
  · go_simp
    exact rfl
  have HO := Lib.hid ho; have HRC := Lib.hid hrc'
  have HE := Lib.hid (E2.out.trans hC)
  have HB := Lib.hid (B1.out.ext hC)
  clear hF hC hrs hrc hrg hrf e10 ho hrc' q0 q1 q2 q3 q4 q5 q6 q7
  have t0 := HB.out.cell 0
  have t1 := HB.out.cell 1
  have t2 := HB.out.cell 2
  have t3 := HB.out.cell 3
  have t4 := HB.out.cell 4
  have t5 := HB.out.cell 5
  have t6 := HB.out.cell 6
  have t7 := HB.out.cell 7
  have tf := HB.out.frozen
  have tl := HB.out.lt
  simp at t0 t1 t2 t3 t4 t5 t6 t7
  go_wp2
  refine ret_set8 HB.out fun W' ⟨b0, b1, b2, b3, b4, b5, b6, b7⟩ hW => ?_
  refine bodyPost_ret (v := valC r') (by simp [results, Tryd.results29, go_sem, b0, b1, b2, b3, b4, b5, b6, b7]) rfl ?_
  exact ⟨⟨_, rfl, r', rfl, HRC.out, ⟨own_mono (own_kept HO.out.1 hW (by have := HZ2.out; omega)) (by have := HZ2.out; omega), own_mono (own_kept HO.out.2 hW (by have := HZ2.out; omega)) (by have := HZ2.out; omega)⟩⟩, ext_grownP HE.out hW (by omega)⟩

/-- A mill's cottons in memory of the call's own. -/
structure TwinL (base : Nat) (cs : List Cot) (v : Value) (L : List Rc) (W : World) : Prop where
  own : Own encC 61 8 W base v L
  lists : ∀ r ∈ L, OwnR base r W
  map : L.map (·.c) = cs
theorem TwinL.mlc {base : Nat} {cs : List Cot} {v : Value} {L : List Rc} {W : World} (h : TwinL base cs v L W) : MlC W v L :=
  ⟨Own.sl (enc := encC) encC_len h.own, fun r hr => ⟨(h.lists r hr).1.sl (fun _ => rfl), (h.lists r hr).2.sl (fun _ => rfl)⟩⟩
theorem TwinL.ext {base : Nat} {cs : List Cot} {v : Value} {L : List Rc} {W W' : World} (h : TwinL base cs v L W) (e : Ext W W') : TwinL base cs v L W' := ⟨h.own.ext e, fun r hr => (h.lists r hr).ext e, h.map⟩
/-- The box of a cotton. -/
def OneT (c : Cot) (bx : Nat) (v : Value) (W : World) : Prop := ∃ b r, v = .slice (some ⟨b, 0, none⟩) 1 1 ∧ Blk W b 61 (encC r).toArray ∧ r.c = c ∧ OwnR bx r W
theorem ret_set3N {P : Program} {fn : Func} {R : Ending → World → Prop} {ex : Exit} {a : Act} {w1 : World} {g : Nat} {t : TypeId} {x0 x1 x2 y0 y1 y2 : Value} (hB : Blk w1 g t #[x0, x1, x2])
    (h : ∀ W, (W.cell? ⟨g, 0, none⟩ = some y0 ∧ W.cell? ⟨g, 1, none⟩ = some y1 ∧ W.cell? ⟨g, 2, none⟩ = some y2) → w1.grownBy W (some g) → bodyPost P fn R ex a W) :
    bodyPost P fn R ex a (((w1.setCell ⟨g, 0, none⟩ y0).setCell ⟨g, 1, none⟩ y1).setCell ⟨g, 2, none⟩ y2) := by
  have K := ((hB.set_ 0 y0).set_ 1 y1).set_ 2 y2
  exact h _ ⟨K.cell 0, K.cell 1, K.cell 2⟩ (grown_set (grown_set (grown_set (World.grownBy.refl _ _) (p := ⟨g, 0, none⟩) (.inl rfl) y0) (p := ⟨g, 1, none⟩) (.inl rfl) y1) (p := ⟨g, 2, none⟩) (.inl rfl) y2)
set_option maxHeartbeats 4000000 in
theorem twinM_any (lots size : Int) (l : List Rc) (sv : Value) (w : World) (hs : MlC w sv l) (hg : greatM l = false) :
    Calls Tryd.prog 8 #[valM lots size sv] w fun e w' => (∃ v L, e = .returned (valM lots size v) ∧ TwinL w.heap.size (l.map (·.c)) v L w') ∧ Ext w w' := by
  have HS := Lib.hid hs
  obtain ⟨A, n, c, rfl, hn, hlc, hcm⟩ := hs.1.form
  have HL := Lib.hid (show l.length = n from hn.out.symm)
  have hgb : n ≤ 14 ∧ ∀ r ∈ l, greatB r.c.b = false := by
    unfold greatM at hg
    rw [Bool.or_eq_false_iff] at hg
    obtain ⟨h1, h2⟩ := hg
    have h3 := of_decide_eq_false h1
    refine ⟨by have := hn.out; omega, fun r hr => ?_⟩
    have h4 := List.any_eq_false.1 h2 r hr
    simpa using h4
  have HGB := Lib.hid hgb.2
  have hn14 := hgb.1
  clear hs hn hg hgb
  go_enter Tryd.func8, Tryd.ntmps8
  go_wp2
  obtain ⟨w4, hw4⟩ : ∃ w4, w4 = (((w.alloc (.cells #[.int .i64 lots, .int .i64 size, .slice A n c] 24)).alloc (.cells #[.int .i64 0, .int .i64 0, .slice none 0 0] 24)).alloc (.cells #[.int .i64 lots, .int .i64 size, .slice none 0 0] 24)) := ⟨_, rfl⟩
  rw [← hw4]
  have B1 := Lib.hid (show Blk w4 (w.heap.size + 1) 24 #[.int .i64 0, .int .i64 0, .slice none 0 0] from hw4 ▸ (Blk.at_ (by simp)).alloc _)
  have B2 := Lib.hid (show Blk w4 (w.heap.size + 1 + 1) 24 #[.int .i64 lots, .int .i64 size, .slice none 0 0] from hw4 ▸ Blk.at_ (by simp))
  have E4 := Lib.hid (show Ext w w4 from hw4 ▸ ((Ext.al _ _).alloc _).alloc _)
  have HZ4 := Lib.hid (show w4.heap.size = w.heap.size + 3 by rw [hw4]; simp)
  clear hw4
  go_loopg [14] n (fun gg s14 wr => ∃ (k : Nat) (L : List Rc) (a : Option Addr) (n0 c0 : Nat), s14 = .int .i64 (k : Int) ∧ k ≤ n ∧ n - k ≤ gg ∧ L.length = k ∧ Aside (Blk wr (w.heap.size + 1) 24 #[.int .i64 0, .int .i64 0, .slice none 0 0]) ∧ Aside (Blk wr (w.heap.size + 1 + 1) 24 #[.int .i64 lots, .int .i64 size, .slice a n0 c0]) ∧ Aside (TwinL (w.heap.size + 3) ((l.take k).map (·.c)) (.slice a n0 c0) L wr) ∧ Aside (Ext w wr) ∧ w.heap.size + 3 ≤ wr.heap.size)
  case atStart => exact ⟨0, [], none, 0, 0, by simp, by omega, by omega, rfl, B1.out, B2.out, ⟨Own.nil _ _, fun r hr => by simp at hr, by simp⟩, E4.out, by have := HZ4.out; omega⟩
  case round =>
    obtain ⟨k, L, a, n0, c0', rfl, hk, hgg, hLk, K1, K2, KT, KE, hzr⟩ := hrel
    clear B1 B2 E4
    by_cases hlt : k < n
    · have hltz : (k : Int) < (n : Int) := by omega
      obtain ⟨b, off, x, rfl, hx, hb, hcell⟩ := HS.out.1.at_ hlt
      obtain ⟨c0, c1, c2, c3, c4, c5, c6, c7⟩ := SlC.cells hcell KE.out
      have HX := Lib.hid (HS.out.2 x (List.mem_of_getElem? hx))
      have HGX := Lib.hid (HGB.out x (List.mem_of_getElem? hx))
      have HTK := Lib.hid (show (l.take (k + 1)).map (·.c) = (l.take k).map (·.c) ++ [x.c] by rw [List.take_add_one, hx, List.map_append]; rfl)
      clear hcell hx
      go_wp2_with fail
      obtain ⟨w5, hw5⟩ : ∃ w5, w5 = wr.alloc (.cells #[.int .i64 x.c.b.id, .int .i64 x.c.b.layers, .int .i64 x.c.b.dry.lo, .int .i64 x.c.b.dry.hi, .slice x.da x.dn x.dc, .slice x.wa x.wn x.wc, .int .i64 x.c.len, .int .i64 x.c.str] 61) := ⟨_, rfl⟩
      rw [← hw5]
      have E5 := Lib.hid (show Ext wr w5 from hw5 ▸ Ext.al _ _)
      have HB5 := Lib.hid (show Blk w5 wr.heap.size 61 #[.int .i64 x.c.b.id, .int .i64 x.c.b.layers, .int .i64 x.c.b.dry.lo, .int .i64 x.c.b.dry.hi, .slice x.da x.dn x.dc, .slice x.wa x.wn x.wc, .int .i64 x.c.len, .int .i64 x.c.str] from hw5 ▸ Blk.new _ _ _)
      have HZ5 := Lib.hid (show w5.heap.size = wr.heap.size + 1 by rw [hw5]; simp)
      clear hw5 c0 c1 c2 c3 c4 c5 c6 c7
      have KT5 := Lib.hid (KT.out.ext E5.out)
      have q0 := fun V (h : Ext w5 V) => ((K2.out.ext E5.out).ext h).c3.2.2.1
      have p0 := fun V (h : Ext w5 V) => (show V.cell? ⟨wr.heap.size, 0, none⟩ = some (.int .i64 x.c.b.id) from (HB5.out.ext h).cell 0)
      have p1 := fun V (h : Ext w5 V) => (show V.cell? ⟨wr.heap.size, 1, none⟩ = some (.int .i64 x.c.b.layers) from (HB5.out.ext h).cell 1)
      have p2 := fun V (h : Ext w5 V) => (show V.cell? ⟨wr.heap.size, 2, none⟩ = some (.int .i64 x.c.b.dry.lo) from (HB5.out.ext h).cell 2)
      have p3 := fun V (h : Ext w5 V) => (show V.cell? ⟨wr.heap.size, 3, none⟩ = some (.int .i64 x.c.b.dry.hi) from (HB5.out.ext h).cell 3)
      have p4 := fun V (h : Ext w5 V) => (show V.cell? ⟨wr.heap.size, 4, none⟩ = some (.slice x.da x.dn x.dc) from (HB5.out.ext h).cell 4)
      have p5 := fun V (h : Ext w5 V) => (show V.cell? ⟨wr.heap.size, 5, none⟩ = some (.slice x.wa x.wn x.wc) from (HB5.out.ext h).cell 5)
      have p6 := fun V (h : Ext w5 V) => (show V.cell? ⟨wr.heap.size, 6, none⟩ = some (.int .i64 x.c.len) from (HB5.out.ext h).cell 6)
      have p7 := fun V (h : Ext w5 V) => (show V.cell? ⟨wr.heap.size, 7, none⟩ = some (.int .i64 x.c.str) from (HB5.out.ext h).cell 7)
      have hgr : x.c.b.draws.length ≤ 1000 ∧ x.c.b.weighs.length ≤ 1000 := by
        have h := HGX.out
        unfold greatB at h
        rw [Bool.or_eq_false_iff] at h
        have h1 := of_decide_eq_false h.1
        have h2 := of_decide_eq_false h.2
        omega
      have HGR := Lib.hid hgr
      clear hgr
      refine wp_region_tame_cutk (fun V => Ext w5 V) (fun V V' => Ext V V') (by kernel_rfl) 27 rfl 5 (by decide +kernel) (by decide +kernel) (by decide +kernel) (Ext.refl _).drew ?_
      simp only [List.take, List.drop]
      repeat (apply tame_q rfl; (intro ρ W hC hr hD; (obtain ⟨hrc, hrg, hrf, hrs⟩ := hr); (simp [go_sem] at hD); go_simp; first | exact ⟨⟨hC, Ext.refl _⟩, rfl⟩ | exact ⟨⟨hC, RS.refl _⟩, rfl⟩ | exact rfl); simp only [List.nil_append, List.cons_append])
      apply tame_v rfl (TwinR x.c w5.heap.size) (fun v V V' _ hE h => by obtain ⟨r', h1, h2, h3⟩ := h; exact ⟨r', h1, h2, h3.ext hE⟩)
      · intro ρ V hC hr hD
        obtain ⟨hrc, hrg, hrf, hrs⟩ := hr
        simp [go_sem] at hD
        have HC := Lib.hid hC
        go_simp
        refine (twinCotton_any x V (HX.out.1.ext (KE.out.trans (E5.out.trans HC.out))) (HX.out.2.ext (KE.out.trans (E5.out.trans HC.out))) HGR.out.1 HGR.out.2).mono ?_
        rintro e w' ⟨⟨v, rfl, r', h1, h2, h3⟩, hE⟩
        exact ⟨_, rfl, ⟨HC.out.trans hE, hE⟩, ⟨r', h1, h2, h3.mono HC.out.size⟩⟩
      simp only [List.nil_append, List.cons_append]
      apply tame_v rfl (OneT x.c w5.heap.size) (fun v V V' _ hE h => by obtain ⟨b', r', h1, h2, h3, h4⟩ := h; exact ⟨b', r', h1, h2.ext hE, h3, h4.ext hE⟩)
      · intro ρ V hC hr hD
        obtain ⟨hrc, hrg, hrf, hrs⟩ := hr
        simp [go_sem] at hD
        have hD' : TwinR x.c w5.heap.size (ρ (.tmp 21)) V := by first | exact hD | exact hD.1
        obtain ⟨r', d1, d2, d3⟩ := hD'
        have H3 := Lib.hid d3; have HC := Lib.hid hC; have HR := Lib.hid d2
        clear d2 d3 hD
        go_simp
        exact ⟨⟨HC.out.alloc _, Ext.al _ _⟩, ⟨V.heap.size, r', rfl, Blk.new _ _ _, HR.out, H3.out.ext (Ext.al _ _)⟩⟩
      simp only [List.nil_append, List.cons_append]
      refine tame_end 27 rfl rfl (fun ρ V hC hr hF => ?_)
      obtain ⟨hrc, hrg, hrf, hrs⟩ := hr
      simp [go_sem] at hF
      obtain ⟨f18, f19, f20, -, ⟨b', r', f22, hB', hr', ho'⟩⟩ := hF
      apply frame_to
      · go_simp
        exact rfl
      have HC := Lib.hid hC; have HBB := Lib.hid hB'; have HRC := Lib.hid hr'; have HOR := Lib.hid ho'
      clear f18 f19 f20 f22 hB' hr' ho' hC hrs hrc hrg hrf q0 p0 p1 p2 p3 p4 p5 p6 p7
      have HTV := Lib.hid (KT5.out.ext HC.out)
      have HK2 := Lib.hid ((K2.out.ext E5.out).ext HC.out)
      have HK1 := Lib.hid ((K1.out.ext E5.out).ext HC.out)
      have HEV := Lib.hid ((KE.out.trans E5.out).trans HC.out)
      have hzv : w.heap.size + 3 ≤ V.heap.size := by have h1 := HZ5.out; have h2 := HC.out.size; omega
      have hll : L.length < 100000000000 := by omega
      go_wp2_with (at_builtin; refine wpList_app encC 22 61 8 _ 96 Tryd.underlying22 info61x rfl (by decide) (by decide) encC_len encC_one rfl (.tmp 19) (.tmp 22) rfl (w.heap.size + 3) _ L rfl HTV.out.own b' 1 r' rfl (fun j u hu => by rw [HBB.out.cell j]; simpa using hu) hll hzv ?_)
      intro g cap w' hown hg2 hbel hgr
      have HOF := Lib.hid (OffX.grown (enc := encC) (sz := 8) HTV.out.own hgr)
      have HBE := Lib.hid hbel
      have HOW := Lib.hid hown
      have HB2 := Lib.hid (HK2.out.below hbel (by omega))
      have HB1 := Lib.hid (HK1.out.below hbel (by omega))
      clear hown hbel hgr
      obtain ⟨t0, t1, t2, tf, tl⟩ := HB2.out.c3
      have hzw : w.heap.size + 3 ≤ w'.heap.size := Nat.le_trans hzv HBE.out.size
      go_wp2
      go_roundg (n - (k + 1))
      case measure => omega
      case rel => exact ⟨k + 1, L ++ [r'], some ⟨g, 0, none⟩, k + 1, cap, by simp, by omega, by omega, by rw [List.length_append, hLk]; rfl, HB1.out.far (by dsimp only; omega) _, by show Blk _ _ _ _; first | simpa [hLk] using HB2.out.set_ 2 (.slice (some ⟨g, 0, none⟩) (k + 1) cap) | simpa using HB2.out.set_ 2 (.slice (some ⟨g, 0, none⟩) (L.length + 1) cap),
        ⟨by have h9 := HOW.out.far (a := ⟨w.heap.size + 1 + 1, 2, none⟩) (by dsimp only; omega) (.slice (some ⟨g, 0, none⟩) (k + 1) cap); simpa [hLk] using h9, fun r hr => by
          have hR : OwnR (w.heap.size + 3) r w' := by
            rcases List.mem_append.1 hr with hr | hr
            · exact (HTV.out.lists r hr).off HOF.out
            · simp at hr
              subst hr
              exact ((HOR.out.mono (by have h1 := HZ5.out; omega)).off HOF.out)
          exact ⟨hR.1.far (by dsimp only; omega) _, hR.2.far (by dsimp only; omega) _⟩, by rw [HTK.out, List.map_append, HTV.out.map]; simp [HRC.out]⟩,
        (Below.trans HEV.out (HBE.out.mono (by omega))).setCell (by dsimp only; omega) _, by simpa [World.setCell] using hzw⟩
    · have hke : k = n := by omega
      subst hke
      have HTF := Lib.hid (show TwinL w.heap.size (l.map (·.c)) (.slice a n0 c0') L wr from ⟨KT.out.own.mono (by omega), fun r hr => (KT.out.lists r hr).mono (by omega), by rw [KT.out.map, List.take_of_length_le (by have := HL.out; omega)]⟩)
      obtain ⟨t0, t1, t2, tf, tl⟩ := K2.out.c3
      obtain ⟨z0, z1, z2, zf, zl⟩ := K1.out.c3
      have KT2 := Lib.hid KT.out
      go_wp2
      refine ret_set3N K1.out fun W' ⟨b0, b1, b2⟩ hW => ?_
      refine bodyPost_ret (v := valM lots size (.slice a n0 c0')) (by simp [results, Tryd.results8, go_sem, b0, b1, b2]) rfl ?_
      exact ⟨⟨_, L, rfl, ⟨own_mono (own_kept KT2.out.own hW (by omega)) (by omega), fun r hr => ⟨own_mono (own_kept (KT2.out.lists r hr).1 hW (by omega)) (by omega), own_mono (own_kept (KT2.out.lists r hr).2 hW (by omega)) (by omega)⟩, HTF.out.map⟩⟩, ext_grownP KE.out hW (by omega)⟩
end Go.Proofs.YtkpengeaolcjhaaDoor
/- The law MillTells: the walk. -/
namespace Go.Proofs.YtkpengeaolcjhaaDoor
open Go.RowKit Go.Shelf Go.Lib
set_option maxRecDepth 100000
set_option linter.unusedSimpArgs false

/-- What stands still while a law of the mill runs. -/
structure MsT (lots size : Int) (l L : List Rc) (w : World) (q : Nat) (A A2 : Option Addr) (n n2 c c2 : Nat) (W : World) : Prop where
  e : Ext w W
  p : Blk W w.heap.size 24 #[.int .i64 lots, .int .i64 size, .slice A n c]
  q : Blk W q 24 #[.int .i64 lots, .int .i64 size, .slice A2 n2 c2]
  t : TabM W
  a : MlC W (.slice A n c) l
  b : MlC W (.slice A2 n2 c2) L
theorem MsT.ext {lots size : Int} {l L : List Rc} {w : World} {q : Nat} {A A2 : Option Addr} {n n2 c c2 : Nat} {W W' : World} (h : MsT lots size l L w q A A2 n n2 c c2 W) (e : Ext W W') : MsT lots size l L w q A A2 n n2 c c2 W' :=
  ⟨h.e.trans e, h.p.ext e, h.q.ext e, h.t.ext e, h.a.ext e, h.b.ext e⟩
theorem greatM_len {l : List Rc} (h : greatM l = false) : l.length ≤ 14 := by
  unfold greatM at h; simp at h; omega
theorem mOf_map {lots size : Int} {l L : List Rc} (h : L.map (·.c) = l.map (·.c)) : mOf lots size L = mOf lots size l := by simp [mOf, h]
set_option maxHeartbeats 4000000 in
theorem millTells_any (lots size : Int) (l : List Rc) (sv : Value) (w : World) (hT : TabM w) (hs : MlC w sv l) :
    Calls Tryd.prog 3 #[valM lots size sv] w fun e w' => e = .returned (.bool true) ∧ Ext w w' := by
  have HT := Lib.hid hT; have HS := Lib.hid hs
  obtain ⟨A, n, c, rfl, hn, hlc, hcm⟩ := hs.1.form
  clear hs hT hn hlc hcm
  go_enter Tryd.func3, Tryd.ntmps3
  dsimp only [valM]
  go_wp2_with fail
  generalize hw0 : (w.alloc (.cells #[.int .i64 lots, .int .i64 size, .slice A n c] 24)) = w0
  have HE0 := Lib.hid (show Ext w w0 from hw0 ▸ Ext.al _ _)
  have HB0 := Lib.hid (show Blk w0 w.heap.size 24 #[.int .i64 lots, .int .i64 size, .slice A n c] from hw0 ▸ Blk.new _ _ _)
  clear hw0
  refine (greatM_any lots size l _ _ (HS.out.ext HE0.out)).mono ?_
  rintro e w1 ⟨rfl, hE⟩
  have HE1 := Lib.hid (HE0.out.trans hE)
  have HB1 := Lib.hid (HB0.out.ext hE)
  clear hE HB0
  cases hg : greatM l with
  | true =>
    go_wp2
    go_ret
    exact ⟨rfl, HE1.out⟩
  | false =>
    have HLE := Lib.hid (greatM_len hg)
    have HG := Lib.hid hg; clear hg
    have x0 := HB1.out.c3
    go_wp2_with fail
    clear x0
    refine (twinM_any lots size l _ _ (HS.out.ext HE1.out) HG.out).mono ?_
    rintro e w2 ⟨⟨v, L, rfl, tv⟩, hE2⟩
    have HMC := Lib.hid tv.mlc; have HMP := Lib.hid tv.map
    obtain ⟨A2, n2, c2, rfl, -, -, -⟩ := tv.mlc.1.form
    have HE2 := Lib.hid (HE1.out.trans hE2)
    have HBx := Lib.hid (HB1.out.ext hE2)
    clear tv hE2 HB1 HE0 HE1
    dsimp only [valM]
    go_wp2_with fail
    have S := Lib.hid (show MsT lots size l L w w2.heap.size A A2 n n2 c c2 (w2.alloc (.cells #[.int .i64 lots, .int .i64 size, .slice A2 n2 c2] 24)) from
      ⟨HE2.out.alloc _, HBx.out.alloc _, Blk.new _ _ _, (HT.out.ext HE2.out).ext (Ext.al _ _), (HS.out.ext HE2.out).ext (Ext.al _ _), HMC.out.ext (Ext.al _ _)⟩)
    have HLL := Lib.hid (show L.length ≤ 1000 by have := congrArg List.length HMP.out; simp at this; have := HLE.out; omega)
    have HLl := Lib.hid (show l.length ≤ 1000 by have := HLE.out; omega)
    have HM := Lib.hid (mOf_map (lots := lots) (size := size) HMP.out)
    clear HT HS HMC HBx HE2
    refine (fitM_any lots size L _ _ S.out.t S.out.b HLL.out).mono ?_
    rintro e w3 ⟨⟨v1, rfl, hv1⟩, hE⟩
    rw [HM.out] at hv1 ⊢
    have L1 := Lib.hid hv1; replace S := Lib.hid (S.out.ext hE)
    clear hv1 hE
    have x0 := S.out.p.c3
    go_wp2_with fail
    clear x0
    refine (refFit_any lots size l _ _ S.out.a HLl.out).mono ?_
    rintro e w4 ⟨⟨v2, rfl, hv2⟩, hE⟩
    have L2 := Lib.hid hv2; replace L1 := Lib.hid (L1.out.ext hE); replace S := Lib.hid (S.out.ext hE)
    clear hv2 hE
    have x0 := S.out.q.c3
    go_wp2_with fail
    clear x0
    refine (bestM_any lots size L _ _ S.out.t S.out.b HLL.out).mono ?_
    rintro e w5 ⟨⟨v3, rfl, hv3⟩, hE⟩
    rw [HM.out] at hv3 ⊢
    have L3 := Lib.hid hv3; replace L1 := Lib.hid (L1.out.ext hE); replace L2 := Lib.hid (L2.out.ext hE); replace S := Lib.hid (S.out.ext hE)
    clear hv3 hE
    have x0 := S.out.p.c3
    go_wp2_with fail
    clear x0
    refine (refBestM_any lots size l _ _ S.out.a).mono ?_
    rintro e w6 ⟨⟨v4, rfl, hv4⟩, hE⟩
    have L4 := Lib.hid hv4; replace L1 := Lib.hid (L1.out.ext hE); replace L2 := Lib.hid (L2.out.ext hE); replace L3 := Lib.hid (L3.out.ext hE); replace S := Lib.hid (S.out.ext hE)
    clear hv4 hE
    have x0 := S.out.q.c3
    go_wp2_with fail
    clear x0
    refine (evenM_any lots size L _ _ S.out.t S.out.b HLL.out).mono ?_
    rintro e w7 ⟨rfl, hE⟩
    rw [HM.out]
    replace L1 := Lib.hid (L1.out.ext hE); replace L2 := Lib.hid (L2.out.ext hE); replace L3 := Lib.hid (L3.out.ext hE); replace L4 := Lib.hid (L4.out.ext hE); replace S := Lib.hid (S.out.ext hE)
    clear hE
    have x0 := S.out.p.c3
    go_wp2_with fail
    clear x0
    refine (refEvenM_any lots size l _ _ S.out.a).mono ?_
    rintro e w8 ⟨rfl, hE⟩
    replace L1 := Lib.hid (L1.out.ext hE); replace L2 := Lib.hid (L2.out.ext hE); replace L3 := Lib.hid (L3.out.ext hE); replace L4 := Lib.hid (L4.out.ext hE); replace S := Lib.hid (S.out.ext hE)
    clear hE
    have m0 := fun W (h : Ext w8 W) => (S.out.ext h).p.c3
    have m1 := fun W (h : Ext w8 W) => (S.out.ext h).q.c3
    have ck : ∀ W, Ext w8 W → Calls Tryd.prog 15 #[valM lots size (.slice A2 n2 c2)] W fun e w' => e = .returned (.int .i64 (errB (checkM (mOf lots size l)) 90)) ∧ Ext W w' :=
      fun W h => HM.out ▸ checkM_any lots size L _ W (S.out.ext h).t (S.out.ext h).b HLL.out
    go_wp2
    refine wp_region_tame (fun W => Ext w8 W) (fun W W' => Ext W W') (by kernel_rfl) 99 rfl (by decide +kernel) (Ext.refl _).drew ?_
    repeat (apply tame_q rfl; (intro ρ W hC hr hD; (obtain ⟨hrc, hrg, hrf, hrs⟩ := hr); (simp [go_sem] at hD); go_simp; first | exact ⟨⟨hC, Ext.refl _⟩, rfl⟩ | exact ⟨⟨hC, RS.refl _⟩, rfl⟩ | exact rfl); simp only [List.nil_append, List.cons_append])
    apply tame_q rfl
    · intro ρ W hC hr hD
      obtain ⟨hrc, hrg, hrf, hrs⟩ := hr
      simp [go_sem] at hD
      go_simp
      refine (ck W hC).mono ?_
      rintro e w' ⟨rfl, hE⟩
      exact ⟨_, rfl, ⟨hC.trans hE, hE⟩, rfl⟩
    simp only [List.nil_append, List.cons_append]
    repeat (apply tame_q rfl; (intro ρ W hC hr hD; (obtain ⟨hrc, hrg, hrf, hrs⟩ := hr); (simp [go_sem] at hD); go_simp; first | exact ⟨⟨hC, Ext.refl _⟩, rfl⟩ | exact ⟨⟨hC, RS.refl _⟩, rfl⟩ | exact rfl); simp only [List.nil_append, List.cons_append])
    apply tame_q rfl
    · intro ρ W hC hr hD
      obtain ⟨hrc, hrg, hrf, hrs⟩ := hr
      simp [go_sem] at hD
      go_simp
      refine (refCheckM_any lots size l _ W (S.out.ext hC).a).mono ?_
      rintro e w' ⟨rfl, hE⟩
      exact ⟨_, rfl, ⟨hC.trans hE, hE⟩, rfl⟩
    simp only [List.nil_append, List.cons_append]
    repeat (apply tame_q rfl; (intro ρ W hC hr hD; (obtain ⟨hrc, hrg, hrf, hrs⟩ := hr); (simp [go_sem] at hD); go_simp; first | exact ⟨⟨hC, Ext.refl _⟩, rfl⟩ | exact ⟨⟨hC, RS.refl _⟩, rfl⟩ | exact rfl); simp only [List.nil_append, List.cons_append])
    apply tame_q rfl
    · intro ρ W hC hr hD
      obtain ⟨hrc, hrg, hrf, hrs⟩ := hr
      simp [go_sem] at hD
      go_simp
      refine (sameIntsM_any (fitR (mOf lots size l)) _ _ W (L1.out.ext hC) (L2.out.ext hC)).mono ?_
      rintro e w' ⟨rfl, hE⟩
      exact ⟨_, rfl, ⟨hC.trans hE, hE⟩, rfl⟩
    simp only [List.nil_append, List.cons_append]
    repeat (apply tame_q rfl; (intro ρ W hC hr hD; (obtain ⟨hrc, hrg, hrf, hrs⟩ := hr); (simp [go_sem] at hD); go_simp; first | exact ⟨⟨hC, Ext.refl _⟩, rfl⟩ | exact ⟨⟨hC, RS.refl _⟩, rfl⟩ | exact rfl); simp only [List.nil_append, List.cons_append])
    apply tame_q rfl
    · intro ρ W hC hr hD
      obtain ⟨hrc, hrg, hrf, hrs⟩ := hr
      simp [go_sem] at hD
      go_simp
      refine (sameIntsM_any (bestL (mOf lots size l)) _ _ W (L3.out.ext hC) (L4.out.ext hC)).mono ?_
      rintro e w' ⟨rfl, hE⟩
      exact ⟨_, rfl, ⟨hC.trans hE, hE⟩, rfl⟩
    simp only [List.nil_append, List.cons_append]
    repeat (apply tame_q rfl; (intro ρ W hC hr hD; (obtain ⟨hrc, hrg, hrf, hrs⟩ := hr); (simp [go_sem] at hD); go_simp; first | exact ⟨⟨hC, Ext.refl _⟩, rfl⟩ | exact ⟨⟨hC, RS.refl _⟩, rfl⟩ | exact rfl); simp only [List.nil_append, List.cons_append])
    apply tame_q rfl
    · intro ρ W hC hr hD
      obtain ⟨hrc, hrg, hrf, hrs⟩ := hr
      simp [go_sem] at hD
      go_simp
      refine (sameM_any lots size L l _ _ W HMP.out (S.out.ext hC).b (S.out.ext hC).a).mono ?_
      rintro e w' ⟨rfl, hE⟩
      exact ⟨_, rfl, ⟨hC.trans hE, hE⟩, rfl⟩
    simp only [List.nil_append, List.cons_append]
    repeat (apply tame_q rfl; (intro ρ W hC hr hD; (obtain ⟨hrc, hrg, hrf, hrs⟩ := hr); (simp [go_sem] at hD); go_simp; first | exact ⟨⟨hC, Ext.refl _⟩, rfl⟩ | exact ⟨⟨hC, RS.refl _⟩, rfl⟩ | exact rfl); simp only [List.nil_append, List.cons_append])
    refine tame_end_put rfl rfl (fun ρ W hC hr hF => ?_)
    simp [go_sem] at hF
    simp only [putF, hF, List.set_cons_succ, List.set_cons_zero]
    clear hF hr
    have EW := Lib.hid (S.out.ext hC)
    clear hC m0 m1 ck
    go_wp2
    go_ret
    exact ⟨rfl, EW.out.e⟩
end Go.Proofs.YtkpengeaolcjhaaDoor
