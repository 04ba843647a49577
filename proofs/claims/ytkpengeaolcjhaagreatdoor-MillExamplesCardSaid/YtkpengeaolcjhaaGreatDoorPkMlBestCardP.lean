/- The reference's TwinCotton, Twin: a mill in new memory. -/
import Derived.Test.YtkpengeaolcjhaaGreatDoorPkMlBestCardO
import Derived.Maps.AppendAt
import Derived.Test.YtkpengeaolcjhaaGreatDoorPkMlBestCardN
import Derived.Test.YtkpengeaolcjhaaGreatDoorPkMlBestCardE
namespace Go.Proofs.YtkpengeaolcjhaaGreatDoor
open Go.RowKit Go.Shelf Go.Lib
set_option maxRecDepth 100000
set_option linter.unusedSimpArgs false

theorem info63x : (Tryz.prog.info? 63).map (fun i => (i.zero, i.size, i.bytes)) = some (some (.agg #[.int .i64 0, .int .i64 0, .int .i64 0, .int .i64 0, .slice none 0 0, .slice none 0 0, .int .i64 0, .int .i64 0]), 8, 96) := by kernel_rfl
theorem encC_len (r : Rc) : (encC r).length = 8 := rfl
theorem encC_one (r : Rc) : ∀ u ∈ encC r, u.oneCell' = true := by
  intro u hu
  simp at hu
  rcases hu with rfl | rfl | rfl | rfl | rfl | rfl | rfl | rfl <;> rfl
/-- A cotton whose lists are the call's own. -/
def OwnR (base : Nat) (r : Rc) (W : World) : Prop := Own encD 134 4 W base (.slice r.da r.dn r.dc) r.c.b.draws ∧ Own encW 186 4 W base (.slice r.wa r.wn r.wc) r.c.b.weighs
theorem OwnR.ext {base : Nat} {r : Rc} {W W' : World} (h : OwnR base r W) (e : Ext W W') : OwnR base r W' := ⟨h.1.ext e, h.2.ext e⟩
theorem OwnR.off {base : Nat} {r : Rc} {W W' : World} (h : OwnR base r W) (k : OffX 63 W W') : OwnR base r W' := ⟨h.1.offX k (by decide), h.2.offX k (by decide)⟩
theorem OwnR.mono {base base' : Nat} {r : Rc} {W : World} (h : OwnR base r W) (hb : base' ≤ base) : OwnR base' r W := ⟨h.1.mono hb, h.2.mono hb⟩
/-- A cotton's value with the data of another one, in new memory. -/
def TwinR (c : Cot) (base : Nat) (v : Value) (W : World) : Prop := ∃ r : Rc, v = valC r ∧ r.c = c ∧ OwnR base r W
set_option maxHeartbeats 2000000 in
theorem twinCotton_any (r : Rc) (w : World) (hd : SlD w (.slice r.da r.dn r.dc) r.c.b.draws) (hw : SlW w (.slice r.wa r.wn r.wc) r.c.b.weighs) (hld : r.c.b.draws.length ≤ 1000) (hlw : r.c.b.weighs.length ≤ 1000) :
    Calls Tryz.prog 50 #[valC r] w fun e w' => (∃ v, e = .returned v ∧ TwinR r.c w.heap.size v w') ∧ Ext w w' := by
  have HD := Lib.hid hd; have HW := Lib.hid hw; have HLD := Lib.hid hld; have HLW := Lib.hid hlw
  clear hd hw hld hlw
  go_enter Tryz.func50, Tryz.ntmps50
  go_wp2
  obtain ⟨w2, hw2⟩ : ∃ w2, w2 = (w.alloc (.cells #[.int .i64 r.c.b.id, .int .i64 r.c.b.layers, .int .i64 r.c.b.dry.lo, .int .i64 r.c.b.dry.hi, .slice r.da r.dn r.dc, .slice r.wa r.wn r.wc, .int .i64 r.c.len, .int .i64 r.c.str] 63)).alloc (.cells #[.int .i64 0, .int .i64 0, .int .i64 0, .int .i64 0, .slice none 0 0, .slice none 0 0, .int .i64 0, .int .i64 0] 63) := ⟨_, rfl⟩
  rw [← hw2]
  have B0 := Lib.hid (show Blk w2 w.heap.size 63 #[.int .i64 r.c.b.id, .int .i64 r.c.b.layers, .int .i64 r.c.b.dry.lo, .int .i64 r.c.b.dry.hi, .slice r.da r.dn r.dc, .slice r.wa r.wn r.wc, .int .i64 r.c.len, .int .i64 r.c.str] from hw2 ▸ (Blk.new _ _ _).alloc _)
  have B1 := Lib.hid (show Blk w2 (w.heap.size + 1) 63 #[.int .i64 0, .int .i64 0, .int .i64 0, .int .i64 0, .slice none 0 0, .slice none 0 0, .int .i64 0, .int .i64 0] from hw2 ▸ Blk.at_ (by simp))
  have E2 := Lib.hid (show Ext w w2 from hw2 ▸ (Ext.al _ _).alloc _)
  have HZ2 := Lib.hid (show w2.heap.size = w.heap.size + 2 by rw [hw2]; simp)
  clear hw2
  have q0 := fun V (h : Ext w2 V) => (show V.cell? ⟨w.heap.size, 0, none⟩ = some (.int .i64 r.c.b.id) from (B0.out.ext h).cell 0)
  have q1 := fun V (h : Ext w2 V) => (show V.cell? ⟨w.heap.size, 1, none⟩ = some (.int .i64 r.c.b.layers) from (B0.out.ext h).cell 1)
  have q2 := fun V (h : Ext w2 V) => (show V.cell? ⟨w.heap.size, 2, none⟩ = some (.int .i64 r.c.b.dry.lo) from (B0.out.ext h).cell 2)
  have q3 := fun V (h : Ext w2 V) => (show V.cell? ⟨w.heap.size, 3, none⟩ = some (.int .i64 r.c.b.dry.hi) from (B0.out.ext h).cell 3)
  have q4 := fun V (h : Ext w2 V) => (show V.cell? ⟨w.heap.size, 4, none⟩ = some (.slice r.da r.dn r.dc) from (B0.out.ext h).cell 4)
  have q5 := fun V (h : Ext w2 V) => (show V.cell? ⟨w.heap.size, 5, none⟩ = some (.slice r.wa r.wn r.wc) from (B0.out.ext h).cell 5)
  have q6 := fun V (h : Ext w2 V) => (show V.cell? ⟨w.heap.size, 6, none⟩ = some (.int .i64 r.c.len) from (B0.out.ext h).cell 6)
  have q7 := fun V (h : Ext w2 V) => (show V.cell? ⟨w.heap.size, 7, none⟩ = some (.int .i64 r.c.str) from (B0.out.ext h).cell 7)
  refine wp_region_tame_cut (fun W => Ext w2 W) (fun W W' => Ext W W') (by kernel_rfl) 11 rfl _ rfl (by decide +kernel) (by decide +kernel) (by decide +kernel) rfl (Ext.refl _).drew ?_
  simp only [List.dropLast]
  repeat (apply tame_q rfl; (intro ρ W hC hr hD; (obtain ⟨hrc, hrg, hrf, hrs⟩ := hr); (simp [go_sem] at hD); go_simp; first | exact ⟨⟨hC, Ext.refl _⟩, rfl⟩ | exact ⟨⟨hC, RS.refl _⟩, rfl⟩ | exact rfl); simp only [List.nil_append, List.cons_append])
  apply tame_v rfl (TwinV r.c.b w2.heap.size) (fun v V V' _ hE h => h.ext hE)
  · intro ρ V hC hr hD
    obtain ⟨hrc, hrg, hrf, hrs⟩ := hr
    simp [go_sem] at hD
    have HC := Lib.hid hC
    go_simp
    refine (twin_any r.c.b _ _ V (HD.out.ext (E2.out.trans HC.out)) (HW.out.ext (E2.out.trans HC.out)) HLD.out HLW.out).mono ?_
    rintro e w' ⟨⟨v, rfl, hv⟩, hE⟩
    obtain ⟨dv, wv, h1, h2, h3⟩ := hv
    exact ⟨_, rfl, ⟨HC.out.trans hE, hE⟩, ⟨dv, wv, h1, h2.mono HC.out.size, h3.mono HC.out.size⟩⟩
  simp only [List.nil_append, List.cons_append]
  repeat (apply tame_q rfl; (intro ρ W hC hr hD; (obtain ⟨hrc, hrg, hrf, hrs⟩ := hr); (simp [go_sem] at hD); go_simp; first | exact ⟨⟨hC, Ext.refl _⟩, rfl⟩ | exact ⟨⟨hC, RS.refl _⟩, rfl⟩ | exact rfl); simp only [List.nil_append, List.cons_append])
  apply tame_v rfl (TwinR r.c w2.heap.size) (fun v V V' _ hE h => by obtain ⟨r', h1, h2, h3⟩ := h; exact ⟨r', h1, h2, h3.ext hE⟩)
  · intro ρ V hC hr hD
    obtain ⟨hrc, hrg, hrf, hrs⟩ := hr
    simp [go_sem] at hD
    obtain ⟨⟨dv, wv, d1, d2, d3⟩, d4⟩ := hD
    obtain ⟨Ad, nd, cd, ed, -, -, -⟩ := (show SlD V dv r.c.b.draws from d2.sl (fun _ => rfl)).form
    obtain ⟨Aw, nw, cw, ew, -, -, -⟩ := (show SlW V wv r.c.b.weighs from d3.sl (fun _ => rfl)).form
    subst ed ew
    have H2 := Lib.hid d2; have H3 := Lib.hid d3; have HC := Lib.hid hC
    clear d2 d3
    go_simp
    exact ⟨⟨HC.out, Ext.refl _⟩, ⟨⟨r.c, Ad, nd, cd, Aw, nw, cw⟩, rfl, rfl, H2.out, H3.out⟩⟩
  simp only [List.nil_append, List.cons_append]
  refine tame_end 11 rfl rfl (fun ρ V hC hr hF => ?_)
  obtain ⟨hrc, hrg, hrf, hrs⟩ := hr
  have h10 : TwinR r.c w2.heap.size (ρ (.tmp 10)) V := by
    simp [go_sem] at hF
    exact hF.2.2.2.2.2.2.2
  obtain ⟨r', e10, hrc', ho⟩ := h10
  simp [go_sem] at hF
  apply frame_to
  · go_simp
    exact rfl
  have HO := Lib.hid ho; have HRC := Lib.hid hrc'
  have HE := Lib.hid (E2.out.trans hC)
  have HB := Lib.hid (B1.out.ext hC)
  clear hF hC hrs hrc hrg hrf e10 ho hrc' q0 q1 q2 q3 q4 q5 q6 q7
  have t0 := HB.out.cell 0
  have t1 := HB.out.cell 1
  have t2 := HB.out.cell 2
  have t3 := HB.out.cell 3
  have t4 := HB.out.cell 4
  have t5 := HB.out.cell 5
  have t6 := HB.out.cell 6
  have t7 := HB.out.cell 7
  have tf := HB.out.frozen
  have tl := HB.out.lt
  simp at t0 t1 t2 t3 t4 t5 t6 t7
  go_wp2
  refine ret_set8 HB.out fun W' ⟨b0, b1, b2, b3, b4, b5, b6, b7⟩ hW => ?_
  refine bodyPost_ret (v := valC r') (by simp [results, Tryz.results50, go_sem, b0, b1, b2, b3, b4, b5, b6, b7]) rfl ?_
  exact ⟨⟨_, rfl, r', rfl, HRC.out, ⟨own_mono (own_kept HO.out.1 hW (by have := HZ2.out; omega)) (by have := HZ2.out; omega), own_mono (own_kept HO.out.2 hW (by have := HZ2.out; omega)) (by have := HZ2.out; omega)⟩⟩, ext_grownP HE.out hW (by omega)⟩

/-- A mill's cottons in memory of the call's own. -/
structure TwinL (base : Nat) (cs : List Cot) (v : Value) (L : List Rc) (W : World) : Prop where
  own : Own encC 63 8 W base v L
  lists : ∀ r ∈ L, OwnR base r W
  map : L.map (·.c) = cs
theorem TwinL.mlc {base : Nat} {cs : List Cot} {v : Value} {L : List Rc} {W : World} (h : TwinL base cs v L W) : MlC W v L :=
  ⟨Own.sl (enc := encC) encC_len h.own, fun r hr => ⟨(h.lists r hr).1.sl (fun _ => rfl), (h.lists r hr).2.sl (fun _ => rfl)⟩⟩
theorem TwinL.ext {base : Nat} {cs : List Cot} {v : Value} {L : List Rc} {W W' : World} (h : TwinL base cs v L W) (e : Ext W W') : TwinL base cs v L W' := ⟨h.own.ext e, fun r hr => (h.lists r hr).ext e, h.map⟩
/-- The box of a cotton. -/
def OneT (c : Cot) (bx : Nat) (v : Value) (W : World) : Prop := ∃ b r, v = .slice (some ⟨b, 0, none⟩) 1 1 ∧ Blk W b 63 (encC r).toArray ∧ r.c = c ∧ OwnR bx r W
theorem ret_set3N {P : Program} {fn : Func} {R : Ending → World → Prop} {ex : Exit} {a : Act} {w1 : World} {g : Nat} {t : TypeId} {x0 x1 x2 y0 y1 y2 : Value} (hB : Blk w1 g t #[x0, x1, x2])
    (h : ∀ W, (W.cell? ⟨g, 0, none⟩ = some y0 ∧ W.cell? ⟨g, 1, none⟩ = some y1 ∧ W.cell? ⟨g, 2, none⟩ = some y2) → w1.grownBy W (some g) → bodyPost P fn R ex a W) :
    bodyPost P fn R ex a (((w1.setCell ⟨g, 0, none⟩ y0).setCell ⟨g, 1, none⟩ y1).setCell ⟨g, 2, none⟩ y2) := by
  have K := ((hB.set_ 0 y0).set_ 1 y1).set_ 2 y2
  exact h _ ⟨K.cell 0, K.cell 1, K.cell 2⟩ (grown_set (grown_set (grown_set (World.grownBy.refl _ _) (p := ⟨g, 0, none⟩) (.inl rfl) y0) (p := ⟨g, 1, none⟩) (.inl rfl) y1) (p := ⟨g, 2, none⟩) (.inl rfl) y2)
set_option maxHeartbeats 4000000 in
theorem twinM_any (lots size : Int) (l : List Rc) (sv : Value) (w : World) (hs : MlC w sv l) (hg : greatM l = false) :
    Calls Tryz.prog 13 #[valM lots size sv] w fun e w' => (∃ v L, e = .returned (valM lots size v) ∧ TwinL w.heap.size (l.map (·.c)) v L w') ∧ Ext w w' := by
  have HS := Lib.hid hs
  obtain ⟨A, n, c, rfl, hn, hlc, hcm⟩ := hs.1.form
  have HL := Lib.hid (show l.length = n from hn.out.symm)
  have hgb : n ≤ 14 ∧ ∀ r ∈ l, greatB r.c.b = false := by
    unfold greatM at hg
    rw [Bool.or_eq_false_iff] at hg
    obtain ⟨h1, h2⟩ := hg
    have h3 := of_decide_eq_false h1
    refine ⟨by have := hn.out; omega, fun r hr => ?_⟩
    have h4 := List.any_eq_false.1 h2 r hr
    simpa using h4
  have HGB := Lib.hid hgb.2
  have hn14 := hgb.1
  clear hs hn hg hgb
  go_enter Tryz.func13, Tryz.ntmps13
  go_wp2
  obtain ⟨w4, hw4⟩ : ∃ w4, w4 = (((w.alloc (.cells #[.int .i64 lots, .int .i64 size, .slice A n c] 24)).alloc (.cells #[.int .i64 0, .int .i64 0, .slice none 0 0] 24)).alloc (.cells #[.int .i64 lots, .int .i64 size, .slice none 0 0] 24)) := ⟨_, rfl⟩
  rw [← hw4]
  have B1 := Lib.hid (show Blk w4 (w.heap.size + 1) 24 #[.int .i64 0, .int .i64 0, .slice none 0 0] from hw4 ▸ (Blk.at_ (by simp)).alloc _)
  have B2 := Lib.hid (show Blk w4 (w.heap.size + 1 + 1) 24 #[.int .i64 lots, .int .i64 size, .slice none 0 0] from hw4 ▸ Blk.at_ (by simp))
  have E4 := Lib.hid (show Ext w w4 from hw4 ▸ ((Ext.al _ _).alloc _).alloc _)
  have HZ4 := Lib.hid (show w4.heap.size = w.heap.size + 3 by rw [hw4]; simp)
  clear hw4
  go_loopg [14] n (fun gg s14 wr => ∃ (k : Nat) (L : List Rc) (a : Option Addr) (n0 c0 : Nat), s14 = .int .i64 (k : Int) ∧ k ≤ n ∧ n - k ≤ gg ∧ L.length = k ∧ Aside (Blk wr (w.heap.size + 1) 24 #[.int .i64 0, .int .i64 0, .slice none 0 0]) ∧ Aside (Blk wr (w.heap.size + 1 + 1) 24 #[.int .i64 lots, .int .i64 size, .slice a n0 c0]) ∧ Aside (TwinL (w.heap.size + 3) ((l.take k).map (·.c)) (.slice a n0 c0) L wr) ∧ Aside (Ext w wr) ∧ w.heap.size + 3 ≤ wr.heap.size)
  case atStart => exact ⟨0, [], none, 0, 0, by simp, by omega, by omega, rfl, B1.out, B2.out, ⟨Own.nil _ _, fun r hr => by simp at hr, by simp⟩, E4.out, by have := HZ4.out; omega⟩
  case round =>
    obtain ⟨k, L, a, n0, c0', rfl, hk, hgg, hLk, K1, K2, KT, KE, hzr⟩ := hrel
    clear B1 B2 E4
    by_cases hlt : k < n
    · have hltz : (k : Int) < (n : Int) := by omega
      obtain ⟨b, off, x, rfl, hx, hb, hcell⟩ := HS.out.1.at_ hlt
      obtain ⟨c0, c1, c2, c3, c4, c5, c6, c7⟩ := SlC.cells hcell KE.out
      have HX := Lib.hid (HS.out.2 x (List.mem_of_getElem? hx))
      have HGX := Lib.hid (HGB.out x (List.mem_of_getElem? hx))
      have HTK := Lib.hid (show (l.take (k + 1)).map (·.c) = (l.take k).map (·.c) ++ [x.c] by rw [List.take_add_one, hx, List.map_append]; rfl)
      clear hcell hx
      go_wp2_with fail
      obtain ⟨w5, hw5⟩ : ∃ w5, w5 = wr.alloc (.cells #[.int .i64 x.c.b.id, .int .i64 x.c.b.layers, .int .i64 x.c.b.dry.lo, .int .i64 x.c.b.dry.hi, .slice x.da x.dn x.dc, .slice x.wa x.wn x.wc, .int .i64 x.c.len, .int .i64 x.c.str] 63) := ⟨_, rfl⟩
      rw [← hw5]
      have E5 := Lib.hid (show Ext wr w5 from hw5 ▸ Ext.al _ _)
      have HB5 := Lib.hid (show Blk w5 wr.heap.size 63 #[.int .i64 x.c.b.id, .int .i64 x.c.b.layers, .int .i64 x.c.b.dry.lo, .int .i64 x.c.b.dry.hi, .slice x.da x.dn x.dc, .slice x.wa x.wn x.wc, .int .i64 x.c.len, .int .i64 x.c.str] from hw5 ▸ Blk.new _ _ _)
      have HZ5 := Lib.hid (show w5.heap.size = wr.heap.size + 1 by rw [hw5]; simp)
      clear hw5 c0 c1 c2 c3 c4 c5 c6 c7
      have KT5 := Lib.hid (KT.out.ext E5.out)
      have q0 := fun V (h : Ext w5 V) => ((K2.out.ext E5.out).ext h).c3.2.2.1
      have p0 := fun V (h : Ext w5 V) => (show V.cell? ⟨wr.heap.size, 0, none⟩ = some (.int .i64 x.c.b.id) from (HB5.out.ext h).cell 0)
      have p1 := fun V (h : Ext w5 V) => (show V.cell? ⟨wr.heap.size, 1, none⟩ = some (.int .i64 x.c.b.layers) from (HB5.out.ext h).cell 1)
      have p2 := fun V (h : Ext w5 V) => (show V.cell? ⟨wr.heap.size, 2, none⟩ = some (.int .i64 x.c.b.dry.lo) from (HB5.out.ext h).cell 2)
      have p3 := fun V (h : Ext w5 V) => (show V.cell? ⟨wr.heap.size, 3, none⟩ = some (.int .i64 x.c.b.dry.hi) from (HB5.out.ext h).cell 3)
      have p4 := fun V (h : Ext w5 V) => (show V.cell? ⟨wr.heap.size, 4, none⟩ = some (.slice x.da x.dn x.dc) from (HB5.out.ext h).cell 4)
      have p5 := fun V (h : Ext w5 V) => (show V.cell? ⟨wr.heap.size, 5, none⟩ = some (.slice x.wa x.wn x.wc) from (HB5.out.ext h).cell 5)
      have p6 := fun V (h : Ext w5 V) => (show V.cell? ⟨wr.heap.size, 6, none⟩ = some (.int .i64 x.c.len) from (HB5.out.ext h).cell 6)
      have p7 := fun V (h : Ext w5 V) => (show V.cell? ⟨wr.heap.size, 7, none⟩ = some (.int .i64 x.c.str) from (HB5.out.ext h).cell 7)
      have hgr : x.c.b.draws.length ≤ 1000 ∧ x.c.b.weighs.length ≤ 1000 := by
        have h := HGX.out
        unfold greatB at h
        rw [Bool.or_eq_false_iff] at h
        have h1 := of_decide_eq_false h.1
        have h2 := of_decide_eq_false h.2
        omega
      have HGR := Lib.hid hgr
      clear hgr
      refine wp_region_tame_cutk (fun V => Ext w5 V) (fun V V' => Ext V V') (by kernel_rfl) 27 rfl 5 (by decide +kernel) (by decide +kernel) (by decide +kernel) (Ext.refl _).drew ?_
      simp only [List.take, List.drop]
      repeat (apply tame_q rfl; (intro ρ W hC hr hD; (obtain ⟨hrc, hrg, hrf, hrs⟩ := hr); (simp [go_sem] at hD); go_simp; first | exact ⟨⟨hC, Ext.refl _⟩, rfl⟩ | exact ⟨⟨hC, RS.refl _⟩, rfl⟩ | exact rfl); simp only [List.nil_append, List.cons_append])
      apply tame_v rfl (TwinR x.c w5.heap.size) (fun v V V' _ hE h => by obtain ⟨r', h1, h2, h3⟩ := h; exact ⟨r', h1, h2, h3.ext hE⟩)
      · intro ρ V hC hr hD
        obtain ⟨hrc, hrg, hrf, hrs⟩ := hr
        simp [go_sem] at hD
        have HC := Lib.hid hC
        go_simp
        refine (twinCotton_any x V (HX.out.1.ext (KE.out.trans (E5.out.trans HC.out))) (HX.out.2.ext (KE.out.trans (E5.out.trans HC.out))) HGR.out.1 HGR.out.2).mono ?_
        rintro e w' ⟨⟨v, rfl, r', h1, h2, h3⟩, hE⟩
        exact ⟨_, rfl, ⟨HC.out.trans hE, hE⟩, ⟨r', h1, h2, h3.mono HC.out.size⟩⟩
      simp only [List.nil_append, List.cons_append]
      apply tame_v rfl (OneT x.c w5.heap.size) (fun v V V' _ hE h => by obtain ⟨b', r', h1, h2, h3, h4⟩ := h; exact ⟨b', r', h1, h2.ext hE, h3, h4.ext hE⟩)
      · intro ρ V hC hr hD
        obtain ⟨hrc, hrg, hrf, hrs⟩ := hr
        simp [go_sem] at hD
        have hD' : TwinR x.c w5.heap.size (ρ (.tmp 21)) V := by first | exact hD | exact hD.1
        obtain ⟨r', d1, d2, d3⟩ := hD'
        have H3 := Lib.hid d3; have HC := Lib.hid hC; have HR := Lib.hid d2
        clear d2 d3 hD
        go_simp
        exact ⟨⟨HC.out.alloc _, Ext.al _ _⟩, ⟨V.heap.size, r', rfl, Blk.new _ _ _, HR.out, H3.out.ext (Ext.al _ _)⟩⟩
      simp only [List.nil_append, List.cons_append]
      refine tame_end 27 rfl rfl (fun ρ V hC hr hF => ?_)
      obtain ⟨hrc, hrg, hrf, hrs⟩ := hr
      simp [go_sem] at hF
      obtain ⟨f18, f19, f20, -, ⟨b', r', f22, hB', hr', ho'⟩⟩ := hF
      apply frame_to
      · go_simp
        exact rfl
      have HC := Lib.hid hC; have HBB := Lib.hid hB'; have HRC := Lib.hid hr'; have HOR := Lib.hid ho'
      clear f18 f19 f20 f22 hB' hr' ho' hC hrs hrc hrg hrf q0 p0 p1 p2 p3 p4 p5 p6 p7
      have HTV := Lib.hid (KT5.out.ext HC.out)
      have HK2 := Lib.hid ((K2.out.ext E5.out).ext HC.out)
      have HK1 := Lib.hid ((K1.out.ext E5.out).ext HC.out)
      have HEV := Lib.hid ((KE.out.trans E5.out).trans HC.out)
      have hzv : w.heap.size + 3 ≤ V.heap.size := by have h1 := HZ5.out; have h2 := HC.out.size; omega
      have hll : L.length < 100000000000 := by omega
      go_wp2_with (at_builtin; refine wpList_app encC 22 63 8 _ 96 Tryz.underlying22 info63x rfl (by decide) (by decide) encC_len encC_one rfl (.tmp 19) (.tmp 22) rfl (w.heap.size + 3) _ L rfl HTV.out.own b' 1 r' rfl (fun j u hu => by rw [HBB.out.cell j]; simpa using hu) hll hzv ?_)
      intro g cap w' hown hg2 hbel hgr
      have HOF := Lib.hid (OffX.grown (enc := encC) (sz := 8) HTV.out.own hgr)
      have HBE := Lib.hid hbel
      have HOW := Lib.hid hown
      have HB2 := Lib.hid (HK2.out.below hbel (by omega))
      have HB1 := Lib.hid (HK1.out.below hbel (by omega))
      clear hown hbel hgr
      obtain ⟨t0, t1, t2, tf, tl⟩ := HB2.out.c3
      have hzw : w.heap.size + 3 ≤ w'.heap.size := Nat.le_trans hzv HBE.out.size
      go_wp2
      go_roundg (n - (k + 1))
      case measure => omega
      case rel => exact ⟨k + 1, L ++ [r'], some ⟨g, 0, none⟩, k + 1, cap, by simp, by omega, by omega, by rw [List.length_append, hLk]; rfl, HB1.out.far (by dsimp only; omega) _, by show Blk _ _ _ _; first | simpa [hLk] using HB2.out.set_ 2 (.slice (some ⟨g, 0, none⟩) (k + 1) cap) | simpa using HB2.out.set_ 2 (.slice (some ⟨g, 0, none⟩) (L.length + 1) cap),
        ⟨by have h9 := HOW.out.far (a := ⟨w.heap.size + 1 + 1, 2, none⟩) (by dsimp only; omega) (.slice (some ⟨g, 0, none⟩) (k + 1) cap); simpa [hLk] using h9, fun r hr => by
          have hR : OwnR (w.heap.size + 3) r w' := by
            rcases List.mem_append.1 hr with hr | hr
            · exact (HTV.out.lists r hr).off HOF.out
            · simp at hr
              subst hr
              exact ((HOR.out.mono (by have h1 := HZ5.out; omega)).off HOF.out)
          exact ⟨hR.1.far (by dsimp only; omega) _, hR.2.far (by dsimp only; omega) _⟩, by rw [HTK.out, List.map_append, HTV.out.map]; simp [HRC.out]⟩,
        (Below.trans HEV.out (HBE.out.mono (by omega))).setCell (by dsimp only; omega) _, by simpa [World.setCell] using hzw⟩
    · have hke : k = n := by omega
      subst hke
      have HTF := Lib.hid (show TwinL w.heap.size (l.map (·.c)) (.slice a n0 c0') L wr from ⟨KT.out.own.mono (by omega), fun r hr => (KT.out.lists r hr).mono (by omega), by rw [KT.out.map, List.take_of_length_le (by have := HL.out; omega)]⟩)
      obtain ⟨t0, t1, t2, tf, tl⟩ := K2.out.c3
      obtain ⟨z0, z1, z2, zf, zl⟩ := K1.out.c3
      have KT2 := Lib.hid KT.out
      go_wp2
      refine ret_set3N K1.out fun W' ⟨b0, b1, b2⟩ hW => ?_
      refine bodyPost_ret (v := valM lots size (.slice a n0 c0')) (by simp [results, Tryz.results13, go_sem, b0, b1, b2]) rfl ?_
      exact ⟨⟨_, L, rfl, ⟨own_mono (own_kept KT2.out.own hW (by omega)) (by omega), fun r hr => ⟨own_mono (own_kept (KT2.out.lists r hr).1 hW (by omega)) (by omega), own_mono (own_kept (KT2.out.lists r hr).2 hW (by omega)) (by omega)⟩, HTF.out.map⟩⟩, ext_grownP KE.out hW (by omega)⟩
end Go.Proofs.YtkpengeaolcjhaaGreatDoor
/- slices.Clone at cottons; a list's row gets other lists. -/
namespace Go.Proofs.YtkpengeaolcjhaaGreatDoor
open Go.RowKit Go.Shelf Go.Lib
set_option maxRecDepth 100000
set_option linter.unusedSimpArgs false

@[go_sem] theorem eql22nil (w : World) (a : Option Addr) (n c : Nat) : (binOp .eql 22 (.slice a n c) (.slice none 0 0)).run Tryz.prog w = .ok (.bool a.isNone) w := Lib.run_eql_slice_nil w 22 63 a n c 0 0 Tryz.underlying22
theorem wpList_copyC {ops : Array Oper} {rest : List Oper} {o : Oper} {a : Act} {Q : Exit → Act → World → Prop} {W : World} (hgd : o.guard = none) (s x : Operand)
    (ho : o.op = .call { callee := .builtin .append, args := #[s, x], argTypes := #[22, 22] }) {base g : Nat} (hs : a.eval s = .slice (some ⟨g, 0, none⟩) 0 0) {v : Value} (hx : a.eval x = v)
    (hB : Blk W g 63 #[]) (hg : base ≤ g) (hW : base ≤ W.heap.size) {l : List Rc} (hl : SlC W v l) (hlen : l.length ≤ 1000)
    (h : ∀ v' W', Own encC 63 8 W' base v' l → Ext W W' → wpList Tryz.prog ops Q rest (a.put o.dst v') W') : wpList Tryz.prog ops Q (o :: rest) a W := by
  obtain ⟨v', W', hr, h1, h2⟩ := run_copy (t := 22) (ty := o.type) (enc := encC) (sz := 8) Tryz.underlying22 info63x rfl (by decide) (by decide) (fun _ => rfl) hB hg hW hl hlen
  refine wpList_plain hgd fun K hK => ?_
  unfold Oper.wp execOp
  simp only [ho, resolve, invoke, builtin, Sem.run_bind, Sem.run_pure, Result.andThen_ok, List.map_toArray, List.map_cons, List.map_nil, hs, hx, hr]
  exact hK _ _ (h v' W' h1 h2)
theorem cloneC_any (v : Value) (l : List Rc) (w : World) (hs : SlC w v l) (hlen : l.length ≤ 1000) :
    Calls Tryz.prog 86 #[v] w fun e w' => ∃ v', e = .returned v' ∧ Own encC 63 8 w' w.heap.size v' l ∧ Ext w w' := by
  have HS := Lib.hid hs
  have HL := Lib.hid hlen
  obtain ⟨A, n, c, rfl, hn, hlc, hcm⟩ := hs.form
  have HN := Lib.hid (show A.isNone = true → l = [] ∧ n = 0 from fun h => by
    obtain ⟨A', c', hv, _, _, hx⟩ := hs
    injection hv with e1 e2 e3
    subst e1 e3
    have hl0 : l = [] := by
      by_cases h0 : 0 < l.length
      · obtain ⟨_, _, h1, _⟩ := hx h0; rw [h1] at h; cases h
      · exact List.eq_nil_of_length_eq_zero (by omega)
    exact ⟨hl0, by rw [e2, hl0]; rfl⟩)
  clear hs hlen hn hlc hcm
  cases hN : A.isNone with
  | true =>
    obtain ⟨rfl, rfl⟩ := HN.out hN
    clear HS HL HN
    go_enter Tryz.func86, Tryz.ntmps86
    go_wp2
    go_ret
    exact ⟨_, rfl, Own.nil _ _, Ext.refl _⟩
  | false =>
    clear HN
    go_enter Tryz.func86, Tryz.ntmps86
    go_wp2_with (at_builtin; refine wpList_copyC rfl (.tmp 5) (.tmp 6) rfl (base := w.heap.size) (g := w.heap.size) rfl rfl (Blk.new _ _ _) (Nat.le_refl _) (by simp) (HS.out.ext (Ext.al _ _)) HL.out ?_)
    intro v1 w1 hown hext
    have HE := Lib.hid (show Ext w w1 from (Ext.al _ _).trans hext)
    go_wp2
    go_ret
    exact ⟨_, rfl, hown, HE.out⟩
/-! A row with other lists. -/
def relist (r : Rc) (da : Option Addr) (dn dc : Nat) (wa : Option Addr) (wn wc : Nat) : Rc := ⟨r.c, da, dn, dc, wa, wn, wc⟩
theorem flat_set2 (da : Option Addr) (dn dc : Nat) (wa : Option Addr) (wn wc : Nat) : ∀ (L : List Rc) (k : Nat) (r : Rc), L[k]? = some r → ((L.flatMap encC).set (k * 8 + 4) (.slice da dn dc)).set (k * 8 + 5) (.slice wa wn wc) = (L.set k (relist r da dn dc wa wn wc)).flatMap encC
  | [], k, r, h => by simp at h
  | x :: L, 0, r, h => by
    simp at h
    subst h
    rfl
  | x :: L, k + 1, r, h => by
    have ih := flat_set2 da dn dc wa wn wc L k r (by simpa using h)
    rw [List.flatMap_cons, List.set_cons_succ, List.flatMap_cons, ← ih]
    rw [show (k + 1) * 8 + 4 = (encC x).length + (k * 8 + 4) by rw [encC_len]; omega, show (k + 1) * 8 + 5 = (encC x).length + (k * 8 + 5) by rw [encC_len]; omega]
    rw [List.set_append_right _ _ (by omega), List.set_append_right _ _ (by omega)]
    simp
/-- The block of a list of cottons. -/
theorem rowC_of {W : World} {base n c : Nat} {A : Option Addr} {L : List Rc} (h : Own encC 63 8 W base (.slice A n c) L) (h0 : 0 < L.length) : ∃ g cur, A = some ⟨g, 0, none⟩ ∧ base ≤ g ∧ Blk W g 63 cur ∧ n = L.length ∧ L.length ≤ c ∧ c ≤ maxLen ∧ cur.size = c * 8 ∧ cur.toList.take (L.length * 8) = L.flatMap encC := by
  rcases own_formG h with ⟨h1, h2⟩ | ⟨g, cap, cur, h1, hb, hh, hlc, hmx, hcs, ht⟩
  · rw [h2] at h0; simp at h0
  · obtain ⟨rfl, rfl, rfl⟩ : A = some ⟨g, 0, none⟩ ∧ n = L.length ∧ c = cap := by simpa using h1
    exact ⟨g, cur, rfl, hb, hh, rfl, hlc, hmx, hcs, ht⟩
theorem rowC_own {W : World} {base g c : Nat} {cur : Array Value} {L : List Rc} (hb : base ≤ g) (hB : Blk W g 63 cur) (hlc : L.length ≤ c) (hmx : c ≤ maxLen) (hcs : cur.size = c * 8) (ht : cur.toList.take (L.length * 8) = L.flatMap encC) : Own encC 63 8 W base (.slice (some ⟨g, 0, none⟩) L.length c) L :=
  ⟨enc_len (enc := encC) encC_len L, .inr ⟨g, c, cur, rfl, hb, hB, hlc, hmx, hcs, ht⟩⟩
end Go.Proofs.YtkpengeaolcjhaaGreatDoor
/- mill.copied. -/
namespace Go.Proofs.YtkpengeaolcjhaaGreatDoor
open Go.RowKit Go.Shelf Go.Lib
set_option maxRecDepth 100000
set_option linter.unusedSimpArgs false

/-- What a store to one of the row's two lists leaves. -/
def RDo (b : Bale) (base g o : Nat) (W W' : World) : Prop :=
  (∀ v, GoodS encD g b.draws v W → GoodS encD g b.draws v W') ∧ (∀ v, GoodS encW g b.weighs v W → GoodS encW g b.weighs v W') ∧ (∀ v, Own encD 134 4 W base v b.draws → Own encD 134 4 W' base v b.draws) ∧ (∀ v, Own encW 186 4 W base v b.weighs → Own encW 186 4 W' base v b.weighs) ∧
    (FrC encD 134 base g (o + 4) b.draws W → FrC encD 134 base g (o + 4) b.draws W') ∧ (FrC encW 186 base g (o + 5) b.weighs W → FrC encW 186 base g (o + 5) b.weighs W')
theorem RDo.refl {b : Bale} {base g o : Nat} (W : World) : RDo b base g o W W := ⟨fun _ h => h, fun _ h => h, fun _ h => h, fun _ h => h, fun h => h, fun h => h⟩
theorem RDo.ext {b : Bale} {base g o : Nat} {W W' : World} (e : Ext W W') : RDo b base g o W W' := ⟨fun _ h => h.ext e, fun _ h => h.ext e, fun _ h => h.ext e, fun _ h => h.ext e, fun h => h.ext e, fun h => h.ext e⟩
theorem RDo.set4 {b : Bale} {base g o : Nat} {W : World} {dx : Value} (hg : g < base) (hd : Own encD 134 4 W base dx b.draws) : RDo b base g o W (W.setCell ⟨g, o + 4, none⟩ dx) ∧ ((∃ u, W.cell? ⟨g, o + 4, none⟩ = some u) → FrC encD 134 base g (o + 4) b.draws (W.setCell ⟨g, o + 4, none⟩ dx)) :=
  have key : (∃ u, W.cell? ⟨g, o + 4, none⟩ = some u) → FrC encD 134 base g (o + 4) b.draws (W.setCell ⟨g, o + 4, none⟩ dx) := fun ⟨_, hu⟩ => ⟨dx, World.cell?_setCell_same (h := hu) .., hd.far hg _⟩
  ⟨⟨fun _ h => h.set _, fun _ h => h.set _, fun _ h => h.far hg _, fun _ h => h.far hg _, fun ⟨u, hu, _⟩ => key ⟨u, hu⟩, fun ⟨v, h1, h2⟩ => ⟨v, (World.cell?_setCell_other (h := by intro e; injection e with _ e _; omega) ..).trans h1, h2.far hg _⟩⟩, key⟩
theorem RDo.set5 {b : Bale} {base g o : Nat} {W : World} {wx : Value} (hg : g < base) (hd : Own encW 186 4 W base wx b.weighs) : RDo b base g o W (W.setCell ⟨g, o + 5, none⟩ wx) ∧ ((∃ u, W.cell? ⟨g, o + 5, none⟩ = some u) → FrC encW 186 base g (o + 5) b.weighs (W.setCell ⟨g, o + 5, none⟩ wx)) :=
  have key : (∃ u, W.cell? ⟨g, o + 5, none⟩ = some u) → FrC encW 186 base g (o + 5) b.weighs (W.setCell ⟨g, o + 5, none⟩ wx) := fun ⟨_, hu⟩ => ⟨wx, World.cell?_setCell_same (h := hu) .., hd.far hg _⟩
  ⟨⟨fun _ h => h.set _, fun _ h => h.set _, fun _ h => h.far hg _, fun _ h => h.far hg _, fun ⟨v, h1, h2⟩ => ⟨v, (World.cell?_setCell_other (h := by intro e; injection e with _ e _; omega) ..).trans h1, h2.far hg _⟩, fun ⟨u, hu, _⟩ => key ⟨u, hu⟩⟩, key⟩
/-- The world while a row gets its lists: but for block g nothing has turned, and of block g two cells at most. -/
def CDo (b : Bale) (w : World) (g o : Nat) (cur : Array Value) (W : World) : Prop := w.grownBy W (some g) ∧ ∃ dx wx, Blk W g 63 ((cur.setIfInBounds (o + 4) dx).setIfInBounds (o + 5) wx) ∧ GoodS encD g b.draws dx W ∧ GoodS encW g b.weighs wx W
theorem CDo.ext {b : Bale} {w : World} {g o : Nat} {cur : Array Value} {W W' : World} (h : CDo b w g o cur W) (e : Ext W W') : CDo b w g o cur W' := by
  obtain ⟨h1, dx, wx, h2, h3, h4⟩ := h
  exact ⟨grown_ext h1 e, dx, wx, h2.ext e, h3.ext e, h4.ext e⟩
theorem two_cells {W : World} {g o : Nat} {cur : Array Value} {dx wx : Value} (hB : Blk W g 63 ((cur.setIfInBounds (o + 4) dx).setIfInBounds (o + 5) wx)) (ho : o + 5 < cur.size) : W.cell? ⟨g, o + 4, none⟩ = some dx ∧ W.cell? ⟨g, o + 5, none⟩ = some wx ∧ (∀ i, W.frozen? ⟨g, i, none⟩ = false) ∧ g < W.heap.size := by
  refine ⟨?_, ?_, hB.frozen, hB.lt⟩
  · rw [hB.cell (o + 4), Array.getElem?_setIfInBounds, if_neg (by omega), Array.getElem?_setIfInBounds, if_pos rfl, if_pos (by omega)]
  · rw [hB.cell (o + 5), Array.getElem?_setIfInBounds, if_pos rfl, if_pos (by simpa using ho)]
theorem two_set4 {W : World} {g o : Nat} {cur : Array Value} {dx wx : Value} (hB : Blk W g 63 ((cur.setIfInBounds (o + 4) dx).setIfInBounds (o + 5) wx)) (u : Value) : Blk (W.setCell ⟨g, o + 4, none⟩ u) g 63 ((cur.setIfInBounds (o + 4) u).setIfInBounds (o + 5) wx) := by
  have h := hB.set_ (o + 4) u
  have e : ((cur.setIfInBounds (o + 4) dx).setIfInBounds (o + 5) wx).setIfInBounds (o + 4) u = (cur.setIfInBounds (o + 4) u).setIfInBounds (o + 5) wx := by
    apply Array.ext_getElem?
    intro i
    simp only [Array.getElem?_setIfInBounds, Array.size_setIfInBounds]
    by_cases h4 : o + 4 = i
    · subst h4
      simp
    · simp [h4]
  rwa [e] at h
theorem two_set5 {W : World} {g o : Nat} {cur : Array Value} {dx wx : Value} (hB : Blk W g 63 ((cur.setIfInBounds (o + 4) dx).setIfInBounds (o + 5) wx)) (u : Value) : Blk (W.setCell ⟨g, o + 5, none⟩ u) g 63 ((cur.setIfInBounds (o + 4) dx).setIfInBounds (o + 5) u) := by
  have h := hB.set_ (o + 5) u
  have e : ((cur.setIfInBounds (o + 4) dx).setIfInBounds (o + 5) wx).setIfInBounds (o + 5) u = (cur.setIfInBounds (o + 4) dx).setIfInBounds (o + 5) u := by
    apply Array.ext_getElem?
    intro i
    simp only [Array.getElem?_setIfInBounds, Array.size_setIfInBounds]
    by_cases h5 : o + 5 = i
    · subst h5
      simp
    · simp [h5]
  rwa [e] at h
theorem two_same {cur : Array Value} {o : Nat} {dx wx : Value} (h4 : cur[o + 4]? = some dx) (h5 : cur[o + 5]? = some wx) : (cur.setIfInBounds (o + 4) dx).setIfInBounds (o + 5) wx = cur := by
  apply Array.ext_getElem?
  intro i
  simp only [Array.getElem?_setIfInBounds, Array.size_setIfInBounds]
  by_cases e5 : o + 5 = i
  · subst e5
    rw [if_pos rfl, h5, if_pos (Array.getElem?_eq_some_iff.1 h5).1]
  · rw [if_neg e5]
    by_cases e4 : o + 4 = i
    · subst e4
      rw [if_pos rfl, h4, if_pos (Array.getElem?_eq_some_iff.1 h4).1]
    · rw [if_neg e4]
theorem offX_grown {w W : World} {g : Nat} {t : TypeId} {cs : Array Value} (hB : Blk w g t cs) (hG : w.grownBy W (some g)) : OffX t w W := by
  intro b e' cs' hne hb
  refine hb.grown hG ?_
  intro e
  injection e with e
  subst e
  have h1 : w.heap[b]? = some (.cells cs t (0, 0)) := hB
  have h2 : w.heap[b]? = some (.cells cs' e' (0, 0)) := hb
  rw [h1] at h2
  injection h2 with h2
  injection h2 with _ h2 _
  exact hne h2.symm
set_option maxHeartbeats 4000000 in
theorem copiedM_any (lots size : Int) (l : List Rc) (sv : Value) (w : World) (hs : MlC w sv l) (hlen : l.length ≤ 1000) (hb : ∀ r ∈ l, r.c.b.draws.length ≤ 1000 ∧ r.c.b.weighs.length ≤ 1000) :
    Calls Tryz.prog 83 #[valM lots size sv] w fun e w' => (∃ v L, e = .returned (valM lots size v) ∧ TwinL w.heap.size (l.map (·.c)) v L w') ∧ Ext w w' := by
  have HS := Lib.hid hs; have HLN := Lib.hid hlen; have HBN := Lib.hid hb
  obtain ⟨A, n, c, rfl, hn, hlc, hcm⟩ := hs.1.form
  have HL := Lib.hid (show l.length = n from hn.out.symm)
  have hn1000 : n ≤ 1000 := by have := hn.out; omega
  clear hs hn hlen hb
  go_enter Tryz.func83, Tryz.ntmps83
  go_wp2_with fail
  obtain ⟨w2, hw2⟩ : ∃ w2, w2 = (w.alloc (.cells #[.int .i64 lots, .int .i64 size, .slice A n c] 24)).alloc (.cells #[.int .i64 0, .int .i64 0, .slice none 0 0] 24) := ⟨_, rfl⟩
  rw [← hw2]
  have B1 := Lib.hid (show Blk w2 w.heap.size 24 #[.int .i64 lots, .int .i64 size, .slice A n c] from hw2 ▸ (Blk.new _ _ _).alloc _)
  have B2 := Lib.hid (show Blk w2 (w.heap.size + 1) 24 #[.int .i64 0, .int .i64 0, .slice none 0 0] from hw2 ▸ Blk.at_ (by simp))
  have E2 := Lib.hid (show Ext w w2 from hw2 ▸ (Ext.al _ _).alloc _)
  have HZ2 := Lib.hid (show w2.heap.size = w.heap.size + 2 by rw [hw2]; simp)
  clear hw2
  refine (cloneC_any _ l w2 (HS.out.1.ext E2.out) HLN.out).mono ?_
  rintro e w3 ⟨v', rfl, hown, hE⟩
  have O3 := Lib.hid hown
  have E3 := Lib.hid (E2.out.trans hE)
  replace B1 := Lib.hid (B1.out.ext hE); replace B2 := Lib.hid (B2.out.ext hE)
  obtain ⟨A3, n3, c3, rfl, hn3, -, -⟩ := (show SlC w3 v' l from Own.sl (enc := encC) encC_len hown).form
  obtain rfl : n3 = n := by have := hn3.out; have := HL.out; omega
  clear hown hE hn3 E2
  obtain ⟨x0, x1, x2, xf, xl⟩ := B1.out.c3
  go_upto_region 2 with (fail)
  obtain ⟨w4, hw4⟩ : ∃ w4, w4 = w3.setCell ⟨w.heap.size, 2, none⟩ (.slice A3 n3 c3) := ⟨_, rfl⟩
  rw [← hw4]
  have HO4 := Lib.hid (show w.heap.size < w2.heap.size by have := HZ2.out; omega)
  have K1 := Lib.hid (show Blk w4 w.heap.size 24 #[.int .i64 lots, .int .i64 size, .slice A3 n3 c3] by
    rw [hw4]; have h := B1.out.set_ 2 (.slice A3 n3 c3); simpa using h)
  have K2 := Lib.hid (show Blk w4 (w.heap.size + 1) 24 #[.int .i64 0, .int .i64 0, .slice none 0 0] from hw4 ▸ B2.out.far (by dsimp only; omega) _)
  have E4 := Lib.hid (show Ext w w4 from hw4 ▸ E3.out.setCell (Nat.le_refl _) _)
  have O4 := Lib.hid (show Own encC 63 8 w4 w2.heap.size (.slice A3 n3 c3) l from hw4 ▸ O3.out.far HO4.out _)
  clear hw4 B1 B2 E3 O3 x0 x1 x2 xf xl
  have y0 := K1.out.c3
  go_wp2
  clear y0
  go_loopg [12] n3 (fun gg s wr => ∃ (k : Nat) (L : List Rc), k ≤ n3 ∧ n3 - k ≤ gg ∧ s = .int .i64 (k : Int) ∧ L.map (·.c) = l.map (·.c) ∧ (∀ j : Nat, k ≤ j → L[j]? = l[j]?) ∧ Aside (∀ (j : Nat) (r : Rc), j < k → L[j]? = some r → OwnR w2.heap.size r wr) ∧ Aside (Own encC 63 8 wr w2.heap.size (.slice A3 n3 c3) L) ∧ Aside (Blk wr w.heap.size 24 #[.int .i64 lots, .int .i64 size, .slice A3 n3 c3]) ∧ Aside (Blk wr (w.heap.size + 1) 24 #[.int .i64 0, .int .i64 0, .slice none 0 0]) ∧ Aside (Ext w wr))
  case atStart => exact ⟨0, l, by omega, by omega, by simp, rfl, fun _ _ => rfl, fun j r h => absurd h (by omega), O4.out, K1.out, K2.out, E4.out⟩
  case round =>
    obtain ⟨k, L, hk, hgg, rfl, hmap, hrest, HDN, OQ, Q1, Q2, EQ⟩ := hrel
    clear O4 K1 K2 E4
    have HMAP := Lib.hid hmap; have HRES := Lib.hid hrest
    have HLL := Lib.hid (show L.length = n3 by have h := congrArg List.length hmap; simp at h; have := HL.out; omega)
    clear hmap hrest
    obtain ⟨y0, y1, y2, yf, yl⟩ := Q1.out.c3
    by_cases hlt : k < n3
    · have hltz : (k : Int) < (n3 : Int) := by omega
      obtain ⟨r, hr⟩ : ∃ r, l[k]? = some r := ⟨_, List.getElem?_eq_getElem (by have := HL.out; omega)⟩
      have HR := Lib.hid hr
      have HLR := Lib.hid (show L[k]? = some r by rw [HRES.out k (Nat.le_refl _)]; exact hr)
      obtain ⟨g, cur, rfl, hbg, hB, hnL, hlc3, hmx, hcs, ht⟩ := rowC_of OQ.out (by have := HLL.out; omega)
      have HB := Lib.hid hB
      have HBG := Lib.hid hbg
      have ho : k * 8 + 5 < cur.size := by rw [hcs]; have := HLL.out; omega
      have HCS := Lib.hid (And.intro hlc3 (And.intro hmx (And.intro hcs ht)))
      have hsl : SlC wr (.slice (some ⟨g, 0, none⟩) n3 c3) L := Own.sl (enc := encC) encC_len OQ.out
      obtain ⟨b3, off3, x', e3, hx', -, hcell⟩ := hsl.at_ hlt
      obtain ⟨rfl, rfl⟩ : g = b3 ∧ 0 = off3 := by simpa using e3
      obtain rfl : x' = r := by rw [HLR.out] at hx'; injection hx' with h; exact h.symm
      obtain ⟨c0, c1, c2, c3', c4, c5, c6, c7⟩ := SlC.cells hcell (Ext.refl _)
      simp only [Nat.zero_add] at c0 c1 c2 c3' c4 c5 c6 c7
      have HDW := Lib.hid (HS.out.2 x' (List.mem_of_getElem? hr))
      have HNB := Lib.hid (HBN.out x' (List.mem_of_getElem? hr))
      have hgw : g < wr.heap.size := hB.lt
      clear hr hB hbg hnL hlc3 hmx hcs ht hsl e3 hx' hcell
      go_upto_region 6 with (fail)
      have HST := Lib.hid (show CDo x'.c.b wr g (k * 8) cur wr.drew from ⟨⟨rfl, rfl, rfl, Nat.le_refl _, fun _ _ _ => rfl⟩, .slice x'.da x'.dn x'.dc, .slice x'.wa x'.wn x'.wc, by
        rw [two_same (by rw [← HB.out.cell]; exact c4) (by rw [← HB.out.cell]; exact c5)]
        exact HB.out.ext (Ext.refl _).drew, GoodS.old HDW.out.1 (by have := HBG.out; have := HO4.out; omega) EQ.out.drew, GoodS.old HDW.out.2 (by have := HBG.out; have := HO4.out; omega) EQ.out.drew⟩)
      clear c0 c1 c2 c3' c4 c5 c6 c7 y0 y1 y2 yf yl
      refine wp_region_tame (CDo x'.c.b wr g (k * 8) cur) (RDo x'.c.b wr.heap.size g (k * 8)) (by kernel_rfl) 38 rfl (by decide +kernel) HST.out ?_
      repeat
        (apply tame_q rfl
         (intro ρ W hC hr hD
          obtain ⟨hrc, hrg, hrf, hrs⟩ := hr
          simp [go_sem] at hD
          go_simp
          first | exact ⟨⟨hC, RDo.refl _⟩, rfl⟩ | exact rfl)
         simp only [List.nil_append, List.cons_append])
      apply tame_v rfl (GoodS encD g x'.c.b.draws) (fun v W W' _ hR h => hR.1 v h)
      · intro ρ W hC hr hD
        obtain ⟨hrc, hrg, hrf, hrs⟩ := hr
        simp [go_sem] at hD
        obtain ⟨hg, dx, wx, hB, g1, g2⟩ := id hC
        obtain ⟨t4, t5, -, -⟩ := two_cells hB ho
        go_simp
        exact ⟨hC, RDo.refl _⟩
      simp only [List.nil_append, List.cons_append]
      apply tame_v rfl (fun v W => Own encD 134 4 W wr.heap.size v x'.c.b.draws) (fun v W W' _ hR h => hR.2.2.1 v h)
      · intro ρ W hC hr hD
        obtain ⟨hrc, hrg, hrf, hrs⟩ := hr
        simp [go_sem] at hD
        go_simp
        refine (cloneD_any _ x'.c.b.draws W hD.1 HNB.out.1).mono ?_
        rintro e w' ⟨v', rfl, ho, hE⟩
        exact ⟨_, rfl, ⟨hC.ext hE, RDo.ext hE⟩, ho.mono hC.1.size⟩
      simp only [List.nil_append, List.cons_append]
      repeat
        (apply tame_q rfl
         (intro ρ W hC hr hD
          obtain ⟨hrc, hrg, hrf, hrs⟩ := hr
          simp [go_sem] at hD
          go_simp
          first | exact ⟨⟨hC, RDo.refl _⟩, rfl⟩ | exact rfl)
         simp only [List.nil_append, List.cons_append])
      apply tame_v rfl (GoodS encW g x'.c.b.weighs) (fun v W W' _ hR h => hR.2.1 v h)
      · intro ρ W hC hr hD
        obtain ⟨hrc, hrg, hrf, hrs⟩ := hr
        simp [go_sem] at hD
        obtain ⟨hg, dx, wx, hB, g1, g2⟩ := id hC
        obtain ⟨t4, t5, -, -⟩ := two_cells hB ho
        go_simp
        exact ⟨hC, RDo.refl _⟩
      simp only [List.nil_append, List.cons_append]
      apply tame_v rfl (fun v W => Own encW 186 4 W wr.heap.size v x'.c.b.weighs) (fun v W W' _ hR h => hR.2.2.2.1 v h)
      · intro ρ W hC hr hD
        obtain ⟨hrc, hrg, hrf, hrs⟩ := hr
        simp [go_sem] at hD
        go_simp
        refine (cloneW_any _ x'.c.b.weighs W hD.1.1 HNB.out.2).mono ?_
        rintro e w' ⟨v', rfl, ho, hE⟩
        exact ⟨_, rfl, ⟨hC.ext hE, RDo.ext hE⟩, ho.mono hC.1.size⟩
      simp only [List.nil_append, List.cons_append]
      repeat
        (apply tame_q rfl
         (intro ρ W hC hr hD
          obtain ⟨hrc, hrg, hrf, hrs⟩ := hr
          simp [go_sem] at hD
          go_simp
          first | exact ⟨⟨hC, RDo.refl _⟩, rfl⟩ | exact rfl)
         simp only [List.nil_append, List.cons_append])
      apply tame_n (fun _ W => FrC encD 134 wr.heap.size g (k * 8 + 4) x'.c.b.draws W) (fun _ W W' _ hR h => hR.2.2.2.2.1 h)
      · intro ρ W hC hr hD
        obtain ⟨hrc, hrg, hrf, hrs⟩ := hr
        simp [go_sem] at hD
        have h5 : Own encD 134 4 W wr.heap.size (ρ (.tmp 26)) x'.c.b.draws := by first | exact hD.1 | exact hD.2.1 | exact hD.2 | exact hD.2.2.1
        have h33 : ρ (.tmp 33) = .pointer (some ⟨g, k * 8 + 4, none⟩) := by first | exact hD.1 | exact hD.2.1 | exact hD.2 | exact hD.2.2.1
        clear hD
        obtain ⟨hg, dx, wx, hB, g1, g2⟩ := hC
        obtain ⟨t4, t5, tf, tl⟩ := two_cells hB ho
        obtain ⟨Ad, nd, cd, ed, -, -, -⟩ := (show SlD W (ρ (.tmp 26)) x'.c.b.draws from h5.sl (fun _ => rfl)).form
        rw [ed] at h5
        have H5 := Lib.hid h5; have HBX := Lib.hid hB; have HG := Lib.hid hg; have G2 := Lib.hid g2
        clear h5 hB hg g1 g2
        go_simp
        obtain ⟨r1, r2⟩ := RDo.set4 (b := x'.c.b) (base := wr.heap.size) (o := k * 8) (W := W) hgw H5.out
        exact ⟨⟨⟨grown_set HG.out (p := ⟨g, k * 8 + 4, none⟩) (.inl rfl) _, _, _, two_set4 HBX.out _, GoodS.own (fun _ => rfl) (H5.out.far (a := ⟨g, k * 8 + 4, none⟩) hgw _) hgw, G2.out.set _⟩, r1⟩, r2 ⟨_, t4⟩⟩
      simp only [List.nil_append, List.cons_append]
      repeat
        (apply tame_q rfl
         (intro ρ W hC hr hD
          obtain ⟨hrc, hrg, hrf, hrs⟩ := hr
          simp [go_sem] at hD
          go_simp
          first | exact ⟨⟨hC, RDo.refl _⟩, rfl⟩ | exact rfl)
         simp only [List.nil_append, List.cons_append])
      apply tame_n (fun _ W => FrC encW 186 wr.heap.size g (k * 8 + 5) x'.c.b.weighs W) (fun _ W W' _ hR h => hR.2.2.2.2.2 h)
      · intro ρ W hC hr hD
        obtain ⟨hrc, hrg, hrf, hrs⟩ := hr
        simp [go_sem] at hD
        have h5 : Own encW 186 4 W wr.heap.size (ρ (.tmp 31)) x'.c.b.weighs := by first | exact hD.1 | exact hD.2.1 | exact hD.2 | exact hD.2.2.1
        have h33 : ρ (.tmp 35) = .pointer (some ⟨g, k * 8 + 5, none⟩) := by first | exact hD.1 | exact hD.2.1 | exact hD.2 | exact hD.2.2.1
        clear hD
        obtain ⟨hg, dx, wx, hB, g1, g2⟩ := hC
        obtain ⟨t4, t5, tf, tl⟩ := two_cells hB ho
        obtain ⟨Ad, nd, cd, ed, -, -, -⟩ := (show SlW W (ρ (.tmp 31)) x'.c.b.weighs from h5.sl (fun _ => rfl)).form
        rw [ed] at h5
        have H5 := Lib.hid h5; have HBX := Lib.hid hB; have HG := Lib.hid hg; have G1 := Lib.hid g1
        clear h5 hB hg g1 g2
        go_simp
        obtain ⟨r1, r2⟩ := RDo.set5 (b := x'.c.b) (base := wr.heap.size) (o := k * 8) (W := W) hgw H5.out
        exact ⟨⟨⟨grown_set HG.out (p := ⟨g, k * 8 + 5, none⟩) (.inl rfl) _, _, _, two_set5 HBX.out _, G1.out.set _, GoodS.own (fun _ => rfl) (H5.out.far (a := ⟨g, k * 8 + 5, none⟩) hgw _) hgw⟩, r1⟩, r2 ⟨_, t5⟩⟩
      simp only [List.nil_append, List.cons_append]
      refine tame_end 38 rfl rfl (fun ρ W hC hr hF => ?_)
      obtain ⟨hrc, hrg, hrf, hrs⟩ := hr
      simp [go_sem] at hF
      obtain ⟨f20, f21, f22, f23, f24, f25, f26, f27, f28, f29, f30, f31, f32, f33, fD, f34, f35, fW⟩ := hF
      obtain ⟨hg, dx, wx, hB, -, -⟩ := hC
      obtain ⟨t4, t5, -, -⟩ := two_cells hB ho
      obtain ⟨dx', e4, o1⟩ := fD
      obtain ⟨wx', e5, o2⟩ := fW
      obtain rfl : dx' = dx := by rw [e4] at t4; injection t4
      obtain rfl : wx' = wx := by rw [e5] at t5; injection t5
      obtain ⟨Ad, nd, cd, rfl, -, -, -⟩ := (show SlD W dx' x'.c.b.draws from o1.sl (fun _ => rfl)).form
      obtain ⟨Aw, nw, cw, rfl, -, -, -⟩ := (show SlW W wx' x'.c.b.weighs from o2.sl (fun _ => rfl)).form
      have OF := Lib.hid (offX_grown HB.out hg)
      have HLS := Lib.hid (show (L.set k (relist x' Ad nd cd Aw nw cw)).length = n3 by rw [List.length_set]; exact HLL.out)
      have ON := Lib.hid (show Own encC 63 8 W w2.heap.size (.slice (some ⟨g, 0, none⟩) n3 c3) (L.set k (relist x' Ad nd cd Aw nw cw)) by
        have h := rowC_own (L := L.set k (relist x' Ad nd cd Aw nw cw)) HBG.out hB (by rw [List.length_set]; exact HCS.out.1) HCS.out.2.1 (by simpa using HCS.out.2.2.1) (by
          rw [List.length_set, Array.toList_setIfInBounds, Array.toList_setIfInBounds, List.take_set, List.take_set, HCS.out.2.2.2]
          exact flat_set2 Ad nd cd Aw nw cw L k x' HLR.out)
        rwa [HLS.out] at h)
      have HDN2 := Lib.hid (show ∀ (j : Nat) (r : Rc), j < k + 1 → (L.set k (relist x' Ad nd cd Aw nw cw))[j]? = some r → OwnR w2.heap.size r W from fun j r hj h => by
        by_cases e : j = k
        · subst e
          rw [List.getElem?_set_self (by have := HLL.out; omega)] at h
          injection h with h
          subst h
          exact ⟨o1.mono (by have := HBG.out; omega), o2.mono (by have := HBG.out; omega)⟩
        · rw [List.getElem?_set_ne (Ne.symm e)] at h
          exact (HDN.out j r (by omega) h).off OF.out)
      have HMP2 := Lib.hid (show (L.set k (relist x' Ad nd cd Aw nw cw)).map (·.c) = l.map (·.c) by
        rw [List.map_set, ← HMAP.out]
        apply List.ext_getElem?
        intro j
        rw [List.getElem?_set]
        split
        · rename_i h
          subst h
          rw [List.getElem?_map, HLR.out]
          rw [if_pos (by rw [List.length_map, HLL.out]; exact hlt)]
          rfl
        · rfl)
      have HRS2 := Lib.hid (show ∀ j : Nat, k + 1 ≤ j → (L.set k (relist x' Ad nd cd Aw nw cw))[j]? = l[j]? from fun j hj => by
        rw [List.getElem?_set_ne (by omega)]
        exact HRES.out j (by omega))
      have N1 := Lib.hid (Q1.out.grown hg (by intro e; injection e with e; have := HBG.out; have := HO4.out; omega))
      have N2 := Lib.hid (Q2.out.grown hg (by intro e; injection e with e; have := HBG.out; have := HZ2.out; omega))
      have EN := Lib.hid (ext_grownP EQ.out hg (by have := HBG.out; have := HO4.out; omega))
      apply frame_to
      · go_simp
        exact rfl
      clear f20 f21 f22 f23 f24 f25 f26 f27 f28 f29 f30 f31 f32 f33 f34 f35 e4 e5 o1 o2 t4 t5 hg hB hrc hrg hrf hrs
      go_wp2
      go_roundg (n3 - (k + 1))
      case measure => omega
      case rel => exact ⟨k + 1, L.set k (relist x' Ad nd cd Aw nw cw), by omega, by omega, by simp, HMP2.out, HRS2.out, HDN2.out, ON.out, N1.out, N2.out, EN.out⟩
    · have hke : k = n3 := by omega
      subst hke
      obtain ⟨z0, z1, z2, zf, zl⟩ := Q2.out.c3
      have TW := Lib.hid (show TwinL w2.heap.size (l.map (·.c)) (.slice A3 k c3) L wr from ⟨OQ.out, fun r hr => by
        obtain ⟨j, hj⟩ := List.getElem?_of_mem hr
        exact HDN.out j r (by have := (List.getElem?_eq_some_iff.1 hj).1; have := HLL.out; omega) hj, HMAP.out⟩)
      go_wp2
      refine ret_set3N Q2.out fun W' ⟨b0, b1, b2⟩ hW => ?_
      refine bodyPost_ret (v := valM lots size (.slice A3 k c3)) (by simp [results, Tryz.results83, go_sem, b0, b1, b2]) rfl ?_
      have OF := offX_grown Q2.out hW
      exact ⟨⟨_, rfl, L, ⟨(TW.out.own.offX OF (by decide)).mono (by have := HO4.out; omega), fun r hr => ⟨((TW.out.lists r hr).1.offX OF (by decide)).mono (by have := HO4.out; omega), ((TW.out.lists r hr).2.offX OF (by decide)).mono (by have := HO4.out; omega)⟩, TW.out.map⟩⟩, ext_grownP EQ.out hW (by omega)⟩
end Go.Proofs.YtkpengeaolcjhaaGreatDoor
/- slices.SortStableFunc at cottons, of fewer than twenty: insertion sort by their bales' numbers. (Printed by gensortc.py.) -/
namespace Go.Proofs.YtkpengeaolcjhaaGreatDoor
open Go.RowKit Go.Shelf Go.Lib
set_option maxRecDepth 100000
set_option linter.unusedSimpArgs false

theorem flat_set8 {x : Rc} : ∀ (l : List Rc) (i : Nat), i < l.length →
    ((((((((l.flatMap encC).set (i * 8) (.int .i64 x.c.b.id)).set (i * 8 + 1) (.int .i64 x.c.b.layers)).set (i * 8 + 2) (.int .i64 x.c.b.dry.lo)).set (i * 8 + 3) (.int .i64 x.c.b.dry.hi)).set (i * 8 + 4) (.slice x.da x.dn x.dc)).set (i * 8 + 5) (.slice x.wa x.wn x.wc)).set (i * 8 + 6) (.int .i64 x.c.len)).set (i * 8 + 7) (.int .i64 x.c.str) = (l.set i x).flatMap encC
  | y :: l, 0, _ => rfl
  | y :: l, i + 1, h => by
    have ih := flat_set8 (x := x) l i (by simpa using h)
    rw [List.set_cons_succ, List.flatMap_cons, List.flatMap_cons, ← ih]
    have e : ∀ j, (i + 1) * 8 + j = (encC y).length + (i * 8 + j) := fun j => by rw [encC_len]; omega
    have e0 : (i + 1) * 8 = (encC y).length + i * 8 := by rw [encC_len]; omega
    rw [e 1, e 2, e 3, e 4, e 5, e 6, e 7, e0]
    simp only [List.set_append_right _ _ (Nat.le_add_right _ _), Nat.add_sub_cancel_left]
theorem own_put8 {w : World} {base g n cap i : Nat} {m : List Rc} {x : Rc} (h : Own encC 63 8 w base (.slice (some ⟨g, 0, none⟩) n cap) m) (hn : n = m.length) (hi : i < n) :
    Own encC 63 8 ((((((((w.setCell ⟨g, i * 8, none⟩ (.int .i64 x.c.b.id)).setCell ⟨g, i * 8 + 1, none⟩ (.int .i64 x.c.b.layers)).setCell ⟨g, i * 8 + 2, none⟩ (.int .i64 x.c.b.dry.lo)).setCell ⟨g, i * 8 + 3, none⟩ (.int .i64 x.c.b.dry.hi)).setCell ⟨g, i * 8 + 4, none⟩ (.slice x.da x.dn x.dc)).setCell ⟨g, i * 8 + 5, none⟩ (.slice x.wa x.wn x.wc)).setCell ⟨g, i * 8 + 6, none⟩ (.int .i64 x.c.len)).setCell ⟨g, i * 8 + 7, none⟩ (.int .i64 x.c.str)) base (.slice (some ⟨g, 0, none⟩) n cap) (m.set i x) := by
  unfold Own at *
  rw [List.length_set, ← hn, ← flat_set8 m i (by omega)]
  rw [← hn] at h
  exact own_cellset (own_cellset (own_cellset (own_cellset (own_cellset (own_cellset (own_cellset (own_cellset h)))))))
theorem grown8 {a W : World} {g : Nat} (h : a.grownBy W (some g)) {i0 i1 i2 i3 i4 i5 i6 i7 : Nat} {y0 y1 y2 y3 y4 y5 y6 y7 : Value} : a.grownBy ((((((((W.setCell ⟨g, i0, none⟩ y0).setCell ⟨g, i1, none⟩ y1).setCell ⟨g, i2, none⟩ y2).setCell ⟨g, i3, none⟩ y3).setCell ⟨g, i4, none⟩ y4).setCell ⟨g, i5, none⟩ y5).setCell ⟨g, i6, none⟩ y6).setCell ⟨g, i7, none⟩ y7) (some g) :=
  grown_set (grown_set (grown_set (grown_set (grown_set (grown_set (grown_set (grown_set h (p := ⟨g, i0, none⟩) (.inl rfl) y0) (p := ⟨g, i1, none⟩) (.inl rfl) y1) (p := ⟨g, i2, none⟩) (.inl rfl) y2) (p := ⟨g, i3, none⟩) (.inl rfl) y3) (p := ⟨g, i4, none⟩) (.inl rfl) y4) (p := ⟨g, i5, none⟩) (.inl rfl) y5) (p := ⟨g, i6, none⟩) (.inl rfl) y6) (p := ⟨g, i7, none⟩) (.inl rfl) y7
theorem own_atC {W : World} {base g n c k : Nat} {m : List Rc} {y : Rc} (h : Own encC 63 8 W base (.slice (some ⟨g, 0, none⟩) n c) m) (hy : m[k]? = some y) :
    W.cell? ⟨g, k * 8, none⟩ = some (.int .i64 y.c.b.id) ∧ W.cell? ⟨g, k * 8 + 1, none⟩ = some (.int .i64 y.c.b.layers) ∧ W.cell? ⟨g, k * 8 + 2, none⟩ = some (.int .i64 y.c.b.dry.lo) ∧ W.cell? ⟨g, k * 8 + 3, none⟩ = some (.int .i64 y.c.b.dry.hi) ∧ W.cell? ⟨g, k * 8 + 4, none⟩ = some (.slice y.da y.dn y.dc) ∧ W.cell? ⟨g, k * 8 + 5, none⟩ = some (.slice y.wa y.wn y.wc) ∧ W.cell? ⟨g, k * 8 + 6, none⟩ = some (.int .i64 y.c.len) ∧ W.cell? ⟨g, k * 8 + 7, none⟩ = some (.int .i64 y.c.str) ∧ g < W.heap.size := by
  have hsl : SlC W (.slice (some ⟨g, 0, none⟩) n c) m := Own.sl (enc := encC) encC_len h
  have hk : k < n := by
    have h1 := (List.getElem?_eq_some_iff.1 hy).1
    obtain ⟨_, _, e, _⟩ := hsl
    injection e with _ e _
    omega
  obtain ⟨bb, off, y', e1, hy', hb, hc⟩ := hsl.at_ hk
  obtain ⟨rfl, rfl⟩ : g = bb ∧ 0 = off := by simpa using e1
  rw [hy] at hy'
  injection hy' with hy'
  subst hy'
  obtain ⟨c0, c1, c2, c3, c4, c5, c6, c7⟩ := SlC.cells hc (Ext.refl _)
  simp only [Nat.zero_add] at c0 c1 c2 c3 c4 c5 c6 c7
  exact ⟨c0, c1, c2, c3, c4, c5, c6, c7, hb⟩
theorem cmpC_any (x y : Rc) (w : World) : Calls Tryz.prog 88 #[valC x, valC y] w fun e w' => e = .returned (.int .i64 (cmpI x.c.b.id y.c.b.id)) ∧ Ext w w' := by
  go_enter Tryz.func88, Tryz.ntmps88
  go_wp2_with fail
  refine (compare_any x.c.b.id y.c.b.id _).mono ?_
  rintro e w1 ⟨rfl, hE1⟩
  have HE1 := Lib.hid ((((Ext.al _ _).alloc _ : Ext w _)).trans hE1); clear hE1
  go_wp2
  go_ret
  exact ⟨rfl, HE1.out⟩

/-- Where a cotton comes to stand. -/
def stopC (S : List Rc) (x : Rc) : Nat → Nat
  | 0 => 0
  | j + 1 => match S[j]? with
    | some y => if x.c.b.id < y.c.b.id then stopC S x j else j + 1
    | none => j + 1
def putC (S : List Rc) (x : Rc) (j : Nat) : List Rc := S.take j ++ x :: S.drop j
def sortC (l : List Rc) : Nat → List Rc
  | 0 => []
  | k + 1 => match l[k]? with
    | some x => putC (sortC l k) x (stopC (sortC l k) x k)
    | none => sortC l k
theorem stopC_le (S : List Rc) (x : Rc) : ∀ j, stopC S x j ≤ j
  | 0 => Nat.le_refl _
  | j + 1 => by
    unfold stopC
    split
    · split
      · exact Nat.le_succ_of_le (stopC_le S x j)
      · exact Nat.le_refl _
    · exact Nat.le_refl _
theorem putC_len (S : List Rc) (x : Rc) {j : Nat} (hj : j ≤ S.length) : (putC S x j).length = S.length + 1 := by unfold putC; simp; omega
theorem sortC_len (l : List Rc) : ∀ k, k ≤ l.length → (sortC l k).length = k
  | 0, _ => rfl
  | k + 1, h => by
    have ih := sortC_len l k (by omega)
    unfold sortC
    rw [List.getElem?_eq_getElem (show k < l.length by omega)]
    simp only
    rw [putC_len _ _ (by rw [ih]; exact stopC_le _ _ _), ih]
theorem putC_at (S T : List Rc) (x : Rc) {j : Nat} (hj : j ≤ S.length) : (putC S x j ++ T)[j]? = some x := by
  unfold putC
  rw [List.append_assoc, List.getElem?_append_right (by simp; omega)]
  simp [List.length_take, Nat.min_eq_left hj]
theorem putC_before (S T : List Rc) (x : Rc) {j : Nat} (hj : j < S.length) : (putC S x (j + 1) ++ T)[j]? = S[j]? := by
  unfold putC
  rw [List.append_assoc, List.getElem?_append_left (by simp; omega), List.getElem?_take, if_pos (by omega)]
theorem putC_swap (S T : List Rc) (x y : Rc) {j : Nat} (hy : S[j]? = some y) : ((putC S x (j + 1) ++ T).set (j + 1) y).set j x = putC S x j ++ T := by
  have hj : j < S.length := (List.getElem?_eq_some_iff.1 hy).1
  have h1 : S.take (j + 1) = S.take j ++ [y] := by rw [List.take_add_one, hy]; rfl
  have h2 : S.drop j = y :: S.drop (j + 1) := drop_at hy
  unfold putC
  rw [h1, h2]
  have hl : (S.take j).length = j := by simp; omega
  rw [show List.take j S ++ [y] ++ x :: List.drop (j + 1) S ++ T = List.take j S ++ (y :: x :: (List.drop (j + 1) S ++ T)) by simp]
  rw [List.set_append_right (j + 1) y (by omega), List.set_append_right j x (by omega), hl]
  rw [show j + 1 - j = 1 by omega, Nat.sub_self]
  simp
theorem putC_end (S T : List Rc) (x : Rc) : putC S x S.length ++ T = S ++ (x :: T) := by unfold putC; simp

set_option maxHeartbeats 2000000 in
theorem f144_any (l : List Rc) (g n c base : Nat) (w : World) (hn : n = l.length) (hn0 : 0 < n) (hn20 : n ≤ 20) (ho : Own encC 63 8 w base (.slice (some ⟨g, 0, none⟩) n c) l) :
    Calls Tryz.prog 144 #[.slice (some ⟨g, 0, none⟩) n c, .int .i64 0, .int .i64 (n : Int), .func (.func 88) #[] #[]] w fun e w' => (∃ v, e = .returned v) ∧ Own encC 63 8 w' base (.slice (some ⟨g, 0, none⟩) n c) (sortC l n) ∧ w.grownBy w' (some g) := by
  have HO := Lib.hid ho
  have HN := Lib.hid hn
  have eg : ∀ args w, (callFunc 88 args).run Tryz.prog w = .ok (.enter 88 args) w := enters_of Tryz.func88 (by kernel_rfl) rfl
  clear ho hn
  go_enter Tryz.func144, Tryz.ntmps144
  go_wp2
  go_loopg [8, 9] n (fun gg s8 _ wr => ∃ i : Nat, 1 ≤ i ∧ i ≤ n ∧ n - i ≤ gg ∧ s8 = .int .i64 (i : Int) ∧ Aside (Own encC 63 8 wr base (.slice (some ⟨g, 0, none⟩) n c) (sortC l i ++ l.drop i)) ∧ Aside (w.grownBy wr (some g)))
  case atStart => exact ⟨1, by omega, by omega, by omega, rfl, by
    have h0 : 0 < l.length := by have := HN.out; omega
    have : sortC l 1 ++ l.drop 1 = l := by
      match l, h0 with
      | x :: r, _ => simp [sortC, stopC, putC]
    rw [this]; exact HO.out, World.grownBy.refl _ _⟩
  case round =>
    obtain ⟨i, hi1, hin, hgg, rfl, OW, GW⟩ := hrel
    by_cases hiN : i < n
    · have hiz : (i : Int) < (n : Int) := by omega
      obtain ⟨x, hx⟩ : ∃ x, l[i]? = some x := ⟨_, List.getElem?_eq_getElem (by have := HN.out; omega)⟩
      have HX := Lib.hid hx
      have HSL := Lib.hid (sortC_len l i (by have := HN.out; omega))
      have HSS := Lib.hid (show sortC l (i + 1) = putC (sortC l i) x (stopC (sortC l i) x i) by rw [sortC, hx])
      have HDR := Lib.hid (show sortC l i ++ l.drop i = putC (sortC l i) x i ++ l.drop (i + 1) by
        rw [drop_at hx]
        have := putC_end (sortC l i) (l.drop (i + 1)) x
        rw [HSL.out] at this
        exact this.symm)
      rw [HDR.out] at OW
      clear hx
      generalize sortC l i = S at *
      generalize hTT : l.drop (i + 1) = T at *
      have HTT := Lib.hid hTT; clear hTT
      obtain ⟨wo, hwo⟩ : ∃ wo : World, wo = wr := ⟨_, rfl⟩
      subst hwo
      go_wp2_with fail
      go_loopg [9] i (fun gg s9 wr => ∃ j : Nat, j ≤ i ∧ j ≤ gg ∧ s9 = .int .i64 (j : Int) ∧ Aside (Own encC 63 8 wr base (.slice (some ⟨g, 0, none⟩) n c) (putC S x j ++ T)) ∧ Aside (stopC S x i = stopC S x j) ∧ Aside (w.grownBy wr (some g)))
      case atStart => exact ⟨i, by omega, by omega, rfl, OW.out, rfl, GW.out⟩
      case round =>
        obtain ⟨j, hji, hgj, rfl, OJ, ST, GJ⟩ := hrel
        by_cases hj0 : j = 0
        · subst hj0
          have HFI := Lib.hid (show Own encC 63 8 wr base (.slice (some ⟨g, 0, none⟩) n c) (sortC l (i + 1) ++ T) by rw [HSS.out, ST.out]; exact OJ.out)
          go_wp2_with fail
          refine wp_region_tame (fun W => Ext wr W) (fun W W' => Ext W W') (by kernel_rfl) 53 rfl (by decide +kernel) (Ext.refl _).drew ?_
          repeat (apply tame_q rfl; (intro ρ W hC hr hD; (obtain ⟨hrc, hrg, hrf, hrs⟩ := hr); (simp [go_sem] at hD); go_simp; first | exact ⟨⟨hC, Ext.refl _⟩, rfl⟩ | exact ⟨⟨hC, RS.refl _⟩, rfl⟩ | exact rfl); simp only [List.nil_append, List.cons_append])
          refine tame_end 53 rfl rfl (fun ρ W hC hr hF => ?_)
          obtain ⟨hrc, hrg, hrf, hrs⟩ := hr
          simp [go_sem] at hF
          apply frame_to
          · go_simp
            exact rfl
          have HFI := Lib.hid (HFI.out.ext hC)
          have GJ2 := Lib.hid (grown_ext GJ.out hC)
          clear hF hrs hrc hrg hrf hC
          go_wp2
          go_roundg (n - (i + 1))
          case measure => omega
          case rel => exact ⟨i + 1, by omega, by omega, by omega, by simp, by rw [HTT.out]; exact HFI.out, GJ2.out⟩
        · obtain ⟨k, hk⟩ : ∃ k, j = k + 1 := ⟨j - 1, by omega⟩
          have HK := Lib.hid hk
          have hkn : k < n := by omega
          have hjn : j < n := by omega
          have hjS : j ≤ S.length := by have := HSL.out; omega
          obtain ⟨y, hy⟩ : ∃ y, S[k]? = some y := ⟨_, List.getElem?_eq_getElem (by omega)⟩
          have HY := Lib.hid hy
          have hsl : SlC wr (.slice (some ⟨g, 0, none⟩) n c) (putC S x j ++ T) := OJ.out.sl (fun _ => rfl)
          obtain ⟨bb, off, x', e1, hx', -, hxc⟩ := hsl.at_ hjn
          injection e1 with e1
          injection e1 with e1 e2 _
          subst e1 e2
          obtain rfl : x' = x := by rw [putC_at S T x hjS] at hx'; injection hx' with h; exact h.symm
          obtain ⟨bb, off, y', e1, hy', -, hyc⟩ := hsl.at_ hkn
          injection e1 with e1
          injection e1 with e1 e2 _
          subst e1 e2
          obtain rfl : y' = y := by rw [hk, putC_before S T x' (by omega), hy] at hy'; injection hy' with h; exact h.symm
          have cx := fun W (h : Ext wr W) => SlC.cells hxc h
          have cy := fun W (h : Ext wr W) => SlC.cells hyc h
          simp only [Nat.zero_add] at cx cy
          have x0 := fun W (h : Ext wr W) => (cx W h).1
          have x1 := fun W (h : Ext wr W) => (cx W h).2.1
          have x2 := fun W (h : Ext wr W) => (cx W h).2.2.1
          have x3 := fun W (h : Ext wr W) => (cx W h).2.2.2.1
          have x4 := fun W (h : Ext wr W) => (cx W h).2.2.2.2.1
          have x5 := fun W (h : Ext wr W) => (cx W h).2.2.2.2.2.1
          have x6 := fun W (h : Ext wr W) => (cx W h).2.2.2.2.2.2.1
          have x7 := fun W (h : Ext wr W) => (cx W h).2.2.2.2.2.2.2
          have y0 := fun W (h : Ext wr W) => (cy W h).1
          have y1 := fun W (h : Ext wr W) => (cy W h).2.1
          have y2 := fun W (h : Ext wr W) => (cy W h).2.2.1
          have y3 := fun W (h : Ext wr W) => (cy W h).2.2.2.1
          have y4 := fun W (h : Ext wr W) => (cy W h).2.2.2.2.1
          have y5 := fun W (h : Ext wr W) => (cy W h).2.2.2.2.2.1
          have y6 := fun W (h : Ext wr W) => (cy W h).2.2.2.2.2.2.1
          have y7 := fun W (h : Ext wr W) => (cy W h).2.2.2.2.2.2.2
          have hjz : (0 : Int) < (j : Int) := by omega
          have hjp : 0 < j := by omega
          have hjz2 : (j : Int) < (n : Int) := by omega
          have hjs : (j : Int) - 1 = (k : Int) := by omega
          have hkz2 : (k : Int) < (n : Int) := by omega
          clear hk hx' hy' hsl hy cx cy hxc hyc
          have hwk := wrap_nat (k := k) (by omega)
          have hmj : (putC S x' j ++ T)[j]? = some x' := putC_at S T x' hjS
          have hmk : (putC S x' j ++ T)[k]? = some y' := by rw [HK.out, putC_before S T x' (by have := HK.out; omega)]; exact HY.out
          have hml : (putC S x' j ++ T).length = n := by have := OJ.out.sl (fun _ => rfl) (enc := encC); obtain ⟨_, _, e, _⟩ := this; injection e with _ e _; exact e.symm
          by_cases hxy : x'.c.b.id < y'.c.b.id
          · have hcv : cmpI x'.c.b.id y'.c.b.id = -1 := by unfold cmpI; rw [if_pos hxy]
            have HST := Lib.hid (show stopC S x' i = stopC S x' k by rw [ST.out, HK.out, stopC, HY.out]; simp only; rw [if_pos hxy])
            have HSW := Lib.hid (show ((putC S x' j ++ T).set j y').set k x' = putC S x' k ++ T by rw [HK.out]; exact putC_swap S T x' y' HY.out)
            go_wp2_with fail
            refine wp_region_tame (fun W => Ext wr W) (fun W W' => Ext W W') (by kernel_rfl) 53 rfl (by decide +kernel) (Ext.refl _).drew ?_
            repeat (apply tame_q rfl; (intro ρ W hC hr hD; (obtain ⟨hrc, hrg, hrf, hrs⟩ := hr); (simp [go_sem] at hD); go_simp; first | exact ⟨⟨hC, Ext.refl _⟩, rfl⟩ | exact ⟨⟨hC, RS.refl _⟩, rfl⟩ | exact rfl); simp only [List.nil_append, List.cons_append])
            apply tame_q rfl
            · intro ρ W hC hr hD
              obtain ⟨hrc, hrg, hrf, hrs⟩ := hr
              simp [go_sem] at hD
              go_simp
              refine (cmpC_any x' y' W).mono ?_
              rintro e w' ⟨rfl, hE⟩
              rw [hcv]
              exact ⟨_, rfl, ⟨hC.trans hE, hE⟩, rfl⟩
            simp only [List.nil_append, List.cons_append]
            repeat (apply tame_q rfl; (intro ρ W hC hr hD; (obtain ⟨hrc, hrg, hrf, hrs⟩ := hr); (simp [go_sem] at hD); go_simp; first | exact ⟨⟨hC, Ext.refl _⟩, rfl⟩ | exact ⟨⟨hC, RS.refl _⟩, rfl⟩ | exact rfl); simp only [List.nil_append, List.cons_append])
            refine tame_end 53 rfl rfl (fun ρ W hC hr hF => ?_)
            obtain ⟨hrc, hrg, hrf, hrs⟩ := hr
            simp [go_sem] at hF
            apply frame_to
            · go_simp
              exact rfl
            have OJ2 := Lib.hid (OJ.out.ext hC)
            have GJ2 := Lib.hid (grown_ext GJ.out hC)
            clear hF hrs hrc hrg hrf x0 x1 x2 x3 x4 x5 x6 x7 y0 y1 y2 y3 y4 y5 y6 y7 hC hcv
            generalize hm0 : putC S x' j ++ T = m0 at *
            go_wp2_with fail
            refine wp_region_tameN_cut (fun W' => W.grownBy W' (some g) ∧ ∃ m, Own encC 63 8 W' base (.slice (some ⟨g, 0, none⟩) n c) m ∧ m.length = n) (fun A B => Own encC 63 8 A base (.slice (some ⟨g, 0, none⟩) n c) (m0.set j y') → Own encC 63 8 B base (.slice (some ⟨g, 0, none⟩) n c) (m0.set j y')) (fun W' => Own encC 63 8 W' base (.slice (some ⟨g, 0, none⟩) n c) m0) 15 (by kernel_rfl) 53 rfl _ rfl (by decide +kernel) (by decide +kernel) (by decide +kernel) rfl ⟨⟨rfl, rfl, rfl, Nat.le_refl _, fun _ _ _ => rfl⟩, m0, OJ2.out, hml⟩ OJ2.out ?_
            simp only [List.dropLast]
            repeat (apply tameN_q rfl; (intro ρ W hC hN hr hD; (obtain ⟨hrc, hrg, hrf, hrs⟩ := hr); (simp [go_sem] at hD); go_simp; first | exact ⟨⟨hC, fun h => h, fun _ h => h⟩, rfl⟩ | exact ⟨hC, fun h => h, fun _ h => h⟩ | exact ⟨⟨hC, ⟨fun h => h, fun h => h⟩, fun _ h => h⟩, rfl⟩ | exact ⟨hC, ⟨fun h => h, fun h => h⟩, fun _ h => h⟩ | exact rfl); simp only [List.nil_append, List.cons_append])
            apply tameN_q rfl
            · intro ρ W' hC hN hr hD
              obtain ⟨hrc, hrg, hrf, hrs⟩ := hr
              simp [go_sem] at hD
              obtain ⟨b0, b1, b2, b3, b4, b5, b6, b7, bl⟩ := own_atC (hN rfl) hmk
              go_simp
              first | exact ⟨⟨hC, fun h => h, fun _ h => h⟩, rfl⟩ | exact ⟨hC, fun h => h, fun _ h => h⟩
            simp only [List.nil_append, List.cons_append]
            repeat (apply tameN_q rfl; (intro ρ W hC hN hr hD; (obtain ⟨hrc, hrg, hrf, hrs⟩ := hr); (simp [go_sem] at hD); go_simp; first | exact ⟨⟨hC, fun h => h, fun _ h => h⟩, rfl⟩ | exact ⟨hC, fun h => h, fun _ h => h⟩ | exact ⟨⟨hC, ⟨fun h => h, fun h => h⟩, fun _ h => h⟩, rfl⟩ | exact ⟨hC, ⟨fun h => h, fun h => h⟩, fun _ h => h⟩ | exact rfl); simp only [List.nil_append, List.cons_append])
            apply tameN_q rfl
            · intro ρ W' hC hN hr hD
              obtain ⟨hrc, hrg, hrf, hrs⟩ := hr
              simp [go_sem] at hD
              obtain ⟨b0, b1, b2, b3, b4, b5, b6, b7, bl⟩ := own_atC (hN rfl) hmj
              go_simp
              first | exact ⟨⟨hC, fun h => h, fun _ h => h⟩, rfl⟩ | exact ⟨hC, fun h => h, fun _ h => h⟩
            simp only [List.nil_append, List.cons_append]
            repeat (apply tameN_q rfl; (intro ρ W hC hN hr hD; (obtain ⟨hrc, hrg, hrf, hrs⟩ := hr); (simp [go_sem] at hD); go_simp; first | exact ⟨⟨hC, fun h => h, fun _ h => h⟩, rfl⟩ | exact ⟨hC, fun h => h, fun _ h => h⟩ | exact ⟨⟨hC, ⟨fun h => h, fun h => h⟩, fun _ h => h⟩, rfl⟩ | exact ⟨hC, ⟨fun h => h, fun h => h⟩, fun _ h => h⟩ | exact rfl); simp only [List.nil_append, List.cons_append])
            apply tameN_n (fun _ W' => Own encC 63 8 W' base (.slice (some ⟨g, 0, none⟩) n c) (m0.set j y')) (fun _ A B _ hR h => hR h)
            · intro ρ W' hC hN hr hD
              obtain ⟨hrc, hrg, hrf, hrs⟩ := hr
              simp [go_sem] at hD
              have h0 := hN rfl
              obtain ⟨a0, a1, a2, a3, a4, a5, a6, a7, al⟩ := own_atC h0 hmj
              have df : ∀ k, W'.frozen? ⟨g, k, none⟩ = false := fun k => own_frozen h0 k
              have h4 := own_put8 (x := y') h0 hml.symm (show j < n from hjn)
              have H4 := Lib.hid h4; have HC := Lib.hid hC.1
              clear h4 h0 hN hC
              go_simp
              exact ⟨⟨⟨grown8 HC.out, _, H4.out, by rw [List.length_set]; exact hml⟩, fun _ => H4.out, fun h => by cases h⟩, H4.out⟩
            simp only [List.nil_append, List.cons_append]
            repeat (apply tameN_q rfl; (intro ρ W hC hN hr hD; (obtain ⟨hrc, hrg, hrf, hrs⟩ := hr); (simp [go_sem] at hD); go_simp; first | exact ⟨⟨hC, fun h => h, fun _ h => h⟩, rfl⟩ | exact ⟨hC, fun h => h, fun _ h => h⟩ | exact ⟨⟨hC, ⟨fun h => h, fun h => h⟩, fun _ h => h⟩, rfl⟩ | exact ⟨hC, ⟨fun h => h, fun h => h⟩, fun _ h => h⟩ | exact rfl); simp only [List.nil_append, List.cons_append])
            refine tameN_end 53 rfl rfl (fun ρ W' hC hr hF => ?_)
            obtain ⟨hrc, hrg, hrf, hrs⟩ := hr
            simp [go_sem] at hF
            obtain ⟨f37, f38, f39, f40, f41, f42, f43, f44, f45, f46, f47, f48, f49, f50, f51, fS, f52⟩ := hF
            apply frame_to
            · go_simp
              exact rfl
            have OJ4 := Lib.hid fS
            have GJ3 := Lib.hid (grown_tr GJ2.out hC.1)
            clear f37 f38 f39 f40 f41 f42 f43 f44 f45 f46 f47 f48 f49 f50 f51 fS f52 hrs hrc hrg hrf hC
            have hne : ¬ j = k := by have := HK.out; omega
            obtain ⟨b0, b1, b2, b3, b4, b5, b6, b7, bl⟩ := own_atC OJ4.out (show (m0.set j y')[k]? = some y' by rw [List.getElem?_set, if_neg hne]; exact hmk)
            have df : ∀ k, W'.frozen? ⟨g, k, none⟩ = false := fun k => own_frozen OJ4.out k
            have OJ5 := Lib.hid (own_put8 (x := x') OJ4.out (by rw [List.length_set]; exact hml.symm) (show k < n from hkn))
            rw [HSW.out] at OJ5
            clear hmj hmk
            go_wp2
            go_roundg k
            case measure => have := HK.out; omega
            case rel => exact ⟨k, by have := HK.out; omega, by omega, rfl, OJ5.out, HST.out, grown8 GJ3.out⟩
          · have hcn : ¬ cmpI x'.c.b.id y'.c.b.id < 0 := by unfold cmpI; rw [if_neg hxy]; split <;> omega
            have hcd : decide (cmpI x'.c.b.id y'.c.b.id < 0) = false := decide_eq_false hcn
            have HFI := Lib.hid (show Own encC 63 8 wr base (.slice (some ⟨g, 0, none⟩) n c) (sortC l (i + 1) ++ T) by
              rw [HSS.out, ST.out, show stopC S x' j = j by rw [HK.out, stopC, HY.out]; simp only; rw [if_neg hxy]]
              exact OJ.out)
            go_wp2_with fail
            refine wp_region_tame (fun W => Ext wr W) (fun W W' => Ext W W') (by kernel_rfl) 53 rfl (by decide +kernel) (Ext.refl _).drew ?_
            repeat (apply tame_q rfl; (intro ρ W hC hr hD; (obtain ⟨hrc, hrg, hrf, hrs⟩ := hr); (simp [go_sem] at hD); go_simp; first | exact ⟨⟨hC, Ext.refl _⟩, rfl⟩ | exact ⟨⟨hC, RS.refl _⟩, rfl⟩ | exact rfl); simp only [List.nil_append, List.cons_append])
            apply tame_q rfl
            · intro ρ W hC hr hD
              obtain ⟨hrc, hrg, hrf, hrs⟩ := hr
              simp [go_sem] at hD
              go_simp
              refine (cmpC_any x' y' W).mono ?_
              rintro e w' ⟨rfl, hE⟩
              exact ⟨_, rfl, ⟨hC.trans hE, hE⟩, rfl⟩
            simp only [List.nil_append, List.cons_append]
            repeat (apply tame_q rfl; (intro ρ W hC hr hD; (obtain ⟨hrc, hrg, hrf, hrs⟩ := hr); (simp [go_sem] at hD); go_simp; first | exact ⟨⟨hC, Ext.refl _⟩, rfl⟩ | exact ⟨⟨hC, RS.refl _⟩, rfl⟩ | exact rfl); simp only [List.nil_append, List.cons_append])
            refine tame_end 53 rfl rfl (fun ρ W hC hr hF => ?_)
            obtain ⟨hrc, hrg, hrf, hrs⟩ := hr
            simp [go_sem] at hF
            apply frame_to
            · go_simp
              exact rfl
            have HFI := Lib.hid (HFI.out.ext hC)
            have GJ2 := Lib.hid (grown_ext GJ.out hC)
            clear hF hrs hrc hrg hrf x0 x1 x2 x3 x4 x5 x6 x7 y0 y1 y2 y3 y4 y5 y6 y7 hC
            go_wp2
            go_roundg (n - (i + 1))
            case measure => omega
            case rel => exact ⟨i + 1, by omega, by omega, by omega, by simp, by rw [HTT.out]; exact HFI.out, GJ2.out⟩
    · have hie : i = n := by omega
      subst hie
      have HF := Lib.hid (show sortC l i ++ l.drop i = sortC l i by rw [List.drop_eq_nil_of_le (by have := HN.out; omega), List.append_nil])
      go_wp2
      refine bodyPost_end (results_none rfl _ _ _) rfl ?_
      exact ⟨⟨_, rfl⟩, by rw [← HF.out]; exact OW.out, GW.out⟩

theorem f117_any (l : List Rc) (g n c base : Nat) (w : World) (hn : n = l.length) (hn0 : 0 < n) (hn20 : n < 20) (ho : Own encC 63 8 w base (.slice (some ⟨g, 0, none⟩) n c) l) :
    Calls Tryz.prog 117 #[.slice (some ⟨g, 0, none⟩) n c, .int .i64 (n : Int), .func (.func 88) #[] #[]] w fun e w' => (∃ v, e = .returned v) ∧ Own encC 63 8 w' base (.slice (some ⟨g, 0, none⟩) n c) (sortC l n) ∧ w.grownBy w' (some g) := by
  have HI := Lib.hid (f144_any l g n c base w hn hn0 (by omega) ho)
  have h1 : (n : Int) < 20 := by omega
  clear ho hn
  go_enter Tryz.func117, Tryz.ntmps117
  go_wp2
  go_loopg [7, 8] 1 (fun gg s7 s8 wr => gg = 1 ∧ s7 = .int .i64 0 ∧ s8 = .int .i64 20 ∧ wr = w)
  case atStart => exact ⟨rfl, rfl, rfl, rfl⟩
  case round =>
    obtain ⟨rfl, rfl, rfl, rfl⟩ := hrel
    go_wp2_with fail
    refine HI.out.mono ?_
    rintro e w2 ⟨⟨v, rfl⟩, ho, hg⟩
    have HO := Lib.hid ho; have HG := Lib.hid hg
    clear ho hg HI
    go_wp2
    go_loopg [6, 7, 8, 9] 1 (fun gg s6 s7 s8 _ wr => gg = 1 ∧ s6 = .int .i64 20 ∧ s7 = .int .i64 0 ∧ s8 = .int .i64 20 ∧ wr = w2)
    case atStart => exact ⟨rfl, rfl, rfl, rfl, rfl⟩
    case round =>
      obtain ⟨rfl, rfl, rfl, rfl, rfl⟩ := hrel
      go_wp2
      refine bodyPost_end (results_none rfl _ _ _) rfl ?_
      exact ⟨⟨_, rfl⟩, HO.out, HG.out⟩
theorem f87_any (l : List Rc) (g n c base : Nat) (w : World) (hn : n = l.length) (hn0 : 0 < n) (hn20 : n < 20) (ho : Own encC 63 8 w base (.slice (some ⟨g, 0, none⟩) n c) l) :
    Calls Tryz.prog 87 #[.slice (some ⟨g, 0, none⟩) n c, .func (.func 88) #[] #[]] w fun e w' => (∃ v, e = .returned v) ∧ Own encC 63 8 w' base (.slice (some ⟨g, 0, none⟩) n c) (sortC l n) ∧ w.grownBy w' (some g) := by
  have HI := Lib.hid (f117_any l g n c base w hn hn0 hn20 ho)
  clear ho hn
  go_enter Tryz.func87, Tryz.ntmps87
  go_wp2_with fail
  refine HI.out.mono ?_
  rintro e w2 ⟨⟨v, rfl⟩, ho, hg⟩
  have HO := Lib.hid ho; have HG := Lib.hid hg
  clear ho hg HI
  go_wp2
  refine bodyPost_end (results_none rfl _ _ _) rfl ?_
  exact ⟨⟨_, rfl⟩, HO.out, HG.out⟩
end Go.Proofs.YtkpengeaolcjhaaGreatDoor
