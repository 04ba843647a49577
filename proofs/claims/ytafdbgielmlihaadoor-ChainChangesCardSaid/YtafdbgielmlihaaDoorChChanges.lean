/- middlinglaw06.ChainChanges: the walk. Printed by genchch.py. -/
import Derived.Test.YtafdbgielmlihaaDoorChJ
namespace Go.Proofs.YtafdbgielmlihaaDoor
open Go.RowKit Go.Shelf Go.Lib
set_option maxRecDepth 100000
set_option linter.unusedSimpArgs false

/-- What stands still while the law runs. -/
structure Cs (c : Chn) (x : Sale) (l : List Int) (w : World) (q : Nat) (hv sv lv h2 s2 mv : Value) (W : World) : Prop where
  e : Ext w W
  p : Blk W w.heap.size 25 #[hv, sv]
  x : Blk W (w.heap.size + 1) 68 #[.int .i64 x.number, .int .i64 x.seller, .int .i64 x.buyer, .int .i64 x.bales, .int .i64 x.price]
  q : Blk W q 25 #[h2, s2]
  t : Tab W
  a1 : SlI W hv c.houses
  a2 : SlL W sv c.sales
  b1 : SlI W h2 c.houses
  b2 : SlL W s2 c.sales
  al : SlI W lv l
  am : SlI W mv l
theorem Cs.ext {c : Chn} {x : Sale} {l : List Int} {w : World} {q : Nat} {hv sv lv h2 s2 mv : Value} {W W' : World} (h : Cs c x l w q hv sv lv h2 s2 mv W) (e : Ext W W') : Cs c x l w q hv sv lv h2 s2 mv W' :=
  ⟨h.e.trans e, h.p.ext e, h.x.ext e, h.q.ext e, h.t.ext e, h.a1.ext e, h.a2.ext e, h.b1.ext e, h.b2.ext e, h.al.ext e, h.am.ext e⟩
/-- A chain that was returned, in its box: its lists lie in the blocks from lo on below the box. -/
structure Bx (C : Chn) (lo g : Nat) (hv sv : Value) (W : World) : Prop where
  b : Blk W g 25 #[hv, sv]
  d : Own encI 3 1 W lo hv C.houses
  w : Own encL 68 5 W lo sv C.sales
  td : ∀ r, hv.ownBlock = some r → r < g
  tw : ∀ r, sv.ownBlock = some r → r < g
theorem Bx.ext {C : Chn} {lo g : Nat} {hv sv : Value} {W W' : World} (h : Bx C lo g hv sv W) (e : Ext W W') : Bx C lo g hv sv W' := ⟨h.b.ext e, h.d.ext e, h.w.ext e, h.td, h.tw⟩
theorem Bx.gap {C : Chn} {lo g lo' hi : Nat} {hv sv : Value} {W W' : World} (h : Bx C lo g hv sv W) (e : Gap lo' hi W W') (h1 : hi ≤ lo) (h2 : hi ≤ g) : Bx C lo g hv sv W' := ⟨e.blk h.b (.inr h2), e.own h.d h1, e.own h.w h1, h.td, h.tw⟩
theorem TwinC.form {C : Chn} {lo : Nat} {v : Value} {W : World} (h : TwinC C lo v W) : ∃ A n c A2 n2 c2, v = .agg #[.slice A n c, .slice A2 n2 c2] ∧
    Bx C lo W.heap.size (.slice A n c) (.slice A2 n2 c2) (W.alloc (.cells #[.slice A n c, .slice A2 n2 c2] 25)) ∧
    Ext W (W.alloc (.cells #[.slice A n c, .slice A2 n2 c2] 25)) := by
  obtain ⟨hv, sv, rfl, o1, o2⟩ := h
  obtain ⟨A, n, c, rfl, -, -, -⟩ := (show SlI W hv C.houses from o1.sl (fun _ => rfl)).form
  obtain ⟨A2, n2, c2, rfl, -, -, -⟩ := (show SlL W sv C.sales from o2.sl (fun _ => rfl)).form
  exact ⟨A, n, c, A2, n2, c2, rfl, ⟨Blk.new _ _ _, o1.alloc _, o2.alloc _, own_top o1, own_top o2⟩, Ext.al _ _⟩

theorem putC_len (c : Chn) (x : Sale) (h : c.houses.length ≤ 15 ∧ c.sales.length ≤ 30) : (putC c x).houses.length ≤ 1000 ∧ (putC c x).sales.length ≤ 1000 := by
  unfold putC
  split
  · have := withC_len c x
    exact ⟨by show c.houses.length ≤ 1000; omega, by omega⟩
  · exact ⟨by simp [noC], by simp [noC]⟩
theorem lessC_len (c : Chn) (p : Sale → Bool) (h : c.houses.length ≤ 15 ∧ c.sales.length ≤ 30) : (lessC c p).houses.length ≤ 1000 ∧ (lessC c p).sales.length ≤ 1000 := by
  have h2 : (lessC c p).sales.length ≤ c.sales.length := List.length_filter_le _ _
  exact ⟨by show c.houses.length ≤ 1000; omega, by omega⟩
theorem strikeC_len (c : Chn) (l : List Int) (h : c.houses.length ≤ 15 ∧ c.sales.length ≤ 30) : (strikeC c l).houses.length ≤ 1000 ∧ (strikeC c l).sales.length ≤ 1000 := by
  unfold strikeC
  split
  · exact lessC_len c _ h
  · exact ⟨by simp [noC], by simp [noC]⟩
theorem stopC_len (c : Chn) (k : Int) (h : c.houses.length ≤ 15 ∧ c.sales.length ≤ 30) : (stopC c k).houses.length ≤ 1000 ∧ (stopC c k).sales.length ≤ 1000 := by
  unfold stopC
  split
  · exact lessC_len c _ h
  · exact ⟨by simp [noC], by simp [noC]⟩

set_option maxHeartbeats 4000000 in
theorem changesLaw_any (c : Chn) (x : Sale) (l : List Int) (k : Int) (hv sv lv : Value) (w : World) (hT : Tab w) (hh : SlI w hv c.houses) (hs : SlL w sv c.sales) (hl : SlI w lv l) :
    Calls Tryd.prog 7 #[valC hv sv, valL x, lv, .int .i64 k] w fun e w' => e = .returned (.bool true) ∧ Ext w w' := by
  have HT := Lib.hid hT
  have HH := Lib.hid hh; have HS := Lib.hid hs; have HL := Lib.hid hl
  obtain ⟨A, n, cp, rfl, hn, hlc, hcm⟩ := hh.form
  obtain ⟨A2, n2, cp2, rfl, hn2, hlc2, hcm2⟩ := hs.form
  obtain ⟨A3, n3, cp3, rfl, hn3, hlc3, hcm3⟩ := hl.form
  clear hh hs hT hl
  dsimp only [valL]
  go_enter Tryd.func7, Tryd.ntmps7
  go_wp2_with fail
  generalize hw0 : ((w.alloc (.cells #[.slice A n cp, .slice A2 n2 cp2] 25)).alloc (.cells #[.int .i64 x.number, .int .i64 x.seller, .int .i64 x.buyer, .int .i64 x.bales, .int .i64 x.price] 68)) = w0
  have HE0 := Lib.hid (show Ext w w0 from hw0 ▸ (Ext.al _ _).alloc _)
  have HB0 := Lib.hid (show Blk w0 w.heap.size 25 #[.slice A n cp, .slice A2 n2 cp2] from hw0 ▸ (Blk.new _ _ _).alloc _)
  have HX0 := Lib.hid (show Blk w0 (w.heap.size + 1) 68 #[.int .i64 x.number, .int .i64 x.seller, .int .i64 x.buyer, .int .i64 x.bales, .int .i64 x.price] from hw0 ▸ Blk.at_ (by simp))
  clear hw0
  refine (great_any c _ _ _ (HH.out.ext HE0.out) (HS.out.ext HE0.out)).mono ?_
  rintro e w1 ⟨rfl, hE⟩
  have HE1 := Lib.hid (HE0.out.trans hE)
  have HB1 := Lib.hid (HB0.out.ext hE); have HX1 := Lib.hid (HX0.out.ext hE)
  clear hE HB0 HX0
  cases hg : greatB c with
  | true =>
    go_wp2
    go_ret
    exact ⟨rfl, HE1.out⟩
  | false =>
    have hlen : c.houses.length ≤ 15 ∧ c.sales.length ≤ 30 := by
      unfold greatB at hg; simp at hg; omega
    clear hg
    have HLE := Lib.hid hlen; clear hlen
    by_cases h3 : 30 < n3
    · have h3z : (30 : Int) < (n3 : Int) := by omega
      go_wp2
      go_ret
      exact ⟨rfl, HE1.out⟩
    · have h3z : ¬ (30 : Int) < (n3 : Int) := by omega
      have HLL := Lib.hid (show l.length ≤ 30 by have := hn3.out; omega)
      have x0 := HB1.out.c2
      go_wp2_with fail
      clear h3 h3z x0
      refine (twin_any c _ _ _ (HH.out.ext HE1.out) (HS.out.ext HE1.out) (by have := HLE.out; omega) (by have := HLE.out; omega)).mono ?_
      rintro e w2 ⟨⟨v, rfl, tv⟩, hE2⟩
      obtain ⟨dv, wv, rfl, o1, o2⟩ := tv
      obtain ⟨Ad, nd, cd, rfl, -, -, -⟩ := (show SlI w2 dv c.houses from o1.sl (fun _ => rfl)).form
      obtain ⟨Aw, nw, cw, rfl, -, -, -⟩ := (show SlL w2 wv c.sales from o2.sl (fun _ => rfl)).form
      have HTD := Lib.hid (show SlI w2 (.slice Ad nd cd) c.houses from o1.sl (fun _ => rfl))
      have HTW := Lib.hid (show SlL w2 (.slice Aw nw cw) c.sales from o2.sl (fun _ => rfl))
      have HE2 := Lib.hid (HE1.out.trans hE2)
      have HBx := Lib.hid (HB1.out.ext hE2); have HX2 := Lib.hid (HX1.out.ext hE2)
      clear o1 o2 hE2 HB1 HX1 HE0 HE1
      dsimp only [valC]
      go_wp2_with (at_builtin; refine wpList_copyE (enc := encI) (e := 3) (sz := 1) Tryd.underlying22 info3x rfl (by decide) (by decide) (fun _ => rfl) rfl (.tmp 33) (.tmp 34) rfl (base := w2.heap.size) (g := w2.heap.size) rfl rfl (Blk.new _ _ _) (Nat.le_refl _) (by simp) ((HL.out.ext HE2.out).ext (Ext.al _ _)) (by have := HLL.out; omega) ?_)
      intro v1 w4 hown hext
      have HM := Lib.hid hown
      have hE := (Ext.al w2 (.cells #[] 3)).trans hext
      have HE4 := Lib.hid (HE2.out.trans hE)
      have HB4 := Lib.hid (HBx.out.ext hE); have HX4 := Lib.hid (HX2.out.ext hE)
      have HTD4 := Lib.hid (HTD.out.ext hE); have HTW4 := Lib.hid (HTW.out.ext hE)
      clear hown hext hE HE2 HBx HX2 HTD HTW
      have a0 := (HX4.out.alloc (.cells #[.slice Ad nd cd, .slice Aw nw cw] 25)).c5
      go_wp2_with fail
      clear a0
      have S := Lib.hid (show Cs c x l w w4.heap.size (.slice A n cp) (.slice A2 n2 cp2) (.slice A3 n3 cp3) (.slice Ad nd cd) (.slice Aw nw cw) v1 (w4.alloc (.cells #[.slice Ad nd cd, .slice Aw nw cw] 25)) from
        ⟨HE4.out.alloc _, HB4.out.alloc _, HX4.out.alloc _, Blk.new _ _ _, (HT.out.ext HE4.out).ext (Ext.al _ _), (HH.out.ext HE4.out).ext (Ext.al _ _), (HS.out.ext HE4.out).ext (Ext.al _ _), HTD4.out.ext (Ext.al _ _), HTW4.out.ext (Ext.al _ _), (HL.out.ext HE4.out).ext (Ext.al _ _), (show SlI w4 v1 l from HM.out.sl (fun _ => rfl)).ext (Ext.al _ _)⟩)
      have E8 := Lib.hid (Ext.refl (w4.alloc (.cells #[.slice Ad nd cd, .slice Aw nw cw] 25)))
      have S0 := S
      clear HT HH HS HL HB4 HX4 HTD4 HTW4 HM HE4
      refine (put_any c x _ _ _ S.out.t S.out.b1 S.out.b2 (by have := HLE.out; omega) (by have := HLE.out; omega)).mono ?_
      rintro e w5 ⟨⟨v, rfl, tv⟩, hE⟩
      obtain ⟨A1q, n1q, c1q, A2q, n2q, c2q, rfl, bx, he⟩ := tv.form
      replace hE := hE.trans he
      have Lq := Lib.hid E8.out.size
      have Bq := Lib.hid bx
      replace S := Lib.hid (S.out.ext hE)
      replace E8 := Lib.hid (E8.out.trans hE)
      clear tv bx hE he
      have x0 := S.out.p.c2
      have a0 := S.out.x.c5
      go_wp2_with fail
      clear x0 a0
      refine (refPut_any c x _ _ _ S.out.a1 S.out.a2 (by have := HLE.out; omega) (by have := HLE.out; omega)).mono ?_
      rintro e w6 ⟨⟨v, rfl, tv⟩, hE⟩
      obtain ⟨A1r, n1r, c1r, A2r, n2r, c2r, rfl, bx, he⟩ := tv.form
      replace hE := hE.trans he
      replace Bq := Lib.hid (Bq.out.ext hE)
      have Br := Lib.hid bx
      replace S := Lib.hid (S.out.ext hE)
      replace E8 := Lib.hid (E8.out.trans hE)
      clear tv bx hE he
      have x0 := S.out.q.c2
      go_wp2_with fail
      clear x0
      refine (strike_any c l _ _ _ _ S.out.t S.out.b1 S.out.b2 S.out.am (by have := HLE.out; omega) (by have := HLE.out; omega)).mono ?_
      rintro e w7 ⟨⟨v, rfl, tv⟩, hE⟩
      obtain ⟨A1s, n1s, c1s, A2s, n2s, c2s, rfl, bx, he⟩ := tv.form
      have Zqs := Lib.hid (show _ ∧ _ from ⟨Nat.le_of_lt Bq.out.b.lt, Nat.le_trans (Nat.le_of_lt Bq.out.b.lt) hE.size⟩)
      replace hE := hE.trans he
      have Ls := Lib.hid E8.out.size
      replace Bq := Lib.hid (Bq.out.ext hE)
      replace Br := Lib.hid (Br.out.ext hE)
      have Bs := Lib.hid bx
      replace S := Lib.hid (S.out.ext hE)
      replace E8 := Lib.hid (E8.out.trans hE)
      clear tv bx hE he
      have x0 := S.out.p.c2
      go_wp2_with fail
      clear x0
      refine (refStrike_any c l _ _ _ _ S.out.a1 S.out.a2 S.out.al (by have := HLE.out; omega) (by have := HLE.out; omega) (by have := HLL.out; omega)).mono ?_
      rintro e w8 ⟨⟨v, rfl, tv⟩, hE⟩
      obtain ⟨A1t, n1t, c1t, A2t, n2t, c2t, rfl, bx, he⟩ := tv.form
      replace hE := hE.trans he
      replace Bq := Lib.hid (Bq.out.ext hE)
      replace Br := Lib.hid (Br.out.ext hE)
      replace Bs := Lib.hid (Bs.out.ext hE)
      have Bt := Lib.hid bx
      replace S := Lib.hid (S.out.ext hE)
      replace E8 := Lib.hid (E8.out.trans hE)
      clear tv bx hE he
      have x0 := S.out.q.c2
      go_wp2_with fail
      clear x0
      refine (stop_any c k _ _ _ S.out.t S.out.b1 S.out.b2 (by have := HLE.out; omega) (by have := HLE.out; omega)).mono ?_
      rintro e w9 ⟨⟨v, rfl, tv⟩, hE⟩
      obtain ⟨A1u, n1u, c1u, A2u, n2u, c2u, rfl, bx, he⟩ := tv.form
      have Zqu := Lib.hid (show _ ∧ _ from ⟨Nat.le_of_lt Bq.out.b.lt, Nat.le_trans (Nat.le_of_lt Bq.out.b.lt) hE.size⟩)
      have Zsu := Lib.hid (show _ ∧ _ from ⟨Nat.le_of_lt Bs.out.b.lt, Nat.le_trans (Nat.le_of_lt Bs.out.b.lt) hE.size⟩)
      replace hE := hE.trans he
      have Lu := Lib.hid E8.out.size
      replace Bq := Lib.hid (Bq.out.ext hE)
      replace Br := Lib.hid (Br.out.ext hE)
      replace Bs := Lib.hid (Bs.out.ext hE)
      replace Bt := Lib.hid (Bt.out.ext hE)
      have Bu := Lib.hid bx
      replace S := Lib.hid (S.out.ext hE)
      replace E8 := Lib.hid (E8.out.trans hE)
      clear tv bx hE he
      have x0 := S.out.p.c2
      go_wp2_with fail
      clear x0
      refine (refStop_any c k _ _ _ S.out.a1 S.out.a2 (by have := HLE.out; omega) (by have := HLE.out; omega)).mono ?_
      rintro e w10 ⟨⟨v, rfl, tv⟩, hE⟩
      obtain ⟨A1v, n1v, c1v, A2v, n2v, c2v, rfl, bx, he⟩ := tv.form
      replace hE := hE.trans he
      replace Bq := Lib.hid (Bq.out.ext hE)
      replace Br := Lib.hid (Br.out.ext hE)
      replace Bs := Lib.hid (Bs.out.ext hE)
      replace Bt := Lib.hid (Bt.out.ext hE)
      replace Bu := Lib.hid (Bu.out.ext hE)
      have Bv := Lib.hid bx
      replace S := Lib.hid (S.out.ext hE)
      replace E8 := Lib.hid (E8.out.trans hE)
      clear tv bx hE he
      have p0 := Bq.out.b.c2
      have r0 := Br.out.b.c2
      go_wp2_with fail
      clear p0 r0
      refine (same_any _ _ _ _ _ _ (Bq.out.d.sl fun _ => rfl) (Bq.out.w.sl fun _ => rfl) (Br.out.d.sl fun _ => rfl) (Br.out.w.sl fun _ => rfl)).mono ?_
      rintro e w11 ⟨rfl, hE⟩
      replace Bq := Lib.hid (Bq.out.ext hE)
      replace Bs := Lib.hid (Bs.out.ext hE)
      replace Bt := Lib.hid (Bt.out.ext hE)
      replace Bu := Lib.hid (Bu.out.ext hE)
      replace Bv := Lib.hid (Bv.out.ext hE)
      replace E8 := Lib.hid (E8.out.trans hE)
      clear hE Br
      have p0 := Bs.out.b.c2
      have r0 := Bt.out.b.c2
      go_wp2_with fail
      clear p0 r0
      refine (same_any _ _ _ _ _ _ (Bs.out.d.sl fun _ => rfl) (Bs.out.w.sl fun _ => rfl) (Bt.out.d.sl fun _ => rfl) (Bt.out.w.sl fun _ => rfl)).mono ?_
      rintro e w12 ⟨rfl, hE⟩
      replace Bq := Lib.hid (Bq.out.ext hE)
      replace Bs := Lib.hid (Bs.out.ext hE)
      replace Bu := Lib.hid (Bu.out.ext hE)
      replace Bv := Lib.hid (Bv.out.ext hE)
      replace E8 := Lib.hid (E8.out.trans hE)
      clear hE Bt
      have p0 := Bu.out.b.c2
      have r0 := Bv.out.b.c2
      go_wp2_with fail
      clear p0 r0
      refine (same_any _ _ _ _ _ _ (Bu.out.d.sl fun _ => rfl) (Bu.out.w.sl fun _ => rfl) (Bv.out.d.sl fun _ => rfl) (Bv.out.w.sl fun _ => rfl)).mono ?_
      rintro e w13 ⟨rfl, hE⟩
      replace Bq := Lib.hid (Bq.out.ext hE)
      replace Bs := Lib.hid (Bs.out.ext hE)
      replace Bu := Lib.hid (Bu.out.ext hE)
      replace E8 := Lib.hid (E8.out.trans hE)
      clear hE Bv
      have p0 := Bq.out.b.c2
      go_wp2_with fail
      clear p0
      refine (spoilC_any _ _ _ _ _ Bq.out.d Bq.out.w (putC_len c x HLE.out).1 (putC_len c x HLE.out).2 _ Bq.out.td Bq.out.tw).mono ?_
      rintro e w14 ⟨⟨v, rfl⟩, hE⟩
      replace Bs := Lib.hid (Bs.out.gap hE Zqs.out.1 Zqs.out.2)
      replace Bu := Lib.hid (Bu.out.gap hE Zqu.out.1 Zqu.out.2)
      replace E8 := Lib.hid (hE.ext E8.out Lq.out)
      clear hE Bq
      have p0 := Bs.out.b.c2
      go_wp2_with fail
      clear p0
      refine (spoilC_any _ _ _ _ _ Bs.out.d Bs.out.w (strikeC_len c l HLE.out).1 (strikeC_len c l HLE.out).2 _ Bs.out.td Bs.out.tw).mono ?_
      rintro e w15 ⟨⟨v, rfl⟩, hE⟩
      replace Bu := Lib.hid (Bu.out.gap hE Zsu.out.1 Zsu.out.2)
      replace E8 := Lib.hid (hE.ext E8.out Ls.out)
      clear hE Bs
      have p0 := Bu.out.b.c2
      go_wp2_with fail
      clear p0
      refine (spoilC_any _ _ _ _ _ Bu.out.d Bu.out.w (stopC_len c k HLE.out).1 (stopC_len c k HLE.out).2 _ Bu.out.td Bu.out.tw).mono ?_
      rintro e w16 ⟨⟨v, rfl⟩, hE⟩
      replace E8 := Lib.hid (hE.ext E8.out Lu.out)
      clear hE Bu
      clear S
      have S := Lib.hid (S0.out.ext E8.out)
      clear E8 S0
      have x0 := S.out.p.c2
      have y0 := S.out.q.c2
      go_wp2_with fail
      clear x0 y0
      refine (same_any c _ _ _ _ _ S.out.b1 S.out.b2 S.out.a1 S.out.a2).mono ?_
      rintro e w17 ⟨rfl, hE⟩
      replace S := Lib.hid (S.out.ext hE); clear hE
      go_wp2_with fail
      refine (sameInts_any l _ _ _ S.out.am S.out.al).mono ?_
      rintro e w18 ⟨rfl, hE⟩
      replace S := Lib.hid (S.out.ext hE); clear hE
      go_wp2
      go_ret
      exact ⟨rfl, S.out.e⟩
end Go.Proofs.YtafdbgielmlihaaDoor
