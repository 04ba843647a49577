/- The reference's with: a mill with a cotton laid in at its place. -/
import Derived.Test.YtkpengeaolcjhaaDoorPkMlChangesCardA
import Derived.Test.YtkpengeaolcjhaaDoorPkMlTellsCardT
namespace Go.Proofs.YtkpengeaolcjhaaDoor
open Go.RowKit Go.Shelf Go.Lib
set_option maxRecDepth 100000
set_option linter.unusedSimpArgs false

/-- append of cottons onto a slice of the call's own. -/
theorem run_appC {W : World} {base : Nat} {v x : Value} {p m : List Rc} {ty : TypeId} (hown : Own encC 61 8 W base v p) (hl : p.length + m.length ≤ 1000) (hb : base ≤ W.heap.size) (hx : SlC W x m) :
    ∃ v' W', (Builtin.append_ #[22, 22] ty #[v, x]).run Tryd.prog W = .ok v' W' ∧ Own encC 61 8 W' base v' (p ++ m) ∧ Below base W W' ∧ OffX 61 W W' := by
  obtain ⟨i0, hi, hz0, hz1, hz2⟩ := info_parts info61x
  by_cases h0 : m.length = 0
  · have : m = [] := List.eq_nil_of_length_eq_zero h0
    subst this
    obtain ⟨A2, c2, rfl, _, _, _⟩ := hx
    obtain ⟨A3, n3, c3, rfl, hn3, hlc, _⟩ := (Own.sl (enc := encC) encC_len hown : SlC W v p).form
    have hrun := run_append_nothing (P := Tryd.prog) W 22 22 ty 61 i0 Tryd.underlying22 hi A3 n3 c3 hlc (.slice A2 0 c2)
      ⟨.inl ⟨61, Tryd.underlying22⟩, fun _ => by simp [Builtin.lenOf], by cases A2 <;> simp [Builtin.firstCells, loadCells, loadCellsFrom], by cases A2 <;> simp [Builtin.firstCells, loadCells, loadCellsFrom], by simp, by simp⟩
    refine ⟨_, _, hrun, ?_, Below.refl _ _, fun _ _ _ _ h => h⟩
    rw [List.append_nil]
    exact hown
  · obtain ⟨A2, c, rfl, hlc2, hcm2, hcell⟩ := id hx
    obtain ⟨b, off, rfl, hbb, _⟩ := hcell (by omega)
    clear hcell
    have hnews := Sl.flat (enc := encC) encC_len (by decide) hx
    have hml := enc_len (enc := encC) encC_len m
    have h1' : ∀ u ∈ m.flatMap encC, u.oneCell' = true := fun u hu => by
      obtain ⟨q, _, hq⟩ := List.mem_flatMap.1 hu
      exact encC_one q u hq
    obtain ⟨v', W', hr, h1, h2, _⟩ := run_append_own (P := Tryd.prog) W base 22 ty 61 i0 _ 8 96 Tryd.underlying22 hi hz0 hz1 hz2 rfl (by decide) v p.length (p.flatMap encC) hown ⟨b, off, none⟩ m.length c (m.flatMap encC) hml hnews h1' (by unfold maxLen; omega) (by omega) hb
    have h1o : Own encC 61 8 W' base v' (p ++ m) := by unfold Own; rw [List.length_append, List.flatMap_append]; exact h1
    exact ⟨v', W', hr, h1o, (Below.refl base W).grown h2 hb (fun k hk => (World.ownsRow.lt hown k hk).1), OffX.grown (enc := encC) (sz := 8) hown h2⟩
theorem wpList_appC {ops : Array Oper} {rest : List Oper} {o : Oper} {a : Act} {Q : Exit → Act → World → Prop} {W : World} (hgd : o.guard = none) (s x : Operand)
    (ho : o.op = .call { callee := .builtin .append, args := #[s, x], argTypes := #[22, 22] }) {base : Nat} {v u : Value} {p m : List Rc} (hs : a.eval s = v) (hx : a.eval x = u)
    (hown : Own encC 61 8 W base v p) (hl : p.length + m.length ≤ 1000) (hb : base ≤ W.heap.size) (hsl : SlC W u m)
    (h : ∀ A n c W', n = (p ++ m).length → Own encC 61 8 W' base (.slice A n c) (p ++ m) → Below base W W' → OffX 61 W W' → wpList Tryd.prog ops Q rest (a.put o.dst (.slice A n c)) W') : wpList Tryd.prog ops Q (o :: rest) a W := by
  obtain ⟨v', W', hr, h1, h2, h3⟩ := run_appC (ty := o.type) hown hl hb hsl
  obtain ⟨A, n, c, rfl, hn, -, -⟩ := (Own.sl (enc := encC) encC_len h1 : SlC W' v' (p ++ m)).form
  refine wpList_plain hgd fun K hK => ?_
  unfold Oper.wp execOp
  simp only [ho, resolve, invoke, builtin, Sem.run_bind, Sem.run_pure, Result.andThen_ok, List.map_toArray, List.map_cons, List.map_nil, hs, hx, hr]
  exact hK _ _ (h A n c W' hn.out h1 h2 h3)
def spotK (l : List Cot) (id : Int) : Nat := (l.takeWhile fun y => decide (y.b.id < id)).length
def insK (l : List Cot) (x : Cot) : List Cot := l.take (spotK l x.b.id) ++ x :: l.drop (spotK l x.b.id)
/-- The mill with a cotton more, laid in ahead of the first that is not below. -/
def insM (m : Mll) (x : Cot) : Mll := ⟨m.lots, m.size, insK m.cots x⟩
theorem spotK_step {l : List Cot} {q : Nat} {id : Int} {y : Cot} (hy : l[q]? = some y) : spotK (l.drop q) id = if y.b.id < id then spotK (l.drop (q + 1)) id + 1 else 0 := by
  rw [drop_at hy]
  unfold spotK
  rw [List.takeWhile_cons]
  by_cases h : y.b.id < id <;> simp [h]
set_option maxHeartbeats 8000000 in
theorem with_any (lots size : Int) (l : List Rc) (x : Rc) (sv : Value) (w : World) (hs : MlC w sv l) (hd : SlD w (.slice x.da x.dn x.dc) x.c.b.draws) (hw : SlW w (.slice x.wa x.wn x.wc) x.c.b.weighs) (hg : greatM l = false) (hlen : l.length ≤ 900) (hxl : x.c.b.draws.length ≤ 1000 ∧ x.c.b.weighs.length ≤ 1000) :
    Calls Tryd.prog 76 #[valM lots size sv, valC x] w fun e w' => (∃ v L, e = .returned (valM lots size v) ∧ TwinL w.heap.size (insM (mOf lots size l) x.c).cots v L w') ∧ Ext w w' := by
  have HS := Lib.hid hs; have HGM := Lib.hid hg; have HXD := Lib.hid hd; have HXW := Lib.hid hw; have HXL := Lib.hid hxl
  obtain ⟨A, n, c, rfl, hn, hlc, hcm⟩ := hs.1.form
  have HLN := Lib.hid (show l.length = n ∧ n ≤ 900 from ⟨hn.out.symm, by have := hn.out; omega⟩)
  clear hs hn hlen hd hw hxl hg
  go_enter Tryd.func76, Tryd.ntmps76
  obtain ⟨w3, hw3⟩ : ∃ w3, w3 = ((w.alloc (.cells #[.int .i64 lots, .int .i64 size, .slice A n c] 24)).alloc (.cells #[.int .i64 x.c.b.id, .int .i64 x.c.b.layers, .int .i64 x.c.b.dry.lo, .int .i64 x.c.b.dry.hi, .slice x.da x.dn x.dc, .slice x.wa x.wn x.wc, .int .i64 x.c.len, .int .i64 x.c.str] 61)).alloc (.cells #[.int .i64 0, .int .i64 0, .slice none 0 0] 24) := ⟨_, rfl⟩
  have HB0 := Lib.hid (show Blk w3 w.heap.size 24 #[.int .i64 lots, .int .i64 size, .slice A n c] from hw3 ▸ ((Blk.new _ _ _).alloc _).alloc _)
  have HB1 := Lib.hid (show Blk w3 (w.heap.size + 1) 61 (encC x).toArray from hw3 ▸ (Blk.at_ (by simp)).alloc _)
  have HB2 := Lib.hid (show Blk w3 (w.heap.size + 1 + 1) 24 #[.int .i64 0, .int .i64 0, .slice none 0 0] from hw3 ▸ Blk.at_ (by simp))
  have HE := Lib.hid (show Ext w w3 from hw3 ▸ ((Ext.al _ _).alloc _).alloc _)
  have HZ3 := Lib.hid (show w3.heap.size = w.heap.size + 3 by rw [hw3]; simp)
  go_wp2
  rw [← hw3]
  clear hw3
  have hcl : (l.map (·.c)).length = n := by simp; exact HLN.out.1
  go_loopg [5] n (fun gg s5 wr => ∃ q : Nat, q ≤ n ∧ n - q ≤ gg ∧ s5 = .int .i64 (q : Int) ∧ Aside (spotK (l.map (·.c)) x.c.b.id = q + spotK ((l.map (·.c)).drop q) x.c.b.id) ∧ Aside (Ext w3 wr))
  case atStart => exact ⟨0, by omega, by omega, rfl, (by show _ = 0 + spotK ((l.map (·.c)).drop 0) x.c.b.id; simp), Ext.refl _⟩
  case round =>
    obtain ⟨q, hqn, hgq, rfl, AT, EX⟩ := hrel
    have HD0 := Lib.hid (HB0.out.ext EX.out); have HD1 := Lib.hid (HB1.out.ext EX.out)
    have m2 := fun V (h : Ext wr V) => (HD0.out.ext h).c3.2.2.1
    have n0 := fun V (h : Ext wr V) => (show V.cell? ⟨w.heap.size + 1, 0, none⟩ = some (.int .i64 x.c.b.id) from (HD1.out.ext h).cell 0)
    by_cases hlt : q < n
    · have hltz : (q : Int) < (n : Int) := by omega
      obtain ⟨bb, off, y, rfl, hy, -, hyc⟩ := (HS.out.1.ext (HE.out.trans EX.out)).at_ hlt
      have y0 := fun V (h : Ext wr V) => (SlC.cells hyc h).1
      have HST := Lib.hid (spotK_step (id := x.c.b.id) (show (l.map (·.c))[q]? = some y.c by rw [List.getElem?_map, hy]; rfl))
      clear hyc hy
      by_cases hxy : y.c.b.id < x.c.b.id
      · have HAT := Lib.hid (show spotK (l.map (·.c)) x.c.b.id = (q + 1) + spotK ((l.map (·.c)).drop (q + 1)) x.c.b.id by have h1 := HST.out; rw [if_pos hxy] at h1; have := AT.out; omega)
        have hwk : IntKind.i64.wrap ((q : Int) + 1) = (q : Int) + 1 := by have := HLN.out; rw [IntKind.wrap_i64]; omega
        go_wp2_with fail
        refine wp_region_tame (fun W => Ext wr W) (fun W W' => Ext W W') (by kernel_rfl) 49 rfl (by decide +kernel) (Ext.refl _).drew ?_
        repeat (apply tame_q rfl; (intro ρ W hC hr hD; (obtain ⟨hrc, hrg, hrf, hrs⟩ := hr); (simp [go_sem] at hD); go_simp; first | exact ⟨⟨hC, Ext.refl _⟩, rfl⟩ | exact ⟨⟨hC, RS.refl _⟩, rfl⟩ | exact rfl); simp only [List.nil_append, List.cons_append])
        refine tame_end 49 rfl rfl (fun ρ W hC hr hF => ?_)
        obtain ⟨hrc, hrg, hrf, hrs⟩ := hr
        simp [go_sem] at hF
        apply frame_to
        · go_simp
          exact rfl
        have HEX := Lib.hid (EX.out.trans hC)
        clear hF hrs hrc hrg hrf hC m2 n0 y0
        go_wp2
        go_roundg (n - (q + 1))
        case measure => omega
        case rel => exact ⟨q + 1, by omega, by omega, by simp, HAT.out, HEX.out⟩
      · have HAT := Lib.hid (show spotK (l.map (·.c)) x.c.b.id = q by have h1 := HST.out; rw [if_neg hxy] at h1; have := AT.out; omega)
        have hxd : decide (y.c.b.id < x.c.b.id) = false := by simpa using hxy
        go_wp2_with fail
        refine wp_region_tame (fun W => Ext wr W) (fun W W' => Ext W W') (by kernel_rfl) 49 rfl (by decide +kernel) (Ext.refl _).drew ?_
        repeat (apply tame_q rfl; (intro ρ W hC hr hD; (obtain ⟨hrc, hrg, hrf, hrs⟩ := hr); (simp [go_sem] at hD); go_simp; first | exact ⟨⟨hC, Ext.refl _⟩, rfl⟩ | exact ⟨⟨hC, RS.refl _⟩, rfl⟩ | exact rfl); simp only [List.nil_append, List.cons_append])
        refine tame_end 49 rfl rfl (fun ρ W hC hr hF => ?_)
        obtain ⟨hrc, hrg, hrf, hrs⟩ := hr
        simp [go_sem] at hF
        apply frame_to
        · go_simp
          exact rfl
        have HEX := Lib.hid (EX.out.trans hC)
        clear hF hrs hrc hrg hrf hC m2 n0 y0 hxd hxy HST HD0 HD1 AT EX
        have HEW := Lib.hid (HE.out.trans HEX.out)
        have HG0 := Lib.hid (HB0.out.ext HEX.out); have HG1 := Lib.hid (HB1.out.ext HEX.out); have HG2 := Lib.hid (HB2.out.ext HEX.out)
        obtain ⟨b0, b1, b2, bf, bl⟩ := HG0.out.c3
        go_wp2_with fail
        refine (twinM_any lots size l _ W (HS.out.ext HEW.out) HGM.out).mono ?_
        rintro e w5 ⟨⟨v, L, rfl, tv⟩, hE5⟩
        have hszW := HEW.out.size
        have HZW := Lib.hid (show w.heap.size + 3 ≤ W.heap.size by have h1 := HZ3.out; have h2 := HEX.out.size; omega)
        have HLL := Lib.hid (show L.length = n by have h := congrArg List.length tv.map; simp at h; have := HLN.out; omega)
        obtain ⟨A5, n5, c5, rfl, hn5, hlc5, hcm5⟩ := (show SlC w5 v L from tv.mlc.1).form
        obtain rfl : n5 = n := by have := HLL.out; have := hn5.out; omega
        have TV := Lib.hid tv
        have HE5 := Lib.hid (HEW.out.trans hE5)
        have HH0 := Lib.hid (HG0.out.ext hE5); have HH1 := Lib.hid (HG1.out.ext hE5); have HH2 := Lib.hid (HG2.out.ext hE5)
        have HWZ := Lib.hid (show W.heap.size ≤ w5.heap.size from hE5.size)
        have HZ5 := Lib.hid (show w.heap.size + 3 ≤ w5.heap.size by have h1 := HZW.out; have h2 := hE5.size; omega)
        clear tv hE5 HG0 HG1 HG2 b0 b1 b2 bf bl hn5 hszW
        obtain ⟨b0, b1, b2, bf, bl⟩ := HH0.out.c3
        dsimp only [valM]
        go_upto_region 5 with (fail)
        obtain ⟨w6, hw6⟩ : ∃ w6, w6 = w5.alloc (.cells #[.int .i64 lots, .int .i64 size, .slice A5 n5 c5] 24) := ⟨_, rfl⟩
        rw [← hw6]
        have K0 := Lib.hid (show Blk w6 w.heap.size 24 _ from hw6 ▸ HH0.out.alloc _)
        have K1 := Lib.hid (show Blk w6 (w.heap.size + 1) 61 _ from hw6 ▸ HH1.out.alloc _)
        have K2 := Lib.hid (show Blk w6 (w.heap.size + 1 + 1) 24 _ from hw6 ▸ HH2.out.alloc _)
        have K6 := Lib.hid (show Blk w6 w5.heap.size 24 #[.int .i64 lots, .int .i64 size, .slice A5 n5 c5] from hw6 ▸ Blk.new _ _ _)
        have T6 := Lib.hid (show TwinL W.heap.size (l.map (·.c)) (.slice A5 n5 c5) L w6 from hw6 ▸ TV.out.ext (Ext.al _ _))
        have E6 := Lib.hid (show Ext w w6 from hw6 ▸ HE5.out.alloc _)
        have HZ6 := Lib.hid (show w6.heap.size = w5.heap.size + 1 by rw [hw6]; simp)
        clear hw6 b0 b1 b2 bf bl HH0 HH1 HH2 TV HE5
        have ht : n5 ≤ 900 := by have := HLN.out; omega
        have hqm : (q : Int) ≤ (n5 : Int) := by omega
        have hqc : (q : Int) ≤ (c5 : Int) := by omega
        obtain ⟨k0, k1, k2, kf, kl⟩ := K6.out.c3
        go_wp2_with (at_builtin; refine wpList_appC rfl (.tmp 30) (.tmp 34) rfl (base := w6.heap.size) (p := []) (m := L.take q) rfl rfl (Own.new (Blk.new _ _ _) (Nat.le_refl _)) (by have := HLL.out; simp; omega) (by simp) (Sl.head (T6.out.mlc.1.ext (Ext.al _ _)) hqn) ?_)
        intro A1 n1 c1 W1 hn1 ho1 hb1 _
        have O1 := Lib.hid ho1
        have E7 := Lib.hid (show Ext w6 W1 from Below.trans (Ext.al _ _) hb1)
        rw [show n1 = q by have := HLL.out; first | omega | (rw [hn1]; simp; omega)] at O1 ⊢
        clear hn1 ho1 hb1 k0 k1 k2 kf kl
        have q0 := (K1.out.ext E7.out).cell 0
        have q1 := (K1.out.ext E7.out).cell 1
        have q2 := (K1.out.ext E7.out).cell 2
        have q3 := (K1.out.ext E7.out).cell 3
        have q4 := (K1.out.ext E7.out).cell 4
        have q5 := (K1.out.ext E7.out).cell 5
        have q6 := (K1.out.ext E7.out).cell 6
        have q7 := (K1.out.ext E7.out).cell 7
        simp at q0 q1 q2 q3 q4 q5 q6 q7
        go_wp2_with fail
        refine (twinCotton_any x W1 (HXD.out.ext (E6.out.trans E7.out)) (HXW.out.ext (E6.out.trans E7.out)) HXL.out.1 HXL.out.2).mono ?_
        rintro e W2 ⟨⟨v, rfl, r', rfl, hrc', hor⟩, hE⟩
        have O2 := Lib.hid (O1.out.ext hE)
        have E8 := Lib.hid (E7.out.trans hE)
        have HRC := Lib.hid hrc'; have HOR := Lib.hid (hor.mono E7.out.size)
        have hz2 : w6.heap.size ≤ W2.heap.size := E8.out.size
        clear hE hrc' hor q0 q1 q2 q3 q4 q5 q6 q7 O1 E7
        go_wp2_with (at_builtin; refine wpList_appC rfl (.tmp 36) (.tmp 39) rfl (base := w6.heap.size) (p := [] ++ L.take q) (m := [r']) rfl rfl (O2.out.ext (Ext.al _ _)) (by have := HLL.out; simp; omega) (Nat.le_trans hz2 (Ext.al _ _).size) (Sl.single (Blk.new _ _ _) (Nat.le_refl _) (by decide)) ?_)
        intro A3 n3 c3 W3 hn3 ho3 hb3 hx3
        have O3 := Lib.hid ho3
        have E9 := Lib.hid (show Ext w6 W3 from Below.trans (E8.out.alloc _) hb3)
        have HO3 := Lib.hid (show OwnR w6.heap.size r' W3 from (HOR.out.ext (Ext.al _ _)).off hx3)
        rw [show n3 = q + 1 by have := HLL.out; first | omega | (rw [hn3]; simp; omega)] at O3 ⊢
        clear hn3 ho3 hb3 hx3 O2 E8 HOR hz2
        obtain ⟨k0, k1, k2, kf, kl⟩ := (K6.out.ext E9.out).c3
        have hsl : SlC W3 (sliced A5 q n5 c5 8) (L.drop q) := Sl.tail (T6.out.mlc.1.ext E9.out) hqn
        have HSL := Lib.hid hsl
        clear hsl
        have hqz : (0 : Int) ≤ (q : Int) := by omega
        have hcq : ¬ c5 = q := by omega
        go_wp2_with (at_builtin; refine wpList_appC rfl (.tmp 41) (.tmp 45) rfl (base := w6.heap.size) (p := L.take q ++ [r']) (m := L.drop q) rfl rfl O3.out (by have := HLL.out; simp; omega) E9.out.size (by have h := HSL.out; unfold sliced at h; first | exact h | (rw [if_neg hcq] at h; exact h) | (rw [if_pos hcq, show c5 - q = 0 by omega] at h; exact h)) ?_)
        intro A4 n4 c4 W4 hn4 ho4 hb4 hx4
        have E10 := Lib.hid (show Ext w6 W4 from Below.trans E9.out hb4)
        have TWL := Lib.hid (show TwinL W.heap.size (insM (mOf lots size l) x.c).cots (.slice A4 n4 c4) (L.take q ++ r' :: L.drop q) W4 from ⟨by have h := ho4.mono (base' := W.heap.size) (by have h1 := HWZ.out; have h2 := HZ6.out; omega); simpa using h, fun r hr => by
          rcases List.mem_append.1 hr with hr | hr
          · exact ((T6.out.lists r (List.mem_of_mem_take hr)).ext E10.out)
          · rcases List.mem_cons.1 hr with rfl | hr
            · exact (HO3.out.off hx4).mono (by have h1 := HWZ.out; have h2 := HZ6.out; omega)
            · exact ((T6.out.lists r (List.mem_of_mem_drop hr)).ext E10.out), by
          show _ = insK (l.map (·.c)) x.c
          unfold insK
          rw [HAT.out, ← T6.out.map, List.map_append, List.map_cons, List.map_take, List.map_drop, HRC.out]⟩)
        clear hn4 ho4 hb4 hx4 O3 HO3 k0 k1 k2 kf kl E9 HSL
        obtain ⟨k0, k1, k2, kf, kl⟩ := (K6.out.ext E10.out).c3
        go_upto_region 8 with (fail)
        obtain ⟨W5, hW5⟩ : ∃ W5, W5 = W4.setCell ⟨w5.heap.size, 2, none⟩ (.slice A4 n4 c4) := ⟨_, rfl⟩
        rw [← hW5]
        have hG5 : W4.grownBy W5 (some w5.heap.size) := hW5 ▸ grown_set (World.grownBy.refl _ _) (p := ⟨w5.heap.size, 2, none⟩) (.inl rfl) _
        have M6 := Lib.hid (show Blk W5 w5.heap.size 24 #[.int .i64 lots, .int .i64 size, .slice A4 n4 c4] by
          rw [hW5]; have h := (K6.out.ext E10.out).set_ 2 (.slice A4 n4 c4); simpa using h)
        have M2 := Lib.hid (show Blk W5 (w.heap.size + 1 + 1) 24 _ from (K2.out.ext E10.out).grown hG5 (by intro e; injection e with e; have := HZ5.out; omega))
        have TW5 := Lib.hid (TWL.out.offX (offX_grown (K6.out.ext E10.out) hG5))
        have EE := Lib.hid (ext_grownP (E6.out.trans E10.out) hG5 (by have := HZ5.out; omega))
        clear hW5 hG5 k0 k1 k2 kf kl E10 TWL K6 K0 K1 K2
        obtain ⟨k0, k1, k2, kf, kl⟩ := M6.out.c3
        obtain ⟨r0, r1, r2, rf, rl⟩ := M2.out.c3
        go_wp2
        refine ret_set3N M2.out fun W' ⟨z0, z1, z2⟩ hW => ?_
        refine bodyPost_ret (v := valM lots size (.slice A4 n4 c4)) (by simp [results, Tryd.results76, go_sem, z0, z1, z2]) rfl ?_
        exact ⟨⟨_, _, rfl, (TW5.out.offX (offX_grown M2.out hW)).mono (by have := HZW.out; omega)⟩, ext_grownP EE.out hW (by omega)⟩
    · have HAT := Lib.hid (show spotK (l.map (·.c)) x.c.b.id = q by
        have h1 := AT.out
        rw [List.drop_of_length_le (by omega)] at h1
        simpa [spotK] using h1)
      have hlf : decide ((q : Int) < (n : Int)) = false := by simp; omega
      go_wp2_with fail
      refine wp_region_tame (fun W => Ext wr W) (fun W W' => Ext W W') (by kernel_rfl) 49 rfl (by decide +kernel) (Ext.refl _).drew ?_
      repeat (apply tame_q rfl; (intro ρ W hC hr hD; (obtain ⟨hrc, hrg, hrf, hrs⟩ := hr); (simp [go_sem] at hD); go_simp; first | exact ⟨⟨hC, Ext.refl _⟩, rfl⟩ | exact ⟨⟨hC, RS.refl _⟩, rfl⟩ | exact rfl); simp only [List.nil_append, List.cons_append])
      refine tame_end 49 rfl rfl (fun ρ W hC hr hF => ?_)
      obtain ⟨hrc, hrg, hrf, hrs⟩ := hr
      simp [go_sem] at hF
      apply frame_to
      · go_simp
        exact rfl
      have HEX := Lib.hid (EX.out.trans hC)
      clear hF hrs hrc hrg hrf hC m2 n0 HD0 HD1 AT EX hlf
      have HEW := Lib.hid (HE.out.trans HEX.out)
      have HG0 := Lib.hid (HB0.out.ext HEX.out); have HG1 := Lib.hid (HB1.out.ext HEX.out); have HG2 := Lib.hid (HB2.out.ext HEX.out)
      obtain ⟨b0, b1, b2, bf, bl⟩ := HG0.out.c3
      go_wp2_with fail
      refine (twinM_any lots size l _ W (HS.out.ext HEW.out) HGM.out).mono ?_
      rintro e w5 ⟨⟨v, L, rfl, tv⟩, hE5⟩
      have hszW := HEW.out.size
      have HZW := Lib.hid (show w.heap.size + 3 ≤ W.heap.size by have h1 := HZ3.out; have h2 := HEX.out.size; omega)
      have HLL := Lib.hid (show L.length = n by have h := congrArg List.length tv.map; simp at h; have := HLN.out; omega)
      obtain ⟨A5, n5, c5, rfl, hn5, hlc5, hcm5⟩ := (show SlC w5 v L from tv.mlc.1).form
      obtain rfl : n5 = n := by have := HLL.out; have := hn5.out; omega
      have TV := Lib.hid tv
      have HE5 := Lib.hid (HEW.out.trans hE5)
      have HH0 := Lib.hid (HG0.out.ext hE5); have HH1 := Lib.hid (HG1.out.ext hE5); have HH2 := Lib.hid (HG2.out.ext hE5)
      have HWZ := Lib.hid (show W.heap.size ≤ w5.heap.size from hE5.size)
      have HZ5 := Lib.hid (show w.heap.size + 3 ≤ w5.heap.size by have h1 := HZW.out; have h2 := hE5.size; omega)
      clear tv hE5 HG0 HG1 HG2 b0 b1 b2 bf bl hn5 hszW
      obtain ⟨b0, b1, b2, bf, bl⟩ := HH0.out.c3
      dsimp only [valM]
      go_upto_region 5 with (fail)
      obtain ⟨w6, hw6⟩ : ∃ w6, w6 = w5.alloc (.cells #[.int .i64 lots, .int .i64 size, .slice A5 n5 c5] 24) := ⟨_, rfl⟩
      rw [← hw6]
      have K0 := Lib.hid (show Blk w6 w.heap.size 24 _ from hw6 ▸ HH0.out.alloc _)
      have K1 := Lib.hid (show Blk w6 (w.heap.size + 1) 61 _ from hw6 ▸ HH1.out.alloc _)
      have K2 := Lib.hid (show Blk w6 (w.heap.size + 1 + 1) 24 _ from hw6 ▸ HH2.out.alloc _)
      have K6 := Lib.hid (show Blk w6 w5.heap.size 24 #[.int .i64 lots, .int .i64 size, .slice A5 n5 c5] from hw6 ▸ Blk.new _ _ _)
      have T6 := Lib.hid (show TwinL W.heap.size (l.map (·.c)) (.slice A5 n5 c5) L w6 from hw6 ▸ TV.out.ext (Ext.al _ _))
      have E6 := Lib.hid (show Ext w w6 from hw6 ▸ HE5.out.alloc _)
      have HZ6 := Lib.hid (show w6.heap.size = w5.heap.size + 1 by rw [hw6]; simp)
      clear hw6 b0 b1 b2 bf bl HH0 HH1 HH2 TV HE5
      have ht : n5 ≤ 900 := by have := HLN.out; omega
      have hqm : (q : Int) ≤ (n5 : Int) := by omega
      have hqc : (q : Int) ≤ (c5 : Int) := by omega
      obtain ⟨k0, k1, k2, kf, kl⟩ := K6.out.c3
      go_wp2_with (at_builtin; refine wpList_appC rfl (.tmp 30) (.tmp 34) rfl (base := w6.heap.size) (p := []) (m := L.take q) rfl rfl (Own.new (Blk.new _ _ _) (Nat.le_refl _)) (by have := HLL.out; simp; omega) (by simp) (Sl.head (T6.out.mlc.1.ext (Ext.al _ _)) hqn) ?_)
      intro A1 n1 c1 W1 hn1 ho1 hb1 _
      have O1 := Lib.hid ho1
      have E7 := Lib.hid (show Ext w6 W1 from Below.trans (Ext.al _ _) hb1)
      rw [show n1 = q by have := HLL.out; first | omega | (rw [hn1]; simp; omega)] at O1 ⊢
      clear hn1 ho1 hb1 k0 k1 k2 kf kl
      have q0 := (K1.out.ext E7.out).cell 0
      have q1 := (K1.out.ext E7.out).cell 1
      have q2 := (K1.out.ext E7.out).cell 2
      have q3 := (K1.out.ext E7.out).cell 3
      have q4 := (K1.out.ext E7.out).cell 4
      have q5 := (K1.out.ext E7.out).cell 5
      have q6 := (K1.out.ext E7.out).cell 6
      have q7 := (K1.out.ext E7.out).cell 7
      simp at q0 q1 q2 q3 q4 q5 q6 q7
      go_wp2_with fail
      refine (twinCotton_any x W1 (HXD.out.ext (E6.out.trans E7.out)) (HXW.out.ext (E6.out.trans E7.out)) HXL.out.1 HXL.out.2).mono ?_
      rintro e W2 ⟨⟨v, rfl, r', rfl, hrc', hor⟩, hE⟩
      have O2 := Lib.hid (O1.out.ext hE)
      have E8 := Lib.hid (E7.out.trans hE)
      have HRC := Lib.hid hrc'; have HOR := Lib.hid (hor.mono E7.out.size)
      have hz2 : w6.heap.size ≤ W2.heap.size := E8.out.size
      clear hE hrc' hor q0 q1 q2 q3 q4 q5 q6 q7 O1 E7
      go_wp2_with (at_builtin; refine wpList_appC rfl (.tmp 36) (.tmp 39) rfl (base := w6.heap.size) (p := [] ++ L.take q) (m := [r']) rfl rfl (O2.out.ext (Ext.al _ _)) (by have := HLL.out; simp; omega) (Nat.le_trans hz2 (Ext.al _ _).size) (Sl.single (Blk.new _ _ _) (Nat.le_refl _) (by decide)) ?_)
      intro A3 n3 c3 W3 hn3 ho3 hb3 hx3
      have O3 := Lib.hid ho3
      have E9 := Lib.hid (show Ext w6 W3 from Below.trans (E8.out.alloc _) hb3)
      have HO3 := Lib.hid (show OwnR w6.heap.size r' W3 from (HOR.out.ext (Ext.al _ _)).off hx3)
      rw [show n3 = q + 1 by have := HLL.out; first | omega | (rw [hn3]; simp; omega)] at O3 ⊢
      clear hn3 ho3 hb3 hx3 O2 E8 HOR hz2
      obtain ⟨k0, k1, k2, kf, kl⟩ := (K6.out.ext E9.out).c3
      have hsl : SlC W3 (sliced A5 q n5 c5 8) (L.drop q) := Sl.tail (T6.out.mlc.1.ext E9.out) hqn
      have HSL := Lib.hid hsl
      clear hsl
      have hqz : (0 : Int) ≤ (q : Int) := by omega
      by_cases hcq : c5 = q
      case pos =>
        go_wp2_with (at_builtin; refine wpList_appC rfl (.tmp 41) (.tmp 45) rfl (base := w6.heap.size) (p := L.take q ++ [r']) (m := L.drop q) rfl rfl O3.out (by have := HLL.out; simp; omega) E9.out.size (by have h := HSL.out; unfold sliced at h; first | exact h | (rw [if_neg hcq] at h; exact h) | (rw [if_pos hcq, show c5 - q = 0 by omega] at h; exact h)) ?_)
        intro A4 n4 c4 W4 hn4 ho4 hb4 hx4
        have E10 := Lib.hid (show Ext w6 W4 from Below.trans E9.out hb4)
        have TWL := Lib.hid (show TwinL W.heap.size (insM (mOf lots size l) x.c).cots (.slice A4 n4 c4) (L.take q ++ r' :: L.drop q) W4 from ⟨by have h := ho4.mono (base' := W.heap.size) (by have h1 := HWZ.out; have h2 := HZ6.out; omega); simpa using h, fun r hr => by
          rcases List.mem_append.1 hr with hr | hr
          · exact ((T6.out.lists r (List.mem_of_mem_take hr)).ext E10.out)
          · rcases List.mem_cons.1 hr with rfl | hr
            · exact (HO3.out.off hx4).mono (by have h1 := HWZ.out; have h2 := HZ6.out; omega)
            · exact ((T6.out.lists r (List.mem_of_mem_drop hr)).ext E10.out), by
          show _ = insK (l.map (·.c)) x.c
          unfold insK
          rw [HAT.out, ← T6.out.map, List.map_append, List.map_cons, List.map_take, List.map_drop, HRC.out]⟩)
        clear hn4 ho4 hb4 hx4 O3 HO3 k0 k1 k2 kf kl E9 HSL
        obtain ⟨k0, k1, k2, kf, kl⟩ := (K6.out.ext E10.out).c3
        go_upto_region 8 with (fail)
        obtain ⟨W5, hW5⟩ : ∃ W5, W5 = W4.setCell ⟨w5.heap.size, 2, none⟩ (.slice A4 n4 c4) := ⟨_, rfl⟩
        rw [← hW5]
        have hG5 : W4.grownBy W5 (some w5.heap.size) := hW5 ▸ grown_set (World.grownBy.refl _ _) (p := ⟨w5.heap.size, 2, none⟩) (.inl rfl) _
        have M6 := Lib.hid (show Blk W5 w5.heap.size 24 #[.int .i64 lots, .int .i64 size, .slice A4 n4 c4] by
          rw [hW5]; have h := (K6.out.ext E10.out).set_ 2 (.slice A4 n4 c4); simpa using h)
        have M2 := Lib.hid (show Blk W5 (w.heap.size + 1 + 1) 24 _ from (K2.out.ext E10.out).grown hG5 (by intro e; injection e with e; have := HZ5.out; omega))
        have TW5 := Lib.hid (TWL.out.offX (offX_grown (K6.out.ext E10.out) hG5))
        have EE := Lib.hid (ext_grownP (E6.out.trans E10.out) hG5 (by have := HZ5.out; omega))
        clear hW5 hG5 k0 k1 k2 kf kl E10 TWL K6 K0 K1 K2
        obtain ⟨k0, k1, k2, kf, kl⟩ := M6.out.c3
        obtain ⟨r0, r1, r2, rf, rl⟩ := M2.out.c3
        go_wp2
        refine ret_set3N M2.out fun W' ⟨z0, z1, z2⟩ hW => ?_
        refine bodyPost_ret (v := valM lots size (.slice A4 n4 c4)) (by simp [results, Tryd.results76, go_sem, z0, z1, z2]) rfl ?_
        exact ⟨⟨_, _, rfl, (TW5.out.offX (offX_grown M2.out hW)).mono (by have := HZW.out; omega)⟩, ext_grownP EE.out hW (by omega)⟩
      case neg =>
        go_wp2_with (at_builtin; refine wpList_appC rfl (.tmp 41) (.tmp 45) rfl (base := w6.heap.size) (p := L.take q ++ [r']) (m := L.drop q) rfl rfl O3.out (by have := HLL.out; simp; omega) E9.out.size (by have h := HSL.out; unfold sliced at h; first | exact h | (rw [if_neg hcq] at h; exact h) | (rw [if_pos hcq, show c5 - q = 0 by omega] at h; exact h)) ?_)
        intro A4 n4 c4 W4 hn4 ho4 hb4 hx4
        have E10 := Lib.hid (show Ext w6 W4 from Below.trans E9.out hb4)
        have TWL := Lib.hid (show TwinL W.heap.size (insM (mOf lots size l) x.c).cots (.slice A4 n4 c4) (L.take q ++ r' :: L.drop q) W4 from ⟨by have h := ho4.mono (base' := W.heap.size) (by have h1 := HWZ.out; have h2 := HZ6.out; omega); simpa using h, fun r hr => by
          rcases List.mem_append.1 hr with hr | hr
          · exact ((T6.out.lists r (List.mem_of_mem_take hr)).ext E10.out)
          · rcases List.mem_cons.1 hr with rfl | hr
            · exact (HO3.out.off hx4).mono (by have h1 := HWZ.out; have h2 := HZ6.out; omega)
            · exact ((T6.out.lists r (List.mem_of_mem_drop hr)).ext E10.out), by
          show _ = insK (l.map (·.c)) x.c
          unfold insK
          rw [HAT.out, ← T6.out.map, List.map_append, List.map_cons, List.map_take, List.map_drop, HRC.out]⟩)
        clear hn4 ho4 hb4 hx4 O3 HO3 k0 k1 k2 kf kl E9 HSL
        obtain ⟨k0, k1, k2, kf, kl⟩ := (K6.out.ext E10.out).c3
        go_upto_region 8 with (fail)
        obtain ⟨W5, hW5⟩ : ∃ W5, W5 = W4.setCell ⟨w5.heap.size, 2, none⟩ (.slice A4 n4 c4) := ⟨_, rfl⟩
        rw [← hW5]
        have hG5 : W4.grownBy W5 (some w5.heap.size) := hW5 ▸ grown_set (World.grownBy.refl _ _) (p := ⟨w5.heap.size, 2, none⟩) (.inl rfl) _
        have M6 := Lib.hid (show Blk W5 w5.heap.size 24 #[.int .i64 lots, .int .i64 size, .slice A4 n4 c4] by
          rw [hW5]; have h := (K6.out.ext E10.out).set_ 2 (.slice A4 n4 c4); simpa using h)
        have M2 := Lib.hid (show Blk W5 (w.heap.size + 1 + 1) 24 _ from (K2.out.ext E10.out).grown hG5 (by intro e; injection e with e; have := HZ5.out; omega))
        have TW5 := Lib.hid (TWL.out.offX (offX_grown (K6.out.ext E10.out) hG5))
        have EE := Lib.hid (ext_grownP (E6.out.trans E10.out) hG5 (by have := HZ5.out; omega))
        clear hW5 hG5 k0 k1 k2 kf kl E10 TWL K6 K0 K1 K2
        obtain ⟨k0, k1, k2, kf, kl⟩ := M6.out.c3
        obtain ⟨r0, r1, r2, rf, rl⟩ := M2.out.c3
        go_wp2
        refine ret_set3N M2.out fun W' ⟨z0, z1, z2⟩ hW => ?_
        refine bodyPost_ret (v := valM lots size (.slice A4 n4 c4)) (by simp [results, Tryd.results76, go_sem, z0, z1, z2]) rfl ?_
        exact ⟨⟨_, _, rfl, (TW5.out.offX (offX_grown M2.out hW)).mono (by have := HZW.out; omega)⟩, ext_grownP EE.out hW (by omega)⟩
end Go.Proofs.YtkpengeaolcjhaaDoor
/- Plain law of Put: the sort of the program lays a cotton where the reference lays it, unless an id is there twice. -/
namespace Go.Proofs.YtkpengeaolcjhaaDoor
open Go.RowKit Go.Shelf Go.Lib
set_option linter.unusedSimpArgs false

theorem ids_pw : ∀ (l : List Int), notDown l = true → noTwins l = true → l.Pairwise (· < ·)
  | [], _, _ => List.Pairwise.nil
  | [x], _, _ => by simp
  | x :: y :: l, h1, h2 => by
    rw [notDown, Bool.and_eq_true, decide_eq_true_eq] at h1
    rw [noTwins, Bool.and_eq_true] at h2
    have h3 : ¬ y = x := by have := h2.1; simpa using this
    have ih := ids_pw (y :: l) h1.2 h2.2
    refine List.Pairwise.cons (fun z hz => ?_) ih
    rcases List.mem_cons.1 hz with rfl | hz
    · have := h1.1; omega
    · have := List.rel_of_pairwise_cons ih hz
      have := h1.1
      omega
abbrev Below2 (a b : Cot) : Prop := a.b.id < b.b.id
theorem cots_pw {m : Mll} (h : checkM m = true) : m.cots.Pairwise Below2 := by
  unfold checkM ck2 at h
  simp only [Bool.and_eq_true] at h
  have h1 := ids_pw _ h.1.2.1 h.1.2.2
  unfold idsL at h1
  exact (List.pairwise_map (f := fun x : Cot => x.b.id) (R := fun (a b : Int) => a < b)).1 h1
theorem pw_at {l : List Cot} (h : l.Pairwise Below2) {i j : Nat} {a b : Cot} (hij : i < j) (ha : l[i]? = some a) (hb : l[j]? = some b) : a.b.id < b.b.id := by
  obtain ⟨hi, rfl⟩ := List.getElem?_eq_some_iff.1 ha
  obtain ⟨hj, rfl⟩ := List.getElem?_eq_some_iff.1 hb
  exact List.pairwise_iff_getElem.1 h i j hi hj hij
theorem sortK_pw {l r : List Cot} (h : l.Pairwise Below2) : ∀ k, k ≤ l.length → sortK (l ++ r) k = l.take k
  | 0, _ => by simp [sortK]
  | k + 1, hk => by
    obtain ⟨x, hx⟩ : ∃ x, l[k]? = some x := ⟨_, List.getElem?_eq_getElem (by omega)⟩
    unfold sortK
    rw [List.getElem?_append_left (by omega), hx]
    simp only
    rw [sortK_pw h k (by omega)]
    have hs : stopK (l.take k) x k = k := by
      cases k with
      | zero => rfl
      | succ k =>
        obtain ⟨y, hy⟩ : ∃ y, l[k]? = some y := ⟨_, List.getElem?_eq_getElem (by omega)⟩
        have := pw_at h (Nat.lt_succ_self k) hy hx
        unfold stopK
        rw [List.getElem?_take, if_pos (by omega), hy]
        simp only
        rw [if_neg (by omega)]
    rw [hs]
    unfold putK
    rw [List.take_take, Nat.min_self, List.drop_eq_nil_of_le (by simp; omega), List.take_add_one, hx]
    rfl
theorem putM_cots {m : Mll} {x : Cot} (h : checkM m = true) : (putM m x).cots = putK m.cots x (stopK m.cots x m.cots.length) := by
  show sortK (m.cots ++ [x]) (m.cots.length + 1) = _
  unfold sortK
  rw [List.getElem?_append_right (Nat.le_refl _), Nat.sub_self]
  simp only [List.getElem?_cons_zero]
  rw [sortK_pw (cots_pw h) _ (Nat.le_refl _), List.take_length]
theorem fresh_of {lots size : Int} {l : List Cot} {x : Cot} {s : Nat} (h : checkM ⟨lots, size, l.take s ++ x :: l.drop s⟩ = true) : ∀ y ∈ l, y.b.id ≠ x.b.id := by
  have hp := List.pairwise_append.1 (cots_pw h)
  obtain ⟨-, h2, h3⟩ := hp
  intro y hy
  rw [← List.take_append_drop s l] at hy
  rcases List.mem_append.1 hy with hy | hy
  · have : y.b.id < x.b.id := h3 y hy x (List.mem_cons_self ..)
    omega
  · have : x.b.id < y.b.id := List.rel_of_pairwise_cons h2 hy
    omega
theorem spotK_lt {l : List Cot} {id : Int} : ∀ {i : Nat} {y : Cot}, i < spotK l id → l[i]? = some y → y.b.id < id := by
  induction l with
  | nil => intro i y _ hy; simp at hy
  | cons z l ih =>
    intro i y hi hy
    unfold spotK at hi
    rw [List.takeWhile_cons] at hi
    by_cases hz : z.b.id < id
    · simp only [hz, decide_true, if_true, List.length_cons] at hi
      cases i with
      | zero => simp at hy; rw [← hy]; exact hz
      | succ i =>
        have hi' : i < spotK l id := by unfold spotK; omega
        exact ih hi' (by simpa using hy)
    · simp [hz] at hi
theorem spotK_at {l : List Cot} {id : Int} : ∀ {y : Cot}, l[spotK l id]? = some y → ¬ y.b.id < id := by
  induction l with
  | nil => intro y hy; simp at hy
  | cons z l ih =>
    intro y hy
    unfold spotK at hy
    rw [List.takeWhile_cons] at hy
    by_cases hz : z.b.id < id
    · simp only [hz, decide_true, if_true, List.length_cons, List.getElem?_cons_succ] at hy
      exact ih (by unfold spotK; exact hy)
    · simp [hz] at hy
      rw [← hy]; exact hz
theorem spotK_len (l : List Cot) (id : Int) : spotK l id ≤ l.length := (List.takeWhile_sublist _).length_le
theorem stop_spot {l : List Cot} {x : Cot} (h : l.Pairwise Below2) (hf : ∀ y ∈ l, y.b.id ≠ x.b.id) : ∀ k, spotK l x.b.id + k ≤ l.length → stopK l x (spotK l x.b.id + k) = spotK l x.b.id
  | 0, hk => by
    cases hs : spotK l x.b.id with
    | zero => rfl
    | succ s =>
      obtain ⟨y, hy⟩ : ∃ y, l[s]? = some y := ⟨_, List.getElem?_eq_getElem (by omega)⟩
      have := spotK_lt (id := x.b.id) (by omega) hy
      show stopK l x (s + 1) = _
      unfold stopK
      rw [hy]
      simp only
      rw [if_neg (by omega)]
  | k + 1, hk => by
    obtain ⟨y, hy⟩ : ∃ y, l[spotK l x.b.id + k]? = some y := ⟨_, List.getElem?_eq_getElem (by omega)⟩
    obtain ⟨z, hz⟩ : ∃ z, l[spotK l x.b.id]? = some z := ⟨_, List.getElem?_eq_getElem (by omega)⟩
    have h1 := spotK_at hz
    have h2 := hf y (List.mem_of_getElem? hy)
    have h3 : z.b.id ≤ y.b.id := by
      cases k with
      | zero =>
        rw [Nat.add_zero, hz] at hy
        injection hy with hy
        rw [hy]; omega
      | succ k =>
        have := pw_at h (show spotK l x.b.id < spotK l x.b.id + (k + 1) by omega) hz hy
        omega
    rw [← Nat.add_assoc]
    unfold stopK
    rw [hy]
    simp only
    rw [if_pos (by omega)]
    exact stop_spot h hf k (by omega)
/-- **Put answers as the reference's.** -/
theorem put_same {m : Mll} {x : Cot} (h : checkM m = true) : checkM (insM m x) = checkM (putM m x) ∧ (checkM (putM m x) = true → insM m x = putM m x) := by
  have hc := putM_cots (x := x) h
  have heq : (∀ y ∈ m.cots, y.b.id ≠ x.b.id) → insM m x = putM m x := fun hf => by
    have hs := stop_spot (cots_pw h) hf (m.cots.length - spotK m.cots x.b.id) (by have := spotK_len m.cots x.b.id; omega)
    rw [show spotK m.cots x.b.id + (m.cots.length - spotK m.cots x.b.id) = m.cots.length by have := spotK_len m.cots x.b.id; omega] at hs
    rw [hs] at hc
    show (⟨m.lots, m.size, insK m.cots x⟩ : Mll) = ⟨m.lots, m.size, (putM m x).cots⟩
    rw [hc]
    rfl
  have hp : checkM (putM m x) = true → ∀ y ∈ m.cots, y.b.id ≠ x.b.id := fun hk => by
    have : putM m x = ⟨m.lots, m.size, putK m.cots x (stopK m.cots x m.cots.length)⟩ := by rw [← hc]; rfl
    rw [this] at hk
    exact fresh_of hk
  have hi : checkM (insM m x) = true → ∀ y ∈ m.cots, y.b.id ≠ x.b.id := fun hk => fresh_of hk
  refine ⟨?_, fun hk => heq (hp hk)⟩
  cases h1 : checkM (putM m x) with
  | true => rw [heq (hp h1), h1]
  | false =>
    cases h2 : checkM (insM m x) with
    | false => rfl
    | true => rw [heq (hi h2), h1] at h2; cases h2
end Go.Proofs.YtkpengeaolcjhaaDoor
/- mill.Helps. -/
namespace Go.Proofs.YtkpengeaolcjhaaDoor
open Go.RowKit Go.Shelf Go.Lib
set_option maxRecDepth 100000
set_option linter.unusedSimpArgs false

def helpsM (m : Mll) (x : Cot) : Int × Int × Int := if putME m x = 0 then ((evenU (putM m x)).1, (evenU (putM m x)).2, bestE (putM m x)) else (0, 0, putME m x)
theorem sortK_len (l : List Cot) : ∀ k, (sortK l k).length ≤ k
  | 0 => by simp [sortK]
  | k + 1 => by
    unfold sortK
    have h := sortK_len l k
    split
    · unfold putK
      simp
      omega
    · omega
set_option maxHeartbeats 4000000 in
theorem helpsM_any (lots size : Int) (l : List Rc) (x : Rc) (sv : Value) (w : World) (hT : TabM w) (hs : MlC w sv l) (hd : SlD w (.slice x.da x.dn x.dc) x.c.b.draws) (hw : SlW w (.slice x.wa x.wn x.wc) x.c.b.weighs) (hlen : l.length ≤ 900) (hxl : x.c.b.draws.length ≤ 1000 ∧ x.c.b.weighs.length ≤ 1000) :
    Calls Tryd.prog 30 #[valM lots size sv, valC x] w fun e w' => e = .returned (.tuple #[.int .i64 (helpsM (mOf lots size l) x.c).1, .int .i64 (helpsM (mOf lots size l) x.c).2.1, .int .i64 (helpsM (mOf lots size l) x.c).2.2]) ∧ Ext w w' := by
  have HS := Lib.hid hs; have HT := Lib.hid hT; have HLN := Lib.hid hlen; have HXD := Lib.hid hd; have HXW := Lib.hid hw; have HXL := Lib.hid hxl
  obtain ⟨A, n, c, rfl, hn, hlc, hcm⟩ := hs.1.form
  have HL := Lib.hid (show l.length = n from hn.out.symm)
  clear hs hT hn hlen hd hw hxl
  go_enter Tryd.func30, Tryd.ntmps30
  go_wp2_with fail
  obtain ⟨w2, hw2⟩ : ∃ w2, w2 = (w.alloc (.cells #[.int .i64 lots, .int .i64 size, .slice A n c] 24)).alloc (.cells #[.int .i64 x.c.b.id, .int .i64 x.c.b.layers, .int .i64 x.c.b.dry.lo, .int .i64 x.c.b.dry.hi, .slice x.da x.dn x.dc, .slice x.wa x.wn x.wc, .int .i64 x.c.len, .int .i64 x.c.str] 61) := ⟨_, rfl⟩
  rw [← hw2]
  have E2 := Lib.hid (show Ext w w2 from hw2 ▸ (Ext.al _ _).alloc _)
  clear hw2
  refine (putM_any lots size l x _ w2 (HT.out.ext E2.out) (HS.out.ext E2.out) (HXD.out.ext E2.out) (HXW.out.ext E2.out) (by have := HLN.out; omega) HXL.out).mono ?_
  rintro e w3 ⟨⟨v, rfl, hv⟩, hE⟩
  have E3 := Lib.hid (E2.out.trans hE)
  rcases hv with ⟨he, v0, L, rfl, tv⟩ | ⟨he, rfl⟩
  · rw [he]
    have HH := Lib.hid (show helpsM (mOf lots size l) x.c = ((evenU (putM (mOf lots size l) x.c)).1, (evenU (putM (mOf lots size l) x.c)).2, bestE (putM (mOf lots size l) x.c)) by unfold helpsM; rw [if_pos he])
    have TW := Lib.hid tv
    have HLL := Lib.hid (show L.length ≤ 1000 by
      have h := congrArg List.length tv.map
      have h2 := sortK_len ((mOf lots size l).cots ++ [x.c]) ((mOf lots size l).cots.length + 1)
      have h3 : (putM (mOf lots size l) x.c).cots = sortK ((mOf lots size l).cots ++ [x.c]) ((mOf lots size l).cots.length + 1) := rfl
      rw [h3] at h
      simp at h h2
      have := HLN.out
      omega)
    clear he tv hE E2
    obtain ⟨A2, n2, c2, rfl, -, -, -⟩ := TW.out.mlc.1.form
    go_wp2_with fail
    refine (evenM_any lots size L _ _ ((HT.out.ext E3.out).ext (Ext.al _ _)) (TW.out.mlc.ext (Ext.al _ _)) HLL.out).mono ?_
    rintro e w4 ⟨rfl, hE⟩
    have E4 := Lib.hid (E3.out.trans ((Ext.al _ _).trans hE))
    rw [show mOf lots size L = putM (mOf lots size l) x.c by show (⟨lots, size, L.map (·.c)⟩ : Mll) = _; rw [TW.out.map]; rfl]
    clear hE E3
    go_wp2
    refine bodyPost_ret (v := .tuple #[.int .i64 (helpsM (mOf lots size l) x.c).1, .int .i64 (helpsM (mOf lots size l) x.c).2.1, .int .i64 (helpsM (mOf lots size l) x.c).2.2]) (by rw [HH.out]; simp [results, Tryd.results30, go_sem]) rfl ?_
    exact ⟨rfl, E4.out⟩
  · obtain ⟨er, her⟩ : ∃ er, er = putME (mOf lots size l) x.c := ⟨_, rfl⟩
    have HH := Lib.hid (show helpsM (mOf lots size l) x.c = (0, 0, er) by unfold helpsM; rw [if_neg he, her])
    rw [← her] at he ⊢
    have he' : (er == 0) = false := by simpa using he
    clear her hE E2
    go_wp2
    refine bodyPost_ret (v := .tuple #[.int .i64 (helpsM (mOf lots size l) x.c).1, .int .i64 (helpsM (mOf lots size l) x.c).2.1, .int .i64 (helpsM (mOf lots size l) x.c).2.2]) (by rw [HH.out]; simp [results, Tryd.results30, go_sem]) rfl ?_
    exact ⟨rfl, E3.out.trans (Ext.al _ _)⟩
end Go.Proofs.YtkpengeaolcjhaaDoor
/- The reference's Put, Helps. -/
namespace Go.Proofs.YtkpengeaolcjhaaDoor
open Go.RowKit Go.Shelf Go.Lib
set_option maxRecDepth 100000
set_option linter.unusedSimpArgs false

set_option maxHeartbeats 8000000 in
theorem refPutM_any (lots size : Int) (l : List Rc) (x : Rc) (sv : Value) (w : World) (hs : MlC w sv l) (hd : SlD w (.slice x.da x.dn x.dc) x.c.b.draws) (hw : SlW w (.slice x.wa x.wn x.wc) x.c.b.weighs) (hg : greatM l = false) (hlen : l.length ≤ 900) (hxl : x.c.b.draws.length ≤ 1000 ∧ x.c.b.weighs.length ≤ 1000) :
    Calls Tryd.prog 33 #[valM lots size sv, valC x] w fun e w' => (∃ v, e = .returned (.tuple #[v, .int .i64 (putME (mOf lots size l) x.c)]) ∧ MlRet (putME (mOf lots size l) x.c) (putM (mOf lots size l) x.c) w.heap.size v w') ∧ Ext w w' := by
  have HS := Lib.hid hs; have HLN := Lib.hid hlen; have HXD := Lib.hid hd; have HXW := Lib.hid hw; have HXL := Lib.hid hxl; have HG := Lib.hid hg
  obtain ⟨A, n, c, rfl, hn, hlc, hcm⟩ := hs.1.form
  have HL := Lib.hid (show l.length = n from hn.out.symm)
  have hn9 : n ≤ 900 := by have := hn.out; omega
  clear hs hn hlen hd hw hxl hg
  go_enter Tryd.func33, Tryd.ntmps33
  go_wp2_with fail
  obtain ⟨w2, hw2⟩ : ∃ w2, w2 = ((w.alloc (.cells #[.int .i64 lots, .int .i64 size, .slice A n c] 24)).alloc (.cells #[.int .i64 x.c.b.id, .int .i64 x.c.b.layers, .int .i64 x.c.b.dry.lo, .int .i64 x.c.b.dry.hi, .slice x.da x.dn x.dc, .slice x.wa x.wn x.wc, .int .i64 x.c.len, .int .i64 x.c.str] 61)).alloc (.cells #[.int .i64 0, .int .i64 0, .slice none 0 0] 24) := ⟨_, rfl⟩
  rw [← hw2]
  have B1 := Lib.hid (show Blk w2 w.heap.size 24 #[.int .i64 lots, .int .i64 size, .slice A n c] from hw2 ▸ ((Blk.new _ _ _).alloc _).alloc _)
  have BX := Lib.hid (show Blk w2 (w.heap.size + 1) 61 (encC x).toArray from hw2 ▸ (Blk.at_ (by simp)).alloc _)
  have BR := Lib.hid (show Blk w2 (w.heap.size + 1 + 1) 24 #[.int .i64 0, .int .i64 0, .slice none 0 0] from hw2 ▸ Blk.at_ (by simp))
  have E2 := Lib.hid (show Ext w w2 from hw2 ▸ ((Ext.al _ _).alloc _).alloc _)
  have HZ2 := Lib.hid (show w2.heap.size = w.heap.size + 3 by rw [hw2]; simp)
  clear hw2
  refine (refMill_any lots size l _ _ (HS.out.ext E2.out)).mono ?_
  rintro e w3 ⟨rfl, hE⟩
  rw [millR_eq]
  replace B1 := Lib.hid (B1.out.ext hE); replace BX := Lib.hid (BX.out.ext hE); replace BR := Lib.hid (BR.out.ext hE)
  have E3 := Lib.hid (E2.out.trans hE)
  have HZ3 := Lib.hid (show w.heap.size + 3 ≤ w3.heap.size by have := HZ2.out; have := hE.size; omega)
  clear hE E2 HZ2
  obtain ⟨b0, b1, b2, bf, bl⟩ := B1.out.c3
  obtain ⟨r0, r1, r2, rf, rl⟩ := BR.out.c3
  cases hc : checkM (mOf lots size l) with
  | false =>
    have HPE := Lib.hid (show putME (mOf lots size l) x.c = 90 by unfold putME; rw [hc]; rfl)
    clear hc
    go_wp2
    refine ret_set3N (BR.out) fun W' ⟨z0, z1, z2⟩ hW => ?_
    refine bodyPost_ret (v := .tuple #[valM 0 0 (.slice none 0 0), .int .i64 (90)]) (by simp only [results, Tryd.results33]; simp [go_sem, z0, z1, z2]) rfl ?_
    exact ⟨⟨_, by rw [HPE.out], .inr ⟨by rw [HPE.out]; decide, rfl⟩⟩, ext_grownP (E3.out) hW (by omega)⟩
  | true =>
    have HC := Lib.hid hc
    clear hc
    by_cases h7 : n = 7
    · have HPE := Lib.hid (show putME (mOf lots size l) x.c = 9 by unfold putME; rw [HC.out]; simp; have := HL.out; omega)
      have h7z : ((n : Int) == 7) = true := by simp; omega
      go_wp2
      refine ret_set3N (BR.out) fun W' ⟨z0, z1, z2⟩ hW => ?_
      refine bodyPost_ret (v := .tuple #[valM 0 0 (.slice none 0 0), .int .i64 (9)]) (by simp only [results, Tryd.results33]; simp [go_sem, z0, z1, z2]) rfl ?_
      exact ⟨⟨_, by rw [HPE.out], .inr ⟨by rw [HPE.out]; decide, rfl⟩⟩, ext_grownP (E3.out) hW (by omega)⟩
    · have h7z : ((n : Int) == 7) = false := by simp; omega
      have HN7 := Lib.hid (show ¬ (mOf lots size l).cots.length = 7 by simp; have := HL.out; omega)
      have q0 := BX.out.cell 0
      have q1 := BX.out.cell 1
      have q2 := BX.out.cell 2
      have q3 := BX.out.cell 3
      have q4 := BX.out.cell 4
      have q5 := BX.out.cell 5
      have q6 := BX.out.cell 6
      have q7 := BX.out.cell 7
      simp at q0 q1 q2 q3 q4 q5 q6 q7
      go_wp2_with fail
      refine (with_any lots size l x _ w3 (HS.out.ext E3.out) (HXD.out.ext E3.out) (HXW.out.ext E3.out) HG.out HLN.out HXL.out).mono ?_
      rintro e w4 ⟨⟨v, L, rfl, tv⟩, hE⟩
      have E4 := Lib.hid (E3.out.trans hE)
      have TW := Lib.hid tv
      replace BR := Lib.hid (BR.out.ext hE)
      obtain ⟨A2, n2, c2, rfl, -, -, -⟩ := tv.mlc.1.form
      clear tv hE b0 b1 b2 bf bl r0 r1 r2 rf rl q0 q1 q2 q3 q4 q5 q6 q7 B1 BX h7z E3
      dsimp only [valM]
      go_wp2_with fail
      obtain ⟨w5, hw5⟩ : ∃ w5, w5 = w4.alloc (.cells #[.int .i64 lots, .int .i64 size, .slice A2 n2 c2] 24) := ⟨_, rfl⟩
      rw [← hw5]
      have B6 := Lib.hid (show Blk w5 w4.heap.size 24 #[.int .i64 lots, .int .i64 size, .slice A2 n2 c2] from hw5 ▸ Blk.new _ _ _)
      have E5 := Lib.hid (show Ext w w5 from hw5 ▸ E4.out.alloc _)
      have TW5 := Lib.hid (show TwinL w3.heap.size (insM (mOf lots size l) x.c).cots (.slice A2 n2 c2) L w5 from hw5 ▸ TW.out.ext (Ext.al _ _))
      replace BR := Lib.hid (show Blk w5 _ _ _ from hw5 ▸ BR.out.alloc _)
      clear hw5 TW E4
      refine (refMill_any lots size L _ _ TW5.out.mlc).mono ?_
      rintro e w6 ⟨rfl, hE⟩
      rw [millR_eq, show mOf lots size L = insM (mOf lots size l) x.c by show (⟨lots, size, L.map (·.c)⟩ : Mll) = _; rw [TW5.out.map]; rfl, (put_same HC.out).1]
      have E6 := Lib.hid (E5.out.trans hE)
      replace B6 := Lib.hid (B6.out.ext hE); replace BR := Lib.hid (BR.out.ext hE)
      have TW6 := Lib.hid (TW5.out.ext hE)
      clear hE TW5 E5
      obtain ⟨b0, b1, b2, bf, bl⟩ := B6.out.c3
      obtain ⟨r0, r1, r2, rf, rl⟩ := BR.out.c3
      cases hc2 : checkM (putM (mOf lots size l) x.c) with
      | false =>
        have HPE := Lib.hid (show putME (mOf lots size l) x.c = 93 by unfold putME; rw [HC.out, if_neg HN7.out, hc2]; rfl)
        clear hc2
        go_wp2
        refine ret_set3N (BR.out) fun W' ⟨z0, z1, z2⟩ hW => ?_
        refine bodyPost_ret (v := .tuple #[valM 0 0 (.slice none 0 0), .int .i64 (93)]) (by simp only [results, Tryd.results33]; simp [go_sem, z0, z1, z2]) rfl ?_
        exact ⟨⟨_, by rw [HPE.out], .inr ⟨by rw [HPE.out]; decide, rfl⟩⟩, ext_grownP (E6.out) hW (by omega)⟩
      | true =>
        have HPE := Lib.hid (show putME (mOf lots size l) x.c = 0 by unfold putME; rw [HC.out, if_neg HN7.out, hc2]; rfl)
        have HEQ := Lib.hid ((put_same HC.out).2 hc2)
        clear hc2
        go_wp2
        refine ret_set3N BR.out fun W' ⟨z0, z1, z2⟩ hW => ?_
        refine bodyPost_ret (v := .tuple #[valM lots size (.slice A2 n2 c2), .int .i64 0]) (by simp only [results, Tryd.results33]; simp [go_sem, z0, z1, z2]) rfl ?_
        exact ⟨⟨valM lots size (.slice A2 n2 c2), by rw [HPE.out], .inl ⟨HPE.out, _, L, rfl, by
          have h := (TW6.out.offX (offX_grown BR.out hW)).mono (base' := w.heap.size) (by have := HZ3.out; omega)
          rw [HEQ.out] at h
          exact h⟩⟩, ext_grownP E6.out hW (by omega)⟩
set_option maxHeartbeats 4000000 in
theorem refHelps_any (lots size : Int) (l : List Rc) (x : Rc) (sv : Value) (w : World) (hs : MlC w sv l) (hd : SlD w (.slice x.da x.dn x.dc) x.c.b.draws) (hw : SlW w (.slice x.wa x.wn x.wc) x.c.b.weighs) (hg : greatM l = false) (hlen : l.length ≤ 900) (hxl : x.c.b.draws.length ≤ 1000 ∧ x.c.b.weighs.length ≤ 1000) :
    Calls Tryd.prog 31 #[valM lots size sv, valC x] w fun e w' => e = .returned (.tuple #[.int .i64 (helpsM (mOf lots size l) x.c).1, .int .i64 (helpsM (mOf lots size l) x.c).2.1, .int .i64 (helpsM (mOf lots size l) x.c).2.2]) ∧ Ext w w' := by
  have HS := Lib.hid hs; have HLN := Lib.hid hlen; have HXD := Lib.hid hd; have HXW := Lib.hid hw; have HXL := Lib.hid hxl; have HG := Lib.hid hg
  obtain ⟨A, n, c, rfl, hn, hlc, hcm⟩ := hs.1.form
  have HL := Lib.hid (show l.length = n from hn.out.symm)
  clear hs hn hlen hd hw hxl hg
  go_enter Tryd.func31, Tryd.ntmps31
  go_wp2_with fail
  obtain ⟨w2, hw2⟩ : ∃ w2, w2 = (w.alloc (.cells #[.int .i64 lots, .int .i64 size, .slice A n c] 24)).alloc (.cells #[.int .i64 x.c.b.id, .int .i64 x.c.b.layers, .int .i64 x.c.b.dry.lo, .int .i64 x.c.b.dry.hi, .slice x.da x.dn x.dc, .slice x.wa x.wn x.wc, .int .i64 x.c.len, .int .i64 x.c.str] 61) := ⟨_, rfl⟩
  rw [← hw2]
  have E2 := Lib.hid (show Ext w w2 from hw2 ▸ (Ext.al _ _).alloc _)
  clear hw2
  refine (refPutM_any lots size l x _ w2 (HS.out.ext E2.out) (HXD.out.ext E2.out) (HXW.out.ext E2.out) HG.out HLN.out HXL.out).mono ?_
  rintro e w3 ⟨⟨v, rfl, hv⟩, hE⟩
  have E3 := Lib.hid (E2.out.trans hE)
  rcases hv with ⟨he, v0, L, rfl, tv⟩ | ⟨he, rfl⟩
  · rw [he]
    have HH := Lib.hid (show helpsM (mOf lots size l) x.c = ((evenU (putM (mOf lots size l) x.c)).1, (evenU (putM (mOf lots size l) x.c)).2, bestE (putM (mOf lots size l) x.c)) by unfold helpsM; rw [if_pos he])
    have TW := Lib.hid tv
    clear he tv hE E2
    obtain ⟨A2, n2, c2, rfl, -, -, -⟩ := TW.out.mlc.1.form
    go_wp2_with fail
    refine (refEvenM_any lots size L _ _ (TW.out.mlc.ext (Ext.al _ _))).mono ?_
    rintro e w4 ⟨rfl, hE⟩
    have E4 := Lib.hid (E3.out.trans ((Ext.al _ _).trans hE))
    rw [show mOf lots size L = putM (mOf lots size l) x.c by show (⟨lots, size, L.map (·.c)⟩ : Mll) = _; rw [TW.out.map]; rfl]
    clear hE E3
    go_wp2
    refine bodyPost_ret (v := .tuple #[.int .i64 (helpsM (mOf lots size l) x.c).1, .int .i64 (helpsM (mOf lots size l) x.c).2.1, .int .i64 (helpsM (mOf lots size l) x.c).2.2]) (by rw [HH.out]; simp [results, Tryd.results31, go_sem]) rfl ?_
    exact ⟨rfl, E4.out⟩
  · obtain ⟨er, her⟩ : ∃ er, er = putME (mOf lots size l) x.c := ⟨_, rfl⟩
    have HH := Lib.hid (show helpsM (mOf lots size l) x.c = (0, 0, er) by unfold helpsM; rw [if_neg he, her])
    rw [← her] at he ⊢
    have he' : (er == 0) = false := by simpa using he
    clear her hE E2
    go_wp2
    refine bodyPost_ret (v := .tuple #[.int .i64 (helpsM (mOf lots size l) x.c).1, .int .i64 (helpsM (mOf lots size l) x.c).2.1, .int .i64 (helpsM (mOf lots size l) x.c).2.2]) (by rw [HH.out]; simp [results, Tryd.results31, go_sem]) rfl ?_
    exact ⟨rfl, E3.out.trans (Ext.al _ _)⟩
end Go.Proofs.YtkpengeaolcjhaaDoor
/- slices.Delete at cottons, of one of them. -/
namespace Go.Proofs.YtkpengeaolcjhaaDoor
open Go.RowKit Go.Shelf Go.Lib
set_option maxRecDepth 100000
set_option linter.unusedSimpArgs false

theorem flatC_len (L : List Rc) : (L.flatMap encC).length = L.length * 8 := enc_len (enc := encC) encC_len L
theorem flatC_take : ∀ (L : List Rc) (i : Nat), (L.flatMap encC).take (i * 8) = (L.take i).flatMap encC
  | L, 0 => by simp
  | [], i + 1 => by simp
  | x :: L, i + 1 => by
    rw [List.flatMap_cons, List.take_succ_cons, List.flatMap_cons, ← flatC_take L i]
    rw [show (i + 1) * 8 = (encC x).length + i * 8 by rw [encC_len]; omega, List.take_length_add_append]
theorem flatC_drop : ∀ (L : List Rc) (i : Nat), (L.flatMap encC).drop (i * 8) = (L.drop i).flatMap encC
  | L, 0 => by simp
  | [], i + 1 => by simp
  | x :: L, i + 1 => by
    rw [List.flatMap_cons, List.drop_succ_cons, ← flatC_drop L i]
    rw [show (i + 1) * 8 = (encC x).length + i * 8 by rw [encC_len]; omega, List.drop_length_add_append]
theorem run_delC {W : World} {base g n c i p m : Nat} {ty : TypeId} {L : List Rc} {z : Rc} (hp : m = 0 ∨ p = (i + 1) * 8) (hm : m = n - (i + 1)) (ho : Own encC 61 8 W base (.slice (some ⟨g, 0, none⟩) n c) L) (hn : n = L.length) (hi : i < n) (hz : L[n - 1]? = some z) :
    ∃ W', (Builtin.append_ #[22, 22] ty #[.slice (some ⟨g, 0, none⟩) i c, .slice (some ⟨g, p, none⟩) m (c - (i + 1))]).run Tryd.prog W = .ok (.slice (some ⟨g, 0, none⟩) (n - 1) c) W' ∧ Own encC 61 8 W' base (.slice (some ⟨g, 0, none⟩) n c) ((L.take i ++ L.drop (i + 1)) ++ [z]) ∧ W.grownBy W' (some g) := by
  subst hm
  obtain ⟨g', cur, eg, hb, hB, hnL, hlc, hmx, hcs, ht⟩ := rowC_of ho (by omega)
  obtain rfl : g = g' := by simpa using eg
  obtain ⟨i0, hi0, hz0, hz1, hz2⟩ := info_parts info61x
  have hl : ((L.drop (i + 1)).flatMap encC).length = (n - (i + 1)) * i0.size := by rw [flatC_len, List.length_drop, hz1, hn]
  have hget : ∀ q, q < L.length * 8 → cur[q]? = (L.flatMap encC)[q]? := fun q hq => by
    rw [← ht, List.getElem?_take, if_pos hq]
    simp
  have hnews : ∀ j u, ((L.drop (i + 1)).flatMap encC)[j]? = some u → W.cell? ((⟨g, p, none⟩ : Addr).add j) = some u := fun j u hu => by
    have hj := (List.getElem?_eq_some_iff.1 hu).1
    rw [flatC_len, List.length_drop] at hj
    obtain rfl : p = (i + 1) * 8 := by rcases hp with h | h; · omega
                                       · exact h
    rw [Addr.add_lit]
    rw [hB.cell, hget _ (by omega), ← hu, ← flatC_drop, List.getElem?_drop]
  have hr := run_append_room (P := Tryd.prog) W 22 ty 61 i0 Tryd.underlying22 hi0 g i c cur hB ⟨g, p, none⟩ (n - (i + 1)) (c - (i + 1)) ((L.drop (i + 1)).flatMap encC) hl hnews (fun u hu => by
    obtain ⟨q, _, hq⟩ := List.mem_flatMap.1 hu
    exact encC_one q u hq) (by omega) (by rw [hz1, flatC_len, List.length_drop, hcs]; omega)
  rw [show i + (n - (i + 1)) = n - 1 by omega] at hr
  rw [hz1] at hr
  refine ⟨_, hr, ?_, ⟨rfl, rfl, rfl, by simp, fun k _ hk => setRow_other W g k _ (fun e => hk (by rw [e]))⟩⟩
  have e1 : cur.toList.take (i * 8) = (L.take i).flatMap encC := by
    rw [← flatC_take, ← ht, List.take_take, Nat.min_eq_left (by omega)]
  have e2 : (cur.toList.drop (i * 8 + ((L.drop (i + 1)).flatMap encC).length)).take 8 = encC z := by
    rw [flatC_len, List.length_drop, show i * 8 + (L.length - (i + 1)) * 8 = (n - 1) * 8 by omega]
    have e3 : (cur.toList.drop ((n - 1) * 8)).take 8 = (cur.toList.take (L.length * 8)).drop ((n - 1) * 8) := by
      rw [List.drop_take]
      congr 1
      omega
    rw [e3, ht, flatC_drop, drop_at hz, List.drop_eq_nil_of_le (by omega)]
    simp
  have hlen : (L.take i ++ L.drop (i + 1) ++ [z]).length = n := by simp; omega
  have h := rowC_own (W := W.setRow g (cur.toList.take (i * 8) ++ (L.drop (i + 1)).flatMap encC ++ cur.toList.drop (i * 8 + ((L.drop (i + 1)).flatMap encC).length)).toArray) (base := base) (g := g) (c := c) (L := L.take i ++ L.drop (i + 1) ++ [z]) hb (setRow_heap W g cur _ 61 _ hB) (by rw [hlen]; omega) hmx (by
      simp only [List.size_toArray, List.length_append, List.length_take, List.length_drop, Array.length_toList, flatC_len, hcs]
      omega) (by
      rw [hlen]
      show List.take (n * 8) (cur.toList.take (i * 8) ++ (L.drop (i + 1)).flatMap encC ++ cur.toList.drop (i * 8 + ((L.drop (i + 1)).flatMap encC).length)) = _
      rw [e1, List.flatMap_append, List.flatMap_append, List.flatMap_cons, List.flatMap_nil, List.append_nil, ← e2]
      have hx : ((L.take i).flatMap encC ++ (L.drop (i + 1)).flatMap encC).length = (n - 1) * 8 := by
        rw [List.length_append, flatC_len, flatC_len, List.length_take, List.length_drop]
        omega
      rw [show n * 8 = ((L.take i).flatMap encC ++ (L.drop (i + 1)).flatMap encC).length + 8 by rw [hx]; omega, List.take_length_add_append])
  rwa [hlen] at h
theorem wpList_delC {ops : Array Oper} {rest : List Oper} {o : Oper} {a : Act} {Q : Exit → Act → World → Prop} {W : World} (hgd : o.guard = none) (s x : Operand)
    (ho : o.op = .call { callee := .builtin .append, args := #[s, x], argTypes := #[22, 22] }) {base g q c i p m : Nat} {L : List Rc} {z : Rc} (hs : a.eval s = .slice (some ⟨g, 0, none⟩) i c) (hx : a.eval x = .slice (some ⟨g, p, none⟩) m (c - (i + 1))) (hp : m = 0 ∨ p = (i + 1) * 8) (hm : m = q + 1 - (i + 1))
    (hown : Own encC 61 8 W base (.slice (some ⟨g, 0, none⟩) (q + 1) c) L) (hn : q + 1 = L.length) (hi : i < q + 1) (hz : L[q]? = some z)
    (h : ∀ W', Own encC 61 8 W' base (.slice (some ⟨g, 0, none⟩) (q + 1) c) ((L.take i ++ L.drop (i + 1)) ++ [z]) → W.grownBy W' (some g) → wpList Tryd.prog ops Q rest (a.put o.dst (.slice (some ⟨g, 0, none⟩) q c)) W') : wpList Tryd.prog ops Q (o :: rest) a W := by
  obtain ⟨W', hr, h1, h2⟩ := run_delC (ty := o.type) hp hm hown hn hi hz
  refine wpList_plain hgd fun K hK => ?_
  unfold Oper.wp execOp
  simp only [ho, resolve, invoke, builtin, Sem.run_bind, Sem.run_pure, Result.andThen_ok, List.map_toArray, List.map_cons, List.map_nil, hs, hx, hr]
  exact hK _ _ (h W' h1 h2)
set_option maxHeartbeats 2000000 in
theorem deleteC_any (L : List Rc) (g q c i base : Nat) (z : Rc) (w : World) (hn : q + 1 = L.length) (hi : i < q + 1) (hc : q + 1 ≤ c) (hq : q ≤ 1000) (hz : L[q]? = some z) (ho : Own encC 61 8 w base (.slice (some ⟨g, 0, none⟩) (q + 1) c) L) :
    Calls Tryd.prog 78 #[.slice (some ⟨g, 0, none⟩) (q + 1) c, .int .i64 (i : Int), .int .i64 ((i : Int) + 1)] w fun e w' => e = .returned (.slice (some ⟨g, 0, none⟩) q c) ∧ Own encC 61 8 w' base (.slice (some ⟨g, 0, none⟩) q c) (L.take i ++ L.drop (i + 1)) ∧ w.grownBy w' (some g) := by
  have HO := Lib.hid ho; have HN := Lib.hid hn; have HZ := Lib.hid hz
  have h1 : ((i : Int) == (i : Int) + 1) = false := by simp; omega
  have h2 : (i : Int) ≤ (q : Int) + 1 := by omega
  have h3 : (i : Int) + 1 ≤ (q : Int) + 1 := by omega
  have h4 : (i : Int) ≤ (i : Int) + 1 := by omega
  have h5 : ((q : Int) + 1) ≤ (c : Int) := by omega
  have h6 : (i : Int) ≤ (c : Int) := by omega
  clear ho hn hz
  go_enter Tryd.func78, Tryd.ntmps78
  go_upto_region 5 with (fail)
  refine wp_region_tame_cutk (fun V => Ext w V) (fun V V' => Ext V V') (by kernel_rfl) 33 rfl 6 (by decide +kernel) (by decide +kernel) (by decide +kernel) (Ext.refl _).drew ?_
  simp only [List.take, List.drop]
  repeat (apply tame_q rfl; (intro ρ W hC hr hD; (obtain ⟨hrc, hrg, hrf, hrs⟩ := hr); (simp [go_sem] at hD); go_simp; first | exact ⟨⟨hC, Ext.refl _⟩, rfl⟩ | exact ⟨⟨hC, RS.refl _⟩, rfl⟩ | exact rfl); simp only [List.nil_append, List.cons_append])
  refine tame_end 33 rfl rfl (fun ρ V hC hr hF => ?_)
  obtain ⟨hrc, hrg, hrf, hrs⟩ := hr
  simp [go_sem] at hF
  obtain ⟨f20, f21, f22, f23, f24, f25⟩ := hF
  obtain ⟨p, f25', hp⟩ : ∃ p, ρ (.tmp 25) = .slice (some ⟨g, p, none⟩) (q - i) (c - (i + 1)) ∧ (q - i = 0 ∨ p = (i + 1) * 8) := by
    by_cases hci : c = i + 1
    · exact ⟨0, by rw [f25, if_pos hci], .inl (by omega)⟩
    · exact ⟨(i + 1) * 8, by rw [f25, if_neg hci], .inr rfl⟩
  have HP := Lib.hid hp; have HC := Lib.hid hC
  clear f25
  apply frame_to
  · go_simp
    exact rfl
  clear f20 f21 f22 f23 f24 f25' hrs hrc hrg hrf hp hC
  go_wp2_with (at_builtin; refine wpList_delC rfl (.tmp 22) (.tmp 25) rfl (base := base) (p := p) (q := q) (m := q - i) rfl rfl HP.out (by omega) (HO.out.ext HC.out) HN.out hi HZ.out ?_)
  intro w1 ho1 hg1
  have hl1 : q + 1 = (L.take i ++ (L.drop (i + 1) ++ [z])).length := by have := HN.out; simp; omega
  obtain ⟨w', hr, HOC, hgr⟩ := run_clear_own (enc := encC) (sz := 8) encC_len (t := 22) (e := 61) (ty := 0) (z := .agg #[.int .i64 0, .int .i64 0, .int .i64 0, .int .i64 0, .slice none 0 0, .slice none 0 0, .int .i64 0, .int .i64 0]) Tryd.underlying22 Tryd.zeroValue61 rfl (by decide) (by decide) (k := q) (c := c - q) ho1 hl1 (by omega)
  have HE1 := Lib.hid (grown_tr (grown_tr (grown_ext (World.grownBy.refl _ _) HC.out) hg1) hgr)
  have HT := Lib.hid (show (L.take i ++ (L.drop (i + 1) ++ [z])).take q = L.take i ++ L.drop (i + 1) by
    have := HN.out
    rw [← List.append_assoc]
    rw [List.take_append_of_le_length (by simp; omega), List.take_of_length_le (by simp; omega)])
  have HO3 := Lib.hid (HT.out ▸ HOC)
  have hqz : (q : Int) ≤ (q : Int) + 1 := by omega
  have hqc : q ≤ c := by omega
  have hqcz : (q : Int) ≤ (c : Int) := by omega
  have e1 : q + 1 - q = 1 := by omega
  have hci : ¬ c = q := by omega
  have hsub : q + 1 - q = 1 := by omega
  rw [hsub] at hr
  clear hgr hg1 ho1 HOC hl1
  go_wp2
  go_ret
  exact ⟨rfl, HO3.out, HE1.out⟩
end Go.Proofs.YtkpengeaolcjhaaDoor
/- mill.Take. -/
namespace Go.Proofs.YtkpengeaolcjhaaDoor
open Go.RowKit Go.Shelf Go.Lib
set_option maxRecDepth 100000
set_option linter.unusedSimpArgs false

/-- The place of a bale's number among the cottons, or -1. -/
def placeM (m : Mll) (id : Int) : Int := idxF (fun y => decide (id = y)) (m.cots.map (·.b.id))
def takeK (l : List Cot) (i : Nat) : List Cot := l.take i ++ l.drop (i + 1)
/-- The mill without a bale. -/
def takeM (m : Mll) (id : Int) : Mll := ⟨m.lots, m.size, takeK m.cots (placeM m id).toNat⟩
def takeME (m : Mll) (id : Int) : Int := if checkM m then (if placeM m id < 0 then 6 else 0) else 90
set_option maxHeartbeats 8000000 in
theorem takeM_any (lots size id : Int) (l : List Rc) (sv : Value) (w : World) (hT : TabM w) (hs : MlC w sv l) (hlen : l.length ≤ 1000) :
    Calls Tryd.prog 34 #[valM lots size sv, .int .i64 id] w fun e w' => (∃ v, e = .returned (.tuple #[v, .int .i64 (takeME (mOf lots size l) id)]) ∧ MlRet (takeME (mOf lots size l) id) (takeM (mOf lots size l) id) w.heap.size v w') ∧ Ext w w' := by
  have HS := Lib.hid hs; have HT := Lib.hid hT; have HLN := Lib.hid hlen
  obtain ⟨A, n, c, rfl, hn, hlc, hcm⟩ := hs.1.form
  have HL := Lib.hid (show l.length = n from hn.out.symm)
  clear hs hT hn hlen
  go_enter Tryd.func34, Tryd.ntmps34
  go_wp2_with fail
  obtain ⟨w2, hw2⟩ : ∃ w2, w2 = (w.alloc (.cells #[.int .i64 lots, .int .i64 size, .slice A n c] 24)).alloc (.cells #[.int .i64 0, .int .i64 0, .slice none 0 0] 24) := ⟨_, rfl⟩
  rw [← hw2]
  have B1 := Lib.hid (show Blk w2 w.heap.size 24 #[.int .i64 lots, .int .i64 size, .slice A n c] from hw2 ▸ (Blk.new _ _ _).alloc _)
  have BR := Lib.hid (show Blk w2 (w.heap.size + 1) 24 #[.int .i64 0, .int .i64 0, .slice none 0 0] from hw2 ▸ Blk.at_ (by simp))
  have E2 := Lib.hid (show Ext w w2 from hw2 ▸ (Ext.al _ _).alloc _)
  have HZ2 := Lib.hid (show w2.heap.size = w.heap.size + 2 by rw [hw2]; simp)
  clear hw2
  refine (checkM_any lots size l _ _ (HT.out.ext E2.out) (HS.out.ext E2.out) HLN.out).mono ?_
  rintro e w3 ⟨rfl, hE⟩
  replace B1 := Lib.hid (B1.out.ext hE); replace BR := Lib.hid (BR.out.ext hE)
  have E3 := Lib.hid (E2.out.trans hE)
  have HZ3 := Lib.hid (show w.heap.size + 2 ≤ w3.heap.size by have := HZ2.out; have := hE.size; omega)
  clear hE E2 HZ2
  obtain ⟨b0, b1, b2, bf, bl⟩ := B1.out.c3
  obtain ⟨r0, r1, r2, rf, rl⟩ := BR.out.c3
  cases hc : checkM (mOf lots size l) with
  | false =>
    have HPE := Lib.hid (show takeME (mOf lots size l) id = 90 by unfold takeME; rw [hc]; rfl)
    simp only [errB]
    clear hc
    go_wp2
    refine ret_set3N (BR.out) fun W' ⟨z0, z1, z2⟩ hW => ?_
    refine bodyPost_ret (v := .tuple #[valM 0 0 (.slice none 0 0), .int .i64 (90)]) (by simp only [results, Tryd.results34]; simp [go_sem, z0, z1, z2]) rfl ?_
    exact ⟨⟨_, by rw [HPE.out], .inr ⟨by rw [HPE.out]; decide, rfl⟩⟩, ext_grownP (E3.out) hW (by omega)⟩
  | true =>
    have HC := Lib.hid hc
    have HM := Lib.hid (mok_of hc)
    have hn7 : n ≤ 7 := by have h := HM.out.n7; simp at h; have := HL.out; omega
    simp only [errB]
    clear hc
    go_wp2_with fail
    refine (ids_any lots size l _ w3 (HS.out.1.ext E3.out) HLN.out).mono ?_
    rintro e w4 ⟨⟨v, rfl, hown⟩, hE⟩
    replace B1 := Lib.hid (B1.out.ext hE); replace BR := Lib.hid (BR.out.ext hE)
    have E4 := Lib.hid (E3.out.trans hE)
    have OI := Lib.hid hown
    clear hE hown E3 b0 b1 b2 bf bl r0 r1 r2 rf rl
    go_wp2_with fail
    refine (f77_any (l.map (·.c.b.id)) id v w4 (Own.sl (enc := encI) (fun _ => rfl) OI.out)).mono ?_
    rintro e w5 ⟨rfl, hE⟩
    replace B1 := Lib.hid (B1.out.ext hE); replace BR := Lib.hid (BR.out.ext hE)
    have E5 := Lib.hid (E4.out.trans hE)
    have HZ5 := Lib.hid (show w.heap.size + 2 ≤ w5.heap.size by have := BR.out.lt; omega)
    have HPL := Lib.hid (show placeM (mOf lots size l) id = idxF (fun y => decide (id = y)) (l.map (·.c.b.id)) by unfold placeM; rw [List.map_map]; rfl)
    clear hE OI E4 HZ3
    obtain ⟨b0, b1, b2, bf, bl⟩ := B1.out.c3
    obtain ⟨r0, r1, r2, rf, rl⟩ := BR.out.c3
    rcases idxF_cases (fun y => decide (id = y)) (l.map (·.c.b.id)) with ⟨hi, -⟩ | ⟨k, y, hi, hy, -, -⟩
    · rw [hi]
      have HPE := Lib.hid (show takeME (mOf lots size l) id = 6 by unfold takeME; rw [HC.out, HPL.out, hi]; rfl)
      clear hi
      go_wp2
      refine ret_set3N (BR.out) fun W' ⟨z0, z1, z2⟩ hW => ?_
      refine bodyPost_ret (v := .tuple #[valM 0 0 (.slice none 0 0), .int .i64 (6)]) (by simp only [results, Tryd.results34]; simp [go_sem, z0, z1, z2]) rfl ?_
      exact ⟨⟨_, by rw [HPE.out], .inr ⟨by rw [HPE.out]; decide, rfl⟩⟩, ext_grownP (E5.out) hW (by omega)⟩
    · rw [hi]
      have HPE := Lib.hid (show takeME (mOf lots size l) id = 0 by unfold takeME; rw [HC.out, HPL.out, hi, if_pos rfl, if_neg (by omega)])
      have HPK := Lib.hid (show (placeM (mOf lots size l) id).toNat = k by rw [HPL.out, hi]; simp)
      have hkn : k < n := by
        have := (List.getElem?_eq_some_iff.1 hy).1
        simp at this
        have := HL.out; omega
      have hk0 : ¬ ((k : Int) < 0) := by omega
      clear hi hy
      go_wp2_with fail
      refine (copiedM_any lots size l _ w5 (HS.out.ext E5.out) HLN.out (fun r hr => by
        have h := valid_bds (HM.out.v r.c (List.mem_map_of_mem hr))
        exact ⟨by have := h.nd; omega, by have := h.nw; omega⟩)).mono ?_
      rintro e w7 ⟨⟨v, L, rfl, tv⟩, hE⟩
      have TW := Lib.hid tv
      have E7 := Lib.hid (E5.out.trans hE)
      replace B1 := Lib.hid (B1.out.ext hE); replace BR := Lib.hid (BR.out.ext hE)
      have HLL := Lib.hid (show L.length = n by have h := congrArg List.length tv.map; simp at h; have := HL.out; omega)
      obtain ⟨g2, cap2, rfl, hcap⟩ : ∃ g2 cap2, v = .slice (some ⟨g2, 0, none⟩) n cap2 ∧ n ≤ cap2 := by
        rcases own_formG tv.own with ⟨-, h2⟩ | ⟨g', cap, cur, h1, -, -, h4, -⟩
        · have h3 := HLL.out; rw [h2] at h3; simp at h3; omega
        · exact ⟨g', cap, by rw [h1, HLL.out], by have := HLL.out; omega⟩
      clear tv hE b0 b1 b2 bf bl r0 r1 r2 rf rl E5
      dsimp only [valM]
      obtain ⟨b0, b1, b2, bf, bl⟩ := B1.out.c3
      go_upto_region 8 with (fail)
      obtain ⟨w8, hw8⟩ : ∃ w8, w8 = ((w7.setCell ⟨w.heap.size, 0, none⟩ (.int .i64 lots)).setCell ⟨w.heap.size, 1, none⟩ (.int .i64 size)).setCell ⟨w.heap.size, 2, none⟩ (.slice (some ⟨g2, 0, none⟩) n cap2) := ⟨_, rfl⟩
      rw [← hw8]
      have hG8 : w7.grownBy w8 (some w.heap.size) := hw8 ▸ grown_set (grown_set (grown_set (World.grownBy.refl _ _) (p := ⟨w.heap.size, 0, none⟩) (.inl rfl) _) (p := ⟨w.heap.size, 1, none⟩) (.inl rfl) _) (p := ⟨w.heap.size, 2, none⟩) (.inl rfl) _
      have OF8 := Lib.hid (offX_grown B1.out hG8)
      have D1 := Lib.hid (show Blk w8 w.heap.size 24 #[.int .i64 lots, .int .i64 size, .slice (some ⟨g2, 0, none⟩) n cap2] by
        rw [hw8]; have h := ((B1.out.set_ 0 (.int .i64 lots)).set_ 1 (.int .i64 size)).set_ 2 (.slice (some ⟨g2, 0, none⟩) n cap2); simpa using h)
      have DR := Lib.hid (BR.out.grown hG8 (by intro e; injection e with e; omega))
      have E8 := Lib.hid (ext_grownP E7.out hG8 (Nat.le_refl _))
      have TW8 := Lib.hid (TW.out.offX OF8.out)
      clear hw8 hG8 OF8 b0 b1 b2 bf bl B1 BR TW E7
      obtain ⟨b0, b1, b2, bf, bl⟩ := D1.out.c3
      obtain ⟨z, hz⟩ : ∃ z, L[n - 1]? = some z := ⟨_, List.getElem?_eq_getElem (by have := HLL.out; omega)⟩
      obtain ⟨q, rfl⟩ : ∃ q, n = q + 1 := ⟨n - 1, by omega⟩
      have hwk : IntKind.i64.wrap ((k : Int) + 1) = (k : Int) + 1 := by rw [IntKind.wrap_i64]; omega
      go_wp2_with fail
      refine (deleteC_any L g2 q cap2 k _ z w8 HLL.out.symm hkn hcap (by omega) hz TW8.out.own).mono ?_
      rintro e w9 ⟨rfl, ho, hg⟩
      have O9 := Lib.hid ho
      have hgb : w5.heap.size ≤ g2 := by
        rcases own_formG TW8.out.own with ⟨h1, -⟩ | ⟨g', cap', cur, h1, h2, -⟩
        · simp at h1
        · obtain ⟨rfl, -⟩ : g2 = g' ∧ _ := by simpa using h1
          exact h2
      obtain ⟨g', cur, eg', -, hcur, -⟩ := rowC_of TW8.out.own (by rw [HLL.out]; omega)
      obtain rfl : g2 = g' := by simpa using eg'
      have OF9 := Lib.hid (offX_grown hcur hg)
      have TWL := Lib.hid (show TwinL w5.heap.size (takeM (mOf lots size l) id).cots (.slice (some ⟨g2, 0, none⟩) q cap2) (L.take k ++ L.drop (k + 1)) w9 from ⟨O9.out, fun r hr => (TW8.out.lists r (by
          rcases List.mem_append.1 hr with hr | hr
          · exact List.mem_of_mem_take hr
          · exact List.mem_of_mem_drop hr)).off OF9.out, by
        show _ = takeK (l.map (·.c)) (placeM (mOf lots size l) id).toNat
        rw [HPK.out, ← TW8.out.map]
        unfold takeK
        rw [List.map_append, List.map_take, List.map_drop]⟩)
      have E9 := Lib.hid (ext_grownP E8.out hg (by have := HZ5.out; omega))
      replace D1 := Lib.hid (D1.out.grown hg (by intro e; injection e with e; have := HZ5.out; omega))
      replace DR := Lib.hid (DR.out.grown hg (by intro e; injection e with e; have := HZ5.out; omega))
      clear ho hg hgb hcur eg' b0 b1 b2 bf bl O9 TW8 OF9 E8
      obtain ⟨b0, b1, b2, bf, bl⟩ := D1.out.c3
      go_upto_region 9 with (fail)
      obtain ⟨w10, hw10⟩ : ∃ w10, w10 = w9.setCell ⟨w.heap.size, 2, none⟩ (.slice (some ⟨g2, 0, none⟩) q cap2) := ⟨_, rfl⟩
      rw [← hw10]
      have hG10 : w9.grownBy w10 (some w.heap.size) := hw10 ▸ grown_set (World.grownBy.refl _ _) (p := ⟨w.heap.size, 2, none⟩) (.inl rfl) _
      have OF10 := Lib.hid (offX_grown D1.out hG10)
      have F1 := Lib.hid (show Blk w10 w.heap.size 24 #[.int .i64 lots, .int .i64 size, .slice (some ⟨g2, 0, none⟩) q cap2] by
        rw [hw10]; have h := D1.out.set_ 2 (.slice (some ⟨g2, 0, none⟩) q cap2); simpa using h)
      have FR := Lib.hid (DR.out.grown hG10 (by intro e; injection e with e; omega))
      have E10 := Lib.hid (ext_grownP E9.out hG10 (Nat.le_refl _))
      have TW10 := Lib.hid (TWL.out.offX OF10.out)
      clear hw10 hG10 OF10 b0 b1 b2 bf bl D1 DR TWL E9
      obtain ⟨b0, b1, b2, bf, bl⟩ := F1.out.c3
      obtain ⟨r0, r1, r2, rf, rl⟩ := FR.out.c3
      go_wp2
      refine ret_set3N FR.out fun W' ⟨z0, z1, z2⟩ hW => ?_
      refine bodyPost_ret (v := .tuple #[valM lots size (.slice (some ⟨g2, 0, none⟩) q cap2), .int .i64 0]) (by simp only [results, Tryd.results34]; simp [go_sem, z0, z1, z2]) rfl ?_
      exact ⟨⟨valM lots size (.slice (some ⟨g2, 0, none⟩) q cap2), by rw [HPE.out], .inl ⟨HPE.out, _, _, rfl, (TW10.out.offX (offX_grown FR.out hW)).mono (by have := HZ5.out; omega)⟩⟩, ext_grownP E10.out hW (by omega)⟩
end Go.Proofs.YtkpengeaolcjhaaDoor
/- The reference's Index, without. -/
namespace Go.Proofs.YtkpengeaolcjhaaDoor
open Go.RowKit Go.Shelf Go.Lib
set_option maxRecDepth 100000
set_option linter.unusedSimpArgs false

set_option maxHeartbeats 1000000 in
theorem indexM_any (lots size id : Int) (l : List Rc) (sv : Value) (w : World) (hs : MlC w sv l) (hlen : l.length ≤ 900) :
    Calls Tryd.prog 79 #[valM lots size sv, .int .i64 id] w fun e w' => e = .returned (.int .i64 (placeM (mOf lots size l) id)) ∧ Ext w w' := by
  have HS := Lib.hid hs
  obtain ⟨A, n, c, rfl, hn, hlc, hcm⟩ := hs.1.form
  have HL := Lib.hid (show l.length = n from hn.out.symm)
  have hn9 : n ≤ 900 := by have := hn.out; omega
  have HPL := Lib.hid (show placeM (mOf lots size l) id = idxF (fun y => decide (id = y)) (l.map (·.c.b.id)) by unfold placeM; rw [List.map_map]; rfl)
  clear hs hn hlen
  go_enter Tryd.func79, Tryd.ntmps79
  obtain ⟨w1, hw1⟩ : ∃ w1, w1 = w.alloc (.cells #[.int .i64 lots, .int .i64 size, .slice A n c] 24) := ⟨_, rfl⟩
  have B1 := Lib.hid (show Blk w1 w.heap.size 24 #[.int .i64 lots, .int .i64 size, .slice A n c] from hw1 ▸ Blk.new _ _ _)
  have E1 := Lib.hid (show Ext w w1 from hw1 ▸ Ext.al _ _)
  go_wp2
  rw [← hw1]
  clear hw1
  go_loopg [5] n (fun gg s wr => ∃ kk : Nat, kk ≤ n ∧ n - kk ≤ gg ∧ s = .int .i64 (kk : Int) ∧ Aside (Ext w1 wr) ∧ Aside (∀ j y, j < kk → (l.map (·.c.b.id))[j]? = some y → decide (id = y) = false))
  case atStart => exact ⟨0, Nat.zero_le _, by omega, rfl, Ext.refl _, fun j y hj => absurd hj (Nat.not_lt_zero _)⟩
  case round =>
    obtain ⟨kk, hkk, hg, rfl, BW, FA⟩ := hrel
    obtain ⟨b0, b1, b2, bf, bl⟩ := (B1.out.ext BW.out).c3
    by_cases hlt : kk < n
    · have hltz : (kk : Int) < (n : Int) := by omega
      obtain ⟨b, off, y, rfl, hx, hb, hcell⟩ := (HS.out.1.ext (E1.out.trans BW.out)).at_ hlt
      have c0 := (SlC.cells hcell (Ext.refl _)).1
      have HX := Lib.hid (show (l.map (·.c.b.id))[kk]? = some y.c.b.id by rw [List.getElem?_map, hx]; rfl)
      clear hx hcell
      have hwk : IntKind.i64.wrap ((kk : Int) + 1) = (kk : Int) + 1 := by rw [IntKind.wrap_i64]; omega
      by_cases hq : y.c.b.id = id
      · have HQ := Lib.hid (show decide (id = y.c.b.id) = true by simp [hq])
        go_wp2
        go_ret
        exact ⟨by rw [HPL.out, idxF_some (fun y => decide (id = y)) (l.map fun r => r.c.b.id) kk y.c.b.id HX.out HQ.out FA.out]; rfl, E1.out.trans BW.out⟩
      · have HQ := Lib.hid (show decide (id = y.c.b.id) = false by simp; exact fun e => hq e.symm)
        have hqb : (y.c.b.id == id) = false := by simpa using hq
        go_wp2
        go_roundg (n - (kk + 1))
        case measure => omega
        case rel => exact ⟨kk + 1, by omega, by omega, by simp, BW.out, fun j z hj hz => by
          by_cases hjk : j = kk
          · subst hjk
            rw [HX.out] at hz
            injection hz with hz
            rw [← hz]; exact HQ.out
          · exact FA.out j z (by omega) hz⟩
    · have HI := Lib.hid (show idxF (fun y => decide (id = y)) (l.map (·.c.b.id)) = -1 from idxF_none _ _ (fun x hx => by
        obtain ⟨j, hj⟩ := List.getElem?_of_mem hx
        refine FA.out j x ?_ hj
        have h1 := (List.getElem?_eq_some_iff.1 hj).1
        simp at h1
        have := HL.out
        omega))
      go_wp2
      go_ret
      exact ⟨by rw [HPL.out, HI.out]; rfl, E1.out.trans BW.out⟩
/-- An empty slice in its own new block. -/
def NoneAt (base : Nat) (v : Value) (W : World) : Prop := ∃ g, v = .slice (some ⟨g, 0, none⟩) 0 0 ∧ base ≤ g ∧ Blk W g 61 #[]
set_option maxHeartbeats 4000000 in
theorem dropM_any (lots size : Int) (l : List Rc) (i : Nat) (sv : Value) (w : World) (hs : MlC w sv l) (hg : greatM l = false) (hlen : l.length ≤ 900) (hi : i < l.length) :
    Calls Tryd.prog 80 #[valM lots size sv, .int .i64 (i : Int)] w fun e w' => (∃ v L, e = .returned (valM lots size v) ∧ TwinL w.heap.size (takeK (l.map (·.c)) i) v L w') ∧ Ext w w' := by
  have HS := Lib.hid hs; have HGM := Lib.hid hg
  obtain ⟨A, n, c, rfl, hn, hlc, hcm⟩ := hs.1.form
  have HL := Lib.hid (show l.length = n from hn.out.symm)
  have hn9 : n ≤ 900 := by have := hn.out; omega
  have hin : i < n := by have := hn.out; omega
  clear hs hn hlen hg hi
  go_enter Tryd.func80, Tryd.ntmps80
  obtain ⟨w2, hw2⟩ : ∃ w2, w2 = (w.alloc (.cells #[.int .i64 lots, .int .i64 size, .slice A n c] 24)).alloc (.cells #[.int .i64 0, .int .i64 0, .slice none 0 0] 24) := ⟨_, rfl⟩
  have BR := Lib.hid (show Blk w2 (w.heap.size + 1) 24 #[.int .i64 0, .int .i64 0, .slice none 0 0] from hw2 ▸ Blk.at_ (by simp))
  have E2 := Lib.hid (show Ext w w2 from hw2 ▸ (Ext.al _ _).alloc _)
  have HZ2 := Lib.hid (show w2.heap.size = w.heap.size + 2 by rw [hw2]; simp)
  go_wp2_with fail
  rw [← hw2]
  clear hw2
  refine (twinM_any lots size l _ w2 (HS.out.ext E2.out) HGM.out).mono ?_
  rintro e w5 ⟨⟨v, L, rfl, tv⟩, hE5⟩
  have HLL := Lib.hid (show L.length = n by have h := congrArg List.length tv.map; simp at h; have := HL.out; omega)
  obtain ⟨A5, n5, c5, rfl, hn5, hlc5, hcm5⟩ := (show SlC w5 v L from tv.mlc.1).form
  obtain rfl : n5 = n := by have := HLL.out; have := hn5.out; omega
  have TV := Lib.hid tv
  have HE5 := Lib.hid (E2.out.trans hE5)
  have HH2 := Lib.hid (BR.out.ext hE5)
  have HZ5 := Lib.hid (show w.heap.size + 2 ≤ w5.heap.size ∧ w2.heap.size ≤ w5.heap.size by have h1 := HZ2.out; have h2 := hE5.size; omega)
  clear tv hE5 BR hn5
  dsimp only [valM]
  go_upto_region 2 with (fail)
  obtain ⟨w6, hw6⟩ : ∃ w6, w6 = w5.alloc (.cells #[.int .i64 lots, .int .i64 size, .slice A5 n5 c5] 24) := ⟨_, rfl⟩
  rw [← hw6]
  have K2 := Lib.hid (show Blk w6 (w.heap.size + 1) 24 _ from hw6 ▸ HH2.out.alloc _)
  have K6 := Lib.hid (show Blk w6 w5.heap.size 24 #[.int .i64 lots, .int .i64 size, .slice A5 n5 c5] from hw6 ▸ Blk.new _ _ _)
  have T6 := Lib.hid (show TwinL w2.heap.size (l.map (·.c)) (.slice A5 n5 c5) L w6 from hw6 ▸ TV.out.ext (Ext.al _ _))
  have E6 := Lib.hid (show Ext w w6 from hw6 ▸ HE5.out.alloc _)
  have HZ6 := Lib.hid (show w6.heap.size = w5.heap.size + 1 by rw [hw6]; simp)
  clear hw6 HH2 TV HE5
  have hqm : (i : Int) ≤ (n5 : Int) := by omega
  have hqc : (i : Int) ≤ (c5 : Int) := by omega
  have hqm1 : (i : Int) + 1 ≤ (n5 : Int) := by omega
  have hqc1 : (i : Int) + 1 ≤ (c5 : Int) := by omega
  have hwk : IntKind.i64.wrap ((i : Int) + 1) = (i : Int) + 1 := by rw [IntKind.wrap_i64]; omega
  have m2 := fun V (h : Ext w6 V) => (K6.out.ext h).c3.2.2.1
  refine wp_region_tame_cutk (fun V => Ext w6 V) (fun V V' => Ext V V') (by kernel_rfl) 22 rfl 11 (by decide +kernel) (by decide +kernel) (by decide +kernel) (Ext.refl _).drew ?_
  simp only [List.take, List.drop]
  apply tame_v rfl (NoneAt w6.heap.size) (fun v V V' _ hE h => by obtain ⟨g, h1, h2, h3⟩ := h; exact ⟨g, h1, h2, h3.ext hE⟩)
  · intro ρ V hC hr hD
    obtain ⟨hrc, hrg, hrf, hrs⟩ := hr
    simp [go_sem] at hD
    go_simp
    exact ⟨⟨hC.alloc _, Ext.al _ _⟩, ⟨_, rfl, hC.size, Blk.new _ _ _⟩⟩
  simp only [List.nil_append, List.cons_append]
  repeat (apply tame_q rfl; (intro ρ W hC hr hD; (obtain ⟨hrc, hrg, hrf, hrs⟩ := hr); (simp [go_sem] at hD); go_simp; first | exact ⟨⟨hC, Ext.refl _⟩, rfl⟩ | exact ⟨⟨hC, RS.refl _⟩, rfl⟩ | exact rfl); simp only [List.nil_append, List.cons_append])
  apply tame_v rfl (fun v V => Own encC 61 8 V w6.heap.size v (L.take i)) (fun v V V' _ hE h => h.ext hE)
  · intro ρ V hC hr hD
    obtain ⟨hrc, hrg, hrf, hrs⟩ := hr
    simp [go_sem] at hD
    obtain ⟨⟨g, q1, q2, q3⟩, q4⟩ := hD
    obtain ⟨v', W', hrun, hown, hext⟩ := run_copy (t := 22) (ty := 22) (enc := encC) (sz := 8) Tryd.underlying22 info61x rfl (by decide) (by decide) (fun _ => rfl) q3 q2 hC.size (Sl.head (T6.out.mlc.1.ext hC) (Nat.le_of_lt hin)) (by have := HLL.out; simp; omega)
    show opGives _ _ _ _ _ _ _
    unfold opGives execOp
    simp only [resolve, invoke, builtin, Sem.run_bind, Sem.run_pure, Result.andThen_ok, List.map_toArray, List.map_cons, List.map_nil, q1, q4, hrun]
    exact ⟨⟨hC.trans hext, hext⟩, hown⟩
  simp only [List.nil_append, List.cons_append]
  repeat (apply tame_q rfl; (intro ρ W hC hr hD; (obtain ⟨hrc, hrg, hrf, hrs⟩ := hr); (simp [go_sem] at hD); go_simp; first | exact ⟨⟨hC, Ext.refl _⟩, rfl⟩ | exact ⟨⟨hC, RS.refl _⟩, rfl⟩ | exact rfl); simp only [List.nil_append, List.cons_append])
  refine tame_end 22 rfl rfl (fun ρ V hC hr hF => ?_)
  obtain ⟨hrc, hrg, hrf, hrs⟩ := hr
  simp [go_sem] at hF
  obtain ⟨⟨g8, f8, -, -⟩, f9, f10, f11, f12, f13, f14, f15, f16, f17, f18⟩ := hF
  obtain ⟨A3, n3, c3, e13, hn3, -, -⟩ := (Own.sl (enc := encC) encC_len f13 : SlC V (ρ (.tmp 13)) (L.take i)).form
  rw [e13] at f13
  have hn3' : n3 = i := by have h := hn3.out; have := HLL.out; simp at h; omega
  subst hn3'
  have O3 := Lib.hid f13; have E9 := Lib.hid hC
  have HSL := Lib.hid (show SlC V (sliced A5 (n3 + 1) n5 c5 8) (L.drop (n3 + 1)) from Sl.tail (T6.out.mlc.1.ext hC) hin)
  apply frame_to
  · go_simp
    exact rfl
  clear f8 f9 f10 f11 f12 f13 f14 f15 f16 f17 f18 e13 hn3 hrs hrc hrg hrf hC m2
  by_cases hcq : c5 = n3 + 1
  case pos =>
    go_wp2_with (at_builtin; refine wpList_appC rfl (.tmp 13) (.tmp 18) rfl (base := w6.heap.size) (p := L.take n3) (m := L.drop (n3 + 1)) rfl rfl O3.out (by have := HLL.out; simp; omega) E9.out.size (by have h := HSL.out; unfold sliced at h; first | exact h | (rw [if_neg hcq] at h; exact h) | (rw [if_pos hcq] at h; exact h) | (rw [if_pos hcq, show c5 - (n3 + 1) = 0 by omega] at h; exact h)) ?_)
    intro A4 n4 c4 W4 hn4 ho4 hb4 _
    have E10 := Lib.hid (show Ext w6 W4 from Below.trans E9.out hb4)
    have TWL := Lib.hid (show TwinL w2.heap.size (takeK (l.map (·.c)) n3) (.slice A4 n4 c4) (L.take n3 ++ L.drop (n3 + 1)) W4 from ⟨ho4.mono (by have h1 := HZ5.out; have h2 := HZ6.out; omega), fun r hr => by
      rcases List.mem_append.1 hr with hr | hr
      · exact ((T6.out.lists r (List.mem_of_mem_take hr)).ext E10.out)
      · exact ((T6.out.lists r (List.mem_of_mem_drop hr)).ext E10.out), by
      unfold takeK
      rw [← T6.out.map, List.map_append, List.map_take, List.map_drop]⟩)
    clear hn4 ho4 hb4 O3 E9 HSL
    obtain ⟨k0, k1, k2, kf, kl⟩ := (K6.out.ext E10.out).c3
    go_upto_region 3 with (fail)
    obtain ⟨W5, hW5⟩ : ∃ W5, W5 = W4.setCell ⟨w5.heap.size, 2, none⟩ (.slice A4 n4 c4) := ⟨_, rfl⟩
    rw [← hW5]
    have hG5 : W4.grownBy W5 (some w5.heap.size) := hW5 ▸ grown_set (World.grownBy.refl _ _) (p := ⟨w5.heap.size, 2, none⟩) (.inl rfl) _
    have M6 := Lib.hid (show Blk W5 w5.heap.size 24 #[.int .i64 lots, .int .i64 size, .slice A4 n4 c4] by
      rw [hW5]; have h := (K6.out.ext E10.out).set_ 2 (.slice A4 n4 c4); simpa using h)
    have M2 := Lib.hid (show Blk W5 (w.heap.size + 1) 24 _ from (K2.out.ext E10.out).grown hG5 (by intro e; injection e with e; have := HZ5.out; omega))
    have TW5 := Lib.hid (TWL.out.offX (offX_grown (K6.out.ext E10.out) hG5))
    have EE := Lib.hid (ext_grownP (E6.out.trans E10.out) hG5 (by have := HZ5.out; omega))
    clear hW5 hG5 k0 k1 k2 kf kl E10 TWL K6 K2
    obtain ⟨k0, k1, k2, kf, kl⟩ := M6.out.c3
    obtain ⟨r0, r1, r2, rf, rl⟩ := M2.out.c3
    go_wp2
    refine ret_set3N M2.out fun W' ⟨z0, z1, z2⟩ hW => ?_
    refine bodyPost_ret (v := valM lots size (.slice A4 n4 c4)) (by simp [results, Tryd.results80, go_sem, z0, z1, z2]) rfl ?_
    exact ⟨⟨_, _, rfl, (TW5.out.offX (offX_grown M2.out hW)).mono (by have := HZ2.out; omega)⟩, ext_grownP EE.out hW (by omega)⟩
  case neg =>
    go_wp2_with (at_builtin; refine wpList_appC rfl (.tmp 13) (.tmp 18) rfl (base := w6.heap.size) (p := L.take n3) (m := L.drop (n3 + 1)) rfl rfl O3.out (by have := HLL.out; simp; omega) E9.out.size (by have h := HSL.out; unfold sliced at h; first | exact h | (rw [if_neg hcq] at h; exact h) | (rw [if_pos hcq] at h; exact h) | (rw [if_pos hcq, show c5 - (n3 + 1) = 0 by omega] at h; exact h)) ?_)
    intro A4 n4 c4 W4 hn4 ho4 hb4 _
    have E10 := Lib.hid (show Ext w6 W4 from Below.trans E9.out hb4)
    have TWL := Lib.hid (show TwinL w2.heap.size (takeK (l.map (·.c)) n3) (.slice A4 n4 c4) (L.take n3 ++ L.drop (n3 + 1)) W4 from ⟨ho4.mono (by have h1 := HZ5.out; have h2 := HZ6.out; omega), fun r hr => by
      rcases List.mem_append.1 hr with hr | hr
      · exact ((T6.out.lists r (List.mem_of_mem_take hr)).ext E10.out)
      · exact ((T6.out.lists r (List.mem_of_mem_drop hr)).ext E10.out), by
      unfold takeK
      rw [← T6.out.map, List.map_append, List.map_take, List.map_drop]⟩)
    clear hn4 ho4 hb4 O3 E9 HSL
    obtain ⟨k0, k1, k2, kf, kl⟩ := (K6.out.ext E10.out).c3
    go_upto_region 3 with (fail)
    obtain ⟨W5, hW5⟩ : ∃ W5, W5 = W4.setCell ⟨w5.heap.size, 2, none⟩ (.slice A4 n4 c4) := ⟨_, rfl⟩
    rw [← hW5]
    have hG5 : W4.grownBy W5 (some w5.heap.size) := hW5 ▸ grown_set (World.grownBy.refl _ _) (p := ⟨w5.heap.size, 2, none⟩) (.inl rfl) _
    have M6 := Lib.hid (show Blk W5 w5.heap.size 24 #[.int .i64 lots, .int .i64 size, .slice A4 n4 c4] by
      rw [hW5]; have h := (K6.out.ext E10.out).set_ 2 (.slice A4 n4 c4); simpa using h)
    have M2 := Lib.hid (show Blk W5 (w.heap.size + 1) 24 _ from (K2.out.ext E10.out).grown hG5 (by intro e; injection e with e; have := HZ5.out; omega))
    have TW5 := Lib.hid (TWL.out.offX (offX_grown (K6.out.ext E10.out) hG5))
    have EE := Lib.hid (ext_grownP (E6.out.trans E10.out) hG5 (by have := HZ5.out; omega))
    clear hW5 hG5 k0 k1 k2 kf kl E10 TWL K6 K2
    obtain ⟨k0, k1, k2, kf, kl⟩ := M6.out.c3
    obtain ⟨r0, r1, r2, rf, rl⟩ := M2.out.c3
    go_wp2
    refine ret_set3N M2.out fun W' ⟨z0, z1, z2⟩ hW => ?_
    refine bodyPost_ret (v := valM lots size (.slice A4 n4 c4)) (by simp [results, Tryd.results80, go_sem, z0, z1, z2]) rfl ?_
    exact ⟨⟨_, _, rfl, (TW5.out.offX (offX_grown M2.out hW)).mono (by have := HZ2.out; omega)⟩, ext_grownP EE.out hW (by omega)⟩
end Go.Proofs.YtkpengeaolcjhaaDoor
