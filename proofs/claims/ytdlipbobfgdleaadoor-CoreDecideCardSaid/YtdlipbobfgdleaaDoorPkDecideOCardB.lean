/- middlinglaw03.CoreDecide: the walk. -/
import Derived.Test.YtdlipbobfgdleaaDoorPkAskOCardA
import Derived.Test.YtdlipbobfgdleaaDoorPkDecideOCardA
namespace Go.Proofs.YtdlipbobfgdleaaDoor
open Go.RowKit Go.Shelf Go.Lib
set_option maxRecDepth 100000
set_option linter.unusedSimpArgs false

/-- Whether two truths look alike in the first k layers of a list. -/
def likeTo (l t u : List Int) (k : Nat) : Bool := (l.take k).all fun i => decide (t[i.toNat]?.getD 0 = u[i.toNat]?.getD 0)
theorem like_succ {l t u : List Int} {k : Nat} {i : Nat} {x y : Int} (hi : l[k]? = some (i : Int)) (hx : t[i]? = some x) (hy : u[i]? = some y) : likeTo l t u (k + 1) = (likeTo l t u k && decide (x = y)) := by
  unfold likeTo
  rw [List.take_add_one, hi, List.all_append]
  simp [hx, hy]
theorem like_all {l t u : List Int} (hl : ∀ i ∈ l, 0 ≤ i ∧ i < 5) (h : likeTo l t u l.length = true) : restr l t = restr l u := by
  unfold likeTo at h
  rw [List.take_length, List.all_eq_true] at h
  exact (restr_iff hl t u).2 fun i hi => of_decide_eq_true (h i hi)
/-- A layer's span, when the first k layers of a list show a truth's grades. -/
def tellTo (b : Bale) (l t : List Int) (k j : Nat) : Span := if (j : Int) ∈ l.take k then ⟨(t[j]?).getD 0, (t[j]?).getD 0⟩ else ownF b j
theorem tell_succ {b : Bale} {l t : List Int} {k j : Nat} {i : Int} (hi : l[k]? = some i) : tellTo b l t (k + 1) j = if i = (j : Int) then ⟨(t[j]?).getD 0, (t[j]?).getD 0⟩ else tellTo b l t k j := by
  unfold tellTo
  rw [List.take_add_one, hi]
  by_cases h : i = (j : Int)
  · subst h; simp
  · rw [if_neg h]
    have : ((j : Int) ∈ l.take k ++ (some i).toList) = ((j : Int) ∈ l.take k) := by
      refine propext ⟨fun hm => ?_, fun hm => List.mem_append_left _ hm⟩
      rcases List.mem_append.1 hm with hm | hm
      · exact hm
      · exact absurd (List.mem_singleton.1 hm).symm h
    simp only [this]
theorem tell_full {b : Bale} {l t : List Int} {k j : Nat} (h : l.length ≤ k) : tellTo b l t k j = tellF b l t j := by
  unfold tellTo tellF; rw [List.take_of_length_le h]
/-- A span in its box. -/
structure BQ (w0 : World) (g : Nat) (y0 y1 : Value) (V : World) : Prop where
  ex : Ext w0 V
  blk : Blk V g 23 #[y0, y1]
theorem BQ.ext {w0 : World} {g : Nat} {y0 y1 : Value} {V V' : World} (h : BQ w0 g y0 y1 V) (k : Ext V V') : BQ w0 g y0 y1 V' := ⟨h.ex.trans k, h.blk.ext k⟩
theorem bit_u8 : ∀ j : Nat, j < 256 → ∀ i : Nat, i < 5 → bits BinOp.and IntKind.u8 ((j : Int) / (2 : Int) ^ i) 1 = ((j / 2 ^ i % 2 : Nat) : Int) := by decide +kernel

theorem un_all {b : Bale} (hv : valid b = true) : ([] : List (List Int)) ++ exts [] ((zOf (spans b)).drop ([] : List Int).length) = truthsB b := by
  rw [List.nil_append, exts_nil, List.length_nil, List.drop_zero, zOf_zip (spans5 hv).1]; rfl
theorem truths_few {b : Bale} (hv : valid b = true) : (truthsB b).length ≤ 1000000 := by
  have h1 := truthsL_len (z := (spans b).zip [0, 0, 0, 0, 0]) (fun y hy => by have := spans_bd hv y.1 (List.of_mem_zip hy).1; omega)
  have h2 : ((spans b).zip ([0, 0, 0, 0, 0] : List Int)).length ≤ 5 := by rw [List.length_zip]; have := (spans5 hv).1; simp; omega
  exact Nat.le_trans h1 (Nat.le_trans (Nat.pow_le_pow_right (by decide) h2) (by decide))
theorem unlike_all {b : Bale} {nl : Nat} (hv : valid b = true) (ho : okB b = true) (hnl : (spans b).length = nl) {l : List Int} {n1 c1 m : Nat} {A1 : Option Addr} {bb off cs : Nat} (hli : ∀ i ∈ l, 0 ≤ i ∧ i < (nl : Int)) (hbm : bb ≠ m) (hlm : ∀ b o, A1 = some ⟨b, o, none⟩ → b ≠ m) (w : World)
    (hs : SlS w (.slice (some ⟨bb, off, none⟩) nl cs) (spans b)) (hl : SlI w (.slice A1 n1 c1) l) (hm : MapH w m 0 (fun _ => none)) :
    Calls Tryd.prog 65 #[.slice (some ⟨bb, off, none⟩) nl cs, .slice A1 n1 c1, .slice none 0 0, .map (some m)] w (UnPost l m (truthsB b) w) := by
  subst hnl
  have H := unlike_any (l := l) (n1 := n1) (c1 := c1) (m := m) (A1 := A1) (sp := spans b) (bb := bb) (off := off) (cs := cs) (spans5 hv).2.1 (spans5 hv).1 (fun x hx => by have h1 := spans_bd hv x hx; have h2 := grown_at (ok_grown ho) x hx; omega) hli hbm hlm (spans b).length [] none 0 [] w (by simp) (fun n hn => by cases hn) (fun b o e => by cases e) hs hl (Sl.nil _) hm (by unfold consB; simp) (by rw [un_all hv]; exact truths_few hv)
  rw [un_all hv] at H
  exact H

/-- Two ways through a region are joined: some slots are then any. -/
def putS (ρ : Nat → Value) : List Nat → List Value → List Value
  | [], l => l
  | d :: ds, l => putS ρ ds (l.set d (ρ d))
def Joined (sl : List Nat) (Pp : World → (Nat → Value) → Prop) (a : Act) (e : Exit) (A : Act) (W : World) : Prop := e = .normal ∧ ∃ ρ, A = { tmps := (putS ρ sl a.tmps.toList).toArray, defers := a.defers } ∧ Pp W ρ
theorem wp_join {P : Program} {c : Code} {Q : Exit → Act → World → Prop} {a : Act} {w : World} (sl : List Nat) (Pp : World → (Nat → Value) → Prop)
    (h1 : c.wp P (Joined sl Pp a) a w)
    (h2 : ∀ ρ W, Pp W ρ → Q .normal { tmps := (putS ρ sl a.tmps.toList).toArray, defers := a.defers } W) : c.wp P Q a w :=
  Code.wp_mono (by rintro e A W ⟨rfl, ρ, rfl, hp⟩; exact h2 ρ W hp) h1

set_option maxHeartbeats 8000000 in
theorem decideLaw_any (b : Bale) (c1 c2 : List Int) (x3 : Int) (dv wv v1 v2 : Value) (w : World) (hT : Tab w) (hd : SlD w dv b.draws) (hw : SlW w wv b.weighs) (hc1 : SlU w v1 c1) (hb1 : Bytes c1) (hc2 : SlU w v2 c2) (hb2 : Bytes c2) (hx3 : 0 ≤ x3 ∧ x3 ≤ 255) :
    Calls Tryd.prog 9 #[valB b dv wv, v1, v2, .int .u8 x3] w fun e w' => e = .returned (.bool true) ∧ Ext w w' := by
  have HT := Lib.hid hT
  have HD := Lib.hid hd
  have HW := Lib.hid hw
  have HC1 := Lib.hid hc1; have HB1 := Lib.hid hb1
  have HC2 := Lib.hid hc2; have HB2 := Lib.hid hb2
  obtain ⟨xn, rfl⟩ : ∃ xn : Nat, x3 = (xn : Int) := ⟨x3.toNat, by omega⟩
  have HX3 := Lib.hid (show xn < 256 by omega)
  obtain ⟨A, n, cp, rfl, hn, hlc, hcm⟩ := hd.form
  obtain ⟨A2, n2, cp2, rfl, hn2, hlc2, hcm2⟩ := hw.form
  obtain ⟨B1, m1, q1, rfl, -, -, -⟩ := hc1.form
  obtain ⟨B2, m2, q2, rfl, -, -, -⟩ := hc2.form
  clear hd hw hT hc1 hb1 hc2 hb2 hx3
  go_enter Tryd.func9, Tryd.ntmps9
  go_wp2_with fail
  have S0 := Lib.hid (show SB b w w.heap.size (.slice A n cp) (.slice A2 n2 cp2) _ from ⟨Ext.al _ (.cells #[.int .i64 b.id, .int .i64 b.layers, .int .i64 b.dry.lo, .int .i64 b.dry.hi, .slice A n cp, .slice A2 n2 cp2] 27), Blk.new _ _ _, HT.out.ext (Ext.al _ _), HD.out.ext (Ext.al _ _), HW.out.ext (Ext.al _ _)⟩)
  refine (alive_any _ S0.out.t).mono ?_
  rintro e w1 ⟨rfl, hE⟩
  have S1 := Lib.hid (S0.out.ext hE); clear S0 hE
  obtain ⟨y0, y1, y2, y3, y4, y5, yl⟩ := S1.out.cells
  go_wp2_with fail
  clear y0 y1 y2 y3 y4 y5 yl
  refine (ready_any b _ _ _ S1.out.d S1.out.w).mono ?_
  rintro e w2 ⟨rfl, hE⟩
  have S2 := Lib.hid (S1.out.ext hE); clear S1 hE
  cases hr : readyB b with
  | false =>
    go_wp2
    go_ret
    exact ⟨rfl, S2.out.e⟩
  | true =>
    obtain ⟨hv, ho, hd20, hw16⟩ := ready_len hr
    have HV := Lib.hid hv; have HO := Lib.hid ho; have H20 := Lib.hid (And.intro hd20 hw16)
    clear hr hv ho hd20 hw16
    have HBD := Lib.hid (valid_bds HV.out)
    obtain ⟨nl, hnl⟩ : ∃ nl : Nat, b.layers = (nl : Int) := ⟨b.layers.toNat, by have := HBD.out.l1; omega⟩
    have HNL := Lib.hid (show b.layers = (nl : Int) ∧ b.layers.toNat = nl ∧ 1 ≤ nl ∧ nl ≤ 5 by have := HBD.out.l1; have := HBD.out.l5; omega)
    clear hnl
    obtain ⟨y0, y1, y2, y3, y4, y5, yl⟩ := S2.out.cells
    go_wp2_with fail
    clear y0 y1 y2 y3 y4 y5 yl
    refine (decide_any b _ _ _ S2.out.t S2.out.d S2.out.w).mono ?_
    rintro e w3 ⟨lv, rfl, hlv, hE⟩
    have S3 := Lib.hid (S2.out.ext hE); clear S2 hE
    have HDEC := Lib.hid (dec_of HV.out HO.out)
    generalize decB b = l at hlv HDEC
    have HLV3 := Lib.hid hlv
    obtain ⟨A4, nll, c4, rfl, hnll, -, -⟩ := hlv.form
    clear hlv
    rw [ask_ok HV.out HO.out]
    obtain ⟨y0, y1, y2, y3, y4, y5, yl⟩ := S3.out.cells
    go_wp2_with fail
    clear y0 y1 y2 y3 y4 y5 yl
    refine (chosen_any b c1 _ _ _ _ HV.out (ok_grown HO.out) S3.out.d S3.out.w (HC1.out.ext S3.out.e) HB1.out).mono ?_
    rintro e w4 ⟨⟨tv, rfl, hs⟩, hE⟩
    have S4 := Lib.hid (S3.out.ext hE)
    have HLV4 := Lib.hid (HLV3.out.ext hE); clear S3 HLV3 hE
    have HTM := Lib.hid (chosen_mem HV.out (ok_grown HO.out) c1)
    generalize chosenL b c1 = t at hs HTM
    have HTV4 := Lib.hid hs
    obtain ⟨A5, n5, c5, rfl, hn5, -, -⟩ := hs.form
    clear hs
    obtain ⟨y0, y1, y2, y3, y4, y5, yl⟩ := S4.out.cells
    go_wp2_with fail
    clear y0 y1 y2 y3 y4 y5 yl
    refine (chosen_any b c2 _ _ _ _ HV.out (ok_grown HO.out) S4.out.d S4.out.w (HC2.out.ext S4.out.e) HB2.out).mono ?_
    rintro e w5 ⟨⟨uv, rfl, hs⟩, hE⟩
    have S5 := Lib.hid (S4.out.ext hE)
    have HLV := Lib.hid (HLV4.out.ext hE); have HTV := Lib.hid (HTV4.out.ext hE); clear S4 HLV4 HTV4 hE
    have HUM := Lib.hid (chosen_mem HV.out (ok_grown HO.out) c2)
    generalize chosenL b c2 = u at hs HUM
    have HUV := Lib.hid hs
    obtain ⟨A6, n6, c6, rfl, hn6, -, -⟩ := hs.form
    clear hs HC1 HB1 HC2 HB2
    have HTL := Lib.hid (show t.length = nl ∧ u.length = nl by rw [← HNL.out.2.1]; exact ⟨((truth_iff HV.out t).1 HTM.out).1, ((truth_iff HV.out u).1 HUM.out).1⟩)
    obtain rfl : n5 = nl := by have := hn5.out; have := HTL.out; omega
    obtain rfl : n6 = n5 := by have := hn6.out; have := HTL.out; omega
    have HLL := Lib.hid (show nll = l.length ∧ nll ≤ n6 ∧ n6 ≤ 5 by have := HDEC.out.len; have := HNL.out; have := hnll.out; omega)
    have i1 : ¬ b.layers < (nll : Int) := by have := HLL.out; have := HNL.out; omega
    have hllz : (nll : Int) ≤ 5 := by have := HLL.out; omega
    obtain ⟨y0, y1, y2, y3, y4, y5, yl⟩ := S5.out.cells
    clear hn5 hn6 hnll
    go_wp2
    clear y0 y1 y2 y3 y4 y5 yl i1
    go_loopg [16, 77] nll (fun gg s16 s77 wr => ∃ kk : Nat, kk ≤ nll ∧ nll - kk ≤ gg ∧ s77 = .int .i64 (kk : Int) ∧ s16 = .bool (likeTo l t u kk) ∧ Aside (Ext w5 wr))
    case atStart => exact ⟨0, by omega, by omega, rfl, rfl, Ext.refl _⟩
    case round =>
      obtain ⟨kk, hkk, hg, rfl, rfl, EX⟩ := hrel
      by_cases hlt : kk < nll
      · -- BLOCK b
        have hltz : (kk : Int) < (nll : Int) := by omega
        obtain ⟨b7, o7, at', rfl, hat, -, hcell⟩ := HLV.out.at_ hlt
        have c0 := SlI.cell hcell EX.out
        obtain ⟨ha0, ha1⟩ := HDEC.out.bd at' (List.mem_of_getElem? hat)
        obtain ⟨i, rfl⟩ : ∃ i : Nat, at' = (i : Int) := ⟨at'.toNat, by omega⟩
        have hin : i < n6 := by have := HNL.out; omega
        have hiz : (i : Int) < (n6 : Int) := by omega
        obtain ⟨b8, o8, x, rfl, hx, -, hcx⟩ := HTV.out.at_ hin
        obtain ⟨b9, o9, y, rfl, hy, -, hcy⟩ := HUV.out.at_ hin
        have HLS := Lib.hid (like_succ hat hx hy)
        have cx := fun V (h : Ext wr V) => SlI.cell hcx (EX.out.trans h)
        have cy := fun V (h : Ext wr V) => SlI.cell hcy (EX.out.trans h)
        have i2 : ¬ (i : Int) < 0 := by omega
        have i3 : ¬ (n6 : Int) ≤ (i : Int) := by omega
        have i4 : ¬ n6 ≤ i := by omega
        have SR := Lib.hid (S5.out.ext EX.out)
        have yy : wr.cell? ⟨w.heap.size, 1, none⟩ = some (.int .i64 (n6 : Int)) := by rw [← HNL.out.1]; exact SR.out.cells.2.1
        have yl : w.heap.size < wr.heap.size := SR.out.p.lt
        have hprev : kk = 0 ∨ ∃ k' y', kk = k' + 1 ∧ wr.cell? ⟨b7, o7 + k', none⟩ = some (.int .i64 y') ∧ y' < (i : Int) := by
          rcases Nat.eq_zero_or_pos kk with h | h
          · exact .inl h
          · have hk2 : kk - 1 < l.length := by have := HLL.out; omega
            refine .inr ⟨kk - 1, l[kk - 1], by omega, sl_cell (HLV.out.ext EX.out) (List.getElem?_eq_getElem hk2), ?_⟩
            have hk3 : kk < l.length := by have := HLL.out; omega
            have := List.pairwise_iff_getElem.1 HDEC.out.up (kk - 1) kk hk2 hk3 (by omega)
            rw [List.getElem?_eq_getElem hk3] at hat
            injection hat with hat
            omega
        clear hat hx hy hcell hcx hcy ha0 ha1
        generalize likeTo l t u kk = f at HLS
        have hsplit : (kk = 0) ∨ (∃ k' : Nat, 0 < (kk : Int) ∧ IntKind.i64.wrap ((kk : Int) - 1) = (k' : Int) ∧ (0 : Int) ≤ (k' : Int) ∧ (k' : Int) < (nll : Int) ∧ ∃ y', wr.cell? ⟨b7, o7 + k', none⟩ = some (.int .i64 y') ∧ ¬ (i : Int) ≤ y') := by
          rcases hprev with h | ⟨k', y', h1, h2, h3⟩
          · exact .inl h
          · exact .inr ⟨k', by omega, by rw [wrap_small _ (by omega) (by omega)]; omega, by omega, by omega, y', h2, by omega⟩
        clear hprev
        rcases hsplit with rfl | ⟨k', z1, z2, z3, z4, y', z5, z6⟩
        · rw [Nat.add_zero] at c0
          cases f with
          | false =>
            go_wp2
            refine wp_region_tame_cut (fun V => Ext wr V) (fun V V' => Ext V V') (by kernel_rfl) 243 rfl _ rfl (by decide +kernel) (by decide +kernel) (by decide +kernel) rfl (Ext.refl _).drew ?_
            simp only [List.dropLast]
            repeat (apply tame_q rfl; (intro ρ W hC hr hD; (obtain ⟨hrc, hrg, hrf, hrs⟩ := hr); (simp [go_sem] at hD); go_simp; first | exact ⟨⟨hC, Ext.refl _⟩, rfl⟩ | exact ⟨⟨hC, RS.refl _⟩, rfl⟩ | exact rfl); simp only [List.nil_append, List.cons_append])
            refine tame_end_put rfl rfl (fun ρ V hC hr hF => ?_)
            simp [go_sem] at hF
            simp only [putF, hF, List.set_cons_succ, List.set_cons_zero]
            have EV := Lib.hid (EX.out.trans hC)
            clear hF hr hC cx cy c0 i2 i3 i4 yy yl
            go_wp2
            go_roundg (nll - (0 + 1))
            case measure => omega
            case rel => exact ⟨0 + 1, by omega, by omega, by simp <;> rfl, by rw [HLS.out, Bool.false_and], EV.out⟩
          | true =>
            by_cases hxy : x = y
            · rw [decide_eq_true hxy] at HLS
              subst hxy
              go_wp2
              refine wp_region_tame_cut (fun V => Ext wr V) (fun V V' => Ext V V') (by kernel_rfl) 243 rfl _ rfl (by decide +kernel) (by decide +kernel) (by decide +kernel) rfl (Ext.refl _).drew ?_
              simp only [List.dropLast]
              repeat (apply tame_q rfl; (intro ρ W hC hr hD; (obtain ⟨hrc, hrg, hrf, hrs⟩ := hr); (simp [go_sem] at hD); go_simp; first | exact ⟨⟨hC, Ext.refl _⟩, rfl⟩ | exact ⟨⟨hC, RS.refl _⟩, rfl⟩ | exact rfl); simp only [List.nil_append, List.cons_append])
              refine tame_end_put rfl rfl (fun ρ V hC hr hF => ?_)
              simp [go_sem] at hF
              simp only [putF, hF, List.set_cons_succ, List.set_cons_zero]
              have EV := Lib.hid (EX.out.trans hC)
              clear hF hr hC cx cy c0 i2 i3 i4 yy yl
              go_wp2
              go_roundg (nll - (0 + 1))
              case measure => omega
              case rel => exact ⟨0 + 1, by omega, by omega, by simp <;> rfl, by rw [HLS.out]; rfl, EV.out⟩
            · rw [decide_eq_false hxy] at HLS
              have hxb : (x == y) = false := beq_eq_false_iff_ne.2 hxy
              go_wp2
              refine wp_region_tame_cut (fun V => Ext wr V) (fun V V' => Ext V V') (by kernel_rfl) 243 rfl _ rfl (by decide +kernel) (by decide +kernel) (by decide +kernel) rfl (Ext.refl _).drew ?_
              simp only [List.dropLast]
              repeat (apply tame_q rfl; (intro ρ W hC hr hD; (obtain ⟨hrc, hrg, hrf, hrs⟩ := hr); (simp [go_sem] at hD); go_simp; first | exact ⟨⟨hC, Ext.refl _⟩, rfl⟩ | exact ⟨⟨hC, RS.refl _⟩, rfl⟩ | exact rfl); simp only [List.nil_append, List.cons_append])
              refine tame_end_put rfl rfl (fun ρ V hC hr hF => ?_)
              simp [go_sem] at hF
              simp only [putF, hF, List.set_cons_succ, List.set_cons_zero]
              have EV := Lib.hid (EX.out.trans hC)
              clear hF hr hC cx cy c0 i2 i3 i4 yy yl
              go_wp2
              go_roundg (nll - (0 + 1))
              case measure => omega
              case rel => exact ⟨0 + 1, by omega, by omega, by simp <;> rfl, by rw [HLS.out]; rfl, EV.out⟩
        · -- BLOCK b2
          cases f with
          | false =>
            go_wp2
            refine wp_region_tame_cut (fun V => Ext wr V) (fun V V' => Ext V V') (by kernel_rfl) 243 rfl _ rfl (by decide +kernel) (by decide +kernel) (by decide +kernel) rfl (Ext.refl _).drew ?_
            simp only [List.dropLast]
            repeat (apply tame_q rfl; (intro ρ W hC hr hD; (obtain ⟨hrc, hrg, hrf, hrs⟩ := hr); (simp [go_sem] at hD); go_simp; first | exact ⟨⟨hC, Ext.refl _⟩, rfl⟩ | exact ⟨⟨hC, RS.refl _⟩, rfl⟩ | exact rfl); simp only [List.nil_append, List.cons_append])
            refine tame_end_put rfl rfl (fun ρ V hC hr hF => ?_)
            simp [go_sem] at hF
            simp only [putF, hF, List.set_cons_succ, List.set_cons_zero]
            have EV := Lib.hid (EX.out.trans hC)
            clear hF hr hC cx cy c0 i2 i3 i4 yy yl
            go_wp2
            go_roundg (nll - (kk + 1))
            case measure => omega
            case rel => exact ⟨kk + 1, by omega, by omega, by simp <;> rfl, by rw [HLS.out, Bool.false_and], EV.out⟩
          | true =>
            by_cases hxy : x = y
            · rw [decide_eq_true hxy] at HLS
              subst hxy
              go_wp2
              refine wp_region_tame_cut (fun V => Ext wr V) (fun V V' => Ext V V') (by kernel_rfl) 243 rfl _ rfl (by decide +kernel) (by decide +kernel) (by decide +kernel) rfl (Ext.refl _).drew ?_
              simp only [List.dropLast]
              repeat (apply tame_q rfl; (intro ρ W hC hr hD; (obtain ⟨hrc, hrg, hrf, hrs⟩ := hr); (simp [go_sem] at hD); go_simp; first | exact ⟨⟨hC, Ext.refl _⟩, rfl⟩ | exact ⟨⟨hC, RS.refl _⟩, rfl⟩ | exact rfl); simp only [List.nil_append, List.cons_append])
              refine tame_end_put rfl rfl (fun ρ V hC hr hF => ?_)
              simp [go_sem] at hF
              simp only [putF, hF, List.set_cons_succ, List.set_cons_zero]
              have EV := Lib.hid (EX.out.trans hC)
              clear hF hr hC cx cy c0 i2 i3 i4 yy yl
              go_wp2
              go_roundg (nll - (kk + 1))
              case measure => omega
              case rel => exact ⟨kk + 1, by omega, by omega, by simp <;> rfl, by rw [HLS.out]; rfl, EV.out⟩
            · rw [decide_eq_false hxy] at HLS
              have hxb : (x == y) = false := beq_eq_false_iff_ne.2 hxy
              go_wp2
              refine wp_region_tame_cut (fun V => Ext wr V) (fun V V' => Ext V V') (by kernel_rfl) 243 rfl _ rfl (by decide +kernel) (by decide +kernel) (by decide +kernel) rfl (Ext.refl _).drew ?_
              simp only [List.dropLast]
              repeat (apply tame_q rfl; (intro ρ W hC hr hD; (obtain ⟨hrc, hrg, hrf, hrs⟩ := hr); (simp [go_sem] at hD); go_simp; first | exact ⟨⟨hC, Ext.refl _⟩, rfl⟩ | exact ⟨⟨hC, RS.refl _⟩, rfl⟩ | exact rfl); simp only [List.nil_append, List.cons_append])
              refine tame_end_put rfl rfl (fun ρ V hC hr hF => ?_)
              simp [go_sem] at hF
              simp only [putF, hF, List.set_cons_succ, List.set_cons_zero]
              have EV := Lib.hid (EX.out.trans hC)
              clear hF hr hC cx cy c0 i2 i3 i4 yy yl
              go_wp2
              go_roundg (nll - (kk + 1))
              case measure => omega
              case rel => exact ⟨kk + 1, by omega, by omega, by simp <;> rfl, by rw [HLS.out]; rfl, EV.out⟩
          -- END b2
        -- END b
      · obtain rfl : kk = nll := by omega
        have HLT := Lib.hid (fun h : likeTo l t u kk = true => HDEC.out.cons t HTM.out u HUM.out (like_all (fun i hi => by have := HDEC.out.bd i hi; have := HNL.out; omega) (by rw [← HLL.out.1]; exact h)))
        have HTG := Lib.hid (truths_gr HV.out t HTM.out)
        have HUG := Lib.hid (truths_gr HV.out u HUM.out)
        generalize likeTo l t u kk = f at HLT
        iterate 15 (first | go_values | go_skip | go_guarded | go_step | go_upon | go_back)
        refine wp_join [116, 117, 118, 119, 120, 121, 122, 123] (fun W ρ => ρ 123 = .bool false ∧ Ext w5 W) ?_ ?_
        · -- BLOCK j
          cases f with
          | false =>
            go_wp2
            exact ⟨rfl, fun i => if i = 116 then .bool false else if i = 117 then .bool false else if i = 123 then .bool false else undef, rfl, rfl, EX.out⟩
          | true =>
            go_wp2_with fail
            refine (kindR_any t _ _ (HTV.out.ext EX.out) (by have := HTL.out; have := HNL.out; omega) (by have := HTL.out; have := HNL.out; omega) HTG.out.2).mono ?_
            rintro e w7 ⟨rfl, hE⟩
            rw [kindR_eq (by have := HTL.out; have := HNL.out; omega) HTG.out.2]
            have EX7 := Lib.hid (EX.out.trans hE); clear hE
            go_wp2_with fail
            refine (kindR_any u _ _ (HUV.out.ext EX7.out) (by have := HTL.out; have := HNL.out; omega) (by have := HTL.out; have := HNL.out; omega) HUG.out.2).mono ?_
            rintro e w8 ⟨rfl, hE⟩
            rw [kindR_eq (by have := HTL.out; have := HNL.out; omega) HUG.out.2, HLT.out (by simp)]
            have EX8 := Lib.hid (EX7.out.trans hE); clear hE
            go_wp2
            exact ⟨rfl, fun i => if i = 116 then .bool true else if i = 117 then .bool true else if i = 118 then .slice A5 n6 c5 else if i = 119 then .int .i64 (kindL u) else if i = 120 then .slice A6 n6 c6 else if i = 121 then .int .i64 (kindL u) else .bool false, rfl, rfl, EX8.out⟩
          -- END j
        · intro ρ w6 hP
          simp only [putS, List.set_cons_succ, List.set_cons_zero]
          obtain ⟨h123, hE6⟩ := hP
          rw [h123]
          have S6 := Lib.hid (S5.out.ext hE6)
          have HLV6 := Lib.hid (HLV.out.ext hE6)
          have HTV6 := Lib.hid (HTV.out.ext hE6)
          clear h123 hE6 HLV HTV HUV S5 HLT HTG HUG EX
          generalize ρ 116 = r116
          generalize ρ 117 = r117
          generalize ρ 118 = r118
          generalize ρ 119 = r119
          generalize ρ 120 = r120
          generalize ρ 121 = r121
          generalize ρ 122 = r122
          clear ρ
          obtain ⟨y0, y1, y2, y3, y4, y5, yl⟩ := S6.out.cells
          go_wp2_with fail
          clear y0 y1 y2 y3 y4 y5 yl
          refine (kindsN_any b HV.out HO.out _ _ _ S6.out.t S6.out.d S6.out.w).mono ?_
          rintro e w7 ⟨rfl, hE⟩
          have S7 := Lib.hid (S6.out.ext hE)
          have HLV7 := Lib.hid (HLV6.out.ext hE)
          have HTV7 := Lib.hid (HTV6.out.ext hE)
          clear hE S6 HLV6 HTV6
          have hn1 : ¬ mayN (kindS b) 4 < 1 := by have := may_pos HV.out HO.out; omega
          have hbb : (mayN (kindS b) 4 == 1) = ((kk : Int) == 0) := by
            have h := HDEC.out.one
            have hk := HLL.out.1
            rw [Bool.eq_iff_iff, beq_iff_eq, beq_iff_eq, h]
            constructor
            · intro e; rw [e] at hk; simp at hk; omega
            · intro e; exact List.eq_nil_of_length_eq_zero (by omega)
          generalize mayN (kindS b) 4 = nk at hn1 hbb
          obtain ⟨y0, y1, y2, y3, y4, y5, yl⟩ := S7.out.cells
          go_wp2_with fail
          clear y0 y1 y2 y3 y4 y5 yl hn1 hbb
          refine (twin_any b _ _ _ S7.out.d S7.out.w (by have := H20.out; omega) (by have := H20.out; omega)).mono ?_
          rintro e w8 ⟨⟨v, rfl, dv8, wv8, rfl, o1, o2⟩, hE⟩
          have hsd : SlD w8 dv8 b.draws := o1.sl (fun _ => rfl)
          have hsw : SlW w8 wv8 b.weighs := o2.sl (fun _ => rfl)
          obtain ⟨A8, n8, c8, rfl, -, -, -⟩ := hsd.form
          obtain ⟨A9, n9, c9, rfl, -, -, -⟩ := hsw.form
          have HW8 := Lib.hid hsw
          have S8 := Lib.hid (S7.out.ext hE)
          have HLV8 := Lib.hid (HLV7.out.ext hE)
          have HTV8 := Lib.hid (HTV7.out.ext hE)
          clear hE S7 HLV7 HTV7 o1 o2 hsd hsw
          dsimp only [valB]
          have y1 : w8.cell? ⟨w.heap.size, 1, none⟩ = some (.int .i64 (n6 : Int)) := by rw [← HNL.out.1]; exact S8.out.cells.2.1
          have yl : w.heap.size < w8.heap.size := S8.out.p.lt
          have yne : ¬ w.heap.size = w8.heap.size := by omega
          have C0 := Lib.hid (show CB encI 3 1 w8 w8.heap.size (.int .i64 b.id) (.int .i64 b.layers) (.int .i64 b.dry.lo) (.int .i64 b.dry.hi) (.slice A9 n9 c9) (layD (tellF b l t) 0) (.slice none 0 0) (.slice none 0 0) ([] : List Int) (w8.alloc (.cells #[.int .i64 b.id, .int .i64 b.layers, .int .i64 b.dry.lo, .int .i64 b.dry.hi, .slice none 0 0, .slice A9 n9 c9] 27)) from
            ⟨Ext.al _ _, Blk.new _ _ _, Nat.le_refl _, by simp, ⟨Own.nil _ _, none, 0, rfl, fun _ => rfl⟩, Own.nil _ _⟩)
          go_wp2
          go_loopg [141] n6 (fun gg s141 wr => ∃ (k : Nat) (dv : Value), k ≤ n6 ∧ n6 - k ≤ gg ∧ s141 = .int .i64 (k : Int) ∧ Aside (CB encI 3 1 w8 w8.heap.size (.int .i64 b.id) (.int .i64 b.layers) (.int .i64 b.dry.lo) (.int .i64 b.dry.hi) (.slice A9 n9 c9) (layD (tellF b l t) k) dv (.slice none 0 0) ([] : List Int) wr))
          case atStart => exact ⟨0, _, by omega, by omega, rfl, C0.out⟩
          case round =>
            obtain ⟨k, dv, hk, hg, rfl, CR⟩ := hrel
            by_cases hlt : k < n6
            · -- BLOCK r
              have hltz : (k : Int) < (n6 : Int) := by omega
              have SR := Lib.hid (S8.out.ext CR.out.ex)
              have hkl : k < b.layers.toNat := by rw [HNL.out.2.1]; exact hlt
              have HL := Lib.hid (layer_ok HV.out HO.out hkl)
              obtain ⟨y0, y1, y2, y3, y4, y5, yl⟩ := SR.out.cells
              clear hkl
              go_wp2_with fail
              clear y0 y1 y2 y3 y4 y5 yl
              refine (layer_any b (k : Int) _ _ _ SR.out.t SR.out.d SR.out.w).mono ?_
              rintro e w9 ⟨rfl, hE⟩
              have C9 := Lib.hid (CR.out.ext hE); clear hE SR CR
              rw [HL.out.1, HL.out.2, ask_ok HV.out HO.out]
              obtain ⟨lo, hi, hlh⟩ : ∃ lo hi, spanAt b.draws (k : Int) = ⟨lo, hi⟩ := ⟨_, _, rfl⟩
              have HLH := Lib.hid (show ownF b k = ⟨lo, hi⟩ from hlh)
              rw [hlh]
              clear hlh
              have HKK := Lib.hid (show k ≤ 5 by have := HNL.out; omega)
              have HLV9 := Lib.hid (HLV8.out.ext C9.out.ex)
              have HTV9 := Lib.hid (HTV8.out.ext C9.out.ex)
              dsimp only [valS]
              go_wp2
              go_loopg [154] kk (fun gg s154 wr => ∃ (j : Nat) (p q : Int), j ≤ kk ∧ kk - j ≤ gg ∧ s154 = .int .i64 (j : Int) ∧ Aside (tellTo b l t j k = ⟨p, q⟩) ∧ Aside (Ext w9 wr) ∧ Aside (Blk wr w9.heap.size 23 #[.int .i64 p, .int .i64 q]))
              case atStart => exact ⟨0, lo, hi, by omega, by omega, rfl, (by show _ = _; unfold tellTo; simp [HLH.out]), Ext.al _ _, Blk.new _ _ _⟩
              case round =>
                obtain ⟨j, p, q, hj, hgj, rfl, FO, EX, BX⟩ := hrel
                by_cases hjl : j < kk
                · have hjz : (j : Int) < (kk : Int) := by omega
                  obtain ⟨b7, o7, at', rfl, hat, -, hcell⟩ := HLV9.out.at_ hjl
                  have c0 := SlI.cell hcell EX.out
                  have HTS := Lib.hid (tell_succ (b := b) (t := t) (j := k) hat)
                  have hjw : IntKind.i64.wrap ((j : Int) + 1) = (j : Int) + 1 := wrap_small _ (by omega) (by omega)
                  clear hat hcell
                  by_cases he : at' = (k : Int)
                  · subst he
                    obtain ⟨b8, o8, x, rfl, hx, -, hcx⟩ := HTV9.out.at_ hlt
                    have HX := Lib.hid hx
                    have cx := fun V (h : BQ w9 w9.heap.size (.int .i64 p) (.int .i64 q) V) => SlI.cell hcx h.ex
                    have hk0 : (0 : Int) ≤ (k : Int) := by omega
                    have B0 := Lib.hid (show BQ w9 w9.heap.size (.int .i64 p) (.int .i64 q) wr from ⟨EX.out, BX.out⟩)
                    clear hx hcx
                    go_wp2
                    refine wp_region_tame_cut (fun V => BQ w9 w9.heap.size (.int .i64 p) (.int .i64 q) V) (fun V V' => Ext V V') (by kernel_rfl) 243 rfl _ rfl (by decide +kernel) (by decide +kernel) (by decide +kernel) rfl (B0.out.ext (Ext.refl _).drew) ?_
                    simp only [List.dropLast]
                    repeat (apply tame_q rfl; (intro ρ W hC hr hD; (obtain ⟨hrc, hrg, hrf, hrs⟩ := hr); (simp [go_sem] at hD); go_simp; first | exact ⟨⟨hC, Ext.refl _⟩, rfl⟩ | exact ⟨⟨hC, RS.refl _⟩, rfl⟩ | exact rfl); simp only [List.nil_append, List.cons_append])
                    apply tame_q rfl
                    · intro ρ V hC hr hD
                      obtain ⟨hrc, hrg, hrf, hrs⟩ := hr
                      simp [go_sem] at hD
                      go_simp
                      refine (span_any x x _).mono ?_
                      rintro e w' ⟨rfl, hE⟩
                      exact ⟨_, rfl, ⟨hC.ext hE, hE⟩, rfl⟩
                    simp only [List.nil_append, List.cons_append]
                    refine tame_end_put rfl rfl (fun ρ V hC hr hF => ?_)
                    simp [go_sem] at hF
                    simp only [putF, hF, List.set_cons_succ, List.set_cons_zero]
                    have BV := Lib.hid hC
                    clear hF hr cx hC B0 c0
                    have s0 := BV.out.blk.cell 0
                    have s1 := BV.out.blk.cell 1
                    have sf := BV.out.blk.frozen
                    have sl := BV.out.blk.lt
                    simp at s0 s1
                    dsimp only [valS]
                    go_wp2
                    go_roundg (kk - (j + 1))
                    case measure => omega
                    case rel => exact ⟨j + 1, x, x, by omega, by omega, by simp, (by show _ = _; rw [HTS.out, HX.out]; simp), (BV.out.ex.setCell (by dsimp only; omega) _).setCell (by dsimp only; omega) _, (by show Blk _ _ _ _; have := (BV.out.blk.set_ 0 (.int .i64 x)).set_ 1 (.int .i64 x); simpa using this)⟩
                  · have he' : (at' == (k : Int)) = false := beq_eq_false_iff_ne.2 he
                    go_wp2
                    go_roundg (kk - (j + 1))
                    case measure => omega
                    case rel => exact ⟨j + 1, p, q, by omega, by omega, by simp, (by show _ = _; rw [HTS.out, if_neg he]; exact FO.out), EX.out, BX.out⟩
                · obtain rfl : j = kk := by omega
                  have HPQ := Lib.hid (show tellF b l t k = ⟨p, q⟩ by rw [← tell_full (Nat.le_of_eq HLL.out.1.symm)]; exact FO.out)
                  have Q0 := Lib.hid (show CQ encI 3 1 w8 w8.heap.size (.int .i64 b.id) (.int .i64 b.layers) (.int .i64 b.dry.lo) (.int .i64 b.dry.hi) (.slice A9 n9 c9) (layD (tellF b l t) k) dv (.slice none 0 0) ([] : List Int) w9.heap.size (.int .i64 p) (.int .i64 q) wr from ⟨C9.out.ext EX.out, BX.out⟩)
                  clear FO EX BX
                  have m4 := fun V (h : CQ encI 3 1 w8 w8.heap.size (.int .i64 b.id) (.int .i64 b.layers) (.int .i64 b.dry.lo) (.int .i64 b.dry.hi) (.slice A9 n9 c9) (layD (tellF b l t) k) dv (.slice none 0 0) ([] : List Int) w9.heap.size (.int .i64 p) (.int .i64 q) V) => h.cb.cells.2.2.2.2.1
                  have s0 := fun V (h : CQ encI 3 1 w8 w8.heap.size (.int .i64 b.id) (.int .i64 b.layers) (.int .i64 b.dry.lo) (.int .i64 b.dry.hi) (.slice A9 n9 c9) (layD (tellF b l t) k) dv (.slice none 0 0) ([] : List Int) w9.heap.size (.int .i64 p) (.int .i64 q) V) => (show V.cell? ⟨w9.heap.size, 0, none⟩ = some (.int .i64 p) from h.blk.cell 0)
                  have s1 := fun V (h : CQ encI 3 1 w8 w8.heap.size (.int .i64 b.id) (.int .i64 b.layers) (.int .i64 b.dry.lo) (.int .i64 b.dry.hi) (.slice A9 n9 c9) (layD (tellF b l t) k) dv (.slice none 0 0) ([] : List Int) w9.heap.size (.int .i64 p) (.int .i64 q) V) => (show V.cell? ⟨w9.heap.size, 1, none⟩ = some (.int .i64 q) from h.blk.cell 1)
                  have hwk : IntKind.i64.wrap ((k : Int) + 1) = (k : Int) + 1 := wrap_small _ (by have := HKK.out; omega) (by have := HKK.out; omega)
                  go_wp2
                  refine wp_region_tame_cut (fun V => CQ encI 3 1 w8 w8.heap.size (.int .i64 b.id) (.int .i64 b.layers) (.int .i64 b.dry.lo) (.int .i64 b.dry.hi) (.slice A9 n9 c9) (layD (tellF b l t) k) dv (.slice none 0 0) ([] : List Int) w9.heap.size (.int .i64 p) (.int .i64 q) V) (RF encD 4 63 (w8.heap.size + 1) (layD (tellF b l t) k ++ [⟨(k : Int) + 1, (k : Int), ⟨p, q⟩⟩]) ⟨(k : Int) + 1, (k : Int), ⟨p, q⟩⟩) (by kernel_rfl) 243 rfl _ rfl (by decide +kernel) (by decide +kernel) (by decide +kernel) rfl (Q0.out.ext (Ext.refl _).drew) ?_
                  simp only [List.dropLast]
                  repeat (apply tame_q rfl; (intro ρ W hC hr hD; (obtain ⟨hrc, hrg, hrf, hrs⟩ := hr); (simp [go_sem] at hD); go_simp; first | exact ⟨⟨hC, RF.refl _⟩, rfl⟩ | exact rfl); simp only [List.nil_append, List.cons_append])
                  apply tame_q rfl
                  · intro ρ V hC hr hD
                    obtain ⟨hrc, hrg, hrf, hrs⟩ := hr
                    simp [go_sem] at hD
                    go_simp
                    refine (draw_any ((k : Int) + 1) (k : Int) p q _).mono ?_
                    rintro e w' ⟨rfl, hE⟩
                    exact ⟨_, rfl, ⟨hC.ext hE, RF.ext hE⟩, rfl⟩
                  simp only [List.nil_append, List.cons_append]
                  apply tame_v rfl (OneF encD 63 ⟨(k : Int) + 1, (k : Int), ⟨p, q⟩⟩) (fun v V V' _ hR h => by obtain ⟨g, h1, h2⟩ := h; exact ⟨g, h1, hR.2.2.1 g h2⟩)
                  · intro ρ V hC hr hD
                    obtain ⟨hrc, hrg, hrf, hrs⟩ := hr
                    simp [go_sem] at hD
                    go_simp
                    exact ⟨⟨hC.ext (Ext.al _ _), RF.ext (Ext.al _ _)⟩, ⟨_, rfl, Blk.new _ _ _⟩⟩
                  simp only [List.nil_append, List.cons_append]
                  apply tame_v rfl (NewF encD 4 63 (w8.heap.size + 1) (layD (tellF b l t) k ++ [⟨(k : Int) + 1, (k : Int), ⟨p, q⟩⟩])) (fun v V V' _ hR h => ⟨hR.2.1 _ (List.prefix_refl _) v h.1, h.2⟩)
                  · intro ρ V hC hr hD
                    obtain ⟨hrc, hrg, hrf, hrs⟩ := hr
                    simp [go_sem] at hD
                    obtain ⟨d1, d2, -⟩ := hD
                    obtain ⟨v', V', hrun, hnew, hR, hB, hO⟩ := run_appG (t := 24) (ty := 24) (enc := encD) (sz := 4) (y := ⟨(k : Int) + 1, (k : Int), ⟨p, q⟩⟩) Tryd.underlying24 info63x rfl (by decide) (by decide) (fun _ => rfl) encD_1 hC.cb.d (by rw [layD_len]; have := HKK.out; omega) hC.cb.big d2
                    rw [← d1] at hrun
                    show opGives _ _ _ _ _ _ _
                    unfold opGives execOp
                    simp only [resolve, invoke, builtin, Sem.run_bind, Sem.run_pure, Result.andThen_ok, List.map_toArray, List.map_cons, List.map_nil, hrun]
                    exact ⟨⟨hC.old hR hB hO (by decide), hR⟩, hnew⟩
                  simp only [List.nil_append, List.cons_append]
                  repeat (apply tame_q rfl; (intro ρ W hC hr hD; (obtain ⟨hrc, hrg, hrf, hrs⟩ := hr); (simp [go_sem] at hD); go_simp; first | exact ⟨⟨hC, RF.refl _⟩, rfl⟩ | exact rfl); simp only [List.nil_append, List.cons_append])
                  refine tame_end_put rfl rfl (fun ρ V hC hr hF => ?_)
                  simp [go_sem] at hF
                  obtain ⟨f1, f2, f3, f4, f5, f6, f7, f8, f9, f10, -, hN, f12⟩ := hF
                  simp only [putF, f1, f2, f3, f4, f5, f6, f7, f8, f9, f10, f12, List.set_cons_succ, List.set_cons_zero]
                  generalize ρ (Operand.tmp 182) = dv2 at *
                  generalize ρ (Operand.tmp 181) = u181 at *
                  obtain ⟨A10, c10, e2, -⟩ := hN.2
                  rw [List.length_append, layD_len, List.length_singleton] at e2
                  subst e2
                  have HN2 := Lib.hid hN
                  have CB2 := Lib.hid hC.cb
                  clear f1 f2 f3 f4 f5 f6 f7 f8 f9 f10 f12 hN hr hC m4 s0 s1
                  obtain ⟨y0, y1, y2, y3, y4, y5, yl⟩ := CB2.out.cells
                  have xf := CB2.out.blk.frozen 4
                  go_wp2
                  go_roundg (n6 - (k + 1))
                  case measure => omega
                  case rel => exact ⟨k + 1, _, by omega, by omega, by simp, (by
                    have h := CB2.out.put HN2.out
                    have e : layD (tellF b l t) k ++ [⟨(k : Int) + 1, (k : Int), ⟨p, q⟩⟩] = layD (tellF b l t) (k + 1) := by rw [layD_succ, HPQ.out]
                    rw [e] at h
                    exact h)⟩
              -- END r
            · obtain rfl : k = n6 := by omega
              obtain ⟨A10, c10, e10, -⟩ := CR.out.d.2
              rw [layD_len] at e10
              subst e10
              have S10 := Lib.hid (S8.out.ext CR.out.ex)
              have HLV10 := Lib.hid (HLV8.out.ext CR.out.ex)
              have SX := Lib.hid (SB.bare CR.out S8.out.t HW8.out (f := tellF b l t) (by rw [HNL.out.2.1]))
              clear CR S8 HLV8 HTV8 C0
              obtain ⟨y0, y1, y2, y3, y4, y5, yl⟩ := SX.out.cells
              go_wp2_with fail
              clear y0 y1 y2 y3 y4 y5 yl
              refine (kindsN_any (layB b (tellF b l t)) (lay_fine HV.out HO.out (tell_fit HV.out HO.out (l := l) HTM.out)).1 (lay_fine HV.out HO.out (tell_fit HV.out HO.out (l := l) HTM.out)).2 _ _ _ SX.out.t SX.out.d SX.out.w).mono ?_
              rintro e w11 ⟨rfl, hE⟩
              rw [tell_one HV.out HO.out HDEC.out HTM.out]
              have S11 := Lib.hid (S10.out.ext hE)
              have HLV11 := Lib.hid (HLV10.out.ext hE)
              clear hE S10 HLV10 SX
              have y1 : w11.cell? ⟨w.heap.size, 1, none⟩ = some (.int .i64 (k : Int)) := by rw [← HNL.out.1]; exact S11.out.cells.2.1
              have yl : w.heap.size < w11.heap.size := S11.out.p.lt
              go_wp2
              clear y1 yl
              go_loopg [26, 190] k (fun gg s26 s190 wr => ∃ i : Nat, i ≤ k ∧ k - i ≤ gg ∧ s190 = .int .i64 (i : Int) ∧ Aside (Own encI 3 1 wr w11.heap.size s26 (setTo xn i)) ∧ Aside (Ext w11 wr))
              case atStart => exact ⟨0, by omega, by omega, rfl, Own.nil _ _, Ext.refl _⟩
              case round =>
                obtain ⟨i, hi, hgi, rfl, OV, EX⟩ := hrel
                by_cases hin : i < k
                · -- BLOCK s
                  have hiz : (i : Int) < (k : Int) := by omega
                  have hi0 : (0 : Int) ≤ (i : Int) := by omega
                  have hba := bit_u8 xn HX3.out i (by have := HNL.out; omega)
                  have HI5 := Lib.hid (show i ≤ 5 by have := HNL.out; omega)
                  have hmi : min i 8 = i := by have := HI5.out; omega
                  have hi5 : (i : Int) ≤ 5 := by have := HI5.out; omega
                  cases hbit : (xn / 2 ^ i % 2 == 1) with
                  | true =>
                    have hb1 : bits BinOp.and IntKind.u8 ((xn : Int) / (2 : Int) ^ i) 1 = 1 := by rw [hba]; simp at hbit; omega
                    have HTS := Lib.hid (show setTo xn (i + 1) = setTo xn i ++ [(i : Int)] by rw [setTo_succ, hbit]; rfl)
                    have HTL2 := Lib.hid (show (setTo xn i).length < 100000000000 by have := setTo_len xn i; have := HI5.out; omega)
                    clear hba hbit
                    go_wp2_with (at_builtin; refine wpList_app encI 56 3 1 _ 8 Tryd.underlying56 info3x rfl (by decide) (by decide) (fun _ => rfl) encI_one rfl (.tmp 198) (.tmp 200) rfl w11.heap.size _ (setTo xn i) rfl (OV.out.alloc _) wr.heap.size 1 (i : Int) rfl (cells1 (by simp [go_sem])) HTL2.out (by have := EX.out.size; simp; omega) ?_)
                    intro g cap w' hown hg2 hbel _
                    have HO2 := Lib.hid hown
                    have HE := Lib.hid (show Ext w11 w' from Below.trans (EX.out.alloc _) hbel)
                    clear hown hg2 hbel
                    go_wp2
                    go_roundg (k - (i + 1))
                    case measure => omega
                    case rel => exact ⟨i + 1, by omega, by omega, by simp, by rw [HTS.out]; exact HO2.out, HE.out⟩
                  | false =>
                    have hb1 : bits BinOp.and IntKind.u8 ((xn : Int) / (2 : Int) ^ i) 1 = 0 := by rw [hba]; simp at hbit; omega
                    have HTS := Lib.hid (show setTo xn (i + 1) = setTo xn i by rw [setTo_succ, hbit]; simp)
                    clear hba hbit
                    go_wp2
                    go_roundg (k - (i + 1))
                    case measure => omega
                    case rel => exact ⟨i + 1, by omega, by omega, by simp, by rw [HTS.out]; exact OV.out, EX.out⟩
                  -- END s
                · obtain rfl : i = k := by omega
                  have HSO := Lib.hid (show SlI wr u26 (setOf i xn) from Own.sl (enc := encI) (fun _ => rfl) OV.out)
                  have hb0 : ∀ A n c, u26 = .slice A n c → ∀ b' o', A = some ⟨b', o', none⟩ → b' < wr.heap.size := by
                    intro A n c e b' o' eA
                    rcases OV.out.2 with ⟨h, _⟩ | ⟨g, cap, cur, h, _, hh, _⟩
                    · rw [h] at e; injection e with e1; rw [← e1] at eA; cases eA
                    · rw [h] at e; injection e with e1 e2 e3; rw [← e1] at eA; injection eA with eA; injection eA with e4 e5; subst e4; exact (Array.getElem?_eq_some_iff.1 hh).1
                  obtain ⟨A11, n11, c11, rfl, hn11, -, -⟩ := HSO.out.form
                  have HB11 := Lib.hid (hb0 _ _ _ rfl)
                  clear hb0 hn11
                  go_wp2_with fail
                  refine (before_any (setOf i xn) l _ _ _ HSO.out (HLV11.out.ext EX.out)).mono ?_
                  rintro e w12 ⟨rfl, hE⟩
                  have S12 := Lib.hid (S11.out.ext (EX.out.trans hE))
                  have HSZ := Lib.hid hE.size
                  have HSO12 := Lib.hid (HSO.out.ext hE)
                  clear hE EX OV S11 HLV11
                  cases hbv : beforeL (setOf i xn) l with
                  | false =>
                    go_wp2
                    go_ret
                    exact ⟨rfl, S12.out.e⟩
                  | true =>
                    have HLS := Lib.hid (show consB (setOf i xn) (truthsB b) = false by have := HDEC.out.least xn HX3.out; rw [HNL.out.2.1] at this; exact this hbv)
                    clear hbv
                    have HB12 := Lib.hid (show ∀ b' o', A11 = some ⟨b', o', none⟩ → b' < w12.heap.size from fun b' o' e => Nat.lt_of_lt_of_le (HB11.out b' o' e) HSZ.out)
                    have y1 : w12.cell? ⟨w.heap.size, 1, none⟩ = some (.int .i64 (i : Int)) := by rw [← HNL.out.1]; exact S12.out.cells.2.1
                    have yl : w.heap.size < w12.heap.size := S12.out.p.lt
                    clear HB11
                    go_wp2
                    clear y1 yl
                    go_loopg [28, 210] i (fun gg s28 s210 wr => ∃ j : Nat, j ≤ i ∧ i - j ≤ gg ∧ s210 = .int .i64 (j : Int) ∧ Aside (Own encS 23 2 wr w12.heap.size s28 (spansTo b j)) ∧ Aside (Ext w12 wr))
                    case atStart => exact ⟨0, by omega, by omega, rfl, Own.nil _ _, Ext.refl _⟩
                    case round =>
                      obtain ⟨j, hj, hgj, rfl, OV, EX⟩ := hrel
                      by_cases hlt : j < i
                      · -- BLOCK v
                        have hltz : (j : Int) < (i : Int) := by omega
                        have SR := Lib.hid (S12.out.ext EX.out)
                        have hkl : j < b.layers.toNat := by rw [HNL.out.2.1]; exact hlt
                        have HL := Lib.hid (layer_ok HV.out HO.out hkl)
                        have hfit := own_fit HV.out (ok_grown HO.out) j hkl
                        obtain ⟨y0, y1, y2, y3, y4, y5, yl⟩ := SR.out.cells
                        clear hkl
                        go_wp2_with fail
                        clear y0 y1 y2 y3 y4 y5 yl
                        refine (layer_any b (j : Int) _ _ _ SR.out.t SR.out.d SR.out.w).mono ?_
                        rintro e w15 ⟨rfl, hE⟩
                        have EX15 := Lib.hid (EX.out.trans hE)
                        have OV15 := Lib.hid (OV.out.ext hE); clear hE SR OV EX
                        rw [HL.out.1, HL.out.2, ask_ok HV.out HO.out]
                        obtain ⟨lo, hh, hlh⟩ : ∃ lo hi, spanAt b.draws (j : Int) = ⟨lo, hi⟩ := ⟨_, _, rfl⟩
                        have HLH := Lib.hid (show ownF b j = ⟨lo, hh⟩ from hlh)
                        rw [HLH.out] at hfit
                        rw [hlh]
                        clear hlh
                        have f1 : ¬ lo < 1 := by have := hfit.1; dsimp only at this; omega
                        have f2 : ¬ (9 : Int) < hh := by have := hfit.2.2; dsimp only at this; omega
                        clear hfit
                        have HSL := Lib.hid (spansTo_len b j)
                        have HJ5 := Lib.hid (show j ≤ 5 by have := HNL.out; omega)
                        have hj5 : (j : Int) ≤ 5 := by have := HJ5.out; omega
                        dsimp only [valS]
                        go_wp2_with (at_builtin; refine wpList_app encS 92 23 2 _ 16 Tryd.underlying92 info23x rfl (by decide) (by decide) (fun _ => rfl) encS_one rfl (.tmp 231) (.tmp 233) rfl w12.heap.size _ (spansTo b j) rfl ((OV15.out.alloc _).alloc _) (w15.heap.size + 1) 1 ⟨lo, hh⟩ rfl (cells2 (by simp [go_sem]) (by simp [go_sem])) (by rw [HSL.out]; have := HJ5.out; omega) (by have := EX15.out.size; simp; omega) ?_)
                        intro gb cap w17 hown hg2 hbel _
                        rw [HSL.out] at hown ⊢
                        rw [← HLH.out, show spansTo b j ++ [ownF b j] = spansTo b (j + 1) from (spansTo_succ b j).symm] at hown
                        have HO2 := Lib.hid hown
                        have HE2 := Lib.hid (show Ext w12 w17 from Below.trans ((EX15.out.alloc _).alloc _) hbel)
                        clear hown hg2 hbel f1 f2
                        go_wp2
                        go_roundg (i - (j + 1))
                        case measure => omega
                        case rel => exact ⟨j + 1, by omega, by omega, by simp, HO2.out, HE2.out⟩
                        -- END v
                      · obtain rfl : j = i := by omega
                        have HSP := Lib.hid (show SlS wr u28 (spans b) by have h := Own.sl (enc := encS) (sz := 2) (fun _ => rfl) OV.out; rw [← HNL.out.2.1] at h; exact h)
                        have HLN := Lib.hid (show (spans b).length = j by rw [spans_len, HNL.out.2.1])
                        obtain ⟨A13, n13, c13, rfl, hn13, -, -⟩ := HSP.out.form
                        obtain rfl : n13 = j := by have := hn13.out; have := HLN.out; omega
                        obtain ⟨b13, o13, x13, rfl, -, hb13, -⟩ := HSP.out.at_ (show 0 < n13 by have := HNL.out; omega)
                        have HSO2 := Lib.hid (HSO12.out.ext EX.out)
                        have HB13 := Lib.hid (show ∀ b' o', A11 = some ⟨b', o', none⟩ → b' ≠ wr.heap.size from fun b' o' e => by have := HB12.out b' o' e; have := EX.out.size; omega)
                        have rr : Sem.run Tryd.prog (Instr.makeMap 94 .none) wr = .ok (.map (some wr.heap.size)) (wr.alloc (.map #[] 0)) := run_makeMap _ _
                        have HMM := Lib.hid (MapH.made wr)
                        have EM := Lib.hid (Ext.al wr (.map #[] 0))
                        have HNE := Lib.hid (show b13 ≠ wr.heap.size by omega)
                        have HEX := Lib.hid (S12.out.e.trans EX.out)
                        clear hb13 OV EX
                        go_wp2_with fail
                        refine (unlike_all HV.out HO.out HLN.out (fun i hi => setTo_mem (j := xn) hi) HNE.out HB13.out _ (HSP.out.ext EM.out) (HSO2.out.ext EM.out) HMM.out).mono ?_
                        rintro e w19 ⟨⟨r, rfl, hgr, h1, h2⟩⟩
                        cases r with
                        | false =>
                          have h3 : consB (setOf n13 xn) (truthsB b) = true := (h2 rfl).1
                          rw [HLS.out] at h3
                          cases h3
                        | true =>
                          have HEE := Lib.hid (show Ext w w19 from ext_grown (HEX.out.trans EM.out) hgr HEX.out.size)
                          clear h1 h2 hgr
                          go_wp2
                          go_ret
                          exact ⟨rfl, HEE.out⟩
end Go.Proofs.YtdlipbobfgdleaaDoor
