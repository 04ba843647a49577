/- The reference's Stop and Strike. -/
import Derived.Test.YtafdbgielmlihaaDoorChH
namespace Go.Proofs.YtafdbgielmlihaaDoor
open Go.RowKit Go.Shelf Go.Lib
set_option maxRecDepth 100000
set_option linter.unusedSimpArgs false

theorem filter_snoc {p : Sale → Bool} {l : List Sale} {q : Nat} {x : Sale} (h : l[q]? = some x) : (l.take (q + 1)).filter p = (l.take q).filter p ++ (if p x then [x] else []) := by
  rw [take_snoc h, List.filter_append]
  congr 1
  cases hp : p x <;> simp [hp]

/-- A row stands still where it lies below. -/
theorem own_kept2 {α : Type} {enc : α → List Value} {sz base g : Nat} {e : TypeId} {w w' : World} {v : Value} {l : List α} (h : Own enc e sz w base v l) (hb : Below g w w') (htop : ∀ b, v.ownBlock = some b → b < g) : Own enc e sz w' base v l := by
  refine ⟨h.1, ?_⟩
  rcases h.2 with h2 | ⟨g2, cap, cur, e1, hb2, hg, h5⟩
  · exact .inl h2
  · exact .inr ⟨g2, cap, cur, e1, hb2, (hb.block g2 (htop g2 (by rw [e1]; rfl))).trans hg, h5⟩
theorem cells5 {w : World} {b : Nat} {x y z t s : Value} (h0 : w.cell? ⟨b, 0, none⟩ = some x) (h1 : w.cell? ⟨b, 1, none⟩ = some y) (h2 : w.cell? ⟨b, 2, none⟩ = some z) (h3 : w.cell? ⟨b, 3, none⟩ = some t) (h4 : w.cell? ⟨b, 4, none⟩ = some s) : ∀ (j : Nat) (u : Value), [x, y, z, t, s][j]? = some u → w.cell? ⟨b, j, none⟩ = some u := by
  intro j u hu
  match j, hu with
  | 0, hu => simp at hu; subst hu; exact h0
  | 1, hu => simp at hu; subst hu; exact h1
  | 2, hu => simp at hu; subst hu; exact h2
  | 3, hu => simp at hu; subst hu; exact h3
  | 4, hu => simp at hu; subst hu; exact h4

set_option maxHeartbeats 4000000 in
theorem refStop_any (c : Chn) (h : Int) (hv sv : Value) (w : World) (hh : SlI w hv c.houses) (hs : SlL w sv c.sales) (hlh : c.houses.length ≤ 1000) (hls : c.sales.length ≤ 900) :
    Calls Tryd.prog 49 #[valC hv sv, .int .i64 h] w (PutP (stopE c h) (stopC c h) w) := by
  have HIX := Lib.hid (show decide (0 ≤ houseI c h) = hasI c.houses h from hasI_idx c.houses h)
  have HH := Lib.hid hh; have HS := Lib.hid hs; have HL := Lib.hid hls; have HLH := Lib.hid hlh
  obtain ⟨A, n, cp, rfl, hn, hlc, hcm⟩ := hh.form
  obtain ⟨A2, n2, cp2, rfl, hn2, hlc2, hcm2⟩ := hs.form
  clear hh hs hlh hls
  go_enter Tryd.func49, Tryd.ntmps49
  go_wp2_with fail
  generalize hw3 : (w.alloc (.cells #[.slice A n cp, .slice A2 n2 cp2] 25)).alloc (.cells #[.slice none 0 0, .slice none 0 0] 25) = w3
  have HE3 := Lib.hid (show Ext w w3 from hw3 ▸ (Ext.al _ _).alloc _)
  have HZ3 := Lib.hid (show w3.heap.size = w.heap.size + 2 by rw [← hw3]; simp)
  have HB0 := Lib.hid (show Blk w3 w.heap.size 25 #[.slice A n cp, .slice A2 n2 cp2] from hw3 ▸ (Blk.new _ _ _).alloc _)
  have HB2 := Lib.hid (show Blk w3 (w.heap.size + 1) 25 #[.slice none 0 0, .slice none 0 0] from hw3 ▸ Blk.at_ (by simp))
  clear hw3
  refine (refChain_any c _ _ _ (HH.out.ext HE3.out) (HS.out.ext HE3.out)).mono ?_
  rintro e w4 ⟨rfl, hE⟩
  have HE4 := Lib.hid (HE3.out.trans hE)
  have HC0 := Lib.hid (HB0.out.ext hE); have HC2 := Lib.hid (HB2.out.ext hE)
  clear hE HB0 HB2 HZ3 HE3
  have t0 := HC2.out.c2
  have x0 := HC0.out.c2
  cases hq : checkP c with
  | false =>
    have HQ := Lib.hid (show stopE c h = 60 by unfold stopE; rw [hq]; rfl)
    have HQC := Lib.hid (show stopC c h = noC by unfold stopC; rw [HQ.out]; rfl)
    clear hq
    go_wp2
    refine ret_set2 HC2.out fun W' ⟨b0, b1⟩ hW => ?_
    refine bodyPost_ret (v := .tuple #[.agg #[.slice none 0 0, .slice none 0 0], .int .i64 60]) (by simp [results, Tryd.results49, go_sem, b0, b1]) rfl ?_
    exact ⟨⟨_, by rw [HQ.out], by rw [HQC.out]; exact TwinC.no _ _⟩, ext_grownP HE4.out hW (by omega)⟩
  | true =>
    have HQ := Lib.hid hq; clear hq
    go_wp2_with fail
    refine (house_any c h _ _ _ (HH.out.ext HE4.out) (HS.out.ext HE4.out)).mono ?_
    rintro e w5 ⟨rfl, hE⟩
    have HE5 := Lib.hid (HE4.out.trans hE)
    have HD0 := Lib.hid (HC0.out.ext hE); have HD2 := Lib.hid (HC2.out.ext hE)
    clear hE HC0 HC2 t0 x0
    have t0 := HD2.out.c2
    have x0 := HD0.out.c2
    by_cases hA : houseI c h < 0
    · have HQE := Lib.hid (show stopE c h = 6 by unfold stopE; rw [HQ.out, ← HIX.out]; rw [decide_eq_false (show ¬ (0 ≤ houseI c h) by omega)]; rfl)
      have HQC := Lib.hid (show stopC c h = noC by unfold stopC; rw [HQE.out]; rfl)
      go_wp2
      refine ret_set2 HD2.out fun W' ⟨b0, b1⟩ hW => ?_
      refine bodyPost_ret (v := .tuple #[.agg #[.slice none 0 0, .slice none 0 0], .int .i64 6]) (by simp [results, Tryd.results49, go_sem, b0, b1]) rfl ?_
      exact ⟨⟨_, by rw [HQE.out], by rw [HQC.out]; exact TwinC.no _ _⟩, ext_grownP HE5.out hW (by omega)⟩
    · have HQE := Lib.hid (show stopE c h = 0 by unfold stopE; rw [HQ.out, ← HIX.out]; rw [decide_eq_true (show 0 ≤ houseI c h by omega)]; rfl)
      have HQC := Lib.hid (show stopC c h = lessC c (soldBy h) by unfold stopC; rw [HQE.out]; rfl)
      go_wp2_with fail
      refine (twin_any c _ _ _ (HH.out.ext HE5.out) (HS.out.ext HE5.out) HLH.out (by have := HL.out; omega)).mono ?_
      rintro e w6 ⟨⟨v, rfl, dv, wv, rfl, o1, o2⟩, hE⟩
      obtain ⟨Ad, nd, cd, rfl, -, -, -⟩ := (show SlI w6 dv c.houses from o1.sl (fun _ => rfl)).form
      obtain ⟨Aw, nw, cw, rfl, -, -, -⟩ := (show SlL w6 wv c.sales from o2.sl (fun _ => rfl)).form
      have HE6 := Lib.hid (HE5.out.trans hE)
      have HF0 := Lib.hid (HD0.out.ext hE); have HF2 := Lib.hid (HD2.out.ext hE)
      have O1 := Lib.hid o1
      have HTOP := Lib.hid (own_top o1)
      have HZ6 := Lib.hid (show w.heap.size + 2 ≤ w5.heap.size ∧ w5.heap.size ≤ w6.heap.size by have := hE.size; have := HD2.out.lt; omega)
      clear hE HD0 HD2 t0 x0 o1 o2
      have x0 := HF0.out.c2
      have hz6 := HZ6.out
      have hne : ¬ w.heap.size = w6.heap.size := by omega
      dsimp only [valC]
      go_wp2
      clear x0 hz6 hne
      generalize hw7 : (w6.alloc (.cells #[.slice Ad nd cd, .slice none 0 0] 25)) = w7
      have HG0 := Lib.hid (show Blk w7 w.heap.size 25 #[.slice A n cp, .slice A2 n2 cp2] from hw7 ▸ HF0.out.alloc _)
      have HG2 := Lib.hid (show Blk w7 (w.heap.size + 1) 25 #[.slice none 0 0, .slice none 0 0] from hw7 ▸ HF2.out.alloc _)
      have HG6 := Lib.hid (show Blk w7 w6.heap.size 25 #[.slice Ad nd cd, .slice none 0 0] from hw7 ▸ Blk.new _ _ _)
      have HE7 := Lib.hid (show Ext w w7 from hw7 ▸ HE6.out.alloc _)
      have HZ7 := Lib.hid (show w7.heap.size = w6.heap.size + 1 by rw [← hw7]; simp)
      have P1 := Lib.hid (show Own encI 3 1 w7 w5.heap.size (.slice Ad nd cd) c.houses from hw7 ▸ O1.out.alloc _)
      clear hw7 HF0 HF2 O1
      go_loopg [24] n2 (fun gg s24 wr => ∃ (q : Nat) (A1 : Option Addr) (n1 c1 : Nat), q ≤ n2 ∧ n2 - q ≤ gg ∧ s24 = .int .i64 (q : Int) ∧ Aside (Blk wr w6.heap.size 25 #[.slice Ad nd cd, .slice A1 n1 c1]) ∧ Aside (Own encL 68 5 wr w7.heap.size (.slice A1 n1 c1) ((c.sales.take q).filter fun x => !soldBy h x)) ∧ Aside (Below w6.heap.size w7 wr))
      case atStart => exact ⟨0, none, 0, 0, by omega, by omega, rfl, HG6.out, (by show Own _ _ _ _ _ _ _; simpa using Own.nil _ _), Below.refl _ _⟩
      case round =>
        obtain ⟨q, A1, n1, c1, hqn, hgq, rfl, BO, OW, BW⟩ := hrel
        have HE8 := Lib.hid (show Ext w wr from Below.trans HE7.out (BW.out.mono (by have := HZ6.out; omega)))
        have HK0 := Lib.hid (HG0.out.below BW.out (by have := HZ6.out; omega)); have HK2 := Lib.hid (HG2.out.below BW.out (by have := HZ6.out; omega))
        have HZ8 := Lib.hid (show w.heap.size + 2 ≤ w6.heap.size ∧ w7.heap.size = w6.heap.size + 1 ∧ w7.heap.size ≤ wr.heap.size by have := HZ6.out; have := HZ7.out; have := BW.out.size; omega)
        have x0 := BO.out.c2
        by_cases hlt : q < n2
        · have hltz : (q : Int) < (n2 : Int) := by omega
          obtain ⟨bb, off, x, rfl, hx, hb, hcell⟩ := HS.out.at_ hlt
          obtain ⟨c0, d1, d2, d3, d4⟩ := SlL.cells hcell HE8.out
          have HX := Lib.hid hx
          have HFS := Lib.hid (filter_snoc (p := fun x => !soldBy h x) hx)
          clear hx hcell hb
          cases e1 : (x.seller != h) with
          | false =>
            have HP := Lib.hid (show (!soldBy h x) = false by unfold soldBy; simp at e1; simp [e1])
            go_wp2
            go_roundg (n2 - (q + 1))
            case measure => omega
            case rel => exact ⟨q + 1, A1, n1, c1, by omega, by omega, by simp, BO.out.alloc _, (by show Own _ _ _ _ _ _ _; rw [HFS.out, HP.out]; simpa using OW.out.alloc _), BW.out.alloc (by have := HZ8.out; omega) _⟩
          | true =>
            cases e2 : (x.buyer != h) with
            | false =>
              have HP := Lib.hid (show (!soldBy h x) = false by unfold soldBy; simp at e2; simp [e2])
              go_wp2
              go_roundg (n2 - (q + 1))
              case measure => omega
              case rel => exact ⟨q + 1, A1, n1, c1, by omega, by omega, by simp, BO.out.alloc _, (by show Own _ _ _ _ _ _ _; rw [HFS.out, HP.out]; simpa using OW.out.alloc _), BW.out.alloc (by have := HZ8.out; omega) _⟩
            | true =>
              have HP := Lib.hid (show (!soldBy h x) = true by unfold soldBy; simp at e1 e2; simp [e1, e2])
              go_wp2_with (at_builtin; refine wpList_app encL 23 68 5 _ 40 Tryd.underlying23 info68x rfl (by decide) (by decide) (fun _ => rfl) encL_1 rfl (.tmp 39) (.tmp 41) rfl w7.heap.size _ ((c.sales.take q).filter fun x => !soldBy h x) rfl ((OW.out.alloc _).alloc _) (wr.heap.size + 1) 1 x rfl (cells5 (by simp [go_sem]) (by simp [go_sem]) (by simp [go_sem]) (by simp [go_sem]) (by simp [go_sem])) (by have h1 := List.length_filter_le (fun x => !soldBy h x) (c.sales.take q); rw [List.length_take] at h1; have := HL.out; omega) (by have := HZ8.out; simp; omega) ?_)
              intro g cap w1 hown hg1 hbel hgr
              have HO := Lib.hid hown
              have HB := Lib.hid ((BO.out.alloc _).alloc _ |>.below hbel (by have := HZ8.out; omega))
              have HW := Lib.hid (show Below w6.heap.size w7 w1 from Below.trans ((BW.out.alloc (by have := HZ8.out; omega) _).alloc (by have := HZ8.out; simp; omega) _) (hbel.mono (by have := HZ8.out; omega)))
              clear hown hbel hgr x0 c0 d1 d2 d3 d4
              have x0 := HB.out.c2
              go_wp2
              go_roundg (n2 - (q + 1))
              case measure => omega
              case rel => exact ⟨q + 1, _, _, _, by omega, by omega, by simp, (by show Blk _ _ _ _; have := HB.out.set_ 1 (.slice (some ⟨g, 0, none⟩) (((c.sales.take q).filter fun x => !soldBy h x).length + 1) cap); simpa using this), (by show Own _ _ _ _ _ _ _; rw [HFS.out, HP.out]; exact own_set HO.out (by have := HZ8.out; omega)), HW.out.setCell (Nat.le_refl _) _⟩
        · have HK := Lib.hid (show q = n2 by omega)
          have HFE := Lib.hid (show ((c.sales.take q).filter fun x => !soldBy h x) = (lessC c (soldBy h)).sales by rw [List.take_of_length_le (by have := HK.out; have := hn2.out; omega)]; rfl)
          have HT7 := Lib.hid HK2.out
          have hz8 := HZ8.out
          have PB := Lib.hid (show Own encI 3 1 wr w5.heap.size (.slice Ad nd cd) c.houses from own_kept2 P1.out BW.out HTOP.out)
          have t0 := HT7.out.c2
          go_wp2
          refine ret_set2 HT7.out fun W' ⟨b0, b1⟩ hW => ?_
          refine bodyPost_ret (v := .tuple #[valC (.slice Ad nd cd) (.slice A1 n1 c1), .int .i64 0]) (by simp [results, Tryd.results49, go_sem, b0, b1]) rfl ?_
          refine ⟨⟨_, by rw [HQE.out], ?_⟩, ext_grownP HE8.out hW (by omega)⟩
          rw [HQC.out]
          have hz := HZ6.out
          exact ⟨_, _, rfl, own_mono (own_kept PB.out hW (by omega)) (by omega), own_mono (own_kept (by rw [← HFE.out]; exact OW.out) hW (by omega)) (by omega)⟩

theorem refOk_cons (c : Chn) (last : Option Int) (n : Int) (l : List Int) : refOkL c last (n :: l) = ((decide (0 ≤ saleI c n) && !(match last with | none => false | some p => decide (n ≤ p))) && refOkL c (some n) l) := by
  cases last <;> rfl
def lastO (l : List Int) (q : Nat) : Option Int := if q = 0 then none else l[q - 1]?
theorem wrap_nat {k : Nat} (h : k ≤ 100000) : IntKind.i64.wrap (k : Int) = (k : Int) := by
  rw [IntKind.wrap_i64]
  omega
set_option maxHeartbeats 8000000 in
theorem refStrike_any (c : Chn) (l : List Int) (hv sv lv : Value) (w : World) (hh : SlI w hv c.houses) (hs : SlL w sv c.sales) (hl : SlI w lv l) (hlh : c.houses.length ≤ 1000) (hls : c.sales.length ≤ 900) (hll : l.length ≤ 1000) :
    Calls Tryd.prog 47 #[valC hv sv, lv] w (PutP (strikeE c l) (strikeC c l) w) := by
  have HEQ := Lib.hid (strikeE_eq c l); have HEC := Lib.hid (strikeC_eq c l)
  have HH := Lib.hid hh; have HS := Lib.hid hs; have HL := Lib.hid hls; have HLH := Lib.hid hlh; have HN := Lib.hid hl; have HLL := Lib.hid hll
  obtain ⟨A, n, cp, rfl, hn, hlc, hcm⟩ := hh.form
  obtain ⟨A2, n2, cp2, rfl, hn2, hlc2, hcm2⟩ := hs.form
  obtain ⟨A3, n3, cp3, rfl, hn3, hlc3, hcm3⟩ := hl.form
  clear hh hs hlh hls hl hll
  go_enter Tryd.func47, Tryd.ntmps47
  go_wp2_with fail
  generalize hw3 : (w.alloc (.cells #[.slice A n cp, .slice A2 n2 cp2] 25)).alloc (.cells #[.slice none 0 0, .slice none 0 0] 25) = w3
  have HE3 := Lib.hid (show Ext w w3 from hw3 ▸ (Ext.al _ _).alloc _)
  have HZ3 := Lib.hid (show w3.heap.size = w.heap.size + 2 by rw [← hw3]; simp)
  have HB0 := Lib.hid (show Blk w3 w.heap.size 25 #[.slice A n cp, .slice A2 n2 cp2] from hw3 ▸ (Blk.new _ _ _).alloc _)
  have HB2 := Lib.hid (show Blk w3 (w.heap.size + 1) 25 #[.slice none 0 0, .slice none 0 0] from hw3 ▸ Blk.at_ (by simp))
  clear hw3
  refine (refChain_any c _ _ _ (HH.out.ext HE3.out) (HS.out.ext HE3.out)).mono ?_
  rintro e w4 ⟨rfl, hE⟩
  have HE4 := Lib.hid (HE3.out.trans hE)
  have HC0 := Lib.hid (HB0.out.ext hE); have HC2 := Lib.hid (HB2.out.ext hE)
  clear hE HB0 HB2 HZ3 HE3
  have t0 := HC2.out.c2
  have x0 := HC0.out.c2
  cases hq : checkP c with
  | false =>
    have HQ := Lib.hid (show strikeE c l = 60 by unfold strikeE; rw [hq]; rfl)
    have HQC := Lib.hid (show strikeC c l = noC by unfold strikeC; rw [HQ.out]; rfl)
    clear hq
    go_wp2
    refine ret_set2 HC2.out fun W' ⟨b0, b1⟩ hW => ?_
    refine bodyPost_ret (v := .tuple #[.agg #[.slice none 0 0, .slice none 0 0], .int .i64 60]) (by simp [results, Tryd.results47, go_sem, b0, b1]) rfl ?_
    exact ⟨⟨_, by rw [HQ.out], by rw [HQC.out]; exact TwinC.no _ _⟩, ext_grownP HE4.out hW (by omega)⟩
  | true =>
    have HQ := Lib.hid hq; clear hq
    have HSE := Lib.hid (show strikeE c l = if refOkL c none l then 0 else 61 by rw [← HEQ.out]; unfold refStrikeE; rw [chain_eq, HQ.out]; rfl)
    go_wp2
    clear t0 x0
    go_loopg [20] n3 (fun gg s20 wr => ∃ (q : Nat), q ≤ n3 ∧ n3 - q ≤ gg ∧ s20 = .int .i64 (q : Int) ∧ Aside (refOkL c none l = refOkL c (lastO l q) (l.drop q)) ∧ Aside (Ext w4 wr))
    case atStart => exact ⟨0, by omega, by omega, rfl, rfl, Ext.refl _⟩
    case round =>
      obtain ⟨q, hq, hg, rfl, OK, BW⟩ := hrel
      have HE5 := Lib.hid (HE4.out.trans BW.out)
      have HD0 := Lib.hid (HC0.out.ext BW.out); have HD2 := Lib.hid (HC2.out.ext BW.out)
      have t0 := HD2.out.c2
      have x0 := HD0.out.c2
      by_cases hqn : q < n3
      · have hqz : (q : Int) < (n3 : Int) := by omega
        obtain ⟨bb, off, x, rfl, hx, hb, hcell⟩ := HN.out.at_ hqn
        have HX := Lib.hid hx
        have c0 := SlI.cell hcell HE5.out
        clear hx hcell hb
        go_wp2_with fail
        refine (saleIdx_any c x _ _ _ (HH.out.ext HE5.out) (HS.out.ext HE5.out)).mono ?_
        rintro e w5 ⟨rfl, hE⟩
        have HE6 := Lib.hid (HE5.out.trans hE); have HB6 := Lib.hid (BW.out.trans hE)
        have HF0 := Lib.hid (HD0.out.ext hE); have HF2 := Lib.hid (HD2.out.ext hE)
        clear t0 x0 c0 hE
        have t0 := HF2.out.c2
        by_cases hsi : saleI c x < 0
        · have HOK := Lib.hid (show refOkL c none l = false by
            rw [OK.out, drop_at HX.out, refOk_cons, decide_eq_false (show ¬ 0 ≤ saleI c x by omega)]; rfl)
          have HQE := Lib.hid (show strikeE c l = 61 by rw [HSE.out, HOK.out]; rfl)
          have HQC := Lib.hid (show strikeC c l = noC by unfold strikeC; rw [HQE.out]; rfl)
          go_wp2
          refine ret_set2 HF2.out fun W' ⟨b0, b1⟩ hW => ?_
          refine bodyPost_ret (v := .tuple #[.agg #[.slice none 0 0, .slice none 0 0], .int .i64 61]) (by simp [results, Tryd.results47, go_sem, b0, b1]) rfl ?_
          exact ⟨⟨_, by rw [HQE.out], by rw [HQC.out]; exact TwinC.no _ _⟩, ext_grownP HE6.out hW (by omega)⟩
        · have HSI := Lib.hid (show 0 ≤ saleI c x by omega)
          cases q with
          | zero =>
            have HOK := Lib.hid (show refOkL c none l = refOkL c (lastO l 1) (l.drop 1) by
              rw [OK.out, drop_at HX.out, refOk_cons, decide_eq_true HSI.out]
              have : lastO l 1 = some x := HX.out
              rw [this]
              rfl)
            go_wp2
            go_roundg (n3 - 1)
            case measure => omega
            case rel => exact ⟨1, by omega, by omega, by simp, HOK.out, HB6.out⟩
          | succ m =>
            have hmn : m < n3 := by omega
            obtain ⟨bb', off', y, e1, hy, -, hyc⟩ := HN.out.at_ hmn
            injection e1 with e1
            injection e1 with e1 e2 _
            subst e1 e2
            have d0 := SlI.cell hyc HE6.out
            have HY := Lib.hid hy
            have hkz : (0 : Int) < ((m + 1 : Nat) : Int) := by omega
            have hjs : ((m + 1 : Nat) : Int) - 1 = (m : Int) := by omega
            have hjs2 : (m : Int) + 1 - 1 = (m : Int) := by omega
            have hwm : IntKind.i64.wrap (m : Int) = (m : Int) := wrap_nat (by have := HLL.out; have := hn3.out; omega)
            have hmz : (m : Int) < (n3 : Int) := by omega
            have HLA := Lib.hid (show lastO l (m + 1) = some y from HY.out)
            clear hy hyc
            by_cases hxy : x ≤ y
            · have HOK := Lib.hid (show refOkL c none l = false by
                rw [OK.out, drop_at HX.out, refOk_cons, decide_eq_true HSI.out, HLA.out]
                simp [hxy])
              have HQE := Lib.hid (show strikeE c l = 61 by rw [HSE.out, HOK.out]; rfl)
              have HQC := Lib.hid (show strikeC c l = noC by unfold strikeC; rw [HQE.out]; rfl)
              go_wp2
              refine ret_set2 HF2.out fun W' ⟨b0, b1⟩ hW => ?_
              refine bodyPost_ret (v := .tuple #[.agg #[.slice none 0 0, .slice none 0 0], .int .i64 61]) (by simp [results, Tryd.results47, go_sem, b0, b1]) rfl ?_
              exact ⟨⟨_, by rw [HQE.out], by rw [HQC.out]; exact TwinC.no _ _⟩, ext_grownP HE6.out hW (by omega)⟩
            · have HOK := Lib.hid (show refOkL c none l = refOkL c (lastO l (m + 1 + 1)) (l.drop (m + 1 + 1)) by
                rw [OK.out, drop_at HX.out, refOk_cons, decide_eq_true HSI.out, HLA.out]
                have h2 : lastO l (m + 1 + 1) = some x := HX.out
                rw [h2]
                simp [hxy])
              go_wp2
              go_roundg (n3 - (m + 1 + 1))
              case measure => omega
              case rel => exact ⟨m + 1 + 1, by omega, by omega, by simp, HOK.out, HB6.out⟩
      · have HK := Lib.hid (show q = n3 by omega)
        have HOK := Lib.hid (show refOkL c none l = true by rw [OK.out, List.drop_eq_nil_of_le (by have := HK.out; have := hn3.out; omega)]; rfl)
        have HQE := Lib.hid (show strikeE c l = 0 by rw [HSE.out, HOK.out]; rfl)
        have HQC := Lib.hid (show strikeC c l = lessC c (fun x => hasI l x.number) by unfold strikeC; rw [HQE.out]; rfl)
        go_wp2_with fail
        refine (twin_any c _ _ _ (HH.out.ext HE5.out) (HS.out.ext HE5.out) HLH.out (by have := HL.out; omega)).mono ?_
        rintro e w6 ⟨⟨v, rfl, dv, wv, rfl, o1, o2⟩, hE⟩
        obtain ⟨Ad, nd, cd, rfl, -, -, -⟩ := (show SlI w6 dv c.houses from o1.sl (fun _ => rfl)).form
        obtain ⟨Aw, nw, cw, rfl, -, -, -⟩ := (show SlL w6 wv c.sales from o2.sl (fun _ => rfl)).form
        have HE6 := Lib.hid (HE5.out.trans hE)
        have HF0 := Lib.hid (HD0.out.ext hE); have HF2 := Lib.hid (HD2.out.ext hE)
        have O1 := Lib.hid o1
        have HTOP := Lib.hid (own_top o1)
        have HZ6 := Lib.hid (show w.heap.size + 2 ≤ wr.heap.size ∧ wr.heap.size ≤ w6.heap.size by have := hE.size; have := HD2.out.lt; omega)
        clear hE HD0 HD2 t0 x0 o1 o2
        have x0 := HF0.out.c2
        have hz6 := HZ6.out
        have hne : ¬ w.heap.size = w6.heap.size := by omega
        dsimp only [valC]
        obtain ⟨wo, hwo⟩ : ∃ wo : World, wo = wr := ⟨_, rfl⟩
        subst hwo
        go_wp2
        clear x0 hz6 hne
        generalize hw7 : (w6.alloc (.cells #[.slice Ad nd cd, .slice none 0 0] 25)) = w7
        have HG0 := Lib.hid (show Blk w7 w.heap.size 25 #[.slice A n cp, .slice A2 n2 cp2] from hw7 ▸ HF0.out.alloc _)
        have HG2 := Lib.hid (show Blk w7 (w.heap.size + 1) 25 #[.slice none 0 0, .slice none 0 0] from hw7 ▸ HF2.out.alloc _)
        have HG6 := Lib.hid (show Blk w7 w6.heap.size 25 #[.slice Ad nd cd, .slice none 0 0] from hw7 ▸ Blk.new _ _ _)
        have HE7 := Lib.hid (show Ext w w7 from hw7 ▸ HE6.out.alloc _)
        have HZ7 := Lib.hid (show w7.heap.size = w6.heap.size + 1 by rw [← hw7]; simp)
        have P1 := Lib.hid (show Own encI 3 1 w7 wo.heap.size (.slice Ad nd cd) c.houses from hw7 ▸ O1.out.alloc _)
        clear hw7 HF0 HF2 O1
        go_loopg [50] n2 (fun gg s50 wr => ∃ (q : Nat) (A1 : Option Addr) (n1 c1 : Nat), q ≤ n2 ∧ n2 - q ≤ gg ∧ s50 = .int .i64 (q : Int) ∧ Aside (Blk wr w6.heap.size 25 #[.slice Ad nd cd, .slice A1 n1 c1]) ∧ Aside (Own encL 68 5 wr w7.heap.size (.slice A1 n1 c1) ((c.sales.take q).filter fun x => !hasI l x.number)) ∧ Aside (Below w6.heap.size w7 wr))
        case atStart => exact ⟨0, none, 0, 0, by omega, by omega, rfl, HG6.out, (by show Own _ _ _ _ _ _ _; simpa using Own.nil _ _), Below.refl _ _⟩
        case round =>
          obtain ⟨q, A1, n1, c1, hqn, hgq, rfl, BO, OW, BW⟩ := hrel
          have HE8 := Lib.hid (show Ext w wr from Below.trans HE7.out (BW.out.mono (by have := HZ6.out; omega)))
          have HK0 := Lib.hid (HG0.out.below BW.out (by have := HZ6.out; omega)); have HK2 := Lib.hid (HG2.out.below BW.out (by have := HZ6.out; omega))
          have HZ8 := Lib.hid (show w.heap.size + 2 ≤ w6.heap.size ∧ w7.heap.size = w6.heap.size + 1 ∧ w7.heap.size ≤ wr.heap.size by have := HZ6.out; have := HZ7.out; have := BW.out.size; omega)
          have x0 := BO.out.c2
          by_cases hlt : q < n2
          · have hltz : (q : Int) < (n2 : Int) := by omega
            obtain ⟨bb, off, x, rfl, hx, hb, hcell⟩ := HS.out.at_ hlt
            obtain ⟨c0, d1, d2, d3, d4⟩ := SlL.cells hcell HE8.out
            have HX := Lib.hid hx
            have HFS := Lib.hid (filter_snoc (p := fun x => !hasI l x.number) hx)
            clear hx hcell hb
            obtain ⟨wp, hwp⟩ : ∃ wp : World, wp = wr := ⟨_, rfl⟩
            subst hwp
            go_wp2
            clear c0 d1 d2 d3 d4 x0
            generalize hw9 : wp.alloc (.cells #[.int .i64 x.number, .int .i64 x.seller, .int .i64 x.buyer, .int .i64 x.bales, .int .i64 x.price] 68) = w9
            have HE9 := Lib.hid (show Ext wp w9 from hw9 ▸ Ext.al _ _)
            have HBX := Lib.hid (show Blk w9 wp.heap.size 68 #[.int .i64 x.number, .int .i64 x.seller, .int .i64 x.buyer, .int .i64 x.bales, .int .i64 x.price] from hw9 ▸ Blk.new _ _ _)
            clear hw9
            have q0 := HBX.out.c5
            have HA9 := Lib.hid (HE8.out.trans HE9.out)
            go_loopg [11, 56] n3 (fun gg s11 s56 wr => ∃ (j : Nat) (is : Bool), j ≤ n3 ∧ n3 - j ≤ gg ∧ s11 = .bool is ∧ s56 = .int .i64 (j : Int) ∧ Aside (is = (l.take j).any fun y => decide (x.number = y)) ∧ Aside (wr = w9))
            case atStart => exact ⟨0, false, by omega, by omega, rfl, rfl, rfl, rfl⟩
            case round =>
              obtain ⟨j, is, hj, hgj, rfl, rfl, IS, WR⟩ := hrel
              have hwr := WR.out
              subst hwr
              by_cases hjn : j < n3
              · have hjz : (j : Int) < (n3 : Int) := by omega
                obtain ⟨b3, o3, y, rfl, hy, hb3, hyc⟩ := HN.out.at_ hjn
                have c0 := SlI.cell hyc HA9.out
                have HIS := Lib.hid (show ((l.take (j + 1)).any fun y => decide (x.number = y)) = (is || decide (x.number = y)) by rw [take_snoc hy, List.any_append, ← IS.out]; simp)
                clear hy hyc hb3
                cases is with
                | true =>
                  go_wp2
                  go_roundg (n3 - (j + 1))
                  case measure => omega
                  case rel => exact ⟨j + 1, true, by omega, by omega, rfl, by simp, (by show _ = _; rw [HIS.out]; rfl), rfl⟩
                | false =>
                  cases e1 : (y == x.number) with
                  | false =>
                    have HD := Lib.hid (show decide (x.number = y) = false by simp at e1; simpa using fun e => e1 e.symm)
                    go_wp2
                    go_roundg (n3 - (j + 1))
                    case measure => omega
                    case rel => exact ⟨j + 1, false, by omega, by omega, rfl, by simp, (by show _ = _; rw [HIS.out, HD.out]; rfl), rfl⟩
                  | true =>
                    have HD := Lib.hid (show decide (x.number = y) = true by simp at e1; simpa using e1.symm)
                    go_wp2
                    go_roundg (n3 - (j + 1))
                    case measure => omega
                    case rel => exact ⟨j + 1, true, by omega, by omega, rfl, by simp, (by show _ = _; rw [HIS.out, HD.out]; rfl), rfl⟩
              · have HJ := Lib.hid (show is = hasI l x.number by
                  rw [IS.out, List.take_of_length_le (by have := hn3.out; omega)]; rfl)
                have HB9 := Lib.hid (BO.out.ext HE9.out); have HO9 := Lib.hid (OW.out.ext HE9.out)
                have HW9 := Lib.hid (show Below w6.heap.size w7 wr from Below.trans BW.out (HE9.out.mono (by have := HZ8.out; omega)))
                have HZ9 := Lib.hid (show wp.heap.size < wr.heap.size from HBX.out.lt)
                have x0 := HB9.out.c2
                cases is with
                | true =>
                  have HP := Lib.hid (show (!hasI l x.number) = false by rw [← HJ.out]; rfl)
                  go_wp2
                  go_roundg (n2 - (q + 1))
                  case measure => omega
                  case rel => exact ⟨q + 1, A1, n1, c1, by omega, by omega, by simp, HB9.out, (by show Own _ _ _ _ _ _ _; rw [HFS.out, HP.out]; simpa using HO9.out), HW9.out⟩
                | false =>
                  have HP := Lib.hid (show (!hasI l x.number) = true by rw [← HJ.out]; rfl)
                  go_wp2_with (at_builtin; refine wpList_app encL 23 68 5 _ 40 Tryd.underlying23 info68x rfl (by decide) (by decide) (fun _ => rfl) encL_1 rfl (.tmp 71) (.tmp 73) rfl w7.heap.size _ ((c.sales.take q).filter fun x => !hasI l x.number) rfl (HO9.out.alloc _) wr.heap.size 1 x rfl (cells5 (by simp [go_sem]) (by simp [go_sem]) (by simp [go_sem]) (by simp [go_sem]) (by simp [go_sem])) (by have h1 := List.length_filter_le (fun x => !hasI l x.number) (c.sales.take q); rw [List.length_take] at h1; have := HL.out; omega) (by have := HZ8.out; have := HZ9.out; simp; omega) ?_)
                  intro g cap w1 hown hg1 hbel hgr
                  have HO := Lib.hid hown
                  have HB := Lib.hid (HB9.out.alloc _ |>.below hbel (by have := HZ8.out; omega))
                  have HW := Lib.hid (show Below w6.heap.size w7 w1 from Below.trans (HW9.out.alloc (by have := HZ8.out; have := HZ9.out; omega) _) (hbel.mono (by have := HZ8.out; omega)))
                  clear hown hbel hgr x0
                  have x0 := HB.out.c2
                  go_wp2
                  go_roundg (n2 - (q + 1))
                  case measure => omega
                  case rel => exact ⟨q + 1, _, _, _, by omega, by omega, by simp, (by show Blk _ _ _ _; have := HB.out.set_ 1 (.slice (some ⟨g, 0, none⟩) (((c.sales.take q).filter fun x => !hasI l x.number).length + 1) cap); simpa using this), (by show Own _ _ _ _ _ _ _; rw [HFS.out, HP.out]; exact own_set HO.out (by have := HZ8.out; omega)), HW.out.setCell (Nat.le_refl _) _⟩
          · have HK := Lib.hid (show q = n2 by omega)
            have HFE := Lib.hid (show ((c.sales.take q).filter fun x => !hasI l x.number) = (lessC c (fun x => hasI l x.number)).sales by rw [List.take_of_length_le (by have := HK.out; have := hn2.out; omega)]; rfl)
            have HT7 := Lib.hid HK2.out
            have hz8 := HZ8.out
            have PB := Lib.hid (show Own encI 3 1 wr wo.heap.size (.slice Ad nd cd) c.houses from own_kept2 P1.out BW.out HTOP.out)
            have t0 := HT7.out.c2
            go_wp2
            refine ret_set2 HT7.out fun W' ⟨b0, b1⟩ hW => ?_
            refine bodyPost_ret (v := .tuple #[valC (.slice Ad nd cd) (.slice A1 n1 c1), .int .i64 0]) (by simp [results, Tryd.results47, go_sem, b0, b1]) rfl ?_
            refine ⟨⟨_, by rw [HQE.out], ?_⟩, ext_grownP HE8.out hW (by omega)⟩
            rw [HQC.out]
            have hz := HZ6.out
            exact ⟨_, _, rfl, own_mono (own_kept PB.out hW (by omega)) (by omega), own_mono (own_kept (by rw [← HFE.out]; exact OW.out) hW (by omega)) (by omega)⟩
end Go.Proofs.YtafdbgielmlihaaDoor
