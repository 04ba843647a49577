/- middlinglaw03.CoreKind: the walk. -/
import Derived.Test.YtdlipbobfgdleaaDoorPkTruthCardS
import Derived.Test.YtdlipbobfgdleaaDoorPkKindOCardA
import Derived.Test.YtdlipbobfgdleaaDoorPkKindOCardD
import Derived.Test.YtdlipbobfgdleaaDoorPkWeightCardB
namespace Go.Proofs.YtdlipbobfgdleaaDoor
open Go.RowKit Go.Shelf Go.Lib
set_option maxRecDepth 100000
set_option linter.unusedSimpArgs false

/-- The grades that are shown. -/
def gradeN (x : Int) : Int := 1 + x.tmod 9
def gradesN (c : List Int) : List Int := c.map gradeN
theorem gradeN_bd {x : Int} (h : 0 ≤ x) : 1 ≤ gradeN x ∧ gradeN x ≤ 9 := by
  unfold gradeN
  rw [Int.tmod_eq_emod_of_nonneg h]
  omega
theorem gradesN_gr {c : List Int} (h : Bytes c) : Gr (gradesN c) := by
  intro n hn
  obtain ⟨x, hx, rfl⟩ := List.mem_map.1 hn
  exact gradeN_bd (h x hx).1
theorem gradesN_at {c : List Int} {k : Nat} {x : Int} (h : c[k]? = some x) : (gradesN c)[k]? = some (gradeN x) := by
  unfold gradesN; rw [List.getElem?_map, h]; rfl
def oneN (n : Nat) (g : List Int) : Bale := ⟨1, (n : Int), ⟨1, 1⟩, layD (oneF g) n, []⟩
theorem oneN_eq {n : Nat} {g : List Int} (h : g.length = n) : oneN n g = oneB g := by subst h; rfl
/-- The grades turned round, up to k. -/
def turnF (g : List Int) (k j : Nat) : Span := if j < k then oneF g.reverse j else oneF g j
theorem turn_zero (g : List Int) (n : Nat) : layD (turnF g 0) n = layD (oneF g) n := by
  unfold layD turnF; simp
theorem turn_full (g : List Int) : layD (turnF g g.length) g.length = layD (oneF g.reverse) g.length := by
  unfold layD
  refine List.map_congr_left fun j hj => ?_
  rw [List.mem_range] at hj
  unfold turnF
  rw [if_pos hj]
theorem turn_succ (g : List Int) {n k : Nat} (h : k < n) : (layD (turnF g k) n).set k ⟨(k : Int) + 1, (k : Int), oneF g.reverse k⟩ = layD (turnF g (k + 1)) n := by
  apply List.ext_getElem?
  intro j
  rw [List.getElem?_set]
  by_cases hj : j < n
  · rw [layD_at hj]
    by_cases e : k = j
    · subst e
      rw [if_pos rfl, if_pos (by rw [layD_len]; exact h), layD_at hj]
      unfold turnF; rw [if_pos (by omega)]
    · rw [if_neg e, layD_at hj]
      unfold turnF
      by_cases h2 : j < k
      · rw [if_pos h2, if_pos (by omega)]
      · rw [if_neg h2, if_neg (by omega)]
  · rw [if_neg (by omega), List.getElem?_eq_none (by rw [layD_len]; omega), List.getElem?_eq_none (by rw [layD_len]; omega)]
theorem rev_at {g : List Int} {k : Nat} (h : k < g.length) {y : Int} (hy : g[g.length - 1 - k]? = some y) : oneF g.reverse k = ⟨y, y⟩ := by
  unfold oneF
  rw [List.getElem?_reverse h, hy]
  rfl

/-- The bale of shown grades in its box. -/
structure KB (g : List Int) (n : Nat) (w : World) (p : Nat) (A : Option Addr) (c : Nat) (lv : Value) (V : World) : Prop where
  ex : Ext w V
  blk : Blk V p 27 #[.int .i64 1, .int .i64 (n : Int), .int .i64 1, .int .i64 1, .slice A n c, .slice none 0 0]
  t : Tab V
  d : SlD V (.slice A n c) (layD (oneF g) n)
  l : SlI V lv g
theorem KB.ext {g : List Int} {n : Nat} {w : World} {p : Nat} {A : Option Addr} {c : Nat} {lv : Value} {V V' : World} (h : KB g n w p A c lv V) (k : Ext V V') : KB g n w p A c lv V' :=
  ⟨h.ex.trans k, h.blk.ext k, h.t.ext k, h.d.ext k, h.l.ext k⟩
theorem KB.cells {g : List Int} {n : Nat} {w : World} {p : Nat} {A : Option Addr} {c : Nat} {lv : Value} {V : World} (h : KB g n w p A c lv V) :
    V.cell? ⟨p, 0, none⟩ = some (.int .i64 1) ∧ V.cell? ⟨p, 1, none⟩ = some (.int .i64 (n : Int)) ∧ V.cell? ⟨p, 2, none⟩ = some (.int .i64 1) ∧ V.cell? ⟨p, 3, none⟩ = some (.int .i64 1) ∧ V.cell? ⟨p, 4, none⟩ = some (.slice A n c) ∧ V.cell? ⟨p, 5, none⟩ = some (.slice none 0 0) ∧ p < V.heap.size :=
  ⟨h.blk.cell 0, h.blk.cell 1, h.blk.cell 2, h.blk.cell 3, h.blk.cell 4, h.blk.cell 5, h.blk.lt⟩
/-- What the calls tell of it. -/
theorem one_kindB {g : List Int} (h0 : 0 < g.length) (h5 : g.length ≤ 5) (hg : Gr g) {k : Int} (h1 : 1 ≤ k) (h4 : k ≤ 4) : kindB (oneB g) k = (if k = kindL g then 2 else 0) ∧ inB 1 4 k = true ∧ askE (oneB g) true 32 = 0 := by
  obtain ⟨e1, e2⟩ := kindB_ok (one_valid h0 h5 hg) (one_ok hg) h1 h4
  have hb := kindL_bd g
  exact ⟨by rw [e1, one_kinds h5 hg, kindK_one hb.1 hb.2 h1 h4], e2, ask_ok (one_valid h0 h5 hg) (one_ok hg) 32⟩

set_option maxHeartbeats 8000000 in
theorem kindLaw_any (c : List Int) (cv : Value) (w : World) (hT : Tab w) (hc : SlU w cv c) (hcb : Bytes c) :
    Calls Tryd.prog 11 #[cv] w fun e w' => e = .returned (.bool true) ∧ Ext w w' := by
  have HT := Lib.hid hT
  have HC := Lib.hid hc
  have HCB := Lib.hid hcb
  obtain ⟨A3, n3, cp3, rfl, hn3, hlc3, hcm3⟩ := hc.form
  clear hT hc hcb
  go_enter Tryd.func11, Tryd.ntmps11
  go_wp2_with fail
  refine (alive_any _ HT.out).mono ?_
  rintro e w1 ⟨rfl, hE1⟩
  have HE1 := Lib.hid hE1; clear hE1
  by_cases hz : n3 = 0
  · subst hz
    go_wp2
    go_ret
    exact ⟨rfl, HE1.out⟩
  by_cases h5 : 5 < n3
  · have hz' : ¬ ((n3 : Int) = 0) := by omega
    have hz'' : ((n3 : Int) == 0) = false := by simpa using hz'
    have h5' : (5 : Int) < (n3 : Int) := by omega
    go_wp2
    go_ret
    exact ⟨rfl, HE1.out⟩
  have hz' : ¬ ((n3 : Int) = 0) := by omega
  have hz'' : ((n3 : Int) == 0) = false := by simpa using hz'
  have h5' : ¬ (5 : Int) < (n3 : Int) := by omega
  have HN := Lib.hid (show 0 < n3 ∧ n3 ≤ 5 by omega)
  have HG := Lib.hid (gradesN_gr HCB.out)
  have HGL := Lib.hid (show (gradesN c).length = n3 by unfold gradesN; rw [List.length_map]; exact hn3.out.symm)
  clear hz h5
  go_wp2_with fail
  refine (span_any 1 1 _).mono ?_
  rintro e w2 ⟨rfl, hE⟩
  have HE2 := Lib.hid (HE1.out.trans hE); clear hE HE1
  clear hz' hz'' h5'
  dsimp only [valS]
  go_wp2
  go_loopg [5, 42] n3 (fun gg s5 s42 wr => ∃ (kk : Nat) (dv : Value), kk ≤ n3 ∧ n3 - kk ≤ gg ∧ s42 = .int .i64 (kk : Int) ∧ Aside (CB encI 3 1 w2 w2.heap.size (.int .i64 1) (.int .i64 (n3 : Int)) (.int .i64 1) (.int .i64 1) (.slice none 0 0) (layD (oneF (gradesN c)) kk) dv s5 ((gradesN c).take kk) wr))
  case atStart => exact ⟨0, .slice none 0 0, by omega, by omega, rfl, ⟨Ext.al _ _, Blk.new _ _ _, Nat.le_refl _, by simp, ⟨Own.nil _ _, _, 0, rfl, fun _ => rfl⟩, Own.nil _ _⟩⟩
  case round =>
    obtain ⟨kk, dv, hkk, hg, rfl, CBX⟩ := hrel
    by_cases hlt : kk < n3
    · have hltz : (kk : Int) < (n3 : Int) := by omega
      obtain ⟨bb, off, x, rfl, hx, hb, hcell⟩ := HC.out.at_ hlt
      have c1 := SlU.cell hcell (HE2.out.trans CBX.out.ex)
      obtain ⟨hx0, hx9⟩ := HCB.out x (List.mem_of_getElem? hx)
      have hwx : IntKind.i64.wrap x = x := wrap_small _ (by omega) (by omega)
      obtain ⟨y, hy⟩ : ∃ y, y = gradeN x := ⟨_, rfl⟩
      have hyb := gradeN_bd hx0
      rw [← hy] at hyb
      have hrem : x.tmod 9 = y - 1 := by rw [hy]; unfold gradeN; omega
      have hwy : IntKind.i64.wrap (1 + (y - 1)) = y := by rw [show 1 + (y - 1) = y by omega]; exact wrap_small _ (by omega) (by omega)
      have HY := Lib.hid (show (gradesN c)[kk]? = some y by rw [hy]; exact gradesN_at hx)
      have HYB := Lib.hid hyb
      have HTK := Lib.hid (show (gradesN c).take kk ++ [y] = (gradesN c).take (kk + 1) by rw [List.take_add_one, HY.out]; rfl)
      have HTL := Lib.hid (show min kk (gradesN c).length = kk by have := HGL.out; omega)
      clear hx hcell hb hy hyb
      go_wp2_with (at_builtin; refine wpList_app encI 56 3 1 _ 8 Tryd.underlying56 info3x rfl (by decide) (by decide) (fun _ => rfl) encI_one rfl (.tmp 47) (.tmp 52) rfl (w2.heap.size + 1) _ ((gradesN c).take kk) rfl (CBX.out.l.alloc _) wr.heap.size 1 y rfl (cells1 (by simp [go_sem])) (by rw [List.length_take, HTL.out]; omega) (by have := CBX.out.big; simp; omega) ?_)
      intro gb cap w3 hown hg2 hbel hgr
      rw [HTL.out] at hown ⊢
      rw [HTK.out] at hown
      have CB1 := Lib.hid ((CBX.out.ext (Ext.al wr (.cells #[.int .i64 y] 3))).app hown hbel hgr (by decide) (by decide))
      have HTY := Lib.hid (show ((gradesN c).take (kk + 1))[kk]? = some y by rw [List.getElem?_take, if_pos (by omega)]; exact HY.out)
      clear hown hbel hgr c1 hwx hrem hwy hg2
      have m4 := fun V (h : CB encI 3 1 w2 w2.heap.size (.int .i64 1) (.int .i64 (n3 : Int)) (.int .i64 1) (.int .i64 1) (.slice none 0 0) (layD (oneF (gradesN c)) kk) dv (.slice (some ⟨gb, 0, none⟩) (kk + 1) cap) ((gradesN c).take (kk + 1)) V) => h.cells.2.2.2.2.1
      have m5 := fun V (h : CB encI 3 1 w2 w2.heap.size (.int .i64 1) (.int .i64 (n3 : Int)) (.int .i64 1) (.int .i64 1) (.slice none 0 0) (layD (oneF (gradesN c)) kk) dv (.slice (some ⟨gb, 0, none⟩) (kk + 1) cap) ((gradesN c).take (kk + 1)) V) => (h.at_ HTY.out).1
      have hwk : IntKind.i64.wrap ((kk : Int) + 1) = (kk : Int) + 1 := wrap_small _ (by have := HN.out; omega) (by have := HN.out; omega)
      have hk0 : (0 : Int) ≤ (kk : Int) := by omega
      have hk1 : (kk : Int) < (kk : Int) + 1 := by omega
      go_wp2
      -- BLOCK reg
      refine wp_region_tame_cut (fun V => CB encI 3 1 w2 w2.heap.size (.int .i64 1) (.int .i64 (n3 : Int)) (.int .i64 1) (.int .i64 1) (.slice none 0 0) (layD (oneF (gradesN c)) kk) dv (.slice (some ⟨gb, 0, none⟩) (kk + 1) cap) ((gradesN c).take (kk + 1)) V)
        (RF encD 4 63 (w2.heap.size + 1) (layD (oneF (gradesN c)) kk ++ [⟨(kk : Int) + 1, (kk : Int), ⟨y, y⟩⟩]) ⟨(kk : Int) + 1, (kk : Int), ⟨y, y⟩⟩) (by kernel_rfl) 231 rfl _ rfl (by decide +kernel) (by decide +kernel) (by decide +kernel) rfl (CB1.out.ext (Ext.refl _).drew) ?_
      simp only [List.dropLast]
      repeat (apply tame_q rfl; (intro ρ W hC hr hD; (obtain ⟨hrc, hrg, hrf, hrs⟩ := hr); (simp [go_sem] at hD); go_simp; first | exact ⟨⟨hC, RF.refl _⟩, rfl⟩ | exact rfl); simp only [List.nil_append, List.cons_append])
      apply tame_q rfl
      · intro ρ V hC hr hD
        obtain ⟨hrc, hrg, hrf, hrs⟩ := hr
        simp [go_sem] at hD
        go_simp
        refine (draw_any ((kk : Int) + 1) (kk : Int) y y _).mono ?_
        rintro e w' ⟨rfl, hE⟩
        exact ⟨_, rfl, ⟨hC.ext hE, RF.ext hE⟩, rfl⟩
      simp only [List.nil_append, List.cons_append]
      apply tame_v rfl (OneF encD 63 ⟨(kk : Int) + 1, (kk : Int), ⟨y, y⟩⟩) (fun v V V' _ hR h => by obtain ⟨g, h1, h2⟩ := h; exact ⟨g, h1, hR.2.2.1 g h2⟩)
      · intro ρ V hC hr hD
        obtain ⟨hrc, hrg, hrf, hrs⟩ := hr
        simp [go_sem] at hD
        go_simp
        exact ⟨⟨hC.ext (Ext.al _ _), RF.ext (Ext.al _ _)⟩, ⟨_, rfl, Blk.new _ _ _⟩⟩
      simp only [List.nil_append, List.cons_append]
      apply tame_v rfl (NewF encD 4 63 (w2.heap.size + 1) (layD (oneF (gradesN c)) kk ++ [⟨(kk : Int) + 1, (kk : Int), ⟨y, y⟩⟩])) (fun v V V' _ hR h => ⟨hR.2.1 _ (List.prefix_refl _) v h.1, h.2⟩)
      · intro ρ V hC hr hD
        obtain ⟨hrc, hrg, hrf, hrs⟩ := hr
        simp [go_sem] at hD
        obtain ⟨d1, d2, -⟩ := hD
        obtain ⟨v', V', hrun, hnew, hR, hB, hO⟩ := run_appG (t := 24) (ty := 24) (enc := encD) (sz := 4) (y := ⟨(kk : Int) + 1, (kk : Int), ⟨y, y⟩⟩) Tryd.underlying24 info63x rfl (by decide) (by decide) (fun _ => rfl) encD_1 hC.d (by rw [layD_len]; have := HN.out; omega) hC.big d2
        rw [← d1] at hrun
        show opGives _ _ _ _ _ _ _
        unfold opGives execOp
        simp only [resolve, invoke, builtin, Sem.run_bind, Sem.run_pure, Result.andThen_ok, List.map_toArray, List.map_cons, List.map_nil, hrun]
        exact ⟨⟨hC.old hR hB hO (by decide), hR⟩, hnew⟩
      simp only [List.nil_append, List.cons_append]
      repeat (apply tame_q rfl; (intro ρ W hC hr hD; (obtain ⟨hrc, hrg, hrf, hrs⟩ := hr); (simp [go_sem] at hD); go_simp; first | exact ⟨⟨hC, RF.refl _⟩, rfl⟩ | exact rfl); simp only [List.nil_append, List.cons_append])
      refine tame_end_put rfl rfl (fun ρ V hC hr hF => ?_)
      simp [go_sem] at hF
      obtain ⟨f54, f55, f56, f57, f58, f59, f60, f61, f62, f63, f64, f65, f66, f67, -, hN, f70⟩ := hF
      simp only [putF, f54, f55, f56, f57, f58, f59, f60, f61, f62, f63, f64, f65, f66, f67, f70, List.set_cons_succ, List.set_cons_zero]
      generalize ρ (Operand.tmp 69) = dv2 at *
      generalize ρ (Operand.tmp 68) = u68 at *
      obtain ⟨A2, c2, e2, -⟩ := hN.2
      rw [List.length_append, layD_len, List.length_singleton] at e2
      subst e2
      have HN2 := Lib.hid hN
      have CB2 := Lib.hid hC
      clear f54 f55 f56 f57 f58 f59 f60 f61 f62 f63 f64 f65 f66 f67 hN f70 hr hC m4 m5
      obtain ⟨x0, x1, x2, x3, x4, x5, xl⟩ := CB2.out.cells
      have xf := CB2.out.blk.frozen 4
      go_wp2
      go_roundg (n3 - (kk + 1))
      case measure => omega
      case rel => exact ⟨kk + 1, _, by omega, by omega, by simp, (by
        have h := CB2.out.put HN2.out
        have e : layD (oneF (gradesN c)) kk ++ [⟨(kk : Int) + 1, (kk : Int), ⟨y, y⟩⟩] = layD (oneF (gradesN c)) (kk + 1) := by
          rw [layD_succ]; unfold oneF; rw [HY.out]; rfl
        rw [e] at h
        exact h)⟩
      -- END reg
    · -- BLOCK mid
      obtain rfl : kk = n3 := by omega
      have HE := Lib.hid (show (gradesN c).take kk = gradesN c from List.take_of_length_le (by have := HGL.out; omega))
      obtain ⟨A, cp, e1, -⟩ := CBX.out.d.2
      rw [layD_len] at e1
      subst e1
      have HS := Lib.hid (show SlI wr u5 (gradesN c) by have h := Own.sl (enc := encI) (sz := 1) (fun _ => rfl) CBX.out.l; rw [HE.out] at h; exact h)
      obtain ⟨A4, n4, cp4, e4, hn4, hlc4, hcm4⟩ := HS.out.form
      obtain rfl : n4 = kk := by have := hn4.out; have := HGL.out; omega
      subst e4
      have K0 := Lib.hid (show KB (gradesN c) n4 w w2.heap.size A cp (.slice A4 n4 cp4) wr from ⟨HE2.out.trans CBX.out.ex, CBX.out.blk, HT.out.ext (HE2.out.trans CBX.out.ex), Own.sl (enc := encD) (sz := 4) (fun _ => rfl) CBX.out.d.1, HS.out⟩)
      clear CBX HE HS hn4
      have HBN := Lib.hid (oneN_eq HGL.out)
      generalize gradesN c = g at *
      have H0 := Lib.hid (show 0 < g.length ∧ g.length ≤ 5 by have := HGL.out; have := HN.out; omega)
      go_wp2_with fail
      refine (kindR_any g _ _ K0.out.l H0.out.1 (by have := H0.out; omega) HG.out).mono ?_
      rintro e w3 ⟨rfl, hE⟩
      rw [kindR_eq H0.out.1 HG.out]
      have K1 := Lib.hid (K0.out.ext hE); clear hE K0
      obtain ⟨own, hown⟩ : ∃ own, own = kindL g := ⟨_, rfl⟩
      have HOWN := Lib.hid hown
      rw [← hown]
      clear hown
      go_wp2
      go_loopg [9] 4 (fun gg s9 wr => ∃ kk : Nat, kk ≤ 4 ∧ 4 - kk ≤ gg ∧ s9 = .int .i64 ((kk : Int) + 1) ∧ Aside (KB g n4 w w2.heap.size A cp (.slice A4 n4 cp4) wr))
      case atStart => exact ⟨0, by omega, by omega, rfl, K1.out⟩
      case round =>
        obtain ⟨kk, hkk, hg, rfl, KR⟩ := hrel
        by_cases hlt : kk < 4
        · have hltz : (kk : Int) + 1 ≤ 4 := by omega
          obtain ⟨x0, x1, x2, x3, x4, x5, xl⟩ := KR.out.cells
          go_wp2_with fail
          clear x0 x1 x2 x3 x4 x5 xl
          refine (kindC_any (oneN n4 g) ((kk : Int) + 1) _ _ _ KR.out.t KR.out.d (Sl.nil _)).mono ?_
          rintro e w5 ⟨rfl, hE⟩
          have K5 := Lib.hid (KR.out.ext hE); clear hE KR
          obtain ⟨k1, k2, k3⟩ := one_kindB H0.out.1 H0.out.2 HG.out (k := (kk : Int) + 1) (by omega) (by omega)
          rw [HBN.out, k1, k2, k3, ← HOWN.out]
          clear k1 k2 k3
          by_cases he : (kk : Int) + 1 = own
          · rw [if_pos he]
            go_wp2
            go_roundg (4 - (kk + 1))
            case measure => omega
            case rel => exact ⟨kk + 1, by omega, by omega, by simp <;> omega, K5.out⟩
          · rw [if_neg he]
            go_wp2
            go_roundg (4 - (kk + 1))
            case measure => omega
            case rel => exact ⟨kk + 1, by omega, by omega, by simp <;> omega, K5.out⟩
        · obtain rfl : kk = 4 := by omega
          clear hlt hkk hg K1
          obtain ⟨x0, x1, x2, x3, x4, x5, xl⟩ := KR.out.cells
          go_wp2_with fail
          clear x0 x1 x2 x3 x4 x5 xl
          refine (decide_any (oneN n4 g) _ _ _ KR.out.t KR.out.d (Sl.nil _)).mono ?_
          rintro e w5 ⟨dcv, rfl, hdl, hE⟩
          rw [HBN.out, one_dec H0.out.1 H0.out.2 HG.out] at hdl
          obtain ⟨A6, n6, cp6, rfl, hn6, -, -⟩ := hdl.form
          obtain rfl : n6 = 0 := hn6.out
          have K5 := Lib.hid (KR.out.ext hE); clear hE KR hdl hn6
          rw [HBN.out, ask_ok (one_valid H0.out.1 H0.out.2 HG.out) (one_ok HG.out)]
          obtain ⟨x0, x1, x2, x3, x4, x5, xl⟩ := K5.out.cells
          go_wp2_with fail
          clear x0 x1 x2 x3 x4 x5 xl
          refine (ask_any (oneN n4 g) _ _ _ K5.out.t K5.out.d (Sl.nil _)).mono ?_
          rintro e w6 ⟨rfl, hE⟩
          have K6 := Lib.hid (K5.out.ext hE); clear hE K5
          rw [HBN.out, one_ask H0.out.1 H0.out.2 HG.out, ask_ok (one_valid H0.out.1 H0.out.2 HG.out) (one_ok HG.out)]
          dsimp only
          obtain ⟨x0, x1, x2, x3, x4, x5, xl⟩ := K6.out.cells
          go_wp2_with fail
          clear x0 x1 x2 x3 x4 x5 xl
          refine (cut_any (oneN n4 g) _ _ _ K6.out.t K6.out.d (Sl.nil _)).mono ?_
          rintro e w7 ⟨rfl, hE⟩
          have K7 := Lib.hid (K6.out.ext hE); clear hE K6
          rw [HBN.out]
          have HCUT := Lib.hid (one_cut H0.out.1 H0.out.2 HG.out)
          rw [← HOWN.out] at HCUT
          have hn40 : 0 < n4 := HN.out.1
          obtain ⟨b4, off4, y4, rfl, -, -, -⟩ := K7.out.l.at_ hn40
          clear hn40
          by_cases ho : own = 2
          case neg =>
            have hob : (own == 2) = false := by simpa using ho
            rw [HCUT.out.1 ho]
            obtain ⟨x0, x1, x2, x3, x4, x5, xl⟩ := K7.out.cells
            dsimp only [valS]
            go_wp2_with fail
            clear x0 x1 x2 x3 x4 x5 xl
            have K9 := Lib.hid (K7.out.ext (Ext.al w7 (.cells #[.int .i64 (cutB (oneB g)).lo, .int .i64 (cutB (oneB g)).hi] 23)))
            clear K7
            generalize w7.alloc _ = w9 at *
            have HLD := Lib.hid (layD_len (oneF g) n4)
            refine (twin_any (oneN n4 g) _ _ _ K9.out.d (Sl.nil _) (by show (layD (oneF g) n4).length ≤ 1000; rw [HLD.out]; have := HN.out; omega) (Nat.zero_le _)).mono ?_
            rintro e wt ⟨⟨v, rfl, dv, wv, rfl, o1, o2⟩, hE⟩
            have hsl : SlD wt dv (layD (oneF g) n4) := o1.sl (fun _ => rfl)
            obtain ⟨m, hm⟩ : ∃ m, n4 = m + 1 := ⟨n4 - 1, by have := HN.out; omega⟩
            unfold Own at o1
            rw [show (oneN n4 g).draws.length = m + 1 from HLD.out.trans hm] at o1
            obtain ⟨gb, cap, rfl, hgb, row, hrow⟩ := own_succ2 o1
            rw [← hm] at hsl ⊢
            have f0 : ∀ j, wt.frozen? ⟨gb, j, none⟩ = false := fun j => by simp [World.frozen?, hrow]
            have hgl : gb < wt.heap.size := (Array.getElem?_eq_some_iff.1 hrow).1
            have hswv : SlW wt wv [] := o2.sl (fun _ => rfl)
            obtain ⟨A2, n2, cp2, rfl, hn2, -, hcw2⟩ := hswv.form
            obtain rfl : n2 = 0 := hn2.out
            have HWV2 : ∀ W, SlW W (.slice A2 0 cp2) [] := fun W => ⟨A2, cp2, rfl, Nat.zero_le _, hcw2, fun h => absurd h (by simp)⟩
            have hEA := Ext.al wt (.cells #[.int .i64 1, .int .i64 (n4 : Int), .int .i64 1, .int .i64 1, .slice (some ⟨gb, 0, none⟩) n4 cap, .slice A2 0 cp2] 27)
            have T0 := Lib.hid (show CT w9 wt.heap.size (.int .i64 1) (.int .i64 (n4 : Int)) (.int .i64 1) (.int .i64 1) (.slice A2 0 cp2) n4 gb cap (layD (turnF g 0) n4) (wt.alloc (.cells #[.int .i64 1, .int .i64 (n4 : Int), .int .i64 1, .int .i64 1, .slice (some ⟨gb, 0, none⟩) n4 cap, .slice A2 0 cp2] 27)) from
              ⟨hE.trans hEA, Blk.new _ _ _, hE.size, hgb, by omega, fun j => (hEA.cells.2 gb j hgl).trans (f0 j), by rw [turn_zero]; exact hsl.ext hEA⟩)
            have HET := Lib.hid hE
            clear o1 o2 hsl hm hgb hrow f0 hgl hswv hn2 hE hEA hcw2
            dsimp only [valB, oneN]
            go_wp2
            go_loopg [190] n4 (fun gg s190 wr => ∃ kk : Nat, kk ≤ n4 ∧ n4 - kk ≤ gg ∧ s190 = .int .i64 (kk : Int) ∧ Aside (CT w9 wt.heap.size (.int .i64 1) (.int .i64 (n4 : Int)) (.int .i64 1) (.int .i64 1) (.slice A2 0 cp2) n4 gb cap (layD (turnF g kk) n4) wr))
            case atStart => exact ⟨0, by omega, by omega, rfl, T0.out⟩
            case round =>
              obtain ⟨kk, hkk, hg, rfl, CR⟩ := hrel
              by_cases hlt : kk < n4
              · have hltz : (kk : Int) < (n4 : Int) := by omega
                have hk0 : (0 : Int) ≤ (kk : Int) := by omega
                obtain ⟨j, hj⟩ : ∃ j : Nat, j = n4 - 1 - kk := ⟨_, rfl⟩
                have hjn : j < g.length := by rw [HGL.out]; omega
                obtain ⟨y, hy⟩ : ∃ y, g[j]? = some y := ⟨_, List.getElem?_eq_getElem hjn⟩
                have HR := Lib.hid (show oneF g.reverse kk = ⟨y, y⟩ from rev_at (by rw [HGL.out]; exact hlt) (by rw [HGL.out, ← hj]; exact hy))
                have hj0 : (0 : Int) ≤ (j : Int) := by omega
                have hj1 : (j : Int) < (n4 : Int) := by omega
                have h55 := HN.out.2
                have hw1 : IntKind.i64.wrap ((n4 : Int) - 1) = (n4 : Int) - 1 := wrap_small _ (by omega) (by omega)
                have hw2 : IntKind.i64.wrap ((n4 : Int) - 1 - (kk : Int)) = (j : Int) := by rw [wrap_small _ (by omega) (by omega)]; omega
                have HP := Lib.hid (And.intro hlt (HN.out.1))
                have m4 := fun V (h : CT w9 wt.heap.size (.int .i64 1) (.int .i64 (n4 : Int)) (.int .i64 1) (.int .i64 1) (.slice A2 0 cp2) n4 gb cap (layD (turnF g kk) n4) V) => h.cells.2.2.2.2.1
                have m5 := fun V (h : CT w9 wt.heap.size (.int .i64 1) (.int .i64 (n4 : Int)) (.int .i64 1) (.int .i64 1) (.slice A2 0 cp2) n4 gb cap (layD (turnF g kk) n4) V) => sl_cell (K9.out.l.ext h.ex) hy
                clear hj hjn hy h55
                go_wp2
                refine wp_region_tame_cut (fun V => CT w9 wt.heap.size (.int .i64 1) (.int .i64 (n4 : Int)) (.int .i64 1) (.int .i64 1) (.slice A2 0 cp2) n4 gb cap (layD (turnF g kk) n4) V) (fun V V' => Ext V V') (by kernel_rfl) 231 rfl _ rfl (by decide +kernel) (by decide +kernel) (by decide +kernel) rfl (CR.out.ext HP.out.2 (Ext.refl _).drew) ?_
                simp only [List.dropLast]
                repeat (apply tame_q rfl; (intro ρ W hC hr hD; (obtain ⟨hrc, hrg, hrf, hrs⟩ := hr); (simp [go_sem] at hD); go_simp; first | exact ⟨⟨hC, Ext.refl _⟩, rfl⟩ | exact ⟨⟨hC, RS.refl _⟩, rfl⟩ | exact rfl); simp only [List.nil_append, List.cons_append])
                apply tame_q rfl
                · intro ρ V hC hr hD
                  obtain ⟨hrc, hrg, hrf, hrs⟩ := hr
                  simp [go_sem] at hD
                  go_simp
                  refine (span_any y y _).mono ?_
                  rintro e w' ⟨rfl, hE⟩
                  exact ⟨_, rfl, ⟨hC.ext HP.out.2 hE, hE⟩, rfl⟩
                simp only [List.nil_append, List.cons_append]
                repeat (apply tame_q rfl; (intro ρ W hC hr hD; (obtain ⟨hrc, hrg, hrf, hrs⟩ := hr); (simp [go_sem] at hD); go_simp; first | exact ⟨⟨hC, Ext.refl _⟩, rfl⟩ | exact ⟨⟨hC, RS.refl _⟩, rfl⟩ | exact rfl); simp only [List.nil_append, List.cons_append])
                refine tame_end_put rfl rfl (fun ρ V hC hr hF => ?_)
                simp [go_sem] at hF
                simp only [putF, hF, List.set_cons_succ, List.set_cons_zero]
                have CV := Lib.hid hC
                clear hF hr m4 m5 hC
                obtain ⟨u2, u3, y2, y3, z2, z3, zl⟩ := CV.out.at_ HP.out.1
                dsimp only [valS]
                go_wp2
                go_roundg (n4 - (kk + 1))
                case measure => omega
                case rel => exact ⟨kk + 1, by omega, by omega, by simp, (by
                  have h := CV.out.put (s := ⟨y, y⟩) HP.out.1 (layD_at HP.out.1)
                  rw [← HR.out, turn_succ g HP.out.1] at h
                  rw [HR.out] at h
                  exact h)⟩
              · obtain rfl : kk = n4 := by omega
                have HD2 := Lib.hid (show SlD wr (.slice (some ⟨gb, 0, none⟩) kk cap) (layD (oneF g.reverse) kk) by
                  have h := CR.out.d
                  have e := turn_full g
                  rw [HGL.out] at e
                  rw [e] at h
                  exact h)
                obtain ⟨x0, x1, x2, x3, x4, x5, xl⟩ := CR.out.cells
                go_wp2_with fail
                clear x0 x1 x2 x3 x4 x5 xl
                refine (kindC_any (oneN kk g.reverse) _ _ _ _ (K9.out.t.ext CR.out.ex) HD2.out (show SlW wr (.slice A2 0 cp2) [] from HWV2 _)).mono ?_
                rintro e w12 ⟨rfl, hE⟩
                obtain ⟨k1, k2, k3⟩ := one_kindB (g := g.reverse) (by rw [List.length_reverse]; exact H0.out.1) (by rw [List.length_reverse]; exact H0.out.2) (fun x hx => HG.out x (List.mem_reverse.1 hx)) (k := kindL g) (kindL_bd g).1 (kindL_bd g).2
                rw [oneN_eq (show g.reverse.length = kk by rw [List.length_reverse]; exact HGL.out), HOWN.out, k1, k2, k3, kindL_rev, if_pos rfl]
                go_wp2
                go_ret
                exact ⟨rfl, (K9.out.ex.trans CR.out.ex).trans hE⟩
          case pos =>
            obtain ⟨hce, pp, qq, hcb, hp1, hpq, hqn, hk1, hk2⟩ := HCUT.out.2 ho
            rw [hce, hcb]
            subst ho
            rw [HGL.out] at hqn
            have i1 : (1 : Int) ≤ (pp : Int) := by omega
            have i2 : (pp : Int) ≤ (qq : Int) := by omega
            have i3 : (qq : Int) < (n4 : Int) := by omega
            have i4 : ¬ (pp : Int) < 1 := by omega
            have i5 : ¬ qq < pp := by omega
            have i6 : ¬ n4 ≤ qq := by omega
            have hpn : pp ≤ n4 := by omega
            have hqn2 : qq ≤ n4 := by omega
            have HPQ := Lib.hid (And.intro hp1 (And.intro hpq hqn))
            have HK1 := Lib.hid hk1
            have HK2 := Lib.hid hk2
            clear hp1 hpq hk1 hk2
            dsimp only [valS]
            go_wp2_with fail
            have K8 := Lib.hid (K7.out.ext (Ext.al w7 (.cells #[.int .i64 (pp : Int), .int .i64 (qq : Int)] 23)))
            have C8 := Lib.hid (Blk.new w7 23 #[.int .i64 (pp : Int), .int .i64 (qq : Int)])
            clear K7
            have HL := Lib.hid HGL.out
            refine (kindR_any (g.take pp) _ _ (K8.out.l.take (k := pp) (c' := cp4) (by omega) (by omega) hcm4) (by rw [List.length_take, HL.out]; have := HPQ.out; omega) (by rw [List.length_take, HL.out]; have := HPQ.out; omega) (fun x hx => HG.out x (List.mem_of_mem_take hx))).mono ?_
            rintro e w8 ⟨rfl, hE⟩
            rw [kindR_eq (by rw [List.length_take, HL.out]; have := HPQ.out; omega) (fun x hx => HG.out x (List.mem_of_mem_take hx)), HK1.out]
            have K8b := Lib.hid (K8.out.ext hE)
            have C8b := Lib.hid (C8.out.ext hE)
            clear hE K8 C8
            have c0 := C8b.out.cell 0
            have c1 := C8b.out.cell 1
            have cl := C8b.out.lt
            simp at c0 c1
            go_wp2_with fail
            clear c0 c1 cl
            refine (kindR_any (g.drop qq) _ _ (show SlI _ (.slice (some ⟨b4, off4 + qq, none⟩) (n4 - qq) (cp4 - qq)) (g.drop qq) by simpa only [Nat.mul_one] using K8b.out.l.drop (k := qq) (c' := cp4 - qq) (by omega) (Nat.le_trans (Nat.sub_le _ _) hcm4)) (by rw [List.length_drop, HL.out]; have := HPQ.out; omega) (by rw [List.length_drop, HL.out]; have := HPQ.out; omega) (fun x hx => HG.out x (List.mem_of_mem_drop hx))).mono ?_
            rintro e w9 ⟨rfl, hE⟩
            rw [kindR_eq (by rw [List.length_drop, HL.out]; have := HPQ.out; omega) (fun x hx => HG.out x (List.mem_of_mem_drop hx)), HK2.out]
            have K9 := Lib.hid (K8b.out.ext hE)
            clear hE K8b C8b
            obtain ⟨x0, x1, x2, x3, x4, x5, xl⟩ := K9.out.cells
            go_wp2_with fail
            clear x0 x1 x2 x3 x4 x5 xl
            have HLD := Lib.hid (layD_len (oneF g) n4)
            refine (twin_any (oneN n4 g) _ _ _ K9.out.d (Sl.nil _) (by show (layD (oneF g) n4).length ≤ 1000; rw [HLD.out]; have := HN.out; omega) (Nat.zero_le _)).mono ?_
            rintro e wt ⟨⟨v, rfl, dv, wv, rfl, o1, o2⟩, hE⟩
            have hsl : SlD wt dv (layD (oneF g) n4) := o1.sl (fun _ => rfl)
            obtain ⟨m, hm⟩ : ∃ m, n4 = m + 1 := ⟨n4 - 1, by have := HN.out; omega⟩
            unfold Own at o1
            rw [show (oneN n4 g).draws.length = m + 1 from HLD.out.trans hm] at o1
            obtain ⟨gb, cap, rfl, hgb, row, hrow⟩ := own_succ2 o1
            rw [← hm] at hsl ⊢
            have f0 : ∀ j, wt.frozen? ⟨gb, j, none⟩ = false := fun j => by simp [World.frozen?, hrow]
            have hgl : gb < wt.heap.size := (Array.getElem?_eq_some_iff.1 hrow).1
            have hswv : SlW wt wv [] := o2.sl (fun _ => rfl)
            obtain ⟨A2, n2, cp2, rfl, hn2, -, hcw2⟩ := hswv.form
            obtain rfl : n2 = 0 := hn2.out
            have HWV2 : ∀ W, SlW W (.slice A2 0 cp2) [] := fun W => ⟨A2, cp2, rfl, Nat.zero_le _, hcw2, fun h => absurd h (by simp)⟩
            have hEA := Ext.al wt (.cells #[.int .i64 1, .int .i64 (n4 : Int), .int .i64 1, .int .i64 1, .slice (some ⟨gb, 0, none⟩) n4 cap, .slice A2 0 cp2] 27)
            have T0 := Lib.hid (show CT w9 wt.heap.size (.int .i64 1) (.int .i64 (n4 : Int)) (.int .i64 1) (.int .i64 1) (.slice A2 0 cp2) n4 gb cap (layD (turnF g 0) n4) (wt.alloc (.cells #[.int .i64 1, .int .i64 (n4 : Int), .int .i64 1, .int .i64 1, .slice (some ⟨gb, 0, none⟩) n4 cap, .slice A2 0 cp2] 27)) from
              ⟨hE.trans hEA, Blk.new _ _ _, hE.size, hgb, by omega, fun j => (hEA.cells.2 gb j hgl).trans (f0 j), by rw [turn_zero]; exact hsl.ext hEA⟩)
            have HET := Lib.hid hE
            clear o1 o2 hsl hm hgb hrow f0 hgl hswv hn2 hE hEA hcw2
            dsimp only [valB, oneN]
            go_wp2
            go_loopg [190] n4 (fun gg s190 wr => ∃ kk : Nat, kk ≤ n4 ∧ n4 - kk ≤ gg ∧ s190 = .int .i64 (kk : Int) ∧ Aside (CT w9 wt.heap.size (.int .i64 1) (.int .i64 (n4 : Int)) (.int .i64 1) (.int .i64 1) (.slice A2 0 cp2) n4 gb cap (layD (turnF g kk) n4) wr))
            case atStart => exact ⟨0, by omega, by omega, rfl, T0.out⟩
            case round =>
              obtain ⟨kk, hkk, hg, rfl, CR⟩ := hrel
              by_cases hlt : kk < n4
              · have hltz : (kk : Int) < (n4 : Int) := by omega
                have hk0 : (0 : Int) ≤ (kk : Int) := by omega
                obtain ⟨j, hj⟩ : ∃ j : Nat, j = n4 - 1 - kk := ⟨_, rfl⟩
                have hjn : j < g.length := by rw [HGL.out]; omega
                obtain ⟨y, hy⟩ : ∃ y, g[j]? = some y := ⟨_, List.getElem?_eq_getElem hjn⟩
                have HR := Lib.hid (show oneF g.reverse kk = ⟨y, y⟩ from rev_at (by rw [HGL.out]; exact hlt) (by rw [HGL.out, ← hj]; exact hy))
                have hj0 : (0 : Int) ≤ (j : Int) := by omega
                have hj1 : (j : Int) < (n4 : Int) := by omega
                have h55 := HN.out.2
                have hw1 : IntKind.i64.wrap ((n4 : Int) - 1) = (n4 : Int) - 1 := wrap_small _ (by omega) (by omega)
                have hw2 : IntKind.i64.wrap ((n4 : Int) - 1 - (kk : Int)) = (j : Int) := by rw [wrap_small _ (by omega) (by omega)]; omega
                have HP := Lib.hid (And.intro hlt (HN.out.1))
                have m4 := fun V (h : CT w9 wt.heap.size (.int .i64 1) (.int .i64 (n4 : Int)) (.int .i64 1) (.int .i64 1) (.slice A2 0 cp2) n4 gb cap (layD (turnF g kk) n4) V) => h.cells.2.2.2.2.1
                have m5 := fun V (h : CT w9 wt.heap.size (.int .i64 1) (.int .i64 (n4 : Int)) (.int .i64 1) (.int .i64 1) (.slice A2 0 cp2) n4 gb cap (layD (turnF g kk) n4) V) => sl_cell (K9.out.l.ext h.ex) hy
                clear hj hjn hy h55
                go_wp2
                refine wp_region_tame_cut (fun V => CT w9 wt.heap.size (.int .i64 1) (.int .i64 (n4 : Int)) (.int .i64 1) (.int .i64 1) (.slice A2 0 cp2) n4 gb cap (layD (turnF g kk) n4) V) (fun V V' => Ext V V') (by kernel_rfl) 231 rfl _ rfl (by decide +kernel) (by decide +kernel) (by decide +kernel) rfl (CR.out.ext HP.out.2 (Ext.refl _).drew) ?_
                simp only [List.dropLast]
                repeat (apply tame_q rfl; (intro ρ W hC hr hD; (obtain ⟨hrc, hrg, hrf, hrs⟩ := hr); (simp [go_sem] at hD); go_simp; first | exact ⟨⟨hC, Ext.refl _⟩, rfl⟩ | exact ⟨⟨hC, RS.refl _⟩, rfl⟩ | exact rfl); simp only [List.nil_append, List.cons_append])
                apply tame_q rfl
                · intro ρ V hC hr hD
                  obtain ⟨hrc, hrg, hrf, hrs⟩ := hr
                  simp [go_sem] at hD
                  go_simp
                  refine (span_any y y _).mono ?_
                  rintro e w' ⟨rfl, hE⟩
                  exact ⟨_, rfl, ⟨hC.ext HP.out.2 hE, hE⟩, rfl⟩
                simp only [List.nil_append, List.cons_append]
                repeat (apply tame_q rfl; (intro ρ W hC hr hD; (obtain ⟨hrc, hrg, hrf, hrs⟩ := hr); (simp [go_sem] at hD); go_simp; first | exact ⟨⟨hC, Ext.refl _⟩, rfl⟩ | exact ⟨⟨hC, RS.refl _⟩, rfl⟩ | exact rfl); simp only [List.nil_append, List.cons_append])
                refine tame_end_put rfl rfl (fun ρ V hC hr hF => ?_)
                simp [go_sem] at hF
                simp only [putF, hF, List.set_cons_succ, List.set_cons_zero]
                have CV := Lib.hid hC
                clear hF hr m4 m5 hC
                obtain ⟨u2, u3, y2, y3, z2, z3, zl⟩ := CV.out.at_ HP.out.1
                dsimp only [valS]
                go_wp2
                go_roundg (n4 - (kk + 1))
                case measure => omega
                case rel => exact ⟨kk + 1, by omega, by omega, by simp, (by
                  have h := CV.out.put (s := ⟨y, y⟩) HP.out.1 (layD_at HP.out.1)
                  rw [← HR.out, turn_succ g HP.out.1] at h
                  rw [HR.out] at h
                  exact h)⟩
              · obtain rfl : kk = n4 := by omega
                have HD2 := Lib.hid (show SlD wr (.slice (some ⟨gb, 0, none⟩) kk cap) (layD (oneF g.reverse) kk) by
                  have h := CR.out.d
                  have e := turn_full g
                  rw [HGL.out] at e
                  rw [e] at h
                  exact h)
                obtain ⟨x0, x1, x2, x3, x4, x5, xl⟩ := CR.out.cells
                go_wp2_with fail
                clear x0 x1 x2 x3 x4 x5 xl
                refine (kindC_any (oneN kk g.reverse) _ _ _ _ (K9.out.t.ext CR.out.ex) HD2.out (show SlW wr (.slice A2 0 cp2) [] from HWV2 _)).mono ?_
                rintro e w12 ⟨rfl, hE⟩
                obtain ⟨k1, k2, k3⟩ := one_kindB (g := g.reverse) (by rw [List.length_reverse]; exact H0.out.1) (by rw [List.length_reverse]; exact H0.out.2) (fun x hx => HG.out x (List.mem_reverse.1 hx)) (k := kindL g) (kindL_bd g).1 (kindL_bd g).2
                rw [oneN_eq (show g.reverse.length = kk by rw [List.length_reverse]; exact HGL.out), HOWN.out, k1, k2, k3, kindL_rev, if_pos rfl]
                go_wp2
                go_ret
                exact ⟨rfl, (K9.out.ex.trans CR.out.ex).trans hE⟩
      -- END mid
end Go.Proofs.YtdlipbobfgdleaaDoor
