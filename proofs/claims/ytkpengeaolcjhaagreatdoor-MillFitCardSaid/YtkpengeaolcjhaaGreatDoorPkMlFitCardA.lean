/- What MillFit says: plain; a bale that is laid into a row of cottons. -/
import Derived.Test.YtkpengeaolcjhaaGreatDoorPkMlBestCardX
import Derived.Test.YtkpengeaolcjhaaGreatDoorPkMlBestCardP
import Derived.Test.YtkpengeaolcjhaaGreatDoorPkMlBestCardY
import Derived.Test.YtkpengeaolcjhaaGreatDoorPkMlSwapCardA
namespace Go.Proofs.YtkpengeaolcjhaaGreatDoor
open Go.RowKit Go.Shelf Go.Lib
set_option maxRecDepth 100000
set_option linter.unusedSimpArgs false

/-- The bale, opened anew, shows two grades. -/
def oddC (x : Cot) : Cot := ⟨baleX x.b.id 2 8, x.len, x.str⟩
theorem odd_fit (x : Cot) : fitB (oddC x) = false := by
  have h : decide (kindK (kindS (baleX x.b.id 2 8)) 1 = 2) = false := by kernel_rfl
  unfold fitB oddC
  simp only
  unfold kindB
  by_cases ha : askE (baleX x.b.id 2 8) (inB 1 4 1) 32 = 0
  · rw [if_pos ha, h]; simp
  · rw [decide_eq_false ha]; rfl
theorem odd_valid {x : Cot} (h : valid x.b = true) : valid (oddC x).b = true := by
  obtain ⟨h1, h2⟩ := valid_id h
  unfold valid chk1
  have e1 : inB 1 9999 (oddC x).b.id = true := inB_iff.2 ⟨h1, h2⟩
  rw [e1]
  show (((true && inB 1 5 2) && rightB 400 500 1 600) && _) = true
  kernel_rfl
def oddM (m : Mll) (i : Nat) (x : Cot) : Mll := ⟨m.lots, m.size, m.cots.set i (oddC x)⟩
theorem oddM_ids {m : Mll} {i : Nat} {x : Cot} (hx : m.cots[i]? = some x) : idsL (oddM m i x) = idsL m := by
  unfold idsL oddM
  simp only
  rw [List.map_set]
  refine List.ext_getElem? fun j => ?_
  rw [List.getElem?_set]
  split
  · rename_i hij
    subst hij
    rw [if_pos (by simp; exact (List.getElem?_eq_some_iff.1 hx).1), List.getElem?_map, hx]
    rfl
  · rfl
theorem oddM_fit (m : Mll) (i : Nat) (x : Cot) : fitL (oddM m i x) = (fitL m).set i false := by
  unfold fitL oddM
  simp only
  rw [List.map_set, odd_fit]
theorem oddM_check {m : Mll} {i : Nat} {x : Cot} (hc : checkM m = true) (hx : m.cots[i]? = some x) : checkM (oddM m i x) = true := by
  have hv := (mok_of hc).v x (List.mem_of_getElem? hx)
  have hmem : ∀ y ∈ (oddM m i x).cots, y ∈ m.cots ∨ y = oddC x := fun y hy => by
    rcases List.mem_or_eq_of_mem_set hy with h | h
    · exact .inl h
    · exact .inr h
  have hxm := List.mem_of_getElem? hx
  unfold checkM at hc ⊢
  simp only [Bool.and_eq_true] at hc ⊢
  obtain ⟨⟨⟨h0, h1⟩, h2⟩, h3⟩ := hc
  refine ⟨⟨⟨?_, ?_⟩, ?_⟩, ?_⟩
  · unfold ck0 at h0 ⊢
    simpa [oddM] using h0
  · unfold ck1 at h1 ⊢
    simp only [Bool.not_eq_true', List.any_eq_false, Bool.not_eq_true, Bool.not_eq_false'] at h1 ⊢
    intro y hy
    rcases hmem y hy with h | rfl
    · exact h1 y h
    · rw [odd_valid hv]; simp
  · unfold ck2 at h2 ⊢
    rw [oddM_ids hx]
    exact h2
  · unfold ck3 at h3 ⊢
    simp only [Bool.not_eq_true', List.any_eq_false, Bool.not_eq_true] at h3 ⊢
    intro y hy
    rcases hmem y hy with h | rfl
    · exact h3 y h
    · exact h3 x hxm
theorem odd_plan {m : Mll} {i : Nat} {x : Cot} {p : List Int} {a : Int} (hx : m.cots[i]? = some x) (hok : okPlan m p = true) (ha : p[i]? = some a) : okPlan (oddM m i x) p = decide (a = 0) := by
  have hi := (List.getElem?_eq_some_iff.1 hx).1
  have h := hok
  unfold okPlan at h
  simp only [Bool.and_eq_true, decide_eq_true_eq] at h
  obtain ⟨h1, h2, h3, h4⟩ := h
  have ha0 : 0 ≤ a := (inB_iff.1 (List.all_eq_true.1 h2 a (List.mem_of_getElem? ha))).1
  have hfi : ((fitL m).set i false)[i]? = some false := by
    rw [List.getElem?_set, if_pos rfl, if_pos (by simp [fitL]; exact hi)]
  by_cases hz : a = 0
  · rw [decide_eq_true hz]
    refine okPlan_yes (by simpa [oddM] using h1) h2 ?_ h4
    rw [oddM_fit]
    refine fitOk_yes fun k c b hc hb h0 => ?_
    by_cases hik : i = k
    · subst hik
      rw [ha] at hc
      injection hc with hc
      omega
    · rw [List.getElem?_set_ne hik] at hb
      exact fitOk_at h3 hc hb h0
  · rw [decide_eq_false hz]
    refine okPlan_fit ?_
    rw [oddM_fit]
    exact fitOk_no ha hfi (by omega) rfl
/-! The row. -/
theorem flat_set6 {a0 a1 a2 a3 a4 a5 : Value} {x y : Rc} (hy : encC y = [a0, a1, a2, a3, a4, a5, .int .i64 x.c.len, .int .i64 x.c.str]) : ∀ (l : List Rc) (i : Nat), l[i]? = some x →
    ((((((l.flatMap encC).set (i * 8) a0).set (i * 8 + 1) a1).set (i * 8 + 2) a2).set (i * 8 + 3) a3).set (i * 8 + 4) a4).set (i * 8 + 5) a5 = (l.set i y).flatMap encC
  | [], i, h => by simp at h
  | z :: l, 0, h => by
    simp at h
    subst h
    rw [List.set_cons_zero, List.flatMap_cons, List.flatMap_cons, hy]
    rfl
  | z :: l, i + 1, h => by
    have ih := flat_set6 hy l i (by simpa using h)
    rw [List.set_cons_succ, List.flatMap_cons, List.flatMap_cons, ← ih]
    have e : ∀ j, (i + 1) * 8 + j = (encC z).length + (i * 8 + j) := fun j => by rw [encC_len]; omega
    have e0 : (i + 1) * 8 = (encC z).length + i * 8 := by rw [encC_len]; omega
    rw [e 1, e 2, e 3, e 4, e 5, e0]
    simp only [List.set_append_right _ _ (Nat.le_add_right _ _), Nat.add_sub_cancel_left]
theorem own_put6 {w : World} {base g n cap i : Nat} {m : List Rc} {a0 a1 a2 a3 a4 a5 : Value} {x y : Rc} (h : Own encC 63 8 w base (.slice (some ⟨g, 0, none⟩) n cap) m) (hn : n = m.length) (hx : m[i]? = some x) (hy : encC y = [a0, a1, a2, a3, a4, a5, .int .i64 x.c.len, .int .i64 x.c.str]) :
    Own encC 63 8 ((((((w.setCell ⟨g, i * 8, none⟩ a0).setCell ⟨g, i * 8 + 1, none⟩ a1).setCell ⟨g, i * 8 + 2, none⟩ a2).setCell ⟨g, i * 8 + 3, none⟩ a3).setCell ⟨g, i * 8 + 4, none⟩ a4).setCell ⟨g, i * 8 + 5, none⟩ a5) base (.slice (some ⟨g, 0, none⟩) n cap) (m.set i y) := by
  unfold Own at *
  rw [List.length_set, ← hn, ← flat_set6 hy m i hx]
  rw [← hn] at h
  exact own_cellset (own_cellset (own_cellset (own_cellset (own_cellset (own_cellset h)))))
end Go.Proofs.YtkpengeaolcjhaaGreatDoor
/- The law MillFit: the walk. -/
namespace Go.Proofs.YtkpengeaolcjhaaGreatDoor
open Go.RowKit Go.Shelf Go.Lib
set_option maxRecDepth 100000
set_option linter.unusedSimpArgs false

theorem fitR_at {m : Mll} (h : checkM m = true) : fitR m = fitIds m.cots := fitR_yes h
theorem odd_notin {m : Mll} {i : Nat} {x : Cot} (hc : checkM m = true) (hx : m.cots[i]? = some x) : x.b.id ∉ fitR (oddM m i x) := by
  rw [fitR_yes (oddM_check hc hx)]
  unfold fitIds
  intro h
  obtain ⟨y, hy, he⟩ := List.mem_map.1 h
  obtain ⟨h1, h2⟩ := List.mem_filter.1 hy
  obtain ⟨j, hj⟩ := List.mem_iff_getElem?.1 h1
  unfold oddM at hj
  simp only at hj
  by_cases hij : i = j
  · subst hij
    rw [List.getElem?_set, if_pos rfl] at hj
    split at hj
    · injection hj with hj
      rw [← hj, odd_fit] at h2
      cases h2
    · cases hj
  · rw [List.getElem?_set_ne hij] at hj
    have hp := cots_pw hc
    rcases Nat.lt_or_gt_of_ne hij with hlt | hlt
    · have := pw_at hp hlt hx hj; omega
    · have := pw_at hp hlt hj hx; omega
set_option maxHeartbeats 16000000 in
theorem millFit_of (hA : AliveM) (lots size : Int) (by' : List Int) (x2 : Int) (l : List Rc) (sv bv : Value) (w : World) (hT : TabM w) (hs : MlC w sv l) (hbs : Sl encU8 1 w bv by') (hbb : ∀ x ∈ by', 0 ≤ x ∧ x ≤ 255) (hx2 : 0 ≤ x2 ∧ x2 ≤ 255) :
    Calls Tryz.prog 8 #[valM lots size sv, bv, .int .u8 x2] w fun e w' => e = .returned (.bool true) ∧ Ext w w' := by
  have HBS := Lib.hid hbs; have HBB := Lib.hid hbb
  obtain ⟨hx20, hx25⟩ := hx2
  clear hbs hbb
  have HS := Lib.hid hs; have HT := Lib.hid hT
  obtain ⟨A, n, c, rfl, hn, hlc, hcm⟩ := hs.1.form
  have HL := Lib.hid (show l.length = n from hn.out.symm)
  clear hs hT hn
  go_enter Tryz.func8, Tryz.ntmps8
  go_wp2_with fail
  have E0 := Lib.hid (Ext.al w (.cells #[.int .i64 lots, .int .i64 size, .slice A n c] 24))
  have B0 := Lib.hid (Blk.new w 24 #[.int .i64 lots, .int .i64 size, .slice A n c])
  refine (hA _ (HT.out.ext E0.out)).mono ?_
  rintro e w1 ⟨rfl, hE⟩
  have E1 := Lib.hid (E0.out.trans hE)
  have B1 := Lib.hid (B0.out.ext hE)
  clear hE E0 B0 hA
  obtain ⟨b0, b1, b2, bf, bl⟩ := B1.out.c3
  go_wp2_with fail
  refine (readyM_any lots size l _ _ (HS.out.ext E1.out)).mono ?_
  rintro e w2 ⟨rfl, hE⟩
  have E2 := Lib.hid (E1.out.trans hE)
  have B2 := Lib.hid (B1.out.ext hE)
  clear hE E1 B1 b0 b1 b2 bf bl
  obtain ⟨rd, hrd⟩ : ∃ rd, (!greatM l && checkM (mOf lots size l)) = rd := ⟨_, rfl⟩
  rw [hrd]
  obtain ⟨b0, b1, b2, bf, bl⟩ := B2.out.c3
  cases rd with
  | false =>
    clear hrd
    go_wp2
    go_ret
    exact ⟨rfl, E2.out⟩
  | true =>
  rw [Bool.and_eq_true] at hrd
  have HG := Lib.hid (show greatM l = false by have h := hrd.1; revert h; cases greatM l <;> simp)
  have HC := Lib.hid hrd.2
  have HMO := Lib.hid (mok_of hrd.2)
  have HN7 := Lib.hid (show n ≤ 7 by have h := HMO.out.n7; simp at h; have := HL.out; omega)
  have HLN := Lib.hid (show l.length ≤ 900 by have := HN7.out; have := HL.out; omega)
  clear hrd
  by_cases hn0 : n = 0
  · subst hn0
    go_wp2
    go_ret
    exact ⟨rfl, E2.out⟩
  have hn0b : ((n : Int) == 0) = false := by simp; omega
  have hnp : 0 < n := by omega
  have hn7 : n ≤ 7 := HN7.out
  have hnn : (n : Int) ≠ 0 := by omega
  have hnn2 : ¬ n = 0 := by omega
  clear b0 b1 b2 bf bl
  obtain ⟨b0, b1, b2, bf, bl⟩ := B2.out.c3
  go_wp2_with fail
  refine (fitted_any lots size l _ _ (HT.out.ext E2.out) (HS.out.ext E2.out) HC.out).mono ?_
  rintro e w3 ⟨⟨fv, rfl, hfv⟩, hE⟩
  have E3 := Lib.hid (E2.out.trans hE)
  have B3 := Lib.hid (B2.out.ext hE)
  have F3 := Lib.hid hfv
  clear hE hfv E2 B2 b0 b1 b2 bf bl
  obtain ⟨b0, b1, b2, bf, bl⟩ := B3.out.c3
  go_wp2_with fail
  refine (fitM_any lots size l _ _ (HT.out.ext E3.out) (HS.out.ext E3.out) (by have := HLN.out; omega)).mono ?_
  rintro e w4 ⟨⟨lv, rfl, hlv⟩, hE⟩
  rw [HC.out]
  simp only [errB]
  have E4 := Lib.hid (E3.out.trans hE)
  have B4 := Lib.hid (B3.out.ext hE)
  have F4 := Lib.hid (F3.out.ext hE)
  have L4 := Lib.hid hlv
  clear hE hlv E3 B3 F3 b0 b1 b2 bf bl
  obtain ⟨Af, nf, cf, rfl, hnf, hlf, hcf⟩ := (show SlBo w4 fv (fitL (mOf lots size l)) from F4.out.sl (fun _ => rfl)).form
  have hnfn : nf = n := by have h1 := hnf.out; simp [fitL] at h1; have := HL.out; omega
  subst hnfn
  clear hnf
  obtain ⟨b0, b1, b2, bf, bl⟩ := B4.out.c3
  go_wp2
  clear b0 b1 b2 bf bl
  go_loopg [12, 62] nf (fun gg s12 s62 wr => ∃ kk : Nat, kk ≤ nf ∧ nf - kk ≤ gg ∧ s62 = .int .i64 (kk : Int) ∧ Aside (Own encI 3 1 wr w4.heap.size s12 (fitIds ((l.take kk).map (·.c)))) ∧ Aside (Ext w4 wr))
  case atStart => exact ⟨0, by omega, by omega, by simp, Own.nil _ _, Ext.refl _⟩
  case round =>
    obtain ⟨kk, hkk, hgg, rfl, OW, HW⟩ := hrel
    by_cases hlt : kk < nf
    · have hltz : (kk : Int) < (nf : Int) := by omega
      have hkz : (0 : Int) ≤ (kk : Int) := by omega
      obtain ⟨bi, offi, x, rfl, hx, hb, hcell⟩ := HS.out.1.at_ hlt
      obtain ⟨bq, offq, bo, rfl, hbo, -, hcb⟩ := (show SlBo w4 _ (fitL (mOf lots size l)) from F4.out.sl (fun _ => rfl)).at_ hlt
      obtain ⟨c0, c1, c2, c3, c4, c5, c6, c7⟩ := SlC.cells hcell (E4.out.trans HW.out)
      have HFX := Lib.hid (show fitB x.c = bo by simp [fitL, (show l[kk]? = some x from hx)] at hbo; exact hbo)
      have d0 := SlBo.cell hcb (HW.out.trans (Ext.al wr (.cells #[.int .i64 x.c.b.id, .int .i64 x.c.b.layers, .int .i64 x.c.b.dry.lo, .int .i64 x.c.b.dry.hi, .slice x.da x.dn x.dc, .slice x.wa x.wn x.wc, .int .i64 x.c.len, .int .i64 x.c.str] 63)))
      have HTK := Lib.hid (show fitIds ((l.take (kk + 1)).map (·.c)) = fitIds ((l.take kk).map (·.c)) ++ (if fitB x.c then [x.c.b.id] else []) by rw [List.take_add_one, hx, List.map_append]; exact idsL_cons _ _)
      have HLB := Lib.hid (show (fitIds ((l.take kk).map (·.c))).length < 100000000000 by
        have h1 : (fitIds ((l.take kk).map (·.c))).length ≤ ((l.take kk).map (·.c)).length := by unfold fitIds; rw [List.length_map]; exact List.length_filter_le _ _
        rw [List.length_map, List.length_take] at h1; omega)
      generalize fitIds ((l.take kk).map (·.c)) = L0 at *
      clear hcell hx hbo hcb
      cases bo with
      | false =>
        have HT2 := Lib.hid (show fitIds ((l.take (kk + 1)).map (·.c)) = L0 by rw [HTK.out, HFX.out]; simp)
        go_wp2
        go_roundg (nf - (kk + 1))
        case measure => omega
        case rel => exact ⟨kk + 1, by omega, by omega, by simp, by rw [HT2.out]; exact OW.out.ext (Ext.al _ _), HW.out.alloc _⟩
      | true =>
        have HT2 := Lib.hid (show fitIds ((l.take (kk + 1)).map (·.c)) = L0 ++ [x.c.b.id] by rw [HTK.out, HFX.out]; simp)
        go_wp2_with (at_builtin; refine wpList_app encI 36 3 1 _ 8 Tryz.underlying36 info3x rfl (by decide) (by decide) (fun _ => rfl) encI_one rfl (.tmp 71) (.tmp 75) rfl w4.heap.size _ L0 rfl ((OW.out.ext (Ext.al _ _)).alloc _) (wr.heap.size + 1) 1 x.c.b.id rfl (cells1 (by simp [go_sem])) HLB.out (by have := HW.out.size; simp; omega) ?_)
        intro g cap w' hown hg2 hbel _
        rw [← HT2.out] at hown
        have HO := Lib.hid hown
        have HBE := Lib.hid (show Ext w4 w' from Below.trans ((HW.out.alloc _).alloc _) hbel)
        clear hown hbel
        go_wp2
        go_roundg (nf - (kk + 1))
        case measure => omega
        case rel => exact ⟨kk + 1, by omega, by omega, by simp, HO.out, HBE.out⟩
    · have HE := Lib.hid (show kk = nf by omega)
      have HOI := Lib.hid (show SlI wr _ (fitR (mOf lots size l)) by
        have h := OW.out.sl (enc := encI) (fun _ => rfl)
        rw [List.take_of_length_le (by have := HE.out; have := HL.out; omega)] at h
        rw [fitR_yes HC.out]
        exact h)
      have E5 := Lib.hid (E4.out.trans HW.out)
      have B5 := Lib.hid (B4.out.ext HW.out)
      have F5 := Lib.hid (F4.out.ext HW.out)
      have L5 := Lib.hid (L4.out.ext HW.out)
      clear HE OW E4 B4 F4 L4 HW
      go_wp2_with fail
      refine (sameIntsM_any (fitR (mOf lots size l)) _ _ _ L5.out HOI.out).mono ?_
      rintro e w6 ⟨rfl, hE⟩
      have E6 := Lib.hid (E5.out.trans hE)
      have B6 := Lib.hid (B5.out.ext hE)
      have F6 := Lib.hid (F5.out.ext hE)
      clear hE E5 B5 F5 L5 HOI
      obtain ⟨iI, hiI, htI⟩ := mod_at (x := x2) hx20 hnp
      have hx2w : IntKind.i64.wrap x2 = x2 := by rw [IntKind.wrap_i64]; omega
      have hiz : (iI : Int) < (nf : Int) := by omega
      have hi0 : (0 : Int) ≤ (iI : Int) := by omega
      obtain ⟨b0, b1, b2, bf, bl⟩ := B6.out.c3
      go_wp2_with fail
      refine (twinM_any lots size l _ _ (HS.out.ext E6.out) HG.out).mono ?_
      rintro e w7 ⟨⟨tv, L, rfl, htw⟩, hE⟩
      have E7 := Lib.hid (E6.out.trans hE)
      have B7 := Lib.hid (B6.out.ext hE)
      have F7 := Lib.hid (F6.out.ext hE)
      have HLL := Lib.hid (show L.length = nf by have := congrArg List.length htw.map; simp at this; have := HL.out; omega)
      have TW := Lib.hid htw
      have HBW6 := Lib.hid (show w.heap.size < w6.heap.size from B6.out.lt)
      clear hE htw E6 B6 F6 b0 b1 b2 bf bl
      obtain ⟨xi, hxi⟩ : ∃ xi, l[iI]? = some xi := ⟨_, List.getElem?_eq_getElem (by have := HL.out; omega)⟩
      obtain ⟨ri, hri⟩ : ∃ ri, L[iI]? = some ri := ⟨_, List.getElem?_eq_getElem (by have := HLL.out; omega)⟩
      have HXI := Lib.hid (show (mOf lots size l).cots[iI]? = some xi.c by simp [hxi])
      have HRI := Lib.hid hri
      have HRC := Lib.hid (show ri.c = xi.c by
        have h := congrArg (fun z => z[iI]?) TW.out.map
        simp only [List.getElem?_map, hri, hxi, Option.map_some] at h
        injection h)
      obtain ⟨b3, off3, xi', e3, hxi', -, hcx⟩ := HS.out.1.at_ hiI
      obtain rfl : xi' = xi := by rw [hxi] at hxi'; injection hxi' with h; exact h.symm
      cases e3
      obtain ⟨At, nt, ct, rfl, -, -, -⟩ := TW.out.mlc.1.form
      obtain ⟨g, cur, rfl, hg6, hBg, hnt, hlct, hctm, hcs, htk⟩ := rowC_of TW.out.own (by have := HLL.out; omega)
      obtain rfl : nt = nf := by have := HLL.out; omega
      clear hxi hri hxi' hBg hnt hcs htk
      obtain ⟨idv, hid⟩ : ∃ idv, xi'.c.b.id = idv := ⟨_, rfl⟩
      go_upto_region 19 with (fail)
      obtain ⟨w8, hw8⟩ : ∃ w8, w8 = w7.alloc (.cells #[.int .i64 lots, .int .i64 size, .slice (some ⟨g, 0, none⟩) nt ct] 24) := ⟨_, rfl⟩
      rw [← hw8]
      have E8 := Lib.hid (show Ext w w8 from hw8 ▸ E7.out.alloc _)
      have B8 := Lib.hid (show Blk w8 w.heap.size 24 #[.int .i64 lots, .int .i64 size, .slice (some ⟨b3, off3, none⟩) nt c] from hw8 ▸ B7.out.alloc _)
      have X8 := Lib.hid (show Blk w8 w7.heap.size 24 #[.int .i64 lots, .int .i64 size, .slice (some ⟨g, 0, none⟩) nt ct] from hw8 ▸ Blk.new _ _ _)
      have F8 := Lib.hid (F7.out.ext (show Ext w7 w8 from hw8 ▸ Ext.al _ _))
      have T8 := Lib.hid (show TwinL w6.heap.size (l.map (·.c)) (.slice (some ⟨g, 0, none⟩) nt ct) L w8 from hw8 ▸ TW.out.ext (Ext.al _ _))
      have HG7 := Lib.hid (show g < w7.heap.size from (own_atC TW.out.own HRI.out).2.2.2.2.2.2.2.2)
      have HG6 := Lib.hid (show w.heap.size < g by have := E7.out.size; have := B7.out.lt; have h := hg6; have := HBW6.out; omega)
      clear hw8 E7 B7 F7 TW
      have m0 := fun V (h : Ext w8 V) => (B8.out.ext h).c3.2.2.1
      have m1 := fun V (h : Ext w8 V) => (X8.out.ext h).c3.2.2.1
      have k0 := fun V (h : Ext w8 V) => (show V.cell? ⟨b3, off3 + iI * 8, none⟩ = some (.int .i64 idv) from hid ▸ (SlC.cells hcx (E8.out.trans h)).1)
      refine wp_region_tame_cut (fun V => Ext w8 V) (fun V V' => Ext V V') (by kernel_rfl) 175 rfl _ rfl (by decide +kernel) (by decide +kernel) (by decide +kernel) rfl (Ext.refl _).drew ?_
      simp only [List.dropLast]
      repeat (apply tame_q rfl; (intro ρ W hC hr hD; (obtain ⟨hrc, hrg, hrf, hrs⟩ := hr); (simp [go_sem] at hD); go_simp; first | exact ⟨⟨hC, Ext.refl _⟩, rfl⟩ | exact ⟨⟨hC, RS.refl _⟩, rfl⟩ | exact rfl); simp only [List.nil_append, List.cons_append])
      apply tame_v rfl (TwinV (baleX idv 2 8) w8.heap.size) (fun v V V' _ hE h => h.ext hE)
      · intro ρ V hC hr hD
        obtain ⟨hrc, hrg, hrf, hrs⟩ := hr
        simp [go_sem] at hD
        have HCV := Lib.hid hC
        go_simp
        refine (baleX_any idv 2 8 V).mono ?_
        rintro e w' ⟨⟨v, rfl, dv, wv, h1, h2, h3⟩, hE⟩
        exact ⟨_, rfl, ⟨HCV.out.trans hE, hE⟩, ⟨dv, wv, h1, h2.mono HCV.out.size, h3.mono HCV.out.size⟩⟩
      simp only [List.nil_append, List.cons_append]
      repeat (apply tame_q rfl; (intro ρ W hC hr hD; (obtain ⟨hrc, hrg, hrf, hrs⟩ := hr); (simp [go_sem] at hD); go_simp; first | exact ⟨⟨hC, Ext.refl _⟩, rfl⟩ | exact ⟨⟨hC, RS.refl _⟩, rfl⟩ | exact rfl); simp only [List.nil_append, List.cons_append])
      refine tame_end 175 rfl rfl (fun ρ V hC hr hF => ?_)
      obtain ⟨hrc', hrg, hrf, hrs⟩ := hr
      have h100 : TwinV (baleX idv 2 8) w8.heap.size (ρ (.tmp 100)) V := by
        simp [go_sem] at hF
        exact hF.2.2.2.2.2.2.2.2.2.2.1
      obtain ⟨dv, wv, e100, hd, hw⟩ := h100
      obtain ⟨Ad, nd, cd, rfl, -, -, -⟩ := (show SlD V dv (baleX idv 2 8).draws from hd.sl (fun _ => rfl)).form
      obtain ⟨Aw, nw, cw, rfl, -, -, -⟩ := (show SlW V wv (baleX idv 2 8).weighs from hw.sl (fun _ => rfl)).form
      simp [go_sem] at hF
      apply frame_to
      · simp (maxSteps := 4000000) [go_sem, hF, hrs, e100]
        exact rfl
      have E9 := Lib.hid (E8.out.trans hC)
      have B9 := Lib.hid (B8.out.ext hC)
      have X9 := Lib.hid (X8.out.ext hC)
      have F9 := Lib.hid (F8.out.ext hC)
      have T9 := Lib.hid (T8.out.ext hC)
      have HDD := Lib.hid hd; have HWW := Lib.hid hw
      have HZ8 := Lib.hid (show w7.heap.size < w8.heap.size from X8.out.lt)
      have HZV := Lib.hid (show w8.heap.size ≤ V.heap.size from hC.size)
      clear hF hrs hrc' hrg hrf e100 hd hw m0 m1 k0 hC E8 B8 X8 F8 T8
      obtain ⟨t0, t1, t2, t3, t4, t5, t6, t7, tl⟩ := own_atC T9.out.own HRI.out
      have tf : ∀ k, V.frozen? ⟨g, k, none⟩ = false := fun k => own_frozen T9.out.own k
      go_upto_region 20 with (fail)
      obtain ⟨w9, hw9⟩ : ∃ w9, w9 = (((((V.setCell ⟨g, iI * 8, none⟩ (.int .i64 (baleX idv 2 8).id)).setCell ⟨g, iI * 8 + 1, none⟩ (.int .i64 (baleX idv 2 8).layers)).setCell ⟨g, iI * 8 + 2, none⟩ (.int .i64 (baleX idv 2 8).dry.lo)).setCell ⟨g, iI * 8 + 3, none⟩ (.int .i64 (baleX idv 2 8).dry.hi)).setCell ⟨g, iI * 8 + 4, none⟩ (.slice Ad nd cd)).setCell ⟨g, iI * 8 + 5, none⟩ (.slice Aw nw cw) := ⟨_, rfl⟩
      rw [← hw9]
      have hG9 : V.grownBy w9 (some g) := hw9 ▸ grown_set (grown_set (grown_set (grown_set (grown_set (grown_set (World.grownBy.refl _ _) (p := ⟨g, iI * 8, none⟩) (.inl rfl) _) (p := ⟨g, iI * 8 + 1, none⟩) (.inl rfl) _) (p := ⟨g, iI * 8 + 2, none⟩) (.inl rfl) _) (p := ⟨g, iI * 8 + 3, none⟩) (.inl rfl) _) (p := ⟨g, iI * 8 + 4, none⟩) (.inl rfl) _) (p := ⟨g, iI * 8 + 5, none⟩) (.inl rfl) _
      obtain ⟨r', hr'⟩ : ∃ r' : Rc, r' = ⟨⟨baleX idv 2 8, ri.c.len, ri.c.str⟩, Ad, nd, cd, Aw, nw, cw⟩ := ⟨_, rfl⟩
      have HO9 := Lib.hid (show Own encC 63 8 w9 w6.heap.size (.slice (some ⟨g, 0, none⟩) nt ct) (L.set iI r') from hw9 ▸ own_put6 T9.out.own HLL.out.symm HRI.out (by rw [hr']))
      have HRC' := Lib.hid (show r'.c = oddC xi'.c by rw [hr', HRC.out]; unfold oddC; rw [hid])
      have E10 := Lib.hid (show Ext w w9 from ext_grown E9.out hG9 (by have := HG6.out; omega))
      have B10 := Lib.hid (B9.out.grown hG9 (by intro e; injection e with e; have := HG6.out; omega))
      have X10 := Lib.hid (X9.out.grown hG9 (by intro e; injection e with e; have := HG7.out; omega))
      have HOF := Lib.hid (show OffX 63 V w9 from OffX.grown (e := 63) T9.out.own hG9)
      have F10 := Lib.hid (F9.out.offX HOF.out (by decide))
      have HML := Lib.hid (show mOf lots size (L.set iI r') = oddM (mOf lots size l) iI xi'.c by
        show (⟨lots, size, (L.set iI r').map (·.c)⟩ : Mll) = ⟨lots, size, (l.map (·.c)).set iI (oddC xi'.c)⟩
        rw [List.map_set, T9.out.map, HRC'.out])
      have HMC := Lib.hid (show MlC w9 (.slice (some ⟨g, 0, none⟩) nt ct) (L.set iI r') from ⟨HO9.out.sl (fun _ => rfl), fun r hr => by
        rcases List.mem_or_eq_of_mem_set hr with h | rfl
        · have h2 := T9.out.lists r h
          exact ⟨((h2.1.offX HOF.out (by decide)).sl (fun _ => rfl)), ((h2.2.offX HOF.out (by decide)).sl (fun _ => rfl))⟩
        · rw [hr']
          exact ⟨((HDD.out.offX HOF.out (by decide)).sl (fun _ => rfl)), ((HWW.out.offX HOF.out (by decide)).sl (fun _ => rfl))⟩⟩)
      have HLS := Lib.hid (show (L.set iI r').length ≤ 900 by rw [List.length_set]; have := HLL.out; omega)
      have HCO := Lib.hid (oddM_check HC.out HXI.out)
      have HNI := Lib.hid (odd_notin HC.out HXI.out)
      rw [hid] at HNI
      clear hw9 hG9 hr' t0 t1 t2 t3 t4 t5 t6 t7 tl tf E9 B9 X9 F9 T9 HDD HWW HO9 HOF
      obtain ⟨b0, b1, b2, bf, bl⟩ := X10.out.c3
      go_wp2_with fail
      refine (fitM_any lots size (L.set iI r') _ _ (HT.out.ext E10.out) HMC.out (by have := HLS.out; omega)).mono ?_
      rintro e w10 ⟨⟨kv, rfl, hkv⟩, hE⟩
      rw [HML.out] at hkv ⊢
      rw [HCO.out]
      simp only [errB]
      have E11 := Lib.hid (E10.out.trans hE)
      have B11 := Lib.hid (B10.out.ext hE)
      have X11 := Lib.hid (X10.out.ext hE)
      have F11 := Lib.hid (F10.out.ext hE)
      have M11 := Lib.hid (HMC.out.ext hE)
      have K11 := Lib.hid hkv
      obtain ⟨Ak, nk, ck, rfl, hnk, hlk, hck⟩ := hkv.form
      have HNK := Lib.hid (show (fitR (oddM (mOf lots size l) iI xi'.c)).length = nk from hnk.out.symm)
      have hnk7 : nk ≤ 7 := by
        have h1 : (fitR (oddM (mOf lots size l) iI xi'.c)).length ≤ (oddM (mOf lots size l) iI xi'.c).cots.length := by
          rw [fitR_yes HCO.out]
          unfold fitIds
          rw [List.length_map]
          exact List.length_filter_le _ _
        have h2 : (oddM (mOf lots size l) iI xi'.c).cots.length = l.length := by simp [oddM]
        rw [h2] at h1
        have := HNK.out; have := HL.out; omega
      clear hE hkv hnk E10 B10 X10 F10 HMC b0 b1 b2 bf bl
      go_wp2
      go_loopg [112] nk (fun gg s112 wr => ∃ k : Nat, k ≤ nk ∧ nk - k ≤ gg ∧ s112 = .int .i64 (k : Int) ∧ Aside (Ext w10 wr))
      case atStart => exact ⟨0, by omega, by omega, by simp, Ext.refl _⟩
      case round =>
        obtain ⟨k, hk, hgk, rfl, EK⟩ := hrel
        by_cases hkn : k < nk
        · have hknz : (k : Int) < (nk : Int) := by omega
          have hk0 : (0 : Int) ≤ (k : Int) := by omega
          obtain ⟨bn, offn, y, rfl, hy, -, hcy⟩ := K11.out.at_ hkn
          have hne : y ≠ idv := fun e => HNI.out (by rw [← e]; exact List.mem_of_getElem? hy)
          have hyb : (y == idv) = false := by simpa using hne
          have c0 := SlI.cell hcy EK.out
          have x0 := (B11.out.ext EK.out).c3
          have k0 := (show wr.cell? ⟨b3, off3 + iI * 8, none⟩ = some (.int .i64 idv) from hid ▸ (SlC.cells hcx (E11.out.trans EK.out)).1)
          clear hy hcy hne
          go_wp2
          go_roundg (nk - (k + 1))
          case measure => omega
          case rel => exact ⟨k + 1, by omega, by omega, by simp, EK.out⟩
        · have E12 := Lib.hid (E11.out.trans EK.out)
          have B12 := Lib.hid (B11.out.ext EK.out)
          have X12 := Lib.hid (X11.out.ext EK.out)
          have M12 := Lib.hid (M11.out.ext EK.out)
          have F12 := Lib.hid (show SlBo wr (.slice Af nt cf) (fitL (mOf lots size l)) from (F11.out.ext EK.out).sl (fun _ => rfl))
          clear E11 B11 X11 M11 K11 EK F11
          have x0 := B12.out.c3
          go_wp2_with fail
          refine (chosenM_any lots size l by' _ _ _ _ (HS.out.ext E12.out) HC.out F12.out (HBS.out.ext E12.out) HBB.out).mono ?_
          rintro e w13 ⟨hch, hE⟩
          have E13 := Lib.hid (E12.out.trans hE)
          have B13 := Lib.hid (B12.out.ext hE)
          have X13 := Lib.hid (X12.out.ext hE)
          have M13 := Lib.hid (M12.out.ext hE)
          clear hE E12 B12 X12 M12 F12 x0
          rcases hch with ⟨v, p, rfl, hsl, hok⟩ | ⟨rfl, hno⟩
          · have HOK := Lib.hid hok
            have S13 := Lib.hid hsl
            have HPL := Lib.hid (show p.length = nt by have := (plans_mem HMO.out (plan_of_ok HMO.out hok)).1; simp at this; have := HL.out; omega)
            obtain ⟨a, hpa⟩ : ∃ a, p[iI]? = some a := ⟨_, List.getElem?_eq_getElem (by have := HPL.out; omega)⟩
            have HPA := Lib.hid hpa
            have HJ := Lib.hid (judgeE_ok HC.out hok)
            have HOP := Lib.hid (odd_plan HXI.out hok hpa)
            clear hok hsl hpa
            have x0 := B13.out.c3
            go_wp2_with fail
            refine (judgeM_any lots size l p _ _ _ (HT.out.ext E13.out) (HS.out.ext E13.out) S13.out (by have := HLN.out; omega)).mono ?_
            rintro e w14 ⟨rfl, hE⟩
            rw [HJ.out]
            have E14 := Lib.hid (E13.out.trans hE)
            have X14 := Lib.hid (X13.out.ext hE)
            have M14 := Lib.hid (M13.out.ext hE)
            have S14 := Lib.hid (S13.out.ext hE)
            clear hE E13 B13 X13 M13 S13 x0
            have x0 := X14.out.c3
            go_wp2_with fail
            refine (judgeM_any lots size (L.set iI r') p _ _ _ (HT.out.ext E14.out) M14.out S14.out (by have := HLS.out; omega)).mono ?_
            rintro e w15 ⟨rfl, hE⟩
            rw [HML.out]
            have E15 := Lib.hid (E14.out.trans hE)
            have S15 := Lib.hid (S14.out.ext hE)
            clear hE E14 X14 M14 S14 x0
            obtain ⟨Ap, np, cp, rfl, hnp', -, -⟩ := S15.out.form
            obtain rfl : np = nt := by have := hnp'.out; have := HPL.out; omega
            obtain ⟨bp, offp, y, rfl, hy, -, hcy⟩ := S15.out.at_ hiI
            obtain rfl : y = a := by rw [HPA.out] at hy; injection hy with h; exact h.symm
            have c0 := SlI.cell hcy (Ext.refl _)
            clear hnp' hy hcy
            by_cases ha : y = 0
            · have HJ2 := Lib.hid (judgeE_ok (m := oddM (mOf lots size l) iI xi'.c) HCO.out (by rw [HOP.out, decide_eq_true ha]))
              rw [HJ2.out]
              subst ha
              go_wp2
              go_ret
              exact ⟨rfl, E15.out⟩
            · have hab : (y == 0) = false := by simpa using ha
              have HJ2 := Lib.hid (judgeE_bad (m := oddM (mOf lots size l) iI xi'.c) HCO.out (by rw [HOP.out, decide_eq_false ha]))
              rw [HJ2.out]
              go_wp2
              go_ret
              have hyt : (y != 0) = true := by simpa using ha
              exact ⟨congrArg (fun b => Ending.returned (Value.bool b)) hyt, E15.out⟩
          · go_wp2
            go_ret
            exact ⟨rfl, E13.out⟩
end Go.Proofs.YtkpengeaolcjhaaGreatDoor
