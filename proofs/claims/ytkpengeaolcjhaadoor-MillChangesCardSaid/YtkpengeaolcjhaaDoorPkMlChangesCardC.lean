/- mill.Want. -/
import Derived.Test.YtkpengeaolcjhaaDoorPkMlChangesCardA
import Derived.Test.YtkpengeaolcjhaaDoorPkMlChangesCardB
import Derived.Test.YtkpengeaolcjhaaDoorPkMlTellsCardT
import Derived.Test.YtkpengeaolcjhaaDoorPkMlTellsCardD
namespace Go.Proofs.YtkpengeaolcjhaaDoor
open Go.RowKit Go.Shelf Go.Lib
set_option maxRecDepth 100000
set_option linter.unusedSimpArgs false

/-- The mill at another number of lots and another size. -/
def wantM (m : Mll) (a b : Int) : Mll := ⟨a, b, m.cots⟩
def wantME (m : Mll) (a b : Int) : Int := if checkM m then (if checkM (wantM m a b) then 0 else 94) else 90
set_option maxHeartbeats 8000000 in
theorem wantM_any (lots size la sb : Int) (l : List Rc) (sv : Value) (w : World) (hT : TabM w) (hs : MlC w sv l) (hlen : l.length ≤ 1000) :
    Calls Tryd.prog 36 #[valM lots size sv, .int .i64 la, .int .i64 sb] w fun e w' => (∃ v, e = .returned (.tuple #[v, .int .i64 (wantME (mOf lots size l) la sb)]) ∧ MlRet (wantME (mOf lots size l) la sb) (wantM (mOf lots size l) la sb) w.heap.size v w') ∧ Ext w w' := by
  have HS := Lib.hid hs; have HT := Lib.hid hT; have HLN := Lib.hid hlen
  obtain ⟨A, n, c, rfl, hn, hlc, hcm⟩ := hs.1.form
  have HL := Lib.hid (show l.length = n from hn.out.symm)
  clear hs hT hn hlen
  go_enter Tryd.func36, Tryd.ntmps36
  go_wp2_with fail
  obtain ⟨w2, hw2⟩ : ∃ w2, w2 = (w.alloc (.cells #[.int .i64 lots, .int .i64 size, .slice A n c] 24)).alloc (.cells #[.int .i64 0, .int .i64 0, .slice none 0 0] 24) := ⟨_, rfl⟩
  rw [← hw2]
  have B1 := Lib.hid (show Blk w2 w.heap.size 24 #[.int .i64 lots, .int .i64 size, .slice A n c] from hw2 ▸ (Blk.new _ _ _).alloc _)
  have BR := Lib.hid (show Blk w2 (w.heap.size + 1) 24 #[.int .i64 0, .int .i64 0, .slice none 0 0] from hw2 ▸ Blk.at_ (by simp))
  have E2 := Lib.hid (show Ext w w2 from hw2 ▸ (Ext.al _ _).alloc _)
  have HZ2 := Lib.hid (show w2.heap.size = w.heap.size + 2 by rw [hw2]; simp)
  clear hw2
  refine (checkM_any lots size l _ _ (HT.out.ext E2.out) (HS.out.ext E2.out) HLN.out).mono ?_
  rintro e w3 ⟨rfl, hE⟩
  replace B1 := Lib.hid (B1.out.ext hE); replace BR := Lib.hid (BR.out.ext hE)
  have E3 := Lib.hid (E2.out.trans hE)
  have HZ3 := Lib.hid (show w.heap.size + 2 ≤ w3.heap.size by have := HZ2.out; have := hE.size; omega)
  clear hE E2 HZ2
  obtain ⟨b0, b1, b2, bf, bl⟩ := B1.out.c3
  obtain ⟨r0, r1, r2, rf, rl⟩ := BR.out.c3
  cases hc : checkM (mOf lots size l) with
  | false =>
    have HPE := Lib.hid (show wantME (mOf lots size l) la sb = 90 by unfold wantME; rw [hc]; rfl)
    simp only [errB]
    clear hc
    go_wp2
    refine ret_set3N (BR.out) fun W' ⟨z0, z1, z2⟩ hW => ?_
    refine bodyPost_ret (v := .tuple #[valM 0 0 (.slice none 0 0), .int .i64 (90)]) (by simp only [results, Tryd.results36]; simp [go_sem, z0, z1, z2]) rfl ?_
    exact ⟨⟨_, by rw [HPE.out], .inr ⟨by rw [HPE.out]; decide, rfl⟩⟩, ext_grownP (E3.out) hW (by omega)⟩
  | true =>
    have HC := Lib.hid hc
    have HM := Lib.hid (mok_of hc)
    simp only [errB]
    clear hc
    go_wp2_with fail
    refine (copiedM_any lots size l _ w3 (HS.out.ext E3.out) HLN.out (fun r hr => by
      have h := valid_bds (HM.out.v r.c (List.mem_map_of_mem hr))
      exact ⟨by have := h.nd; omega, by have := h.nw; omega⟩)).mono ?_
    rintro e w7 ⟨⟨v, L, rfl, tv⟩, hE⟩
    have TW := Lib.hid tv
    have E7 := Lib.hid (E3.out.trans hE)
    replace B1 := Lib.hid (B1.out.ext hE); replace BR := Lib.hid (BR.out.ext hE)
    have HLL := Lib.hid (show L.length ≤ 1000 by have h := congrArg List.length tv.map; simp at h; have := HL.out; have := HLN.out; omega)
    obtain ⟨A2, n2, c2, rfl, -, -, -⟩ := (show SlC w7 v L from Own.sl (enc := encC) encC_len tv.own).form
    clear tv hE b0 b1 b2 bf bl r0 r1 r2 rf rl E3
    dsimp only [valM]
    obtain ⟨b0, b1, b2, bf, bl⟩ := B1.out.c3
    go_upto_region 6 with (fail)
    obtain ⟨w8, hw8⟩ : ∃ w8, w8 = ((((w7.setCell ⟨w.heap.size, 0, none⟩ (.int .i64 lots)).setCell ⟨w.heap.size, 1, none⟩ (.int .i64 size)).setCell ⟨w.heap.size, 2, none⟩ (.slice A2 n2 c2)).setCell ⟨w.heap.size, 0, none⟩ (.int .i64 la)).setCell ⟨w.heap.size, 1, none⟩ (.int .i64 sb) := ⟨_, rfl⟩
    rw [← hw8]
    have hG8 : w7.grownBy w8 (some w.heap.size) := hw8 ▸ grown_set (grown_set (grown_set (grown_set (grown_set (World.grownBy.refl _ _) (p := ⟨w.heap.size, 0, none⟩) (.inl rfl) _) (p := ⟨w.heap.size, 1, none⟩) (.inl rfl) _) (p := ⟨w.heap.size, 2, none⟩) (.inl rfl) _) (p := ⟨w.heap.size, 0, none⟩) (.inl rfl) _) (p := ⟨w.heap.size, 1, none⟩) (.inl rfl) _
    have OF8 := Lib.hid (offX_grown B1.out hG8)
    have D1 := Lib.hid (show Blk w8 w.heap.size 24 #[.int .i64 la, .int .i64 sb, .slice A2 n2 c2] by
      rw [hw8]; have h := ((((B1.out.set_ 0 (.int .i64 lots)).set_ 1 (.int .i64 size)).set_ 2 (.slice A2 n2 c2)).set_ 0 (.int .i64 la)).set_ 1 (.int .i64 sb); simpa using h)
    have DR := Lib.hid (BR.out.grown hG8 (by intro e; injection e with e; omega))
    have E8 := Lib.hid (ext_grownP E7.out hG8 (Nat.le_refl _))
    have TW8 := Lib.hid (TW.out.offX OF8.out)
    clear hw8 hG8 OF8 b0 b1 b2 bf bl B1 BR TW E7
    obtain ⟨b0, b1, b2, bf, bl⟩ := D1.out.c3
    go_wp2_with fail
    refine (checkM_any la sb L _ _ (HT.out.ext E8.out) TW8.out.mlc HLL.out).mono ?_
    rintro e w10 ⟨rfl, hE⟩
    rw [show mOf la sb L = wantM (mOf lots size l) la sb by unfold wantM; show (⟨la, sb, L.map (·.c)⟩ : Mll) = _; rw [TW8.out.map]]
    have TWL := Lib.hid (TW8.out.ext hE)
    replace D1 := Lib.hid (D1.out.ext hE); replace DR := Lib.hid (DR.out.ext hE)
    have E10 := Lib.hid (E8.out.trans hE)
    clear hE b0 b1 b2 bf bl E8 TW8
    obtain ⟨b0, b1, b2, bf, bl⟩ := D1.out.c3
    obtain ⟨r0, r1, r2, rf, rl⟩ := DR.out.c3
    cases hc2 : checkM (wantM (mOf lots size l) la sb) with
    | false =>
      have HPE := Lib.hid (show wantME (mOf lots size l) la sb = 94 by unfold wantME; rw [HC.out, hc2]; rfl)
      simp only [errB]
      clear hc2
      go_wp2
      refine ret_set3N (DR.out) fun W' ⟨z0, z1, z2⟩ hW => ?_
      refine bodyPost_ret (v := .tuple #[valM 0 0 (.slice none 0 0), .int .i64 (94)]) (by simp only [results, Tryd.results36]; simp [go_sem, z0, z1, z2]) rfl ?_
      exact ⟨⟨_, by rw [HPE.out], .inr ⟨by rw [HPE.out]; decide, rfl⟩⟩, ext_grownP (E10.out) hW (by omega)⟩
    | true =>
      have HPE := Lib.hid (show wantME (mOf lots size l) la sb = 0 by unfold wantME; rw [HC.out, hc2]; rfl)
      simp only [errB]
      clear hc2
      go_wp2
      refine ret_set3N DR.out fun W' ⟨z0, z1, z2⟩ hW => ?_
      refine bodyPost_ret (v := .tuple #[valM la sb (.slice A2 n2 c2), .int .i64 0]) (by simp only [results, Tryd.results36]; simp [go_sem, z0, z1, z2]) rfl ?_
      exact ⟨⟨valM la sb (.slice A2 n2 c2), by rw [HPE.out], .inl ⟨HPE.out, _, _, rfl, (TWL.out.offX (offX_grown DR.out hW)).mono (by have := HZ3.out; omega)⟩⟩, ext_grownP E10.out hW (by omega)⟩
end Go.Proofs.YtkpengeaolcjhaaDoor
/- The reference's Take, Want. -/
namespace Go.Proofs.YtkpengeaolcjhaaDoor
open Go.RowKit Go.Shelf Go.Lib
set_option maxRecDepth 100000
set_option linter.unusedSimpArgs false

theorem placeM_cases {lots size id : Int} {l : List Rc} : placeM (mOf lots size l) id = -1 ∨ ∃ k : Nat, placeM (mOf lots size l) id = k ∧ k < l.length := by
  rcases idxF_cases (fun y => decide (id = y)) (l.map (·.c.b.id)) with ⟨hi, -⟩ | ⟨k, y, hi, hy, -, -⟩
  · exact .inl (by unfold placeM; rw [List.map_map]; exact hi)
  · refine .inr ⟨k, by unfold placeM; rw [List.map_map]; exact hi, ?_⟩
    have := (List.getElem?_eq_some_iff.1 hy).1
    simpa using this
set_option maxHeartbeats 8000000 in
theorem refTakeM_any (lots size id : Int) (l : List Rc) (sv : Value) (w : World) (hs : MlC w sv l) (hg : greatM l = false) (hlen : l.length ≤ 900) :
    Calls Tryd.prog 35 #[valM lots size sv, .int .i64 id] w fun e w' => (∃ v, e = .returned (.tuple #[v, .int .i64 (takeME (mOf lots size l) id)]) ∧ MlRet (takeME (mOf lots size l) id) (takeM (mOf lots size l) id) w.heap.size v w') ∧ Ext w w' := by
  have HS := Lib.hid hs; have HLN := Lib.hid hlen; have HG := Lib.hid hg
  obtain ⟨A, n, c, rfl, hn, hlc, hcm⟩ := hs.1.form
  have HL := Lib.hid (show l.length = n from hn.out.symm)
  clear hs hn hlen hg
  go_enter Tryd.func35, Tryd.ntmps35
  go_wp2_with fail
  obtain ⟨w2, hw2⟩ : ∃ w2, w2 = (w.alloc (.cells #[.int .i64 lots, .int .i64 size, .slice A n c] 24)).alloc (.cells #[.int .i64 0, .int .i64 0, .slice none 0 0] 24) := ⟨_, rfl⟩
  rw [← hw2]
  have B1 := Lib.hid (show Blk w2 w.heap.size 24 #[.int .i64 lots, .int .i64 size, .slice A n c] from hw2 ▸ (Blk.new _ _ _).alloc _)
  have BR := Lib.hid (show Blk w2 (w.heap.size + 1) 24 #[.int .i64 0, .int .i64 0, .slice none 0 0] from hw2 ▸ Blk.at_ (by simp))
  have E2 := Lib.hid (show Ext w w2 from hw2 ▸ (Ext.al _ _).alloc _)
  have HZ2 := Lib.hid (show w2.heap.size = w.heap.size + 2 by rw [hw2]; simp)
  clear hw2
  refine (refMill_any lots size l _ _ (HS.out.ext E2.out)).mono ?_
  rintro e w3 ⟨rfl, hE⟩
  rw [millR_eq]
  replace B1 := Lib.hid (B1.out.ext hE); replace BR := Lib.hid (BR.out.ext hE)
  have E3 := Lib.hid (E2.out.trans hE)
  have HZ3 := Lib.hid (show w.heap.size + 2 ≤ w3.heap.size by have := HZ2.out; have := hE.size; omega)
  clear hE E2 HZ2
  obtain ⟨b0, b1, b2, bf, bl⟩ := B1.out.c3
  obtain ⟨r0, r1, r2, rf, rl⟩ := BR.out.c3
  cases hc : checkM (mOf lots size l) with
  | false =>
    have HPE := Lib.hid (show takeME (mOf lots size l) id = 90 by unfold takeME; rw [hc]; rfl)
    clear hc
    go_wp2
    refine ret_set3N (BR.out) fun W' ⟨z0, z1, z2⟩ hW => ?_
    refine bodyPost_ret (v := .tuple #[valM 0 0 (.slice none 0 0), .int .i64 (90)]) (by simp only [results, Tryd.results35]; simp [go_sem, z0, z1, z2]) rfl ?_
    exact ⟨⟨_, by rw [HPE.out], .inr ⟨by rw [HPE.out]; decide, rfl⟩⟩, ext_grownP (E3.out) hW (by omega)⟩
  | true =>
    have HC := Lib.hid hc
    clear hc
    go_wp2_with fail
    refine (indexM_any lots size id l _ w3 (HS.out.ext E3.out) HLN.out).mono ?_
    rintro e w4 ⟨rfl, hE⟩
    replace B1 := Lib.hid (B1.out.ext hE); replace BR := Lib.hid (BR.out.ext hE)
    have E4 := Lib.hid (E3.out.trans hE)
    have HZ4 := Lib.hid (show w.heap.size + 2 ≤ w4.heap.size by have := HZ3.out; have := hE.size; omega)
    clear hE E3 b0 b1 b2 bf bl r0 r1 r2 rf rl
    obtain ⟨b0, b1, b2, bf, bl⟩ := B1.out.c3
    obtain ⟨r0, r1, r2, rf, rl⟩ := BR.out.c3
    rcases placeM_cases (lots := lots) (size := size) (id := id) (l := l) with hi | ⟨k, hi, hk⟩
    · rw [hi]
      have HPE := Lib.hid (show takeME (mOf lots size l) id = 6 by unfold takeME; rw [HC.out, hi]; rfl)
      clear hi
      go_wp2
      refine ret_set3N (BR.out) fun W' ⟨z0, z1, z2⟩ hW => ?_
      refine bodyPost_ret (v := .tuple #[valM 0 0 (.slice none 0 0), .int .i64 (6)]) (by simp only [results, Tryd.results35]; simp [go_sem, z0, z1, z2]) rfl ?_
      exact ⟨⟨_, by rw [HPE.out], .inr ⟨by rw [HPE.out]; decide, rfl⟩⟩, ext_grownP (E4.out) hW (by omega)⟩
    · rw [hi]
      have HPE := Lib.hid (show takeME (mOf lots size l) id = 0 by unfold takeME; rw [HC.out, hi, if_pos rfl, if_neg (by omega)])
      have HPK := Lib.hid (show (placeM (mOf lots size l) id).toNat = k by rw [hi]; simp)
      have hk0 : ¬ ((k : Int) < 0) := by omega
      have HK := Lib.hid hk
      clear hi hk
      go_wp2_with fail
      refine (dropM_any lots size l k _ w4 (HS.out.ext E4.out) HG.out HLN.out HK.out).mono ?_
      rintro e w5 ⟨⟨v, L, rfl, tv⟩, hE⟩
      replace BR := Lib.hid (BR.out.ext hE)
      have E5 := Lib.hid (E4.out.trans hE)
      have TW := Lib.hid tv
      obtain ⟨A2, n2, c2, rfl, -, -, -⟩ := tv.mlc.1.form
      clear tv hE b0 b1 b2 bf bl r0 r1 r2 rf rl B1
      obtain ⟨r0, r1, r2, rf, rl⟩ := BR.out.c3
      dsimp only [valM]
      go_wp2
      refine ret_set3N BR.out fun W' ⟨z0, z1, z2⟩ hW => ?_
      refine bodyPost_ret (v := .tuple #[valM lots size (.slice A2 n2 c2), .int .i64 0]) (by simp only [results, Tryd.results35]; simp [go_sem, z0, z1, z2]) rfl ?_
      exact ⟨⟨valM lots size (.slice A2 n2 c2), by rw [HPE.out], .inl ⟨HPE.out, _, L, rfl, by
        have h := (TW.out.offX (offX_grown BR.out hW)).mono (base' := w.heap.size) (by have := HZ4.out; omega)
        show TwinL w.heap.size (takeK (l.map (·.c)) (placeM (mOf lots size l) id).toNat) _ L W'
        rw [HPK.out]
        exact h⟩⟩, ext_grownP E5.out hW (by omega)⟩
set_option maxHeartbeats 8000000 in
theorem refWantM_any (lots size la sb : Int) (l : List Rc) (sv : Value) (w : World) (hs : MlC w sv l) (hg : greatM l = false) :
    Calls Tryd.prog 37 #[valM lots size sv, .int .i64 la, .int .i64 sb] w fun e w' => (∃ v, e = .returned (.tuple #[v, .int .i64 (wantME (mOf lots size l) la sb)]) ∧ MlRet (wantME (mOf lots size l) la sb) (wantM (mOf lots size l) la sb) w.heap.size v w') ∧ Ext w w' := by
  have HS := Lib.hid hs; have HG := Lib.hid hg
  obtain ⟨A, n, c, rfl, hn, hlc, hcm⟩ := hs.1.form
  have HL := Lib.hid (show l.length = n from hn.out.symm)
  clear hs hn hg
  go_enter Tryd.func37, Tryd.ntmps37
  go_wp2_with fail
  obtain ⟨w2, hw2⟩ : ∃ w2, w2 = (w.alloc (.cells #[.int .i64 lots, .int .i64 size, .slice A n c] 24)).alloc (.cells #[.int .i64 0, .int .i64 0, .slice none 0 0] 24) := ⟨_, rfl⟩
  rw [← hw2]
  have B1 := Lib.hid (show Blk w2 w.heap.size 24 #[.int .i64 lots, .int .i64 size, .slice A n c] from hw2 ▸ (Blk.new _ _ _).alloc _)
  have BR := Lib.hid (show Blk w2 (w.heap.size + 1) 24 #[.int .i64 0, .int .i64 0, .slice none 0 0] from hw2 ▸ Blk.at_ (by simp))
  have E2 := Lib.hid (show Ext w w2 from hw2 ▸ (Ext.al _ _).alloc _)
  have HZ2 := Lib.hid (show w2.heap.size = w.heap.size + 2 by rw [hw2]; simp)
  clear hw2
  refine (refMill_any lots size l _ _ (HS.out.ext E2.out)).mono ?_
  rintro e w3 ⟨rfl, hE⟩
  rw [millR_eq]
  replace B1 := Lib.hid (B1.out.ext hE); replace BR := Lib.hid (BR.out.ext hE)
  have E3 := Lib.hid (E2.out.trans hE)
  have HZ3 := Lib.hid (show w.heap.size + 2 ≤ w3.heap.size by have := HZ2.out; have := hE.size; omega)
  clear hE E2 HZ2
  obtain ⟨b0, b1, b2, bf, bl⟩ := B1.out.c3
  obtain ⟨r0, r1, r2, rf, rl⟩ := BR.out.c3
  cases hc : checkM (mOf lots size l) with
  | false =>
    have HPE := Lib.hid (show wantME (mOf lots size l) la sb = 90 by unfold wantME; rw [hc]; rfl)
    clear hc
    go_wp2
    refine ret_set3N (BR.out) fun W' ⟨z0, z1, z2⟩ hW => ?_
    refine bodyPost_ret (v := .tuple #[valM 0 0 (.slice none 0 0), .int .i64 (90)]) (by simp only [results, Tryd.results37]; simp [go_sem, z0, z1, z2]) rfl ?_
    exact ⟨⟨_, by rw [HPE.out], .inr ⟨by rw [HPE.out]; decide, rfl⟩⟩, ext_grownP (E3.out) hW (by omega)⟩
  | true =>
    have HC := Lib.hid hc
    clear hc
    go_wp2_with fail
    refine (twinM_any lots size l _ w3 (HS.out.ext E3.out) HG.out).mono ?_
    rintro e w7 ⟨⟨v, L, rfl, tv⟩, hE⟩
    have TW := Lib.hid tv
    have E7 := Lib.hid (E3.out.trans hE)
    have HZ7 := Lib.hid (show w.heap.size + 2 ≤ w7.heap.size by have := HZ3.out; have := hE.size; omega)
    replace BR := Lib.hid (BR.out.ext hE)
    obtain ⟨A2, n2, c2, rfl, -, -, -⟩ := (show SlC w7 v L from Own.sl (enc := encC) encC_len tv.own).form
    clear tv hE b0 b1 b2 bf bl r0 r1 r2 rf rl E3 B1
    dsimp only [valM]
    go_upto_region 5 with (fail)
    obtain ⟨w8, hw8⟩ : ∃ w8, w8 = w7.alloc (.cells #[.int .i64 la, .int .i64 sb, .slice A2 n2 c2] 24) := ⟨_, rfl⟩
    rw [← hw8]
    have D1 := Lib.hid (show Blk w8 w7.heap.size 24 #[.int .i64 la, .int .i64 sb, .slice A2 n2 c2] from hw8 ▸ Blk.new _ _ _)
    have DR := Lib.hid (show Blk w8 _ _ _ from hw8 ▸ BR.out.alloc _)
    have E8 := Lib.hid (show Ext w w8 from hw8 ▸ E7.out.alloc _)
    have TW8 := Lib.hid (show TwinL w3.heap.size (l.map (·.c)) (.slice A2 n2 c2) L w8 from hw8 ▸ TW.out.ext (Ext.al _ _))
    clear hw8 BR TW E7
    obtain ⟨b0, b1, b2, bf, bl⟩ := D1.out.c3
    go_wp2_with fail
    refine (refMill_any la sb L _ _ TW8.out.mlc).mono ?_
    rintro e w10 ⟨rfl, hE⟩
    rw [millR_eq, show mOf la sb L = wantM (mOf lots size l) la sb by unfold wantM; show (⟨la, sb, L.map (·.c)⟩ : Mll) = _; rw [TW8.out.map]]
    have TWL := Lib.hid (TW8.out.ext hE)
    replace D1 := Lib.hid (D1.out.ext hE); replace DR := Lib.hid (DR.out.ext hE)
    have E10 := Lib.hid (E8.out.trans hE)
    clear hE b0 b1 b2 bf bl E8 TW8
    obtain ⟨b0, b1, b2, bf, bl⟩ := D1.out.c3
    obtain ⟨r0, r1, r2, rf, rl⟩ := DR.out.c3
    cases hc2 : checkM (wantM (mOf lots size l) la sb) with
    | false =>
      have HPE := Lib.hid (show wantME (mOf lots size l) la sb = 94 by unfold wantME; rw [HC.out, hc2]; rfl)
      clear hc2
      go_wp2
      refine ret_set3N (DR.out) fun W' ⟨z0, z1, z2⟩ hW => ?_
      refine bodyPost_ret (v := .tuple #[valM 0 0 (.slice none 0 0), .int .i64 (94)]) (by simp only [results, Tryd.results37]; simp [go_sem, z0, z1, z2]) rfl ?_
      exact ⟨⟨_, by rw [HPE.out], .inr ⟨by rw [HPE.out]; decide, rfl⟩⟩, ext_grownP (E10.out) hW (by omega)⟩
    | true =>
      have HPE := Lib.hid (show wantME (mOf lots size l) la sb = 0 by unfold wantME; rw [HC.out, hc2]; rfl)
      clear hc2
      go_wp2
      refine ret_set3N DR.out fun W' ⟨z0, z1, z2⟩ hW => ?_
      refine bodyPost_ret (v := .tuple #[valM la sb (.slice A2 n2 c2), .int .i64 0]) (by simp only [results, Tryd.results37]; simp [go_sem, z0, z1, z2]) rfl ?_
      exact ⟨⟨valM la sb (.slice A2 n2 c2), by rw [HPE.out], .inl ⟨HPE.out, _, _, rfl, (TWL.out.offX (offX_grown DR.out hW)).mono (by have := HZ3.out; omega)⟩⟩, ext_grownP E10.out hW (by omega)⟩
end Go.Proofs.YtkpengeaolcjhaaDoor
/- The law MillChanges: the walk. -/
namespace Go.Proofs.YtkpengeaolcjhaaDoor
open Go.RowKit Go.Shelf Go.Lib
set_option maxRecDepth 100000
set_option linter.unusedSimpArgs false
set_option linter.unusedVariables false

/-- A cotton's own lists, read. -/
def Dw1 (W : World) (x : Rc) : Prop := SlD W (.slice x.da x.dn x.dc) x.c.b.draws ∧ SlW W (.slice x.wa x.wn x.wc) x.c.b.weighs
theorem Dw1.ext {W W' : World} {x : Rc} (h : Dw1 W x) (e : Ext W W') : Dw1 W' x := ⟨h.1.ext e, h.2.ext e⟩
theorem Blk.c8 {w : World} {g : Nat} {t : TypeId} {x : Rc} (h : Blk w g t (encC x).toArray) : w.cell? ⟨g, 0, none⟩ = some (.int .i64 x.c.b.id) ∧ w.cell? ⟨g, 1, none⟩ = some (.int .i64 x.c.b.layers) ∧ w.cell? ⟨g, 2, none⟩ = some (.int .i64 x.c.b.dry.lo) ∧ w.cell? ⟨g, 3, none⟩ = some (.int .i64 x.c.b.dry.hi) ∧
    w.cell? ⟨g, 4, none⟩ = some (.slice x.da x.dn x.dc) ∧ w.cell? ⟨g, 5, none⟩ = some (.slice x.wa x.wn x.wc) ∧ w.cell? ⟨g, 6, none⟩ = some (.int .i64 x.c.len) ∧ w.cell? ⟨g, 7, none⟩ = some (.int .i64 x.c.str) ∧ (∀ i, w.frozen? ⟨g, i, none⟩ = false) ∧ g < w.heap.size :=
  ⟨by simpa using h.cell 0, by simpa using h.cell 1, by simpa using h.cell 2, by simpa using h.cell 3, by simpa using h.cell 4, by simpa using h.cell 5, by simpa using h.cell 6, by simpa using h.cell 7, h.frozen, h.lt⟩
/-- What stands still while the law runs. -/
structure McT (lots size : Int) (l L : List Rc) (x r' : Rc) (w : World) (q0 q1 : Nat) (A A2 : Option Addr) (n n2 c c2 : Nat) (W : World) : Prop where
  e : Ext w W
  p : Blk W w.heap.size 24 #[.int .i64 lots, .int .i64 size, .slice A n c]
  px : Blk W (w.heap.size + 1) 61 (encC x).toArray
  q : Blk W q0 24 #[.int .i64 lots, .int .i64 size, .slice A2 n2 c2]
  qx : Blk W q1 61 (encC r').toArray
  t : TabM W
  a : MlC W (.slice A n c) l
  ax : Dw1 W x
  b : MlC W (.slice A2 n2 c2) L
  bx : Dw1 W r'
theorem McT.ext {lots size : Int} {l L : List Rc} {x r' : Rc} {w : World} {q0 q1 : Nat} {A A2 : Option Addr} {n n2 c c2 : Nat} {W W' : World} (h : McT lots size l L x r' w q0 q1 A A2 n n2 c c2 W) (e : Ext W W') : McT lots size l L x r' w q0 q1 A A2 n n2 c c2 W' :=
  ⟨h.e.trans e, h.p.ext e, h.px.ext e, h.q.ext e, h.qx.ext e, h.t.ext e, h.a.ext e, h.ax.ext e, h.b.ext e, h.bx.ext e⟩
theorem greatM_len' {l : List Rc} (h : greatM l = false) : l.length ≤ 14 := by
  unfold greatM at h; simp at h; omega
theorem mOf_map' {lots size : Int} {l L : List Rc} (h : L.map (·.c) = l.map (·.c)) : mOf lots size L = mOf lots size l := by simp [mOf, h]
/-- What is returned: the mill, or the empty one. -/
def retM (er : Int) (m : Mll) : Mll := if er = 0 then m else ⟨0, 0, []⟩
theorem MlRet.form {er : Int} {m : Mll} {base : Nat} {v : Value} {W : World} (h : MlRet er m base v W) : ∃ A n c L', v = valM (retM er m).lots (retM er m).size (.slice A n c) ∧ n = L'.length ∧ TwinL base (retM er m).cots (.slice A n c) L' W := by
  rcases h with ⟨h1, v0, L', rfl, tv⟩ | ⟨h1, rfl⟩
  · obtain ⟨A, n, c, rfl, hn, -, -⟩ := tv.mlc.1.form
    exact ⟨A, n, c, L', by unfold retM; rw [if_pos h1], hn.out, by unfold retM; rw [if_pos h1]; exact tv⟩
  · exact ⟨none, 0, 0, [], by unfold retM; rw [if_neg h1], rfl, by unfold retM; rw [if_neg h1]; exact ⟨Own.nil _ _, fun r hr => by simp at hr, rfl⟩⟩
theorem Shp.gap {e : TypeId} {sz base top lo hi : Nat} {A : Option Addr} {n c : Nat} {W W' : World} (h : Shp e sz base top A n c W) (k : Gap lo hi W W') (hd : hi ≤ base ∨ top ≤ lo) : Shp e sz base top A n c W' := by
  rcases h with h | ⟨g, cur, h1, h2, h3, h4, h5, h6⟩
  · exact .inl h
  · exact .inr ⟨g, cur, h1, h2, h3, k.blk h4 (by omega), h5, h6⟩
theorem SpI.gap {L : List Rc} {A : Option Addr} {n base top lo hi : Nat} {W W' : World} (h : SpI L A n base top W) (k : Gap lo hi W W') (hd : hi ≤ base ∨ top ≤ lo) : SpI L A n base top W' := by
  refine ⟨?_, fun r hr => (h.ds r hr).gap k hd, fun r hr => (h.ws r hr).gap k hd⟩
  rcases h.row with h0 | ⟨g, cur, h1, h2, h3, h4, h5⟩
  · exact .inl h0
  · exact .inr ⟨g, cur, h1, h2, h3, k.blk h4 (by omega), h5⟩
section
variable {P : Program} {C : World → Prop} {R : World → World → Prop} {a0 : Act} {ds : List (Option Tmp)} {Q : Act → World → Prop} {n : Nat} {F : Facts}
theorem tameG_end_putI {I : (Nat → Bool) → (Nat → Value) → World → Prop} (hds : F.map (·.1) = ds) (hn : n = F.length) (h : ∀ ρ W, C W → Rd a0 ds ρ → I (fun j => decide (j < n)) (fun t => ρ (.tmp t)) W → allF F ρ W → Q { tmps := (putF ρ F a0.tmps.toList).toArray, defers := a0.defers } W) : wpTameG P C R I ds a0 Q n [] F := by
  intro A W hC hS hI hF
  have hI2 : I (fun j => decide (j < n)) (fun t => A.eval (.tmp t)) W := hI
  have hA : A = { tmps := (putF A.eval F a0.tmps.toList).toArray, defers := a0.defers } := by
    obtain ⟨h1, h2, h3⟩ := hS
    obtain ⟨tmps, defers⟩ := A
    simp only at h1 h2
    subst h1
    congr 1
    apply Array.ext_getElem?
    intro j
    by_cases hj : j < tmps.size
    · have e : (Act.mk tmps a0.defers).eval (.tmp j) = tmps[j] := by simp [Act.eval, hj]
      have hp : (putF (Act.mk tmps a0.defers).eval F a0.tmps.toList).toArray[j]? = some tmps[j] := by
        rw [List.getElem?_toArray, putF_in _ F _ j (by simpa using h2 ▸ hj), e]
        by_cases hm : some j ∈ F.map (·.1)
        · exact .inl hm
        · right
          have hni : notIn ds j = true := by
            unfold notIn
            rw [List.all_eq_true]
            intro d hd
            rw [← hds] at hd
            simp only [bne_iff_ne, ne_eq]
            intro e2
            exact hm (e2 ▸ hd)
          rw [h3 j hni]
          have hj2 : j < a0.tmps.size := h2 ▸ hj
          simp [Act.eval, hj2]
      rw [hp]; simp [hj]
    · rw [Array.getElem?_eq_none (by omega), List.getElem?_toArray, List.getElem?_eq_none (by rw [putF_len]; simp; omega)]
  have hR := Rd.of hS
  have hF2 := allF_of _ _ _ (hn ▸ hF)
  have hk := h A.eval W hC hR hI2 hF2
  rw [← hA] at hk
  exact hk
end
theorem Own.grownNe {α : Type} {enc : α → List Value} {e : TypeId} {sz base q : Nat} {W W' : World} {v : Value} {l : List α} (h : Own enc e sz W base v l) (k : W.grownBy W' (some q)) (hq : ∀ g n c, v = .slice (some ⟨g, 0, none⟩) n c → g ≠ q) : Own enc e sz W' base v l := by
  refine ⟨h.1, ?_⟩
  rcases h.2 with h2 | ⟨g, cap, cur, h1, h2, h3, h4⟩
  · exact .inl h2
  · exact .inr ⟨g, cap, cur, h1, h2, (k.block g (Array.getElem?_eq_some_iff.1 h3).1 (by intro e; injection e with e; exact hq g _ _ h1 e)).trans h3, h4⟩
theorem set8_cells {W : World} {q : Nat} {t : TypeId} {z0 z1 z2 z3 z4 z5 z6 z7 : Value} (hB : Blk W q t #[z0, z1, z2, z3, z4, z5, z6, z7]) (y0 y1 y2 y3 y4 y5 y6 y7 : Value) :
    Blk ((((((((W.setCell ⟨q, 0, none⟩ y0).setCell ⟨q, 1, none⟩ y1).setCell ⟨q, 2, none⟩ y2).setCell ⟨q, 3, none⟩ y3).setCell ⟨q, 4, none⟩ y4).setCell ⟨q, 5, none⟩ y5).setCell ⟨q, 6, none⟩ y6).setCell ⟨q, 7, none⟩ y7) q t #[y0, y1, y2, y3, y4, y5, y6, y7] ∧
    W.grownBy ((((((((W.setCell ⟨q, 0, none⟩ y0).setCell ⟨q, 1, none⟩ y1).setCell ⟨q, 2, none⟩ y2).setCell ⟨q, 3, none⟩ y3).setCell ⟨q, 4, none⟩ y4).setCell ⟨q, 5, none⟩ y5).setCell ⟨q, 6, none⟩ y6).setCell ⟨q, 7, none⟩ y7) (some q) := by
  refine ⟨?_, grown_set (grown_set (grown_set (grown_set (grown_set (grown_set (grown_set (grown_set (World.grownBy.refl _ _) (p := ⟨q, 0, none⟩) (.inl rfl) _) (p := ⟨q, 1, none⟩) (.inl rfl) _) (p := ⟨q, 2, none⟩) (.inl rfl) _) (p := ⟨q, 3, none⟩) (.inl rfl) _) (p := ⟨q, 4, none⟩) (.inl rfl) _) (p := ⟨q, 5, none⟩) (.inl rfl) _) (p := ⟨q, 6, none⟩) (.inl rfl) _) (p := ⟨q, 7, none⟩) (.inl rfl) _⟩
  have h := (((((((hB.set_ 0 y0).set_ 1 y1).set_ 2 y2).set_ 3 y3).set_ 4 y4).set_ 5 y5).set_ 6 y6).set_ 7 y7
  simpa using h
theorem set3_cells {W : World} {q : Nat} {t : TypeId} {z0 z1 z2 : Value} (hB : Blk W q t #[z0, z1, z2]) (y0 y1 y2 : Value) :
    Blk (((W.setCell ⟨q, 0, none⟩ y0).setCell ⟨q, 1, none⟩ y1).setCell ⟨q, 2, none⟩ y2) q t #[y0, y1, y2] ∧ W.grownBy (((W.setCell ⟨q, 0, none⟩ y0).setCell ⟨q, 1, none⟩ y1).setCell ⟨q, 2, none⟩ y2) (some q) := by
  refine ⟨?_, grown_set (grown_set (grown_set (World.grownBy.refl _ _) (p := ⟨q, 0, none⟩) (.inl rfl) _) (p := ⟨q, 1, none⟩) (.inl rfl) _) (p := ⟨q, 2, none⟩) (.inl rfl) _⟩
  have h := ((hB.set_ 0 y0).set_ 1 y1).set_ 2 y2
  simpa using h
/-- A mill that the program has made, in its box, to be spoilt. -/
structure Mde (M : Mll) (q base top : Nat) (A : Option Addr) (n c : Nat) (L' : List Rc) (W : World) : Prop where
  box : Blk W q 24 #[.int .i64 M.lots, .int .i64 M.size, .slice A n c]
  sp : SpI L' A n base top W
  len : n = L'.length
  nb : n ≤ 1000
  qt : top ≤ q
theorem Mde.ext {M : Mll} {q base top : Nat} {A : Option Addr} {n c : Nat} {L' : List Rc} {W W' : World} (h : Mde M q base top A n c L' W) (e : Ext W W') : Mde M q base top A n c L' W' := ⟨h.box.ext e, h.sp.ext e, h.len, h.nb, h.qt⟩
theorem Mde.gap {M : Mll} {q base top lo hi : Nat} {A : Option Addr} {n c : Nat} {L' : List Rc} {W W' : World} (h : Mde M q base top A n c L' W) (k : Gap lo hi W W') (hd : hi ≤ base ∨ top ≤ lo) (hq : q < lo ∨ hi ≤ q) : Mde M q base top A n c L' W' := ⟨k.blk h.box hq, h.sp.gap k hd, h.len, h.nb, h.qt⟩
theorem Mde.new {M : Mll} {base n c : Nat} {A : Option Addr} {L' : List Rc} {W : World} (h : TwinL base M.cots (.slice A n c) L' W) (hn : n = L'.length) (hc : M.cots.length ≤ 1000) : Mde M W.heap.size base W.heap.size A n c L' (W.alloc (.cells #[.int .i64 M.lots, .int .i64 M.size, .slice A n c] 24)) :=
  ⟨Blk.new _ _ _, (SpI.of_twin h (Nat.le_refl _)).ext (Ext.al _ _), hn, by have h1 := congrArg List.length h.map; simp at h1; omega, Nat.le_refl _⟩
/-- Two made mills of one data, to be compared. -/
structure Pair (M : Mll) (q q' : Nat) (A A' : Option Addr) (n c n' c' : Nat) (L' L'' : List Rc) (W : World) : Prop where
  x : Blk W q 24 #[.int .i64 M.lots, .int .i64 M.size, .slice A n c]
  y : Blk W q' 24 #[.int .i64 M.lots, .int .i64 M.size, .slice A' n' c']
  a : MlC W (.slice A n c) L'
  b : MlC W (.slice A' n' c') L''
  m : L'.map (·.c) = L''.map (·.c)
theorem Pair.ext {M : Mll} {q q' : Nat} {A A' : Option Addr} {n c n' c' : Nat} {L' L'' : List Rc} {W W' : World} (h : Pair M q q' A A' n c n' c' L' L'' W) (e : Ext W W') : Pair M q q' A A' n c n' c' L' L'' W' := ⟨h.x.ext e, h.y.ext e, h.a.ext e, h.b.ext e, h.m⟩
/-! The region that makes the twins: the new box of the cotton is not the row of the mill's twin. -/
def TwM (lots size : Int) (cs : List Cot) (base : Nat) (v : Value) (W : World) : Prop := ∃ A n c L, v = valM lots size (.slice A n c) ∧ n = L.length ∧ TwinL base cs (.slice A n c) L W
def Box (t : TypeId) (zs : Array Value) (base : Nat) (v : Value) (W : World) : Prop := ∃ b, v = .pointer (some ⟨b, 0, none⟩) ∧ base ≤ b ∧ Blk W b t zs
/-- The row that a mill's value names lies below. -/
def RowLt (v : Value) (B : Nat) : Prop := ∀ a b A n c g, v = .agg #[a, b, .slice A n c] → A = some ⟨g, 0, none⟩ → g < B
def RowGe (v : Value) (B : Nat) : Prop := ∀ a b A n c g, v = .agg #[a, b, .slice A n c] → A = some ⟨g, 0, none⟩ → B ≤ g
def RowNe (v v' : Value) : Prop := ∀ a b A n c g, v = .agg #[a, b, .slice A n c] → A = some ⟨g, 0, none⟩ → v' ≠ .pointer (some ⟨g, 0, none⟩)
structure TwI (L : Nat → Bool) (e : Nat → Value) (W : World) : Prop where
  row : L 1 = true → RowLt (e 36) W.heap.size
  box : L 5 = true → ∀ g, e 12 = .pointer (some ⟨g, 0, none⟩) → g < W.heap.size
  ne : L 1 = true → L 5 = true → RowNe (e 36) (e 12)
theorem TwI.start (e : Nat → Value) (W : World) : TwI (fun _ => false) e W := ⟨(fun h => by cases h), (fun h => by cases h), fun h => by cases h⟩
theorem TwI.keep {i d : Nat} (h1 : (i == 1) = false) (h5 : (i == 5) = false) (hd : (d == 36) = false) (hd2 : (d == 12) = false) {L : Nat → Bool} {e : Nat → Value} {W W' : World} (u : Value) (h : TwI L e W) (hz : W.heap.size ≤ W'.heap.size) : TwI (updD L i true) (updD e d u) W' := by
  have n1 : (1 : Nat) ≠ i := fun x => by rw [← x] at h1; simp at h1
  have n5 : (5 : Nat) ≠ i := fun x => by rw [← x] at h5; simp at h5
  have m1 : (36 : Nat) ≠ d := fun x => by rw [← x] at hd; simp at hd
  have m2 : (12 : Nat) ≠ d := fun x => by rw [← x] at hd2; simp at hd2
  refine ⟨fun hL => ?_, fun hL => ?_, fun hL hL5 => ?_⟩
  · rw [updD_ne n1] at hL; rw [updD_ne m1]
    exact fun a b A n c g he hA => Nat.lt_of_lt_of_le (h.row hL a b A n c g he hA) hz
  · rw [updD_ne n5] at hL; rw [updD_ne m2]
    exact fun g hg => Nat.lt_of_lt_of_le (h.box hL g hg) hz
  · rw [updD_ne n1] at hL; rw [updD_ne n5] at hL5; rw [updD_ne m1, updD_ne m2]
    exact h.ne hL hL5
theorem TwI.twin {L : Nat → Bool} {e : Nat → Value} {W W' : World} {u : Value} (h : TwI L e W) (hz : W.heap.size ≤ W'.heap.size) (hg : RowGe u W.heap.size) (hl : RowLt u W'.heap.size) : TwI (updD L 1 true) (updD e 36 u) W' := by
  refine ⟨fun _ => by rw [updD_self]; exact hl, fun hL => ?_, fun _ hL5 => ?_⟩
  · rw [updD_ne (by decide)] at hL ⊢
    exact fun g hg => Nat.lt_of_lt_of_le (h.box hL g hg) hz
  · rw [updD_ne (by decide)] at hL5
    rw [updD_self, updD_ne (by decide)]
    intro a b A n c g he hA hb
    have := h.box hL5 g hb
    have := hg a b A n c g he hA
    omega
theorem TwI.made {L : Nat → Bool} {e : Nat → Value} {W W' : World} (h : TwI L e W) (hz : W.heap.size < W'.heap.size) : TwI (updD L 5 true) (updD e 12 (.pointer (some ⟨W.heap.size, 0, none⟩))) W' := by
  refine ⟨fun hL => ?_, fun _ g hg => ?_, fun hL _ => ?_⟩
  · rw [updD_ne (by decide)] at hL ⊢
    exact fun a b A n c g he hA => Nat.lt_trans (h.row hL a b A n c g he hA) hz
  · rw [updD_self] at hg
    simp at hg
    omega
  · rw [updD_ne (by decide)] at hL
    rw [updD_self, updD_ne (by decide)]
    intro a b A n c g he hA hb
    simp at hb
    have := h.row hL a b A n c g he hA
    omega
theorem TwinL.ge {lots size : Int} {base : Nat} {cs : List Cot} {v : Value} {L : List Rc} {W : World} (h : TwinL base cs v L W) : RowGe (valM lots size v) base ∧ RowLt (valM lots size v) W.heap.size := by
  rcases own_formG h.own with ⟨rfl, -⟩ | ⟨g, cap, cur, rfl, hb, hh, -⟩
  · constructor
    · intro a b A n c g he hA
      simp at he
      rw [hA] at he
      simp at he
    · intro a b A n c g he hA
      simp at he
      rw [hA] at he
      simp at he
  · have hB : Blk W g 61 cur := hh
    have hlt := hB.lt
    constructor
    · intro a b A n c g' he hA
      simp at he
      rw [hA] at he
      simp at he
      omega
    · intro a b A n c g' he hA
      simp at he
      rw [hA] at he
      simp at he
      omega
set_option maxHeartbeats 8000000 in
theorem millChanges_any (lots size : Int) (l : List Rc) (x : Rc) (id la sb : Int) (sv : Value) (w : World) (hT : TabM w) (hs : MlC w sv l) (hx : Dw1 w x) :
    Calls Tryd.prog 5 #[valM lots size sv, valC x, .int .i64 id, .int .i64 la, .int .i64 sb] w fun e w' => e = .returned (.bool true) ∧ Ext w w' := by
  have HT := Lib.hid hT; have HS := Lib.hid hs; have HX := Lib.hid hx
  obtain ⟨A, n, c, rfl, hn, hlc, hcm⟩ := hs.1.form
  clear hs hT hn hlc hcm hx
  go_enter Tryd.func5, Tryd.ntmps5
  dsimp only [valM]
  go_wp2_with fail
  obtain ⟨w0, hw0⟩ : ∃ w0, w0 = ((w.alloc (.cells #[.int .i64 lots, .int .i64 size, .slice A n c] 24)).alloc (.cells #[.int .i64 x.c.b.id, .int .i64 x.c.b.layers, .int .i64 x.c.b.dry.lo, .int .i64 x.c.b.dry.hi, .slice x.da x.dn x.dc, .slice x.wa x.wn x.wc, .int .i64 x.c.len, .int .i64 x.c.str] 61)) := ⟨_, rfl⟩
  rw [← hw0]
  have E0 := Lib.hid (show Ext w w0 from hw0 ▸ (Ext.al _ _).alloc _)
  have B0 := Lib.hid (show Blk w0 w.heap.size 24 #[.int .i64 lots, .int .i64 size, .slice A n c] from hw0 ▸ (Blk.new _ _ _).alloc _)
  have BX := Lib.hid (show Blk w0 (w.heap.size + 1) 61 (encC x).toArray from hw0 ▸ Blk.at_ (by simp))
  clear hw0
  refine (greatM_any lots size l _ _ (HS.out.ext E0.out)).mono ?_
  rintro e w1 ⟨rfl, hE⟩
  have E1 := Lib.hid (E0.out.trans hE)
  replace B0 := Lib.hid (B0.out.ext hE); replace BX := Lib.hid (BX.out.ext hE)
  clear hE E0
  cases hg : greatM l with
  | true =>
    go_wp2
    go_ret
    exact ⟨rfl, E1.out⟩
  | false =>
    have HLE := Lib.hid (greatM_len' hg)
    have HG := Lib.hid hg; clear hg
    have y0 := BX.out.c8
    go_wp2_with fail
    clear y0
    refine (great_any x.c.b _ _ w1 (HX.out.1.ext E1.out) (HX.out.2.ext E1.out)).mono ?_
    rintro e w2 ⟨rfl, hE⟩
    have E2 := Lib.hid (E1.out.trans hE)
    replace B0 := Lib.hid (B0.out.ext hE); replace BX := Lib.hid (BX.out.ext hE)
    clear hE E1
    cases hgb : greatB x.c.b with
    | true =>
      go_wp2
      go_ret
      exact ⟨rfl, E2.out⟩
    | false =>
      have hgr : x.c.b.draws.length ≤ 1000 ∧ x.c.b.weighs.length ≤ 1000 := by
        unfold greatB at hgb
        rw [Bool.or_eq_false_iff] at hgb
        have h1 := of_decide_eq_false hgb.1
        have h2 := of_decide_eq_false hgb.2
        omega
      have HGX := Lib.hid hgr
      clear hgb hgr
      go_wp2_with fail
      have y0 := fun V (h : Ext w2 V) => (BX.out.ext h).c8
      have z0 := fun V (h : Ext w2 V) => (B0.out.ext h).c3
      refine wp_region_tame_cutkG (fun V => Ext w2 V) (fun V V' => Ext V V') TwI (by kernel_rfl) 150 rfl 6 (by decide +kernel) (by decide +kernel) (by decide +kernel) (Ext.refl _).drew (TwI.start _ _) ?_
      simp only [List.take, List.drop]
      apply tameG_q rfl (fun L e W v h => TwI.keep rfl rfl rfl rfl v h (Nat.le_refl _))
      · intro ρ W hC hr hD
        obtain ⟨hrc, hrg, hrf, hrs⟩ := hr
        simp [go_sem] at hD
        go_simp
        exact ⟨⟨hC, Ext.refl _⟩, rfl⟩
      simp only [List.nil_append, List.cons_append]
      apply tameG_w rfl (TwM lots size (l.map (·.c)) w2.heap.size) (fun v V V' _ hE h => by obtain ⟨A', n', c', L', h1, h2, h3⟩ := h; exact ⟨A', n', c', L', h1, h2, h3.ext hE⟩)
      · intro ρ L V hC hr hI hL hLs hD
        obtain ⟨hrc, hrg, hrf, hrs⟩ := hr
        simp [go_sem] at hD
        have HCC := Lib.hid hC; have HI := Lib.hid hI
        clear hI hL hLs
        go_simp
        refine (twinM_any lots size l _ V (HS.out.ext (E2.out.trans HCC.out)) HG.out).mono ?_
        rintro e w' ⟨⟨v, L', rfl, tv⟩, hE⟩
        obtain ⟨A', n', c', rfl, hn', -, -⟩ := tv.mlc.1.form
        exact ⟨_, rfl, ⟨HCC.out.trans hE, hE⟩, ⟨A', n', c', L', rfl, hn'.out, tv.mono HCC.out.size⟩, HI.out.twin hE.size tv.ge.1 tv.ge.2⟩
      simp only [List.nil_append, List.cons_append]
      apply tameG_q rfl (fun L e W v h => TwI.keep rfl rfl rfl rfl v h (Nat.le_refl _))
      · intro ρ W hC hr hD
        obtain ⟨hrc, hrg, hrf, hrs⟩ := hr
        simp [go_sem] at hD
        go_simp
        exact ⟨⟨hC, Ext.refl _⟩, rfl⟩
      simp only [List.nil_append, List.cons_append]
      apply tameG_w rfl (TwinR x.c w2.heap.size) (fun v V V' _ hE h => by obtain ⟨r', h1, h2, h3⟩ := h; exact ⟨r', h1, h2, h3.ext hE⟩)
      · intro ρ L V hC hr hI hL hLs hD
        obtain ⟨hrc, hrg, hrf, hrs⟩ := hr
        simp [go_sem] at hD
        have HCC := Lib.hid hC; have HI := Lib.hid hI
        clear hI hL hLs
        go_simp
        refine (twinCotton_any x V (HX.out.1.ext (E2.out.trans HCC.out)) (HX.out.2.ext (E2.out.trans HCC.out)) HGX.out.1 HGX.out.2).mono ?_
        rintro e w' ⟨⟨v, rfl, r', h1, h2, h3⟩, hE⟩
        exact ⟨_, rfl, ⟨HCC.out.trans hE, hE⟩, ⟨r', h1, h2, h3.mono HCC.out.size⟩, TwI.keep rfl rfl rfl rfl _ HI.out hE.size⟩
      simp only [List.nil_append, List.cons_append]
      apply tameG_w rfl (Box 24 #[.int .i64 0, .int .i64 0, .slice none 0 0] w2.heap.size) (fun v V V' _ hE h => by obtain ⟨b, h1, h2, h3⟩ := h; exact ⟨b, h1, h2, h3.ext hE⟩)
      · intro ρ L V hC hr hI hL hLs hD
        obtain ⟨hrc, hrg, hrf, hrs⟩ := hr
        simp [go_sem] at hD
        have HCC := Lib.hid hC; have HI := Lib.hid hI
        clear hI hL hLs
        go_simp
        exact ⟨⟨HCC.out.alloc _, Ext.al _ _⟩, ⟨V.heap.size, rfl, HCC.out.size, Blk.new _ _ _⟩, TwI.keep rfl rfl rfl rfl _ HI.out (Ext.al _ _).size⟩
      simp only [List.nil_append, List.cons_append]
      apply tameG_w rfl (Box 61 #[.int .i64 0, .int .i64 0, .int .i64 0, .int .i64 0, .slice none 0 0, .slice none 0 0, .int .i64 0, .int .i64 0] w2.heap.size) (fun v V V' _ hE h => by obtain ⟨b, h1, h2, h3⟩ := h; exact ⟨b, h1, h2, h3.ext hE⟩)
      · intro ρ L V hC hr hI hL hLs hD
        obtain ⟨hrc, hrg, hrf, hrs⟩ := hr
        simp [go_sem] at hD
        have HCC := Lib.hid hC; have HI := Lib.hid hI
        clear hI hL hLs
        go_simp
        exact ⟨⟨HCC.out.alloc _, Ext.al _ _⟩, ⟨V.heap.size, rfl, HCC.out.size, Blk.new _ _ _⟩, TwI.made HI.out (by simp)⟩
      simp only [List.nil_append, List.cons_append]
      refine tameG_end_putI rfl rfl (fun ρ V hC hr hI hF => ?_)
      simp [go_sem] at hF
      obtain ⟨f35, ⟨A2, n2, c2, L, f36, hn2, htw⟩, f37, ⟨r', f38, hrc', hor⟩, ⟨q0, f11, hq0, hb0⟩, ⟨q1, f12, hq1, hb1⟩⟩ := hF
      have hne := hI.ne rfl rfl
      simp only [putF, f35, f36, f37, f38, f11, f12, List.set_cons_succ, List.set_cons_zero]
      have hq01 : q0 ≠ q1 := fun e => by
        subst e
        have k0 : V.heap[q0]? = some (.cells _ 24 (0, 0)) := hb0
        have k1 : V.heap[q0]? = some (.cells _ 61 (0, 0)) := hb1
        rw [k0] at k1
        injection k1 with k1
        injection k1 with _ k1 _
        exact absurd k1 (by decide)
      have S := Lib.hid (show McT lots size l L x r' w q0 q1 A A2 n n2 c c2 (((((((((((V.setCell ⟨q0, 0, none⟩ (.int .i64 lots)).setCell ⟨q0, 1, none⟩ (.int .i64 size)).setCell ⟨q0, 2, none⟩ (.slice A2 n2 c2)).setCell ⟨q1, 0, none⟩ (.int .i64 r'.c.b.id)).setCell ⟨q1, 1, none⟩ (.int .i64 r'.c.b.layers)).setCell ⟨q1, 2, none⟩ (.int .i64 r'.c.b.dry.lo)).setCell ⟨q1, 3, none⟩ (.int .i64 r'.c.b.dry.hi)).setCell ⟨q1, 4, none⟩ (.slice r'.da r'.dn r'.dc)).setCell ⟨q1, 5, none⟩ (.slice r'.wa r'.wn r'.wc)).setCell ⟨q1, 6, none⟩ (.int .i64 r'.c.len)).setCell ⟨q1, 7, none⟩ (.int .i64 r'.c.str)) by
        obtain ⟨k1, g1⟩ := set3_cells hb0 (.int .i64 lots) (.int .i64 size) (.slice A2 n2 c2)
        have hb1' := hb1.grown g1 (by intro e; injection e with e; exact hq01 e.symm)
        obtain ⟨k2, g2⟩ := set8_cells hb1' (.int .i64 r'.c.b.id) (.int .i64 r'.c.b.layers) (.int .i64 r'.c.b.dry.lo) (.int .i64 r'.c.b.dry.hi) (.slice r'.da r'.dn r'.dc) (.slice r'.wa r'.wn r'.wc) (.int .i64 r'.c.len) (.int .i64 r'.c.str)
        have hz := E2.out.size
        have hbx := BX.out.lt
        have eV : Ext w2 _ := ext_grownP (ext_grownP hC g1 hq0) g2 hq1
        have e2 := E2.out.trans eV
        have tw1 := htw.offX (offX_grown hb0 g1)
        have of2 := offX_grown hb1' g2
        have or2 := (OwnR.off (W' := _) ⟨(hor.1.offX (offX_grown hb0 g1) (by decide)), (hor.2.offX (offX_grown hb0 g1) (by decide))⟩ of2)
        have tw2 : TwinL w2.heap.size (l.map (·.c)) (.slice A2 n2 c2) L _ := ⟨tw1.own.grownNe g2 (fun g n3 c3 hg hgq => by
          injection hg with hg _ _
          refine hne _ _ A2 n2 c2 g f36 hg ?_
          rw [f12, hgq]), fun r hr => (tw1.lists r hr).off of2, tw1.map⟩
        exact ⟨e2, B0.out.ext eV, BX.out.ext eV, k1.grown g2 (by intro e; injection e with e; exact hq01 e), k2, HT.out.ext e2, HS.out.ext e2, HX.out.ext e2, tw2.mlc, ⟨or2.1.sl (fun _ => rfl), or2.2.sl (fun _ => rfl)⟩⟩)
      obtain ⟨a0, a1, a2, af, al⟩ := hb0.c3
      have p0 := hb1.cell 0
      have p1 := hb1.cell 1
      have p2 := hb1.cell 2
      have p3 := hb1.cell 3
      have p4 := hb1.cell 4
      have p5 := hb1.cell 5
      have p6 := hb1.cell 6
      have p7 := hb1.cell 7
      have pf := hb1.frozen
      have pl := hb1.lt
      simp at p0 p1 p2 p3 p4 p5 p6 p7
      have HN2 := Lib.hid hn2; have HMP := Lib.hid htw.map; have HRC := Lib.hid hrc'
      have HLL := Lib.hid (show L.length ≤ 900 by have := congrArg List.length htw.map; simp at this; have := HLE.out; omega)
      clear f35 f36 f37 f38 f11 f12 hC hr hI hne htw hor hb0 hb1 hrc' y0 z0 hn2 HT HS HX B0 BX
      go_upto_region 4 with (fail)
      obtain ⟨w5, hw5⟩ : ∃ w5 : World, w5 = (((((((((((V.setCell ⟨q0, 0, none⟩ (.int .i64 lots)).setCell ⟨q0, 1, none⟩ (.int .i64 size)).setCell ⟨q0, 2, none⟩ (.slice A2 n2 c2)).setCell ⟨q1, 0, none⟩ (.int .i64 r'.c.b.id)).setCell ⟨q1, 1, none⟩ (.int .i64 r'.c.b.layers)).setCell ⟨q1, 2, none⟩ (.int .i64 r'.c.b.dry.lo)).setCell ⟨q1, 3, none⟩ (.int .i64 r'.c.b.dry.hi)).setCell ⟨q1, 4, none⟩ (.slice r'.da r'.dn r'.dc)).setCell ⟨q1, 5, none⟩ (.slice r'.wa r'.wn r'.wc)).setCell ⟨q1, 6, none⟩ (.int .i64 r'.c.len)).setCell ⟨q1, 7, none⟩ (.int .i64 r'.c.str)) := ⟨_, rfl⟩
      rw [← hw5] at S ⊢
      clear hw5 a0 a1 a2 af al p0 p1 p2 p3 p4 p5 p6 p7 pf pl
      have HLl := Lib.hid (show l.length ≤ 900 by have := HLE.out; omega)
      have HM := Lib.hid (mOf_map' (lots := lots) (size := size) HMP.out)
      have HGR := Lib.hid (show r'.c.b.draws.length ≤ 1000 ∧ r'.c.b.weighs.length ≤ 1000 by rw [HRC.out]; exact HGX.out)
      have S0 := Lib.hid S.out
      have E5 := Lib.hid (Ext.refl w5)
      have x0 := S.out.q.c3; have x1 := S.out.qx.c8
      go_wp2_with fail
      clear x0 x1
      refine (helpsM_any lots size L r' _ w5 S.out.t S.out.b S.out.bx.1 S.out.bx.2 HLL.out HGR.out).mono ?_
      rintro e w6 ⟨rfl, hE⟩
      rw [HM.out, HRC.out]
      obtain ⟨u1, hu1⟩ : ∃ u, (helpsM (mOf lots size l) x.c).1 = u := ⟨_, rfl⟩
      obtain ⟨u2, hu2⟩ : ∃ u, (helpsM (mOf lots size l) x.c).2.1 = u := ⟨_, rfl⟩
      obtain ⟨u3, hu3⟩ : ∃ u, (helpsM (mOf lots size l) x.c).2.2 = u := ⟨_, rfl⟩
      have HU1 := Lib.hid hu1; have HU2 := Lib.hid hu2; have HU3 := Lib.hid hu3
      rw [hu1, hu2, hu3]
      replace S := Lib.hid (S.out.ext hE); replace E5 := Lib.hid (E5.out.trans hE)
      have Z6 := Lib.hid hE.size
      clear hE hu1 hu2 hu3
      have x0 := S.out.p.c3; have x1 := S.out.px.c8
      go_wp2_with fail
      clear x0 x1
      refine (refHelps_any lots size l x _ w6 S.out.a S.out.ax.1 S.out.ax.2 HG.out HLl.out HGX.out).mono ?_
      rintro e w7 ⟨rfl, hE⟩
      rw [HU1.out, HU2.out, HU3.out]
      replace S := Lib.hid (S.out.ext hE); replace E5 := Lib.hid (E5.out.trans hE)
      have Z7 := Lib.hid (show w5.heap.size ≤ w7.heap.size from Nat.le_trans Z6.out hE.size)
      clear hE HU1 HU2 HU3 Z6
      obtain ⟨M3, hM3⟩ : ∃ M3, retM (putME (mOf lots size l) x.c) (putM (mOf lots size l) x.c) = M3 := ⟨_, rfl⟩
      have HC3 := Lib.hid (show M3.cots.length ≤ 901 by
        rw [← hM3]
        unfold retM
        split
        · have h := sortK_len ((mOf lots size l).cots ++ [x.c]) ((mOf lots size l).cots.length + 1)
          show (sortK _ _).length ≤ 901
          simp at h
          have := HLl.out
          simp
          omega
        · simp)
      obtain ⟨er3, her3⟩ : ∃ u, putME (mOf lots size l) x.c = u := ⟨_, rfl⟩
      have HM3 := Lib.hid hM3; have HE3 := Lib.hid her3
      clear hM3 her3
      have x0 := S.out.q.c3; have x1 := S.out.qx.c8
      go_wp2_with fail
      clear x0 x1
      refine (putM_any lots size L r' _ w7 S.out.t S.out.b S.out.bx.1 S.out.bx.2 (by have := HLL.out; omega) HGR.out).mono ?_
      rintro e w8 ⟨⟨v, rfl, hv⟩, hE⟩
      rw [HM.out, HRC.out] at hv ⊢
      rw [HE3.out]
      obtain ⟨A3, n3, c3, L3, rfl, hn3, tw3⟩ := hv.form
      rw [HM3.out] at tw3 ⊢
      replace S := Lib.hid (S.out.ext hE); replace E5 := Lib.hid (E5.out.trans hE)
      have P3 := Lib.hid (Mde.new tw3 hn3 (by have := HC3.out; omega))
      have Z8 := Lib.hid hE.size
      have M3L := Lib.hid (tw3.mlc.ext (Ext.al _ (.cells #[.int .i64 M3.lots, .int .i64 M3.size, .slice A3 n3 c3] 24))); have M3P := Lib.hid tw3.map
      clear hE hv tw3 hn3
      go_upto_region 7 with (fail)
      obtain ⟨w9, hw9⟩ : ∃ W, W = w8.alloc (.cells #[.int .i64 M3.lots, .int .i64 M3.size, .slice A3 n3 c3] 24) := ⟨_, rfl⟩
      rw [← hw9] at P3 M3L ⊢
      have E9 := Lib.hid (show Ext w8 w9 from hw9 ▸ Ext.al _ _)
      replace S := Lib.hid (S.out.ext E9.out); replace E5 := Lib.hid (E5.out.trans E9.out)
      have Z3 := Lib.hid (show w5.heap.size ≤ w7.heap.size ∧ w7.heap.size ≤ w8.heap.size ∧ w9.heap.size = w8.heap.size + 1 from ⟨Z7.out, Z8.out, by rw [hw9]; simp⟩)
      clear hw9 E9 Z8
      have x0 := S.out.p.c3; have x1 := S.out.px.c8
      go_wp2_with fail
      clear x0 x1
      refine (refPutM_any lots size l x _ w9 S.out.a S.out.ax.1 S.out.ax.2 HG.out HLl.out HGX.out).mono ?_
      rintro e w10 ⟨⟨v, rfl, hv⟩, hE⟩
      rw [HE3.out] at hv ⊢
      obtain ⟨A4, n4, c4, L4, rfl, hn4, tw4⟩ := hv.form
      have HM3' := HM3.out
      rw [HE3.out] at HM3'
      rw [HM3'] at tw4 ⊢
      replace S := Lib.hid (S.out.ext hE); replace E5 := Lib.hid (E5.out.trans hE); replace P3 := Lib.hid (P3.out.ext hE)
      have Q3 := Lib.hid (show Pair M3 w8.heap.size w10.heap.size A3 A4 n3 c3 n4 c4 L3 L4 (w10.alloc (.cells #[.int .i64 M3.lots, .int .i64 M3.size, .slice A4 n4 c4] 24)) from ⟨P3.out.box.ext (Ext.al _ _), Blk.new _ _ _, (M3L.out.ext hE).ext (Ext.al _ _), tw4.mlc.ext (Ext.al _ _), M3P.out.trans tw4.map.symm⟩)
      have Z10 := Lib.hid hE.size
      clear hE hv tw4 hn4 HM3' M3L M3P
      go_upto_region 8 with (fail)
      obtain ⟨w11, hw11⟩ : ∃ W, W = w10.alloc (.cells #[.int .i64 M3.lots, .int .i64 M3.size, .slice A4 n4 c4] 24) := ⟨_, rfl⟩
      rw [← hw11] at Q3 ⊢
      have E11 := Lib.hid (show Ext w10 w11 from hw11 ▸ Ext.al _ _)
      replace S := Lib.hid (S.out.ext E11.out); replace E5 := Lib.hid (E5.out.trans E11.out); replace P3 := Lib.hid (P3.out.ext E11.out)
      have Z11 := Lib.hid (show w9.heap.size ≤ w11.heap.size from Nat.le_trans Z10.out E11.out.size)
      clear hw11 E11 Z10
      have x0 := Q3.out.x.c3; have x1 := Q3.out.y.c3
      go_wp2_with fail
      clear x0 x1
      refine (sameM_any M3.lots M3.size L3 L4 _ _ w11 Q3.out.m Q3.out.a Q3.out.b).mono ?_
      rintro e w12 ⟨rfl, hE⟩
      replace S := Lib.hid (S.out.ext hE); replace E5 := Lib.hid (E5.out.trans hE); replace P3 := Lib.hid (P3.out.ext hE)
      have Z12 := Lib.hid (show w9.heap.size ≤ w12.heap.size from Nat.le_trans Z11.out hE.size)
      clear hE Q3 Z11
      obtain ⟨M5, hM5⟩ : ∃ M5, retM (takeME (mOf lots size l) id) (takeM (mOf lots size l) id) = M5 := ⟨_, rfl⟩
      have HC5 := Lib.hid (show M5.cots.length ≤ 1000 by
        rw [← hM5]
        unfold retM
        split
        · have := HLl.out
          show (takeK _ _).length ≤ 1000
          unfold takeK
          simp
          omega
        · simp)
      obtain ⟨er5, her5⟩ : ∃ u, takeME (mOf lots size l) id = u := ⟨_, rfl⟩
      rw [her5] at hM5
      have HM5 := Lib.hid hM5; have HE5 := Lib.hid her5
      clear hM5 her5
      have x0 := S.out.q.c3
      go_wp2_with fail
      clear x0
      refine (takeM_any lots size id L _ w12 S.out.t S.out.b (by have := HLL.out; omega)).mono ?_
      rintro e w13 ⟨⟨v, rfl, hv⟩, hE⟩
      rw [HM.out, HE5.out] at hv ⊢
      obtain ⟨A5, n5, c5, L5, rfl, hn5, tw5⟩ := hv.form
      rw [HM5.out] at tw5 ⊢
      replace S := Lib.hid (S.out.ext hE); replace E5 := Lib.hid (E5.out.trans hE); replace P3 := Lib.hid (P3.out.ext hE)
      have P5 := Lib.hid (Mde.new tw5 hn5 HC5.out)
      have M5L := Lib.hid (tw5.mlc.ext (Ext.al _ (.cells #[.int .i64 M5.lots, .int .i64 M5.size, .slice A5 n5 c5] 24))); have M5P := Lib.hid tw5.map
      have Z13 := Lib.hid hE.size
      clear hE hv tw5 hn5
      go_upto_region 11 with (fail)
      obtain ⟨w14, hw14⟩ : ∃ W, W = w13.alloc (.cells #[.int .i64 M5.lots, .int .i64 M5.size, .slice A5 n5 c5] 24) := ⟨_, rfl⟩
      rw [← hw14] at P5 M5L ⊢
      have E14 := Lib.hid (show Ext w13 w14 from hw14 ▸ Ext.al _ _)
      replace S := Lib.hid (S.out.ext E14.out); replace E5 := Lib.hid (E5.out.trans E14.out); replace P3 := Lib.hid (P3.out.ext E14.out)
      have Z14 := Lib.hid (show w12.heap.size ≤ w13.heap.size ∧ w14.heap.size = w13.heap.size + 1 from ⟨Z13.out, by rw [hw14]; simp⟩)
      clear hw14 E14 Z13
      have x0 := S.out.p.c3
      go_wp2_with fail
      clear x0
      refine (refTakeM_any lots size id l _ w14 S.out.a HG.out HLl.out).mono ?_
      rintro e w15 ⟨⟨v, rfl, hv⟩, hE⟩
      rw [HE5.out] at hv ⊢
      obtain ⟨A6, n6, c6, L6, rfl, hn6, tw6⟩ := hv.form
      rw [HM5.out] at tw6 ⊢
      replace S := Lib.hid (S.out.ext hE); replace E5 := Lib.hid (E5.out.trans hE); replace P3 := Lib.hid (P3.out.ext hE); replace P5 := Lib.hid (P5.out.ext hE)
      have Q5 := Lib.hid (show Pair M5 w13.heap.size w15.heap.size A5 A6 n5 c5 n6 c6 L5 L6 (w15.alloc (.cells #[.int .i64 M5.lots, .int .i64 M5.size, .slice A6 n6 c6] 24)) from ⟨P5.out.box.ext (Ext.al _ _), Blk.new _ _ _, (M5L.out.ext hE).ext (Ext.al _ _), tw6.mlc.ext (Ext.al _ _), M5P.out.trans tw6.map.symm⟩)
      have Z15 := Lib.hid hE.size
      clear hE hv tw6 hn6 M5L M5P
      go_upto_region 12 with (fail)
      obtain ⟨w16, hw16⟩ : ∃ W, W = w15.alloc (.cells #[.int .i64 M5.lots, .int .i64 M5.size, .slice A6 n6 c6] 24) := ⟨_, rfl⟩
      rw [← hw16] at Q5 ⊢
      have E16 := Lib.hid (show Ext w15 w16 from hw16 ▸ Ext.al _ _)
      replace S := Lib.hid (S.out.ext E16.out); replace E5 := Lib.hid (E5.out.trans E16.out); replace P3 := Lib.hid (P3.out.ext E16.out); replace P5 := Lib.hid (P5.out.ext E16.out)
      have Z16 := Lib.hid (show w14.heap.size ≤ w16.heap.size from Nat.le_trans Z15.out E16.out.size)
      clear hw16 E16 Z15
      obtain ⟨M7, hM7⟩ : ∃ M7, retM (wantME (mOf lots size l) la sb) (wantM (mOf lots size l) la sb) = M7 := ⟨_, rfl⟩
      have HC7 := Lib.hid (show M7.cots.length ≤ 1000 by
        rw [← hM7]
        unfold retM
        split
        · have := HLl.out
          show (l.map (·.c)).length ≤ 1000
          simp
          omega
        · simp)
      obtain ⟨er7, her7⟩ : ∃ u, wantME (mOf lots size l) la sb = u := ⟨_, rfl⟩
      rw [her7] at hM7
      have HM7 := Lib.hid hM7; have HE7 := Lib.hid her7
      clear hM7 her7
      have x0 := S.out.q.c3
      go_wp2_with fail
      clear x0
      refine (wantM_any lots size la sb L _ w16 S.out.t S.out.b (by have := HLL.out; omega)).mono ?_
      rintro e w17 ⟨⟨v, rfl, hv⟩, hE⟩
      rw [HM.out, HE7.out] at hv ⊢
      obtain ⟨A7, n7, c7, L7, rfl, hn7, tw7⟩ := hv.form
      rw [HM7.out] at tw7 ⊢
      replace S := Lib.hid (S.out.ext hE); replace E5 := Lib.hid (E5.out.trans hE); replace P3 := Lib.hid (P3.out.ext hE); replace P5 := Lib.hid (P5.out.ext hE); replace Q5 := Lib.hid (Q5.out.ext hE)
      have P7 := Lib.hid (Mde.new tw7 hn7 HC7.out)
      have M7L := Lib.hid (tw7.mlc.ext (Ext.al _ (.cells #[.int .i64 M7.lots, .int .i64 M7.size, .slice A7 n7 c7] 24))); have M7P := Lib.hid tw7.map
      have Z17 := Lib.hid hE.size
      clear hE hv tw7 hn7
      go_upto_region 13 with (fail)
      obtain ⟨w18, hw18⟩ : ∃ W, W = w17.alloc (.cells #[.int .i64 M7.lots, .int .i64 M7.size, .slice A7 n7 c7] 24) := ⟨_, rfl⟩
      rw [← hw18] at P7 M7L ⊢
      have E18 := Lib.hid (show Ext w17 w18 from hw18 ▸ Ext.al _ _)
      replace S := Lib.hid (S.out.ext E18.out); replace E5 := Lib.hid (E5.out.trans E18.out); replace P3 := Lib.hid (P3.out.ext E18.out); replace P5 := Lib.hid (P5.out.ext E18.out); replace Q5 := Lib.hid (Q5.out.ext E18.out)
      have Z18 := Lib.hid (show w16.heap.size ≤ w17.heap.size ∧ w18.heap.size = w17.heap.size + 1 from ⟨Z17.out, by rw [hw18]; simp⟩)
      clear hw18 E18 Z17
      have x0 := S.out.p.c3
      go_wp2_with fail
      clear x0
      refine (refWantM_any lots size la sb l _ w18 S.out.a HG.out).mono ?_
      rintro e w19 ⟨⟨v, rfl, hv⟩, hE⟩
      rw [HE7.out] at hv ⊢
      obtain ⟨A8, n8, c8, L8, rfl, hn8, tw8⟩ := hv.form
      rw [HM7.out] at tw8 ⊢
      replace S := Lib.hid (S.out.ext hE); replace E5 := Lib.hid (E5.out.trans hE); replace P3 := Lib.hid (P3.out.ext hE); replace P5 := Lib.hid (P5.out.ext hE); replace Q5 := Lib.hid (Q5.out.ext hE); replace P7 := Lib.hid (P7.out.ext hE)
      have Q7 := Lib.hid (show Pair M7 w17.heap.size w19.heap.size A7 A8 n7 c7 n8 c8 L7 L8 (w19.alloc (.cells #[.int .i64 M7.lots, .int .i64 M7.size, .slice A8 n8 c8] 24)) from ⟨P7.out.box.ext (Ext.al _ _), Blk.new _ _ _, (M7L.out.ext hE).ext (Ext.al _ _), tw8.mlc.ext (Ext.al _ _), M7P.out.trans tw8.map.symm⟩)
      have Z19 := Lib.hid hE.size
      clear hE hv tw8 hn8 M7L M7P
      go_upto_region 14 with (fail)
      obtain ⟨w20, hw20⟩ : ∃ W, W = w19.alloc (.cells #[.int .i64 M7.lots, .int .i64 M7.size, .slice A8 n8 c8] 24) := ⟨_, rfl⟩
      rw [← hw20] at Q7 ⊢
      have E20 := Lib.hid (show Ext w19 w20 from hw20 ▸ Ext.al _ _)
      replace S := Lib.hid (S.out.ext E20.out); replace E5 := Lib.hid (E5.out.trans E20.out); replace P3 := Lib.hid (P3.out.ext E20.out); replace P5 := Lib.hid (P5.out.ext E20.out); replace Q5 := Lib.hid (Q5.out.ext E20.out); replace P7 := Lib.hid (P7.out.ext E20.out)
      have Z20 := Lib.hid (show w18.heap.size ≤ w20.heap.size from Nat.le_trans Z19.out E20.out.size)
      clear hw20 E20 Z19
      have x0 := Q5.out.x.c3; have x1 := Q5.out.y.c3
      go_wp2_with fail
      clear x0 x1
      refine (sameM_any M5.lots M5.size L5 L6 _ _ w20 Q5.out.m Q5.out.a Q5.out.b).mono ?_
      rintro e w21 ⟨rfl, hE⟩
      replace S := Lib.hid (S.out.ext hE); replace E5 := Lib.hid (E5.out.trans hE); replace P3 := Lib.hid (P3.out.ext hE); replace P5 := Lib.hid (P5.out.ext hE); replace P7 := Lib.hid (P7.out.ext hE); replace Q7 := Lib.hid (Q7.out.ext hE)
      have Z21 := Lib.hid (show w18.heap.size ≤ w21.heap.size from Nat.le_trans Z20.out hE.size)
      clear hE Q5 Z20
      have x0 := Q7.out.x.c3; have x1 := Q7.out.y.c3
      go_wp2_with fail
      clear x0 x1
      refine (sameM_any M7.lots M7.size L7 L8 _ _ w21 Q7.out.m Q7.out.a Q7.out.b).mono ?_
      rintro e w22 ⟨rfl, hE⟩
      replace S := Lib.hid (S.out.ext hE); replace E5 := Lib.hid (E5.out.trans hE); replace P3 := Lib.hid (P3.out.ext hE); replace P5 := Lib.hid (P5.out.ext hE); replace P7 := Lib.hid (P7.out.ext hE)
      have Z22 := Lib.hid (show w18.heap.size ≤ w22.heap.size from Nat.le_trans Z21.out hE.size)
      clear hE Q7 Z21
      have ZZ := Lib.hid (show w5.heap.size ≤ w7.heap.size ∧ w7.heap.size ≤ w8.heap.size ∧ w8.heap.size < w12.heap.size ∧ w12.heap.size ≤ w13.heap.size ∧ w13.heap.size < w16.heap.size ∧ w16.heap.size ≤ w17.heap.size ∧ w17.heap.size < w22.heap.size by
        have h3 := Z3.out; have h12 := Z12.out; have h14 := Z14.out; have h16 := Z16.out; have h18 := Z18.out; have h22 := Z22.out
        omega)
      clear Z3 Z12 Z14 Z16 Z18 Z22
      have x0 := P3.out.box.c3
      go_wp2_with fail
      refine (spoilM_any M3.lots M3.size L3 A3 n3 c3 w7.heap.size w8.heap.size w22 P3.out.sp P3.out.len P3.out.nb (by have := ZZ.out; omega)).mono ?_
      rintro e w23 ⟨⟨v1, rfl⟩, k⟩
      have G5 := Lib.hid (k.ext E5.out ZZ.out.1)
      replace P5 := Lib.hid (P5.out.gap k (.inl (by have := ZZ.out; omega)) (.inr (by have := ZZ.out; omega)))
      replace P7 := Lib.hid (P7.out.gap k (.inl (by have := ZZ.out; omega)) (.inr (by have := ZZ.out; omega)))
      have K1 := Lib.hid k.size
      clear k P3 S E5 x0
      have x0 := P5.out.box.c3
      go_wp2_with fail
      clear x0
      refine (spoilM_any M5.lots M5.size L5 A5 n5 c5 w12.heap.size w13.heap.size w23 P5.out.sp P5.out.len P5.out.nb (by have := ZZ.out; have := K1.out; omega)).mono ?_
      rintro e w24 ⟨⟨v2, rfl⟩, k⟩
      replace G5 := Lib.hid (k.ext G5.out (by have := ZZ.out; omega))
      replace P7 := Lib.hid (P7.out.gap k (.inl (by have := ZZ.out; omega)) (.inr (by have := ZZ.out; omega)))
      replace K1 := Lib.hid (Nat.le_trans K1.out k.size)
      clear k P5
      have x0 := P7.out.box.c3
      go_wp2_with fail
      clear x0
      refine (spoilM_any M7.lots M7.size L7 A7 n7 c7 w16.heap.size w17.heap.size w24 P7.out.sp P7.out.len P7.out.nb (by have := ZZ.out; have := K1.out; omega)).mono ?_
      rintro e w25 ⟨⟨v3, rfl⟩, k⟩
      have S := Lib.hid (S0.out.ext (k.ext G5.out (by have := ZZ.out; omega)))
      clear k P7 G5 S0 K1 ZZ
      have x0 := S.out.q.c3; have x1 := S.out.p.c3
      go_wp2_with fail
      clear x0 x1
      refine (sameM_any lots size L l _ _ w25 HMP.out S.out.b S.out.a).mono ?_
      rintro e w26 ⟨rfl, hE⟩
      replace S := Lib.hid (S.out.ext hE)
      clear hE
      have x0 := S.out.qx.c8; have x1 := S.out.px.c8
      go_wp2_with fail
      clear x0 x1
      refine (sameCotton_any r' x w26 HRC.out S.out.bx.1 S.out.bx.2 S.out.ax.1 S.out.ax.2).mono ?_
      rintro e w27 ⟨rfl, hE⟩
      replace S := Lib.hid (S.out.ext hE)
      clear hE
      go_wp2
      go_ret
      exact ⟨rfl, S.out.e⟩
end Go.Proofs.YtkpengeaolcjhaaDoor
