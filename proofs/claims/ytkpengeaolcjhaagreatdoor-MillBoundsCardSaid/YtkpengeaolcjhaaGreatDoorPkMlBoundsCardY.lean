/- mill.Fit; the reference's Check, Best, Even. -/
import Derived.Test.YtkpengeaolcjhaaGreatDoorPkMlBoundsCardT
import Derived.Test.YtkpengeaolcjhaaGreatDoorPkMlBoundsCardX
import Derived.Test.YtkpengeaolcjhaaGreatDoorPkMlBoundsCardU
import Derived.Test.YtkpengeaolcjhaaGreatDoorPkMlBoundsCardV
import Derived.Test.YtkpengeaolcjhaaGreatDoorPkMlBoundsCardW
import Derived.Laws.StructEq
import Derived.Test.YtkpengeaolcjhaaGreatDoorPkMlBoundsCardQ
import Derived.Test.YtkpengeaolcjhaaGreatDoorPkMlBoundsCardD
namespace Go.Proofs.YtkpengeaolcjhaaGreatDoor
open Go.RowKit Go.Shelf Go.Lib
set_option maxRecDepth 100000
set_option linter.unusedSimpArgs false

set_option maxHeartbeats 2000000 in
theorem fitM_any (lots size : Int) (l : List Rc) (sv : Value) (w : World) (hT : TabM w) (hs : MlC w sv l) (hlen : l.length ≤ 1000) :
    Calls Tryz.prog 35 #[valM lots size sv] w fun e w' => (∃ v, e = .returned (.tuple #[v, .int .i64 (errB (checkM (mOf lots size l)) 90)]) ∧ SlI w' v (fitR (mOf lots size l))) ∧ Ext w w' := by
  have HS := Lib.hid hs; have HT := Lib.hid hT; have HLN := Lib.hid hlen
  obtain ⟨A, n, c, rfl, hn, hlc, hcm⟩ := hs.1.form
  have HL := Lib.hid (show l.length = n from hn.out.symm)
  have hnb : n ≤ 1000 := by have := hn.out; omega
  clear hs hT hn hlen
  go_enter Tryz.func35, Tryz.ntmps35
  go_wp2_with fail
  refine (checkM_any lots size l _ _ (HT.out.ext (Ext.al _ _)) (HS.out.ext (Ext.al _ _)) HLN.out).mono ?_
  rintro e w1 ⟨rfl, hE⟩
  have HE1 := Lib.hid ((Ext.al w (.cells #[.int .i64 lots, .int .i64 size, .slice A n c] 24)).trans hE)
  have HB1 := Lib.hid ((Blk.new w 24 #[.int .i64 lots, .int .i64 size, .slice A n c]).ext hE)
  obtain ⟨b0, b1, b2, bf, bl⟩ := HB1.out.c3
  clear hE
  cases hc : checkM (mOf lots size l)
  · have HC := Lib.hid hc
    simp only [errB]
    clear hc
    go_wp2
    go_ret2
    exact ⟨⟨.slice none 0 0, by rw [HC.out]; rfl, by rw [fitR_no HC.out]; exact Sl.nil _⟩, HE1.out⟩
  have HC := Lib.hid hc
  simp only [errB]
  clear hc
  go_wp2_with fail
  refine (laid_any lots size l _ _ (HT.out.1.ext HE1.out) (HS.out.ext HE1.out) HLN.out).mono ?_
  rintro e w2 ⟨⟨m, nn, rfl, -, -, hmp⟩, hE⟩
  have HE2 := Lib.hid (HE1.out.trans hE); have HMP := Lib.hid hmp
  have HB2 := Lib.hid (HB1.out.ext hE)
  clear hE hmp b0 b1 b2 bf bl
  obtain ⟨b0, b1, b2, bf, bl⟩ := HB2.out.c3
  go_wp2_with fail
  obtain ⟨w3, hw3⟩ : ∃ w3, w3 = w2.alloc (.cells #[.int .i64 lots, .int .i64 size, .slice A n c, .map (some m)] 95) := ⟨_, rfl⟩
  rw [← hw3]
  have HE3 := Lib.hid (show Ext w w3 from hw3 ▸ HE2.out.alloc _)
  have HT3 := Lib.hid (show Blk w3 w2.heap.size 95 #[.int .i64 lots, .int .i64 size, .slice A n c, .map (some m)] from hw3 ▸ Blk.new _ _ _)
  have HMP3 := Lib.hid (show MapB w3 m nn (fitTo l l.length) from hw3 ▸ HMP.out.ext (Ext.al _ _))
  clear hw3 b0 b1 b2 bf bl
  refine (ids_any lots size l _ _ (HS.out.1.ext HE3.out) HLN.out).mono ?_
  rintro e w4 ⟨⟨iv, rfl, hiv⟩, hE⟩
  have HE4 := Lib.hid (HE3.out.trans hE)
  have HT4 := Lib.hid (HT3.out.ext hE)
  have HMP4 := Lib.hid (HMP3.out.ext hE)
  have hsi : SlI w4 iv (l.map (·.c.b.id)) := hiv.sl (fun _ => rfl)
  obtain ⟨Ai, ni, ci, rfl, hni, hli, hci⟩ := hsi.form
  have HSI := Lib.hid hsi
  obtain rfl : ni = n := by have := hni.out; rw [List.length_map] at this; have := HL.out; omega
  clear hE hiv hsi hni
  go_wp2
  go_loopg [6, 19] ni (fun gg s6 s19 wr => ∃ kk : Nat, kk ≤ ni ∧ ni - kk ≤ gg ∧ s19 = .int .i64 (kk : Int) ∧ Aside (Own encI 3 1 wr w4.heap.size s6 (fitIds ((l.take kk).map (·.c)))) ∧ Aside (Ext w4 wr))
  case atStart => exact ⟨0, by omega, by omega, by simp, Own.nil _ _, Ext.refl _⟩
  case round =>
    obtain ⟨kk, hkk, hgg, rfl, OW, HW⟩ := hrel
    by_cases hlt : kk < ni
    · have hltz : (kk : Int) < (ni : Int) := by omega
      have hin : In64 (kk : Int) := by unfold In64; omega
      obtain ⟨x, hx⟩ : ∃ x, l[kk]? = some x := ⟨_, List.getElem?_eq_getElem (by have := HL.out; omega)⟩
      obtain ⟨bi, offi, y, rfl, hy, hb, hcell⟩ := HSI.out.at_ hlt
      obtain rfl : x.c.b.id = y := by rw [List.getElem?_map, hx] at hy; simpa using hy
      have c0 := SlI.cell hcell HW.out
      have lk := (HMP4.out.ext HW.out).look hin
      rw [fitTo_at hx] at lk
      obtain ⟨t0, t1, t2, t3, tf, tl⟩ := (HT4.out.ext HW.out).c4
      have HTK := Lib.hid (show fitIds ((l.take (kk + 1)).map (·.c)) = fitIds ((l.take kk).map (·.c)) ++ (if fitB x.c then [x.c.b.id] else []) by rw [List.take_add_one, hx, List.map_append]; exact idsL_cons _ _)
      have HLB := Lib.hid (show (fitIds ((l.take kk).map (·.c))).length < 100000000000 by
        have h1 : (fitIds ((l.take kk).map (·.c))).length ≤ ((l.take kk).map (·.c)).length := by unfold fitIds; rw [List.length_map]; exact List.length_filter_le _ _
        rw [List.length_map, List.length_take] at h1; omega)
      generalize fitIds ((l.take kk).map (·.c)) = L0 at *
      clear hcell hx hy
      cases hfx : fitB x.c
      · have HX := Lib.hid hfx
        rw [hfx] at lk
        have HT2 := Lib.hid (show fitIds ((l.take (kk + 1)).map (·.c)) = L0 by rw [HTK.out, HX.out]; simp)
        clear hfx
        go_wp2
        go_roundg (ni - (kk + 1))
        case measure => omega
        case rel => exact ⟨kk + 1, by omega, by omega, by simp, by rw [HT2.out]; exact OW.out, HW.out⟩
      · have HX := Lib.hid hfx
        rw [hfx] at lk
        have HT2 := Lib.hid (show fitIds ((l.take (kk + 1)).map (·.c)) = L0 ++ [x.c.b.id] by rw [HTK.out, HX.out]; simp)
        clear hfx
        go_wp2_with (at_builtin; refine wpList_app encI 36 3 1 _ 8 Tryz.underlying36 info3x rfl (by decide) (by decide) (fun _ => rfl) encI_one rfl (.tmp 28) (.tmp 30) rfl w4.heap.size _ L0 rfl (OW.out.alloc _) wr.heap.size 1 x.c.b.id rfl (cells1 (by simp [go_sem])) HLB.out (by have := HW.out.size; simp; omega) ?_)
        intro g cap w' hown hg2 hbel _
        rw [← HT2.out] at hown
        have HO := Lib.hid hown
        have HB := Lib.hid (show Ext w4 w' from Below.trans (HW.out.alloc _) hbel)
        clear hown hbel
        go_wp2
        go_roundg (ni - (kk + 1))
        case measure => omega
        case rel => exact ⟨kk + 1, by omega, by omega, by simp, HO.out, HB.out⟩
    · have HE := Lib.hid (show kk = ni by omega)
      have hO := Own.sl (enc := encI) (fun _ => rfl) OW.out
      rw [List.take_of_length_le (by have := HE.out; have := HL.out; omega)] at hO
      have HO := Lib.hid hO
      clear hO
      go_wp2
      go_ret2
      exact ⟨⟨_, by rw [HC.out]; rfl, by rw [fitR_yes HC.out]; exact HO.out⟩, HE4.out.trans HW.out⟩

theorem bestT_of {lots size : Int} {l : List Rc} (hm : Mok (mOf lots size l)) : bestT (mOf lots size l) = (match bestP (mOf lots size l) with | none => ([], (0, 0), false) | some p => (p, unev (mOf lots size l) p, true)) := look_best hm
set_option maxHeartbeats 2000000 in
theorem refEvenM_any (lots size : Int) (l : List Rc) (sv : Value) (w : World) (hs : MlC w sv l) :
    Calls Tryz.prog 57 #[valM lots size sv] w fun e w' => e = .returned (.tuple #[.int .i64 (evenU (mOf lots size l)).1, .int .i64 (evenU (mOf lots size l)).2, .int .i64 (bestE (mOf lots size l))]) ∧ Ext w w' := by
  have HS := Lib.hid hs
  obtain ⟨A, n, c, rfl, hn, hlc, hcm⟩ := hs.1.form
  clear hs hn
  go_enter Tryz.func57, Tryz.ntmps57
  go_wp2_with fail
  refine (refMill_any lots size l _ _ (HS.out.ext (Ext.al _ _))).mono ?_
  rintro e w1 ⟨rfl, hE⟩
  rw [millR_eq]
  have HE1 := Lib.hid ((Ext.al w (.cells #[.int .i64 lots, .int .i64 size, .slice A n c] 24)).trans hE)
  have HB1 := Lib.hid ((Blk.new w 24 #[.int .i64 lots, .int .i64 size, .slice A n c]).ext hE)
  obtain ⟨b0, b1, b2, bf, bl⟩ := HB1.out.c3
  clear hE
  cases hc : checkM (mOf lots size l)
  · have HQ := Lib.hid (be_no hc)
    clear hc
    go_wp2
    refine bodyPost_ret (v := .tuple #[.int .i64 (evenU (mOf lots size l)).1, .int .i64 (evenU (mOf lots size l)).2, .int .i64 (bestE (mOf lots size l))]) (by rw [HQ.out.1, HQ.out.2.2]; simp [results, Tryz.results57, go_sem]) rfl ?_
    exact ⟨rfl, HE1.out⟩
  have HC := Lib.hid hc; have HM := Lib.hid (mok_of hc)
  clear hc
  go_wp2_with fail
  refine (refBestT_any lots size l _ _ HM.out (HS.out.ext HE1.out)).mono ?_
  rintro e w2 ⟨⟨v, rfl, hv⟩, hE⟩
  rw [bestT_of HM.out] at hv ⊢
  have HE2 := Lib.hid (HE1.out.trans hE)
  obtain ⟨Av, nv, cv, rfl, -, -, -⟩ := hv.form
  clear hE b0 b1 b2 bf bl hv
  cases hb : bestP (mOf lots size l) with
  | none =>
    have HQ := Lib.hid (be_few HC.out hb)
    clear hb
    go_wp2
    refine bodyPost_ret (v := .tuple #[.int .i64 (evenU (mOf lots size l)).1, .int .i64 (evenU (mOf lots size l)).2, .int .i64 (bestE (mOf lots size l))]) (by rw [HQ.out.1, HQ.out.2.2]; simp [results, Tryz.results57, go_sem]) rfl ?_
    exact ⟨rfl, HE2.out.alloc _⟩
  | some p =>
    have HQ := Lib.hid (be_ok HC.out hb)
    clear hb
    obtain ⟨u, hu⟩ : ∃ u, unev (mOf lots size l) p = u := ⟨_, rfl⟩
    simp only [hu]
    have HU := Lib.hid hu
    clear hu
    go_wp2
    obtain ⟨w4, hw4⟩ : ∃ w4, w4 = w2.alloc (.cells #[.int .i64 u.1, .int .i64 u.2] 109) := ⟨_, rfl⟩
    rw [← hw4]
    have E4 := Lib.hid (show Ext w w4 from hw4 ▸ HE2.out.alloc _)
    have HB4 := Lib.hid (show Blk w4 w2.heap.size 109 #[.int .i64 u.1, .int .i64 u.2] from hw4 ▸ Blk.new _ _ _)
    clear hw4
    have q0 := fun V (h : Ext w4 V) => (HB4.out.ext h).c2.1
    have q1 := fun V (h : Ext w4 V) => (HB4.out.ext h).c2.2.1
    refine wp_region_tame (fun W => Ext w4 W) (fun W W' => Ext W W') (by kernel_rfl) 23 rfl (by decide +kernel) (Ext.refl _).drew ?_
    repeat (apply tame_q rfl; (intro ρ W hC hr hD; (obtain ⟨hrc, hrg, hrf, hrs⟩ := hr); (simp [go_sem] at hD); go_simp; first | exact ⟨⟨hC, Ext.refl _⟩, rfl⟩ | exact ⟨⟨hC, RS.refl _⟩, rfl⟩ | exact rfl); simp only [List.nil_append, List.cons_append])
    refine tame_end 23 rfl rfl (fun ρ W hC hr hF => ?_)
    obtain ⟨hrc, hrg, hrf, hrs⟩ := hr
    simp [go_sem] at hF
    apply frame_to
    · go_simp
      exact rfl
    clear hF hrs hrc hrg hrf
    have HC2 := Lib.hid (E4.out.trans hC)
    clear hC q0 q1
    go_wp2
    refine bodyPost_ret (v := .tuple #[.int .i64 (evenU (mOf lots size l)).1, .int .i64 (evenU (mOf lots size l)).2, .int .i64 (bestE (mOf lots size l))]) (by rw [HQ.out.1, HQ.out.2.2, HU.out]; simp [results, Tryz.results57, go_sem]) rfl ?_
    exact ⟨rfl, HC2.out⟩
end Go.Proofs.YtkpengeaolcjhaaGreatDoor
/- The reference's Take, Want. -/
namespace Go.Proofs.YtkpengeaolcjhaaGreatDoor
open Go.RowKit Go.Shelf Go.Lib
set_option maxRecDepth 100000
set_option linter.unusedSimpArgs false

theorem placeM_cases {lots size id : Int} {l : List Rc} : placeM (mOf lots size l) id = -1 ∨ ∃ k : Nat, placeM (mOf lots size l) id = k ∧ k < l.length := by
  rcases idxF_cases (fun y => decide (id = y)) (l.map (·.c.b.id)) with ⟨hi, -⟩ | ⟨k, y, hi, hy, -, -⟩
  · exact .inl (by unfold placeM; rw [List.map_map]; exact hi)
  · refine .inr ⟨k, by unfold placeM; rw [List.map_map]; exact hi, ?_⟩
    have := (List.getElem?_eq_some_iff.1 hy).1
    simpa using this
set_option maxHeartbeats 8000000 in
theorem refTakeM_any (lots size id : Int) (l : List Rc) (sv : Value) (w : World) (hs : MlC w sv l) (hg : greatM l = false) (hlen : l.length ≤ 900) :
    Calls Tryz.prog 56 #[valM lots size sv, .int .i64 id] w fun e w' => (∃ v, e = .returned (.tuple #[v, .int .i64 (takeME (mOf lots size l) id)]) ∧ MlRet (takeME (mOf lots size l) id) (takeM (mOf lots size l) id) w.heap.size v w') ∧ Ext w w' := by
  have HS := Lib.hid hs; have HLN := Lib.hid hlen; have HG := Lib.hid hg
  obtain ⟨A, n, c, rfl, hn, hlc, hcm⟩ := hs.1.form
  have HL := Lib.hid (show l.length = n from hn.out.symm)
  clear hs hn hlen hg
  go_enter Tryz.func56, Tryz.ntmps56
  go_wp2_with fail
  obtain ⟨w2, hw2⟩ : ∃ w2, w2 = (w.alloc (.cells #[.int .i64 lots, .int .i64 size, .slice A n c] 24)).alloc (.cells #[.int .i64 0, .int .i64 0, .slice none 0 0] 24) := ⟨_, rfl⟩
  rw [← hw2]
  have B1 := Lib.hid (show Blk w2 w.heap.size 24 #[.int .i64 lots, .int .i64 size, .slice A n c] from hw2 ▸ (Blk.new _ _ _).alloc _)
  have BR := Lib.hid (show Blk w2 (w.heap.size + 1) 24 #[.int .i64 0, .int .i64 0, .slice none 0 0] from hw2 ▸ Blk.at_ (by simp))
  have E2 := Lib.hid (show Ext w w2 from hw2 ▸ (Ext.al _ _).alloc _)
  have HZ2 := Lib.hid (show w2.heap.size = w.heap.size + 2 by rw [hw2]; simp)
  clear hw2
  refine (refMill_any lots size l _ _ (HS.out.ext E2.out)).mono ?_
  rintro e w3 ⟨rfl, hE⟩
  rw [millR_eq]
  replace B1 := Lib.hid (B1.out.ext hE); replace BR := Lib.hid (BR.out.ext hE)
  have E3 := Lib.hid (E2.out.trans hE)
  have HZ3 := Lib.hid (show w.heap.size + 2 ≤ w3.heap.size by have := HZ2.out; have := hE.size; omega)
  clear hE E2 HZ2
  obtain ⟨b0, b1, b2, bf, bl⟩ := B1.out.c3
  obtain ⟨r0, r1, r2, rf, rl⟩ := BR.out.c3
  cases hc : checkM (mOf lots size l) with
  | false =>
    have HPE := Lib.hid (show takeME (mOf lots size l) id = 90 by unfold takeME; rw [hc]; rfl)
    clear hc
    go_wp2
    refine ret_set3N (BR.out) fun W' ⟨z0, z1, z2⟩ hW => ?_
    refine bodyPost_ret (v := .tuple #[valM 0 0 (.slice none 0 0), .int .i64 (90)]) (by simp only [results, Tryz.results56]; simp [go_sem, z0, z1, z2]) rfl ?_
    exact ⟨⟨_, by rw [HPE.out], .inr ⟨by rw [HPE.out]; decide, rfl⟩⟩, ext_grownP (E3.out) hW (by omega)⟩
  | true =>
    have HC := Lib.hid hc
    clear hc
    go_wp2_with fail
    refine (indexM_any lots size id l _ w3 (HS.out.ext E3.out) HLN.out).mono ?_
    rintro e w4 ⟨rfl, hE⟩
    replace B1 := Lib.hid (B1.out.ext hE); replace BR := Lib.hid (BR.out.ext hE)
    have E4 := Lib.hid (E3.out.trans hE)
    have HZ4 := Lib.hid (show w.heap.size + 2 ≤ w4.heap.size by have := HZ3.out; have := hE.size; omega)
    clear hE E3 b0 b1 b2 bf bl r0 r1 r2 rf rl
    obtain ⟨b0, b1, b2, bf, bl⟩ := B1.out.c3
    obtain ⟨r0, r1, r2, rf, rl⟩ := BR.out.c3
    rcases placeM_cases (lots := lots) (size := size) (id := id) (l := l) with hi | ⟨k, hi, hk⟩
    · rw [hi]
      have HPE := Lib.hid (show takeME (mOf lots size l) id = 6 by unfold takeME; rw [HC.out, hi]; rfl)
      clear hi
      go_wp2
      refine ret_set3N (BR.out) fun W' ⟨z0, z1, z2⟩ hW => ?_
      refine bodyPost_ret (v := .tuple #[valM 0 0 (.slice none 0 0), .int .i64 (6)]) (by simp only [results, Tryz.results56]; simp [go_sem, z0, z1, z2]) rfl ?_
      exact ⟨⟨_, by rw [HPE.out], .inr ⟨by rw [HPE.out]; decide, rfl⟩⟩, ext_grownP (E4.out) hW (by omega)⟩
    · rw [hi]
      have HPE := Lib.hid (show takeME (mOf lots size l) id = 0 by unfold takeME; rw [HC.out, hi, if_pos rfl, if_neg (by omega)])
      have HPK := Lib.hid (show (placeM (mOf lots size l) id).toNat = k by rw [hi]; simp)
      have hk0 : ¬ ((k : Int) < 0) := by omega
      have HK := Lib.hid hk
      clear hi hk
      go_wp2_with fail
      refine (dropM_any lots size l k _ w4 (HS.out.ext E4.out) HG.out HLN.out HK.out).mono ?_
      rintro e w5 ⟨⟨v, L, rfl, tv⟩, hE⟩
      replace BR := Lib.hid (BR.out.ext hE)
      have E5 := Lib.hid (E4.out.trans hE)
      have TW := Lib.hid tv
      obtain ⟨A2, n2, c2, rfl, -, -, -⟩ := tv.mlc.1.form
      clear tv hE b0 b1 b2 bf bl r0 r1 r2 rf rl B1
      obtain ⟨r0, r1, r2, rf, rl⟩ := BR.out.c3
      dsimp only [valM]
      go_wp2
      refine ret_set3N BR.out fun W' ⟨z0, z1, z2⟩ hW => ?_
      refine bodyPost_ret (v := .tuple #[valM lots size (.slice A2 n2 c2), .int .i64 0]) (by simp only [results, Tryz.results56]; simp [go_sem, z0, z1, z2]) rfl ?_
      exact ⟨⟨valM lots size (.slice A2 n2 c2), by rw [HPE.out], .inl ⟨HPE.out, _, L, rfl, by
        have h := (TW.out.offX (offX_grown BR.out hW)).mono (base' := w.heap.size) (by have := HZ4.out; omega)
        show TwinL w.heap.size (takeK (l.map (·.c)) (placeM (mOf lots size l) id).toNat) _ L W'
        rw [HPK.out]
        exact h⟩⟩, ext_grownP E5.out hW (by omega)⟩
end Go.Proofs.YtkpengeaolcjhaaGreatDoor
/- Without of both: a mill without a bale. -/
namespace Go.Proofs.YtkpengeaolcjhaaGreatDoor
open Go.RowKit Go.Shelf Go.Lib
set_option maxRecDepth 100000
set_option linter.unusedSimpArgs false

def lostM (m : Mll) (id : Int) : Int × Int × Int := if takeME m id = 0 then ((evenU (takeM m id)).1, (evenU (takeM m id)).2, bestE (takeM m id)) else (0, 0, takeME m id)
theorem takeK_len (l : List Cot) (i : Nat) : (takeK l i).length ≤ l.length := by
  unfold takeK
  rw [List.length_append, List.length_take, List.length_drop]
  omega
set_option maxHeartbeats 4000000 in
theorem withoutM_any (lots size id : Int) (l : List Rc) (sv : Value) (w : World) (hT : TabM w) (hs : MlC w sv l) (hlen : l.length ≤ 900) :
    Calls Tryz.prog 16 #[valM lots size sv, .int .i64 id] w fun e w' => e = .returned (.tuple #[.int .i64 (lostM (mOf lots size l) id).1, .int .i64 (lostM (mOf lots size l) id).2.1, .int .i64 (lostM (mOf lots size l) id).2.2]) ∧ Ext w w' := by
  have HS := Lib.hid hs; have HT := Lib.hid hT; have HLN := Lib.hid hlen
  obtain ⟨A, n, c, rfl, hn, hlc, hcm⟩ := hs.1.form
  have HL := Lib.hid (show l.length = n from hn.out.symm)
  clear hs hT hn hlen
  go_enter Tryz.func16, Tryz.ntmps16
  go_wp2_with fail
  obtain ⟨w2, hw2⟩ : ∃ w2, w2 = w.alloc (.cells #[.int .i64 lots, .int .i64 size, .slice A n c] 24) := ⟨_, rfl⟩
  rw [← hw2]
  have E2 := Lib.hid (show Ext w w2 from hw2 ▸ Ext.al _ _)
  clear hw2
  refine (takeM_any lots size id l _ w2 (HT.out.ext E2.out) (HS.out.ext E2.out) (by have := HLN.out; omega)).mono ?_
  rintro e w3 ⟨⟨v, rfl, hv⟩, hE⟩
  have E3 := Lib.hid (E2.out.trans hE)
  rcases hv with ⟨he, v0, L, rfl, tv⟩ | ⟨he, rfl⟩
  · rw [he]
    have HH := Lib.hid (show lostM (mOf lots size l) id = ((evenU (takeM (mOf lots size l) id)).1, (evenU (takeM (mOf lots size l) id)).2, bestE (takeM (mOf lots size l) id)) by unfold lostM; rw [if_pos he])
    have TW := Lib.hid tv
    have HLL := Lib.hid (show L.length ≤ 1000 by
      have h := congrArg List.length tv.map
      have h2 := takeK_len (mOf lots size l).cots (placeM (mOf lots size l) id).toNat
      have h3 : (takeM (mOf lots size l) id).cots = takeK (mOf lots size l).cots (placeM (mOf lots size l) id).toNat := rfl
      rw [h3] at h
      simp at h h2
      have := HLN.out
      omega)
    clear he tv hE E2
    obtain ⟨A2, n2, c2, rfl, -, -, -⟩ := TW.out.mlc.1.form
    go_wp2_with fail
    refine (evenM_any lots size L _ _ ((HT.out.ext E3.out).ext (Ext.al _ _)) (TW.out.mlc.ext (Ext.al _ _)) HLL.out).mono ?_
    rintro e w4 ⟨rfl, hE⟩
    have E4 := Lib.hid (E3.out.trans ((Ext.al _ _).trans hE))
    rw [show mOf lots size L = takeM (mOf lots size l) id by show (⟨lots, size, L.map (·.c)⟩ : Mll) = _; rw [TW.out.map]; rfl]
    clear hE E3
    go_wp2
    refine bodyPost_ret (v := .tuple #[.int .i64 (lostM (mOf lots size l) id).1, .int .i64 (lostM (mOf lots size l) id).2.1, .int .i64 (lostM (mOf lots size l) id).2.2]) (by rw [HH.out]; simp [results, Tryz.results16, go_sem]) rfl ?_
    exact ⟨rfl, E4.out⟩
  · obtain ⟨er, her⟩ : ∃ er, er = takeME (mOf lots size l) id := ⟨_, rfl⟩
    have HH := Lib.hid (show lostM (mOf lots size l) id = (0, 0, er) by unfold lostM; rw [if_neg he, her])
    rw [← her] at he ⊢
    have he' : (er == 0) = false := by simpa using he
    clear her hE E2
    go_wp2
    refine bodyPost_ret (v := .tuple #[.int .i64 (lostM (mOf lots size l) id).1, .int .i64 (lostM (mOf lots size l) id).2.1, .int .i64 (lostM (mOf lots size l) id).2.2]) (by rw [HH.out]; simp [results, Tryz.results16, go_sem]) rfl ?_
    exact ⟨rfl, E3.out.trans (Ext.al _ _)⟩
set_option maxHeartbeats 4000000 in
theorem refWithoutM_any (lots size id : Int) (l : List Rc) (sv : Value) (w : World) (hs : MlC w sv l) (hg : greatM l = false) (hlen : l.length ≤ 900) :
    Calls Tryz.prog 17 #[valM lots size sv, .int .i64 id] w fun e w' => e = .returned (.tuple #[.int .i64 (lostM (mOf lots size l) id).1, .int .i64 (lostM (mOf lots size l) id).2.1, .int .i64 (lostM (mOf lots size l) id).2.2]) ∧ Ext w w' := by
  have HS := Lib.hid hs; have HLN := Lib.hid hlen; have HG := Lib.hid hg
  obtain ⟨A, n, c, rfl, hn, hlc, hcm⟩ := hs.1.form
  have HL := Lib.hid (show l.length = n from hn.out.symm)
  clear hs hn hlen hg
  go_enter Tryz.func17, Tryz.ntmps17
  go_wp2_with fail
  obtain ⟨w2, hw2⟩ : ∃ w2, w2 = w.alloc (.cells #[.int .i64 lots, .int .i64 size, .slice A n c] 24) := ⟨_, rfl⟩
  rw [← hw2]
  have E2 := Lib.hid (show Ext w w2 from hw2 ▸ Ext.al _ _)
  clear hw2
  refine (refTakeM_any lots size id l _ w2 (HS.out.ext E2.out) HG.out HLN.out).mono ?_
  rintro e w3 ⟨⟨v, rfl, hv⟩, hE⟩
  have E3 := Lib.hid (E2.out.trans hE)
  rcases hv with ⟨he, v0, L, rfl, tv⟩ | ⟨he, rfl⟩
  · rw [he]
    have HH := Lib.hid (show lostM (mOf lots size l) id = ((evenU (takeM (mOf lots size l) id)).1, (evenU (takeM (mOf lots size l) id)).2, bestE (takeM (mOf lots size l) id)) by unfold lostM; rw [if_pos he])
    have TW := Lib.hid tv
    clear he tv hE E2
    obtain ⟨A2, n2, c2, rfl, -, -, -⟩ := TW.out.mlc.1.form
    go_wp2_with fail
    refine (refEvenM_any lots size L _ _ (TW.out.mlc.ext (Ext.al _ _))).mono ?_
    rintro e w4 ⟨rfl, hE⟩
    have E4 := Lib.hid (E3.out.trans ((Ext.al _ _).trans hE))
    rw [show mOf lots size L = takeM (mOf lots size l) id by show (⟨lots, size, L.map (·.c)⟩ : Mll) = _; rw [TW.out.map]; rfl]
    clear hE E3
    go_wp2
    refine bodyPost_ret (v := .tuple #[.int .i64 (lostM (mOf lots size l) id).1, .int .i64 (lostM (mOf lots size l) id).2.1, .int .i64 (lostM (mOf lots size l) id).2.2]) (by rw [HH.out]; simp [results, Tryz.results17, go_sem]) rfl ?_
    exact ⟨rfl, E4.out⟩
  · obtain ⟨er, her⟩ : ∃ er, er = takeME (mOf lots size l) id := ⟨_, rfl⟩
    have HH := Lib.hid (show lostM (mOf lots size l) id = (0, 0, er) by unfold lostM; rw [if_neg he, her])
    rw [← her] at he ⊢
    have he' : (er == 0) = false := by simpa using he
    clear her hE E2
    go_wp2
    refine bodyPost_ret (v := .tuple #[.int .i64 (lostM (mOf lots size l) id).1, .int .i64 (lostM (mOf lots size l) id).2.1, .int .i64 (lostM (mOf lots size l) id).2.2]) (by rw [HH.out]; simp [results, Tryz.results17, go_sem]) rfl ?_
    exact ⟨rfl, E3.out.trans (Ext.al _ _)⟩
end Go.Proofs.YtkpengeaolcjhaaGreatDoor
/- mill.Needs: the bales without which the best plan is less even, or there is none. -/
namespace Go.Proofs.YtkpengeaolcjhaaGreatDoor
open Go.RowKit Go.Shelf Go.Lib
set_option maxRecDepth 100000
set_option linter.unusedSimpArgs false

/-- Without the bale the best plan is as even. -/
def keepsB (m : Mll) (id : Int) : Bool := decide ((lostM m id).2.2 = 0) && decide (evenU m = ((lostM m id).1, (lostM m id).2.1))
def needL (m : Mll) : List Int := if bestE m = 0 then (idsL m).filter (fun id => !keepsB m id) else []
theorem und106 : Tryz.prog.underlying 106 = some (.struct (Tryz.prog.fieldsOf 106)) := by kernel_rfl
theorem held106 : Tryz.prog.stoodInHeld 106 = false := by kernel_rfl
theorem eqlU (a b : Int × Int) (w : World) : (binOp .eql 106 (valU a) (valU b)).run Tryz.prog w = .ok (.bool (decide (a = b))) w := by
  have u3 := Tryz.underlying3
  have a3 := Tryz.isAgg3
  have z3 := Tryz.sizeOf3
  rw [run_eql_struct, show (10000 : Nat) = 9999 + 1 from rfl, run_equalIn_agg w 9999 106 _ _ und106 held106]
  simp only [Program.fieldsOf, Tryz.underlying106]
  obtain ⟨a1, a2⟩ := a
  obtain ⟨b1, b2⟩ := b
  go_simp
  by_cases h0 : a1 = b1 <;> by_cases h1 : a2 = b2 <;> simp [h0, h1]
set_option maxHeartbeats 4000000 in
theorem f60_any (lots size id : Int) (l : List Rc) (A : Option Addr) (n c bm ba bb : Nat) (a b : Int) (w : World) (hT : TabM w) (hs : MlC w (.slice A n c) l) (hlen : l.length ≤ 900) (hB : Blk w bm 24 #[.int .i64 lots, .int .i64 size, .slice A n c]) (ha : Blk w ba 3 #[.int .i64 a]) (hb : Blk w bb 3 #[.int .i64 b])
    (hab : evenU (mOf lots size l) = (a, b)) :
    Calls Tryz.prog 60 #[.int .i64 id, .pointer (some ⟨bm, 0, none⟩), .pointer (some ⟨ba, 0, none⟩), .pointer (some ⟨bb, 0, none⟩)] w fun e w' => e = .returned (.bool (keepsB (mOf lots size l) id)) ∧ Ext w w' := by
  have HW := Lib.hid (withoutM_any lots size id l (.slice A n c) w hT hs hlen)
  obtain ⟨b0, b1, b2, bf, bl⟩ := hB.c3
  have HKB := Lib.hid (show keepsB (mOf lots size l) id = (decide ((lostM (mOf lots size l) id).2.2 = 0) && decide ((a, b) = ((lostM (mOf lots size l) id).1, (lostM (mOf lots size l) id).2.1))) by unfold keepsB; rw [hab])
  have HA := Lib.hid ha; have HBB := Lib.hid hb
  obtain ⟨p, q, e0, hlo⟩ : ∃ p q e0, lostM (mOf lots size l) id = (p, q, e0) := ⟨_, _, _, rfl⟩
  rw [HKB.out]
  rw [hlo] at HW ⊢
  have eq1 := fun w => eqlU (a, b) (p, q) w
  clear hT hs hlen hB ha hb hab HKB hlo
  go_enter Tryz.func60, Tryz.ntmps60
  go_wp2_with fail
  refine HW.out.mono ?_
  rintro e w1 ⟨rfl, hE⟩
  have E1 := Lib.hid hE
  have a0 := (HA.out.ext hE).cell 0
  have a1 := (HBB.out.ext hE).cell 0
  simp at a0 a1
  clear hE HW b0 b1 b2 bf
  by_cases h0 : e0 = 0
  · subst h0
    go_wp2
    go_ret
    exact ⟨by simp, E1.out⟩
  · have h0b : (e0 == 0) = false := by simpa using h0
    go_wp2
    go_ret
    exact ⟨by simp [h0], E1.out⟩
set_option maxHeartbeats 4000000 in
theorem needsM_any (lots size : Int) (l : List Rc) (sv : Value) (w : World) (hT : TabM w) (hs : MlC w sv l) (hlen : l.length ≤ 900) :
    Calls Tryz.prog 18 #[valM lots size sv] w fun e w' => (∃ v, e = .returned (.tuple #[v, .int .i64 (bestE (mOf lots size l))]) ∧ SlI w' v (needL (mOf lots size l))) ∧ Ext w w' := by
  have HS := Lib.hid hs; have HT := Lib.hid hT; have HLN := Lib.hid hlen
  obtain ⟨A, n, c, rfl, hn, hlc, hcm⟩ := hs.1.form
  have HL := Lib.hid (show l.length = n from hn.out.symm)
  have eg : ∀ args w, (callFunc 60 args).run Tryz.prog w = .ok (.enter 60 args) w := enters_of Tryz.func60 (by kernel_rfl) rfl
  clear hs hT hn hlen
  go_enter Tryz.func18, Tryz.ntmps18
  go_wp2_with fail
  have E0 := Lib.hid (Ext.al w (.cells #[.int .i64 lots, .int .i64 size, .slice A n c] 24))
  have B0 := Lib.hid (Blk.new w 24 #[.int .i64 lots, .int .i64 size, .slice A n c])
  refine (evenM_any lots size l _ _ (HT.out.ext E0.out) (HS.out.ext E0.out) (by have := HLN.out; omega)).mono ?_
  rintro e w1 ⟨rfl, hE⟩
  have E1 := Lib.hid (E0.out.trans hE)
  have B1 := Lib.hid (B0.out.ext hE)
  clear hE E0 B0
  obtain ⟨er, her⟩ : ∃ er, bestE (mOf lots size l) = er := ⟨_, rfl⟩
  obtain ⟨a, b, hab⟩ : ∃ a b, evenU (mOf lots size l) = (a, b) := ⟨_, _, rfl⟩
  rw [her, hab]
  have HER := Lib.hid her; have HAB := Lib.hid hab
  clear her hab
  dsimp only
  by_cases h0 : er = 0
  · subst h0
    go_upto_region 4 with (fail)
    obtain ⟨w3, hw3⟩ : ∃ w3, w3 = (w1.alloc (.cells #[.int .i64 a] 3)).alloc (.cells #[.int .i64 b] 3) := ⟨_, rfl⟩
    rw [← hw3]
    have E3 := Lib.hid (show Ext w w3 from hw3 ▸ (E1.out.alloc _).alloc _)
    have B3 := Lib.hid (show Blk w3 w.heap.size 24 #[.int .i64 lots, .int .i64 size, .slice A n c] from hw3 ▸ (B1.out.alloc _).alloc _)
    have BA := Lib.hid (show Blk w3 w1.heap.size 3 #[.int .i64 a] from hw3 ▸ (Blk.new _ _ _).alloc _)
    have BB := Lib.hid (show Blk w3 (w1.heap.size + 1) 3 #[.int .i64 b] from hw3 ▸ Blk.at_ (by simp))
    clear hw3 B1 E1
    obtain ⟨b0, b1, b2, bf, bl⟩ := B3.out.c3
    go_wp2_with fail
    refine (ids_any lots size l _ _ (HS.out.1.ext E3.out) (by have := HLN.out; omega)).mono ?_
    rintro e w4 ⟨⟨iv, rfl, hiv⟩, hE⟩
    have E4 := Lib.hid hE
    have HIV := Lib.hid hiv
    clear hE hiv b0 b1 b2 bf bl
    have HD := Lib.hid (deleteI_any 60 #[.pointer (some ⟨w.heap.size, 0, none⟩), .pointer (some ⟨w1.heap.size, 0, none⟩), .pointer (some ⟨w1.heap.size + 1, 0, none⟩)] eg (keepsB (mOf lots size l)) (l.map (·.c.b.id)) iv w3.heap.size w4 E4.out.size HIV.out fun W x hW => by
      have hX : Ext w3 W := Below.trans E4.out hW
      exact f60_any lots size x l A n c _ _ _ a b W (HT.out.ext (E3.out.trans hX)) (HS.out.ext (E3.out.trans hX)) HLN.out (B3.out.ext hX) (BA.out.ext hX) (BB.out.ext hX) HAB.out)
    go_wp2_with fail
    refine HD.out.mono ?_
    rintro e w5 ⟨v', rfl, hO, hG⟩
    have HO := Lib.hid (show SlI w5 v' (needL (mOf lots size l)) by
      have h := hO.sl (enc := encI) (fun _ => rfl)
      rw [show needL (mOf lots size l) = (l.map (·.c.b.id)).filter fun id => !keepsB (mOf lots size l) id by unfold needL; rw [HER.out, if_pos rfl]; simp [idsL, Function.comp_def]]
      exact h)
    have HE5 := Lib.hid (show Ext w w5 from E3.out.trans (Below.trans E4.out ((Below.refl _ w4).grown hG E4.out.size (fun k hk => (World.ownsRow.lt HIV.out k hk).1))))
    clear hO hG HD
    go_wp2
    go_ret2
    exact ⟨⟨_, by rw [HER.out]; rfl, HO.out⟩, HE5.out⟩
  · have h0b : (er == 0) = false := by simpa using h0
    have HNO := Lib.hid (show needL (mOf lots size l) = [] by unfold needL; rw [HER.out, if_neg h0])
    have HE1 := Lib.hid ((E1.out.alloc (.cells #[.int .i64 a] 3)).alloc (.cells #[.int .i64 b] 3))
    go_wp2
    go_ret2
    exact ⟨⟨_, by rw [HER.out]; rfl, by rw [HNO.out]; exact Sl.nil _⟩, HE1.out⟩
end Go.Proofs.YtkpengeaolcjhaaGreatDoor
/- The reference's Needs. -/
namespace Go.Proofs.YtkpengeaolcjhaaGreatDoor
open Go.RowKit Go.Shelf Go.Lib
set_option maxRecDepth 100000
set_option linter.unusedSimpArgs false

/-- The mill without the bale at i. -/
abbrev delM (m : Mll) (i : Nat) : Mll := ⟨m.lots, m.size, takeK m.cots i⟩
def needI (m : Mll) (u : Int × Int) (i : Nat) : Bool := match bestP (delM m i) with
  | none => true
  | some q => lessU u (unev (delM m i) q)
theorem del_at {m : Mll} {i : Nat} {x : Cot} (hc : checkM m = true) (hx : m.cots[i]? = some x) : takeM m x.b.id = delM m i ∧ takeME m x.b.id = 0 ∧ checkM (delM m i) = true := by
  have hp := place_at hc hx
  have hs := take_split hx
  refine ⟨by unfold takeM; rw [hp]; rfl, by unfold takeME; rw [hc, hp, if_pos rfl, if_neg (by omega)], ?_⟩
  have hc' : checkM ⟨m.lots, m.size, m.cots.take i ++ x :: m.cots.drop (i + 1)⟩ = true := by rw [← hs]; exact hc
  exact check_del hc'
theorem lost_at {m : Mll} {i : Nat} {x : Cot} (hc : checkM m = true) (hx : m.cots[i]? = some x) : lostM m x.b.id = ((evenU (delM m i)).1, (evenU (delM m i)).2, bestE (delM m i)) := by
  obtain ⟨h1, h2, -⟩ := del_at hc hx
  unfold lostM
  rw [if_pos h2, h1]
/-- Who is left out makes the best plan no more even. -/
theorem del_even {m : Mll} {i : Nat} {x : Cot} (hc : checkM m = true) (hx : m.cots[i]? = some x) {b q : List Int} (hb : bestP m = some b) (hq : bestP (delM m i) = some q) : lessU (unev (delM m i) q) (unev m b) = false := by
  have hs := take_split hx
  have hm' : Mok ⟨m.lots, m.size, m.cots.take i ++ x :: m.cots.drop (i + 1)⟩ := by rw [← hs]; exact mok_of hc
  obtain ⟨b', h1, h2⟩ := more_even (mok_of (del_at hc hx).2.2) hm' hq
  have e : (⟨m.lots, m.size, m.cots.take i ++ x :: m.cots.drop (i + 1)⟩ : Mll) = m := by rw [← hs]
  rw [e] at h1 h2
  rw [hb] at h1
  injection h1 with h1
  subst h1
  exact h2
theorem need_eq {m : Mll} {i : Nat} {x : Cot} {b : List Int} (hc : checkM m = true) (hx : m.cots[i]? = some x) (hb : bestP m = some b) : needI m (unev m b) i = !keepsB m x.b.id := by
  obtain ⟨-, -, h3⟩ := del_at hc hx
  unfold needI keepsB
  rw [lost_at hc hx]
  cases hq : bestP (delM m i) with
  | none => rw [(be_few h3 hq).1]; simp
  | some q =>
    rw [(be_ok h3 hq).1, (be_ok h3 hq).2.2, (be_ok hc hb).2.2]
    have h4 := del_even hc hx hb hq
    simp only [decide_true, Bool.true_and]
    by_cases e : unev m b = unev (delM m i) q
    · rw [e, lessU_irr]; simp
    · have : lessU (unev m b) (unev (delM m i) q) = true := by
        cases h5 : lessU (unev m b) (unev (delM m i) q) with
        | true => rfl
        | false => exact absurd (lessU_eq h5 h4) e
      rw [this, decide_eq_false e]; rfl
def needTo (m : Mll) (k : Nat) : List Int := ((idsL m).take k).filter fun id => !keepsB m id
theorem needTo_succ {m : Mll} {k : Nat} {x : Cot} (h : m.cots[k]? = some x) : needTo m (k + 1) = needTo m k ++ if !keepsB m x.b.id then [x.b.id] else [] := by
  unfold needTo idsL
  rw [List.take_add_one, List.getElem?_map, h, List.filter_append]
  congr 1
  by_cases hk : (!keepsB m x.b.id) = true
  · rw [if_pos hk]; simp [hk]
  · rw [if_neg hk]; simp [hk]
theorem needTo_len (m : Mll) (k : Nat) : (needTo m k).length ≤ k := by
  unfold needTo
  refine Nat.le_trans (List.length_filter_le _ _) ?_
  rw [List.length_take]; omega
theorem needL_no {m : Mll} (h : bestE m ≠ 0) : needL m = [] := by unfold needL; rw [if_neg h]
set_option maxHeartbeats 8000000 in
theorem refNeedsM_any (lots size : Int) (l : List Rc) (sv : Value) (w : World) (hs : MlC w sv l) (hg : greatM l = false) (hlen : l.length ≤ 900) :
    Calls Tryz.prog 19 #[valM lots size sv] w fun e w' => (∃ v, e = .returned (.tuple #[v, .int .i64 (bestE (mOf lots size l))]) ∧ SlI w' v (needL (mOf lots size l))) ∧ Ext w w' := by
  have HS := Lib.hid hs; have HLN := Lib.hid hlen; have HG := Lib.hid hg
  obtain ⟨A, n, c, rfl, hn, hlc, hcm⟩ := hs.1.form
  have HL := Lib.hid (show l.length = n from hn.out.symm)
  have hn9 : n ≤ 900 := by have := HL.out; omega
  clear hs hn hlen hg
  obtain ⟨E0, hE0⟩ : ∃ E0, bestE (mOf lots size l) = E0 := ⟨_, rfl⟩
  rw [hE0]
  have HE0 := Lib.hid hE0
  clear hE0
  go_enter Tryz.func19, Tryz.ntmps19
  go_wp2_with fail
  refine (refMill_any lots size l _ _ (HS.out.ext (Ext.al _ _))).mono ?_
  rintro e w1 ⟨rfl, hE⟩
  rw [millR_eq]
  have HE1 := Lib.hid ((Ext.al w (.cells #[.int .i64 lots, .int .i64 size, .slice A n c] 24)).trans hE)
  have HB1 := Lib.hid ((Blk.new w 24 #[.int .i64 lots, .int .i64 size, .slice A n c]).ext hE)
  obtain ⟨b0, b1, b2, bf, bl⟩ := HB1.out.c3
  clear hE
  cases hc : checkM (mOf lots size l)
  · have HC := Lib.hid (be_no hc).1
    have HNE := Lib.hid (needL_no (m := mOf lots size l) (by rw [HC.out]; decide))
    clear hc
    go_wp2
    go_ret2
    exact ⟨⟨.slice none 0 0, by rw [← HE0.out, HC.out]; rfl, by rw [HNE.out]; exact Sl.nil _⟩, HE1.out⟩
  have HC := Lib.hid hc
  have HMO := Lib.hid (mok_of hc)
  clear hc
  go_wp2_with fail
  refine (refBestT_any lots size l _ _ HMO.out (HS.out.ext HE1.out)).mono ?_
  rintro e w2 ⟨⟨pv, rfl, -⟩, hE⟩
  rw [bestT_of HMO.out]
  have HE2 := Lib.hid (HE1.out.trans hE)
  have HB2 := Lib.hid (HB1.out.ext hE)
  clear hE b0 b1 b2 bf bl
  cases hb : bestP (mOf lots size l) with
  | none =>
    have HB := Lib.hid (be_few HC.out hb).1
    have HNE := Lib.hid (needL_no (m := mOf lots size l) (by rw [HB.out]; decide))
    have HE3 := Lib.hid (HE2.out.alloc (.cells #[.int .i64 0, .int .i64 0] 109))
    clear hb
    go_wp2
    go_ret2
    exact ⟨⟨.slice none 0 0, by rw [← HE0.out, HB.out]; rfl, by rw [HNE.out]; exact Sl.nil _⟩, HE3.out⟩
  | some b =>
    have HB := Lib.hid hb
    have HBE := Lib.hid (be_ok HC.out hb).1
    obtain ⟨u, hu⟩ : ∃ u, unev (mOf lots size l) b = u := ⟨_, rfl⟩
    have HU := Lib.hid hu
    dsimp only
    rw [hu]
    clear hb hu
    go_upto_region 7 with (fail)
    obtain ⟨w3, hw3⟩ : ∃ w3, w3 = w2.alloc (.cells #[.int .i64 u.1, .int .i64 u.2] 109) := ⟨_, rfl⟩
    rw [← hw3]
    have HE3 := Lib.hid (show Ext w w3 from hw3 ▸ HE2.out.alloc _)
    have HB3 := Lib.hid (show Blk w3 w.heap.size 24 #[.int .i64 lots, .int .i64 size, .slice A n c] from hw3 ▸ HB2.out.alloc _)
    have HU3 := Lib.hid (show Blk w3 w2.heap.size 109 #[.int .i64 u.1, .int .i64 u.2] from hw3 ▸ Blk.new _ _ _)
    clear hw3
    obtain ⟨b0, b1, b2, bf, bl⟩ := HB3.out.c3
    go_wp2
    clear b0 b1 b2 bf bl
    go_loopg [7, 27] n (fun gg s7 s27 wr => ∃ kk : Nat, kk ≤ n ∧ n - kk ≤ gg ∧ s27 = .int .i64 (kk : Int) ∧ Aside (Own encI 3 1 wr w3.heap.size s7 (needTo (mOf lots size l) kk)) ∧ Aside (Ext w3 wr))
    case atStart => exact ⟨0, by omega, by omega, by simp, Own.nil _ _, Ext.refl _⟩
    case round =>
      obtain ⟨kk, hkk, hgg, rfl, OW, HW⟩ := hrel
      by_cases hlt : kk < n
      · have hltz : (kk : Int) < (n : Int) := by omega
        have hkz : (0 : Int) ≤ (kk : Int) := by omega
        obtain ⟨bi, offi, x, rfl, hx, hbx, hcell⟩ := HS.out.1.at_ hlt
        obtain ⟨c0, c1, c2, c3, c4, c5, c6, c7⟩ := SlC.cells hcell (HE3.out.trans HW.out)
        have hxm : (mOf lots size l).cots[kk]? = some x.c := by simp [hx]
        have HDA := Lib.hid (del_at HC.out hxm)
        have HNQ := Lib.hid (need_eq HC.out hxm HB.out)
        have HTS := Lib.hid (needTo_succ hxm)
        have HLB := Lib.hid (show (needTo (mOf lots size l) kk).length < 100000000000 by have := needTo_len (mOf lots size l) kk; omega)
        have HKL := Lib.hid (show kk < l.length by have := HL.out; omega)
        rw [HU.out] at HNQ
        obtain ⟨L0, hL0⟩ : ∃ L0, needTo (mOf lots size l) kk = L0 := ⟨_, rfl⟩
        rw [hL0] at OW HTS HLB
        clear hcell hx hxm hL0
        obtain ⟨b0, b1, b2, bf, bl⟩ := (HB3.out.ext HW.out).c3
        go_upto_region 10 with (fail)
        obtain ⟨w4, hw4⟩ : ∃ w4, w4 = wr.alloc (.cells #[.int .i64 x.c.b.id, .int .i64 x.c.b.layers, .int .i64 x.c.b.dry.lo, .int .i64 x.c.b.dry.hi, .slice x.da x.dn x.dc, .slice x.wa x.wn x.wc, .int .i64 x.c.len, .int .i64 x.c.str] 63) := ⟨_, rfl⟩
        rw [← hw4]
        have HX4 := Lib.hid (show Blk w4 wr.heap.size 63 #[.int .i64 x.c.b.id, .int .i64 x.c.b.layers, .int .i64 x.c.b.dry.lo, .int .i64 x.c.b.dry.hi, .slice x.da x.dn x.dc, .slice x.wa x.wn x.wc, .int .i64 x.c.len, .int .i64 x.c.str] from hw4 ▸ Blk.new _ _ _)
        have E4 := Lib.hid (show Ext wr w4 from hw4 ▸ Ext.al _ _)
        clear hw4 c0 c1 c2 c3 c4 c5 c6 c7 b0 b1 b2 bf bl
        obtain ⟨b0, b1, b2, bf, bl⟩ := (HB3.out.ext (HW.out.trans E4.out)).c3
        go_wp2_with fail
        refine (dropM_any lots size l kk _ w4 (HS.out.ext (HE3.out.trans (HW.out.trans E4.out))) HG.out HLN.out HKL.out).mono ?_
        rintro e w5 ⟨⟨v, L, rfl, tv⟩, hE⟩
        have E5 := Lib.hid (E4.out.trans hE)
        have HE45 := Lib.hid hE
        have TV := Lib.hid tv
        have HML := Lib.hid (show mOf lots size L = delM (mOf lots size l) kk by show (⟨lots, size, L.map (·.c)⟩ : Mll) = _; rw [tv.map])
        have HMD := Lib.hid (show Mok (mOf lots size L) by rw [HML.out]; exact mok_of HDA.out.2.2)
        clear tv hE b0 b1 b2 bf bl
        go_wp2_with fail
        refine (refBestT_any lots size L _ _ HMD.out TV.out.mlc).mono ?_
        rintro e w6 ⟨⟨pv2, rfl, -⟩, hE⟩
        rw [bestT_of HMD.out, HML.out]
        have E6 := Lib.hid (E5.out.trans hE)
        have X6 := Lib.hid ((HX4.out.ext (show Ext w4 w6 from HE45.out.trans hE)))
        clear hE
        cases hq : bestP (delM (mOf lots size l) kk) with
        | none =>
          have HQ := Lib.hid (show (!keepsB (mOf lots size l) x.c.b.id) = true by rw [← HNQ.out]; unfold needI; rw [hq])
          rw [HQ.out, if_pos rfl] at HTS
          clear hq
          obtain ⟨w7, hw7⟩ : ∃ w7, w7 = w6.alloc (.cells #[.int .i64 0, .int .i64 0] 109) := ⟨_, rfl⟩
          go_upto_region 11 with (fail)
          rw [← hw7]
          have E7 := Lib.hid (show Ext wr w7 from hw7 ▸ E6.out.alloc _)
          have X7 := Lib.hid (X6.out.ext (show Ext w6 w7 from hw7 ▸ Ext.al _ _))
          have O7 := Lib.hid (OW.out.ext E7.out)
          clear hw7
          have x0 := X7.out.cell 0
          have xl := X7.out.lt
          simp at x0
          go_wp2_with (at_builtin; refine wpList_app encI 36 3 1 _ 8 Tryz.underlying36 info3x rfl (by decide) (by decide) (fun _ => rfl) encI_one rfl (.tmp 47) (.tmp 51) rfl w3.heap.size _ L0 rfl (O7.out.alloc _) (w7).heap.size 1 x.c.b.id rfl (cells1 (by simp [go_sem])) HLB.out (by have := (HW.out.trans E7.out).size; simp; omega) ?_)
          intro g cap w' hown hg2 hbel _
          rw [← HTS.out] at hown
          have HO := Lib.hid hown
          have HBB := Lib.hid (show Ext w3 w' from Below.trans ((HW.out.trans E7.out).alloc _) hbel)
          clear hown hbel
          go_wp2
          go_roundg (n - (kk + 1))
          case measure => omega
          case rel => exact ⟨kk + 1, by omega, by omega, by simp, HO.out, HBB.out⟩
        | some q =>
          obtain ⟨u', hu'⟩ : ∃ u', unev (delM (mOf lots size l) kk) q = u' := ⟨_, rfl⟩
          have HQ := Lib.hid (show (!keepsB (mOf lots size l) x.c.b.id) = lessU u u' by rw [← HNQ.out]; unfold needI; rw [hq, ← hu'])
          dsimp only
          rw [hu']
          clear hq hu'
          obtain ⟨w7, hw7⟩ : ∃ w7, w7 = w6.alloc (.cells #[.int .i64 u'.1, .int .i64 u'.2] 109) := ⟨_, rfl⟩
          go_upto_region 11 with (fail)
          rw [← hw7]
          have E7 := Lib.hid (show Ext wr w7 from hw7 ▸ E6.out.alloc _)
          have X7 := Lib.hid (X6.out.ext (show Ext w6 w7 from hw7 ▸ Ext.al _ _))
          have U7 := Lib.hid (show Blk w7 w6.heap.size 109 #[.int .i64 u'.1, .int .i64 u'.2] from hw7 ▸ Blk.new _ _ _)
          have V7 := Lib.hid (HU3.out.ext (HW.out.trans E7.out))
          clear hw7
          have y0 := U7.out.cell 0
          have y1 := U7.out.cell 1
          have yl := U7.out.lt
          have z0 := V7.out.cell 0
          have z1 := V7.out.cell 1
          have zl := V7.out.lt
          simp at y0 y1 z0 z1
          go_wp2_with fail
          refine (refLess_any u u' _).mono ?_
          rintro e w8 ⟨rfl, hE⟩
          have E8 := Lib.hid (E7.out.trans hE)
          have X8 := Lib.hid (X7.out.ext hE)
          have O8 := Lib.hid (OW.out.ext E8.out)
          clear hE y0 y1 yl z0 z1 zl
          cases hlu : lessU u u' with
          | false =>
            have HNX := Lib.hid (show needTo (mOf lots size l) (kk + 1) = L0 by rw [HTS.out, HQ.out, hlu]; simp)
            have HW8 := Lib.hid (HW.out.trans E8.out)
            clear hlu
            go_wp2
            go_roundg (n - (kk + 1))
            case measure => omega
            case rel => exact ⟨kk + 1, by omega, by omega, by simp, by rw [HNX.out]; exact O8.out, HW8.out⟩
          | true =>
            rw [HQ.out, hlu, if_pos rfl] at HTS
            clear hlu
            have x0 := X8.out.cell 0
            have xl := X8.out.lt
            simp at x0
            go_wp2_with (at_builtin; refine wpList_app encI 36 3 1 _ 8 Tryz.underlying36 info3x rfl (by decide) (by decide) (fun _ => rfl) encI_one rfl (.tmp 47) (.tmp 51) rfl w3.heap.size _ L0 rfl (O8.out.alloc _) (w8).heap.size 1 x.c.b.id rfl (cells1 (by simp [go_sem])) HLB.out (by have := (HW.out.trans E8.out).size; simp; omega) ?_)
            intro g cap w' hown hg2 hbel _
            rw [← HTS.out] at hown
            have HO := Lib.hid hown
            have HBB := Lib.hid (show Ext w3 w' from Below.trans ((HW.out.trans E8.out).alloc _) hbel)
            clear hown hbel
            go_wp2
            go_roundg (n - (kk + 1))
            case measure => omega
            case rel => exact ⟨kk + 1, by omega, by omega, by simp, HO.out, HBB.out⟩
      · have HEN := Lib.hid (show kk = n by omega)
        have HFI := Lib.hid (show needTo (mOf lots size l) kk = needL (mOf lots size l) by
          unfold needTo needL
          rw [HBE.out, if_pos rfl, List.take_of_length_le (by simp [idsL, HL.out, HEN.out])])
        have HO := Lib.hid (show SlI wr _ (needL (mOf lots size l)) from HFI.out ▸ OW.out.sl (enc := encI) (fun _ => rfl))
        have HEE := Lib.hid (HE3.out.trans HW.out)
        go_wp2
        go_ret2
        exact ⟨⟨_, by rw [← HE0.out, HBE.out]; rfl, HO.out⟩, HEE.out⟩
end Go.Proofs.YtkpengeaolcjhaaGreatDoor
/- The reference's Most. -/
namespace Go.Proofs.YtkpengeaolcjhaaGreatDoor
open Go.RowKit Go.Shelf Go.Lib
set_option maxRecDepth 100000
set_option linter.unusedSimpArgs false

theorem run_makeBo {n : Nat} (hn : n ≤ 1000) (w : World) : (Instr.makeSlice 46 (.int .i64 (n : Int)) (.int .i64 (n : Int))).run Tryz.prog w = .ok (.slice (some ⟨w.heap.size, 0, none⟩) n n) (w.alloc (.cells (Array.replicate n (Value.bool false)) 4)) := by
  obtain ⟨i0, hi, hz0, hz1, hz2⟩ := info_parts info4x
  have h := run_make (P := Tryz.prog) w 46 4 i0 (.bool false) Tryz.underlying46 hi hz0 .i64 .i64 (n : Int) (n : Int) (by omega) (Int.le_refl _) (by rw [hz2]; omega) (by omega)
  rw [h, hz1]
  have e : madeCells (Value.bool false).cells ((n : Int).toNat * 1) = Array.replicate n (Value.bool false) := by
    apply Array.ext
    · simp [madeCells]
    · intro i h1 h2
      simp [madeCells, Value.cells, Nat.mod_one]
  rw [e]
  rfl
theorem flat_encBo : ∀ (l : List Bool), l.flatMap encBo = l.map Value.bool
  | [] => rfl
  | x :: l => by rw [List.flatMap_cons, flat_encBo l]; rfl
theorem free_of {n : Nat} {W : World} {b : Nat} (h : Blk W b 4 (Array.replicate n (Value.bool false))) (hn : n ≤ 1000) : SlBo W (.slice (some ⟨b, 0, none⟩) n n) (List.replicate n false) := by
  have ho : Own encBo 4 1 W b (.slice (some ⟨b, 0, none⟩) n n) (List.replicate n false) := by
    refine ⟨by simp, .inr ⟨b, n, _, by simp, Nat.le_refl _, h, by simp, by unfold maxLen; omega, by simp, ?_⟩⟩
    rw [flat_encBo]
    simp
  exact ho.sl (fun _ => rfl)
set_option maxHeartbeats 8000000 in
theorem refMostM_any (lots size L : Int) (l : List Rc) (sv : Value) (w : World) (hs : MlC w sv l) (hlen : l.length ≤ 1000) :
    Calls Tryz.prog 15 #[valM lots size sv, .int .i64 L] w fun e w' => e = .returned (.tuple #[.int .i64 (mostV (mOf lots size l) L), .int .i64 (mostE (mOf lots size l) L)]) ∧ Ext w w' := by
  have HS := Lib.hid hs; have HLN := Lib.hid hlen
  obtain ⟨A, n, c, rfl, hn, hlc, hcm⟩ := hs.1.form
  have HL := Lib.hid (show l.length = n from hn.out.symm)
  have hnb : n ≤ 1000 := by have := hn.out; omega
  clear hs hn hlen
  obtain ⟨V0, hV⟩ : ∃ V, mostV (mOf lots size l) L = V := ⟨_, rfl⟩
  obtain ⟨E0, hE0⟩ : ∃ E0, mostE (mOf lots size l) L = E0 := ⟨_, rfl⟩
  rw [hV, hE0]
  have HV := Lib.hid hV; have HE0 := Lib.hid hE0
  clear hV hE0
  go_enter Tryz.func15, Tryz.ntmps15
  go_wp2_with fail
  refine (refMill_any lots size l _ _ (HS.out.ext (Ext.al _ _))).mono ?_
  rintro e w1 ⟨rfl, hE⟩
  rw [millR_eq]
  have HE1 := Lib.hid ((Ext.al w (.cells #[.int .i64 lots, .int .i64 size, .slice A n c] 24)).trans hE)
  have HB1 := Lib.hid ((Blk.new w 24 #[.int .i64 lots, .int .i64 size, .slice A n c]).ext hE)
  obtain ⟨b0, b1, b2, bf, bl⟩ := HB1.out.c3
  clear hE
  cases hc : checkM (mOf lots size l)
  · have HC := Lib.hid (most_no (L := L) hc)
    clear hc
    go_wp2
    go_ret2
    exact ⟨by rw [← HV.out, ← HE0.out, HC.out.1, HC.out.2]; rfl, HE1.out⟩
  have HC := Lib.hid hc
  clear hc
  by_cases hL : L < 0
  · have HM := Lib.hid (most_arg HC.out hL)
    go_wp2
    go_ret2
    exact ⟨by rw [← HV.out, ← HE0.out, HM.out.1, HM.out.2]; rfl, HE1.out⟩
  have HM := Lib.hid (most_ok HC.out hL)
  have HMO := Lib.hid (mok_of HC.out)
  have HN7 := Lib.hid (show n ≤ 7 by have h := HMO.out.n7; simp at h; have := HL.out; omega)
  go_wp2_with fail
  refine (fits_any lots size l _ _ (HS.out.ext HE1.out) HLN.out).mono ?_
  rintro e w2 ⟨⟨fv, rfl, hfv⟩, hE⟩
  have HE2 := Lib.hid (HE1.out.trans hE)
  have HB2 := Lib.hid (HB1.out.ext hE)
  obtain ⟨Af, nf, cfv, rfl, hnf, hlf, hcf⟩ := (show SlBo w2 fv (fitL (mOf lots size l)) from hfv.sl (fun _ => rfl)).form
  have hnf' : nf = n := by have h1 := hnf.out; simp [fitL] at h1; have := HL.out; omega
  subst hnf'
  have HFV := Lib.hid (show SlBo w2 (.slice Af nf cfv) (fitL (mOf lots size l)) from hfv.sl (fun _ => rfl))
  clear hE hfv hnf b0 b1 b2 bf bl
  go_wp2
  go_loopg [6, 19] nf (fun gg s6 s19 wr => ∃ kk : Nat, kk ≤ nf ∧ nf - kk ≤ gg ∧ s19 = .int .i64 (kk : Int) ∧ Aside (Own encI 3 1 wr w2.heap.size s6 (sortedTo (mOf lots size l).cots kk)) ∧ Aside (Ext w2 wr))
  case atStart => exact ⟨0, by omega, by omega, by simp, Own.nil _ _, Ext.refl _⟩
  case round =>
    obtain ⟨kk, hkk, hgg, rfl, OW, HW⟩ := hrel
    by_cases hlt : kk < nf
    · have hltz : (kk : Int) < (nf : Int) := by omega
      have hkz : (0 : Int) ≤ (kk : Int) := by omega
      obtain ⟨bi, offi, x, rfl, hx, hb, hcell⟩ := HS.out.1.at_ hlt
      obtain ⟨bf, offf, bv, rfl, hbv, -, hcb⟩ := HFV.out.at_ hlt
      have HFB := Lib.hid (show fitB x.c = bv by simp [fitL, (show l[kk]? = some x from hx)] at hbv; exact hbv)
      have HSU := Lib.hid (sortedTo_succ (l := (mOf lots size l).cots) (k := kk) (x := x.c) (by simp [hx]))
      have HSL := Lib.hid (show (sortedTo (mOf lots size l).cots kk).length ≤ 7 by
        have h := sortedTo_len (mOf lots size l).cots kk (by have := HL.out; simp; omega)
        have := HN7.out; omega)
      obtain ⟨S, hS⟩ : ∃ S, sortedTo (mOf lots size l).cots kk = S := ⟨_, rfl⟩
      rw [hS] at OW HSU HSL
      have c0 := SlBo.cell hcb HW.out
      clear hbv hcb hS
      cases bv with
      | false =>
        have HNX := Lib.hid (show sortedTo (mOf lots size l).cots (kk + 1) = S by rw [HSU.out, if_neg (by rw [HFB.out]; simp)])
        clear hx hcell
        go_wp2
        go_roundg (nf - (kk + 1))
        case measure => omega
        case rel => exact ⟨kk + 1, by omega, by omega, by simp, by rw [HNX.out]; exact OW.out, HW.out⟩
      | true =>
        have HFX := Lib.hid (show fitB x.c = true from HFB.out)
        obtain ⟨d0, d1, d2, d3, d4, d5, d6, d7⟩ := SlC.cells hcell (HE2.out.trans HW.out)
        obtain ⟨b0, b1, b2, bf', bl⟩ := (HB2.out.ext HW.out).c3
        obtain ⟨A3, n3, c3, rfl, hn3, hlc3, hcm3⟩ := (show SlI wr _ S from OW.out.sl (fun _ => rfl)).form
        have HSN := Lib.hid (show S.length = n3 from hn3.out.symm)
        have HO3 := Lib.hid (show SlI wr (.slice A3 n3 c3) S from OW.out.sl (fun _ => rfl))
        clear hx hcell hn3
        go_wp2
        rename World => wO
        go_loopg [10] n3 (fun gg s10 wr => ∃ q : Nat, q ≤ n3 ∧ n3 - q ≤ gg ∧ s10 = .int .i64 (q : Int) ∧ Aside (q ≤ spotI S x.c.len) ∧ Aside (Ext wO wr))
        case atStart => exact ⟨0, by omega, by omega, by simp, Nat.zero_le _, Ext.refl _⟩
        case round =>
          obtain ⟨q, hqn, hgq, rfl, SQ, EX⟩ := hrel
          have hqz0 : (0 : Int) ≤ (q : Int) := by omega
          have HSW := Lib.hid (show SlI wr (.slice A3 n3 c3) S from HO3.out.ext EX.out)
          by_cases hlq : q < n3
          · have hlqz : (q : Int) < (n3 : Int) := by omega
            obtain ⟨b4, off4, y, rfl, hy, -, hcy⟩ := HSW.out.at_ hlq
            have c0 := SlI.cell hcy (Ext.refl _)
            by_cases hyx : y ≤ x.c.len
            · have HSQ := Lib.hid (show q + 1 ≤ spotI S x.c.len by
                have h1 := SQ.out
                by_cases e : q = spotI S x.c.len
                · have := spotI_at (n := x.c.len) (l := S) (y := y) (by rw [← e]; exact hy)
                  omega
                · omega)
              clear hy hcy
              go_wp2
              go_roundg (n3 - (q + 1))
              case measure => omega
              case rel => exact ⟨q + 1, by omega, by omega, by simp, HSQ.out, EX.out⟩
            · have HAT := Lib.hid (show spotI S x.c.len = q by
                have h1 := SQ.out
                by_cases e : q < spotI S x.c.len
                · have := spotI_lt e hy
                  omega
                · omega)
              clear hy hcy
              have hqc : (q : Int) ≤ (c3 : Int) := by omega
              have hqz : (0 : Int) ≤ (q : Int) := by omega
              have hqm : (q : Int) ≤ (n3 : Int) := by omega
              have HTL := Lib.hid (show (S.take q).length = q by have := HSN.out; simp; omega)
              have HFL := Lib.hid (show (S.take q ++ [x.c.len] ++ S.drop q).length ≤ 1000 by have := HSN.out; have := HSL.out; simp; omega)
              go_wp2_with fail
              refine wp_region_tame_cut (fun V => Ext wr V) (RF encI 1 3 wr.heap.size (S.take q ++ [x.c.len] ++ S.drop q) x.c.len) (by kernel_rfl) 67 rfl _ rfl (by decide +kernel) (by decide +kernel) (by decide +kernel) rfl (Ext.refl _).drew ?_
              simp only [List.dropLast]
              apply tame_v rfl (NewF encI 1 3 wr.heap.size ([] : List Int)) (fun v V V' _ hR h => ⟨hR.2.1 [] List.nil_prefix v h.1, h.2⟩)
              · intro ρ V hC hr hD
                obtain ⟨hrc, hrg, hrf, hrs⟩ := hr
                simp [go_sem] at hD
                go_simp
                exact ⟨⟨hC.alloc _, RF.ext (Ext.al _ _)⟩, ⟨Own.new (Blk.new _ _ _) hC.size, _, 0, rfl, fun _ => rfl⟩⟩
              simp only [List.nil_append, List.cons_append]
              repeat (apply tame_q rfl; (intro ρ W hC hr hD; (obtain ⟨hrc, hrg, hrf, hrs⟩ := hr); (simp [go_sem] at hD); go_simp; first | exact ⟨⟨hC, RF.refl _⟩, rfl⟩ | exact rfl); simp only [List.nil_append, List.cons_append])
              apply tame_v rfl (NewF encI 1 3 wr.heap.size (S.take q)) (fun v V V' _ hR h => ⟨hR.2.1 _ (by rw [List.append_assoc]; exact List.prefix_append _ _) v h.1, h.2⟩)
              · intro ρ V hC hr hD
                obtain ⟨hrc, hrg, hrf, hrs⟩ := hr
                simp [go_sem] at hD
                obtain ⟨d1, d2⟩ := hD
                have hh : SlI wr (ρ (.tmp 49)) (S.take q) := by
                  rw [d2]
                  exact Sl.head HSW.out hqn
                obtain ⟨v', V', hrun, hnew, hR, hB⟩ := run_appF (t := 36) (ty := 36) (enc := encI) (sz := 1) (m := S.take q) (y := x.c.len) Tryz.underlying36 info3x rfl (by decide) (by decide) (fun _ => rfl) encI_one d1 (F := S.take q ++ [x.c.len] ++ S.drop q) (by rw [List.nil_append, List.append_assoc]; exact List.prefix_append _ _) HFL.out hC.size (hh.ext hC)
                show opGives _ _ _ _ _ _ _
                unfold opGives execOp
                simp only [resolve, invoke, builtin, Sem.run_bind, Sem.run_pure, Result.andThen_ok, List.map_toArray, List.map_cons, List.map_nil, hrun]
                exact ⟨⟨Below.trans hC hB, hR⟩, by rw [List.nil_append] at hnew; exact hnew⟩
              simp only [List.nil_append, List.cons_append]
              repeat (apply tame_q rfl; (intro ρ W hC hr hD; (obtain ⟨hrc, hrg, hrf, hrs⟩ := hr); (simp [go_sem] at hD); go_simp; first | exact ⟨⟨hC, RF.refl _⟩, rfl⟩ | exact rfl); simp only [List.nil_append, List.cons_append])
              apply tame_v rfl (OneF encI 3 x.c.len) (fun v V V' _ hR h => by obtain ⟨g, h1, h2⟩ := h; exact ⟨g, h1, hR.2.2.1 g h2⟩)
              · intro ρ V hC hr hD
                obtain ⟨hrc, hrg, hrf, hrs⟩ := hr
                simp [go_sem] at hD
                go_simp
                exact ⟨⟨hC.alloc _, RF.ext (Ext.al _ _)⟩, ⟨_, rfl, Blk.new _ _ _⟩⟩
              simp only [List.nil_append, List.cons_append]
              apply tame_v rfl (NewF encI 1 3 wr.heap.size (S.take q ++ [x.c.len])) (fun v V V' _ hR h => ⟨hR.2.1 _ (List.prefix_append _ _) v h.1, h.2⟩)
              · intro ρ V hC hr hD
                obtain ⟨hrc, hrg, hrf, hrs⟩ := hr
                simp [go_sem] at hD
                obtain ⟨d1, ⟨g, d2, d3⟩, -⟩ := hD
                obtain ⟨v', V', hrun, hnew, hR, hB⟩ := run_appF (t := 36) (ty := 36) (enc := encI) (sz := 1) (m := [x.c.len]) (y := x.c.len) Tryz.underlying36 info3x rfl (by decide) (by decide) (fun _ => rfl) encI_one d1 (F := S.take q ++ [x.c.len] ++ S.drop q) (List.prefix_append _ _) HFL.out hC.size (Sl.single (c := 1) d3 (Nat.le_refl _) (by decide))
                rw [← d2] at hrun
                show opGives _ _ _ _ _ _ _
                unfold opGives execOp
                simp only [resolve, invoke, builtin, Sem.run_bind, Sem.run_pure, Result.andThen_ok, List.map_toArray, List.map_cons, List.map_nil, hrun]
                exact ⟨⟨Below.trans hC hB, hR⟩, hnew⟩
              simp only [List.nil_append, List.cons_append]
              repeat (apply tame_q rfl; (intro ρ W hC hr hD; (obtain ⟨hrc, hrg, hrf, hrs⟩ := hr); (simp [go_sem] at hD); go_simp; first | exact ⟨⟨hC, RF.refl _⟩, rfl⟩ | exact rfl); simp only [List.nil_append, List.cons_append])
              apply tame_v rfl (NewF encI 1 3 wr.heap.size (S.take q ++ [x.c.len] ++ S.drop q)) (fun v V V' _ hR h => ⟨hR.2.1 _ (List.prefix_refl _) v h.1, h.2⟩)
              · intro ρ V hC hr hD
                obtain ⟨hrc, hrg, hrf, hrs⟩ := hr
                simp [go_sem] at hD
                obtain ⟨d1, d2, -⟩ := hD
                have hh : SlI wr (ρ (.tmp 56)) (S.drop q) := by
                  rw [d2]
                  have hh := Sl.tail HSW.out hqn
                  simpa [sliced, Addr.add_lit] using hh
                obtain ⟨v', V', hrun, hnew, hR, hB⟩ := run_appF (t := 36) (ty := 36) (enc := encI) (sz := 1) (m := S.drop q) (y := x.c.len) Tryz.underlying36 info3x rfl (by decide) (by decide) (fun _ => rfl) encI_one d1 (F := S.take q ++ [x.c.len] ++ S.drop q) (List.prefix_refl _) HFL.out hC.size (hh.ext hC)
                show opGives _ _ _ _ _ _ _
                unfold opGives execOp
                simp only [resolve, invoke, builtin, Sem.run_bind, Sem.run_pure, Result.andThen_ok, List.map_toArray, List.map_cons, List.map_nil, hrun]
                exact ⟨⟨Below.trans hC hB, hR⟩, hnew⟩
              simp only [List.nil_append, List.cons_append]
              refine tame_end 67 rfl rfl (fun ρ V hC hr hF => ?_)
              obtain ⟨hrc, hrg, hrf, hrs⟩ := hr
              simp [go_sem] at hF
              obtain ⟨f37, f38, f39, f40, f41, f42, f43, f44, f45, f46, f47, f50o, Af, cf, f50, -⟩ := hF
              rw [f50] at f50o
              have HEV := Lib.hid hC
              have HNX := Lib.hid (show sortedTo (mOf lots size l).cots (kk + 1) = S.take q ++ x.c.len :: S.drop q by rw [HSU.out, if_pos HFX.out]; unfold insI; rw [HAT.out])
              have hln : (S.take q ++ x.c.len :: S.drop q).length = n3 + 1 := by have := HSN.out; simp; omega
              rw [hln] at f50 f50o
              rw [← HNX.out] at f50o
              have HO := Lib.hid (own_mono f50o (show w2.heap.size ≤ wr.heap.size from (HW.out.trans EX.out).size))
              clear f47 f50o hln HTL HFL HNX
              generalize ρ (Operand.tmp 56) = v56 at *
              apply frame_to
              · go_simp
                exact rfl
              clear f37 f38 f39 f40 f41 f42 f43 f44 f45 f46 f50 hrc hrg hrf hrs hC
              have HEF := Lib.hid (show Ext w2 V from (HW.out.trans EX.out).trans HEV.out)
              go_wp2
              go_roundg (nf - (kk + 1))
              case measure => omega
              case rel => exact ⟨kk + 1, by omega, by omega, by simp, HO.out, HEF.out⟩
          · have HAT := Lib.hid (show spotI S x.c.len = q by
              have h1 := SQ.out
              have := spotI_le S x.c.len
              have := HSN.out
              omega)
            have hqc : (q : Int) ≤ (c3 : Int) := by omega
            have hqz : (0 : Int) ≤ (q : Int) := by omega
            have hqm : (q : Int) ≤ (n3 : Int) := by omega
            have HTL := Lib.hid (show (S.take q).length = q by have := HSN.out; simp; omega)
            have HFL := Lib.hid (show (S.take q ++ [x.c.len] ++ S.drop q).length ≤ 1000 by have := HSN.out; have := HSL.out; simp; omega)
            go_wp2_with fail
            refine wp_region_tame_cut (fun V => Ext wr V) (RF encI 1 3 wr.heap.size (S.take q ++ [x.c.len] ++ S.drop q) x.c.len) (by kernel_rfl) 67 rfl _ rfl (by decide +kernel) (by decide +kernel) (by decide +kernel) rfl (Ext.refl _).drew ?_
            simp only [List.dropLast]
            apply tame_v rfl (NewF encI 1 3 wr.heap.size ([] : List Int)) (fun v V V' _ hR h => ⟨hR.2.1 [] List.nil_prefix v h.1, h.2⟩)
            · intro ρ V hC hr hD
              obtain ⟨hrc, hrg, hrf, hrs⟩ := hr
              simp [go_sem] at hD
              go_simp
              exact ⟨⟨hC.alloc _, RF.ext (Ext.al _ _)⟩, ⟨Own.new (Blk.new _ _ _) hC.size, _, 0, rfl, fun _ => rfl⟩⟩
            simp only [List.nil_append, List.cons_append]
            repeat (apply tame_q rfl; (intro ρ W hC hr hD; (obtain ⟨hrc, hrg, hrf, hrs⟩ := hr); (simp [go_sem] at hD); go_simp; first | exact ⟨⟨hC, RF.refl _⟩, rfl⟩ | exact rfl); simp only [List.nil_append, List.cons_append])
            apply tame_v rfl (NewF encI 1 3 wr.heap.size (S.take q)) (fun v V V' _ hR h => ⟨hR.2.1 _ (by rw [List.append_assoc]; exact List.prefix_append _ _) v h.1, h.2⟩)
            · intro ρ V hC hr hD
              obtain ⟨hrc, hrg, hrf, hrs⟩ := hr
              simp [go_sem] at hD
              obtain ⟨d1, d2⟩ := hD
              have hh : SlI wr (ρ (.tmp 49)) (S.take q) := by
                rw [d2]
                exact Sl.head HSW.out hqn
              obtain ⟨v', V', hrun, hnew, hR, hB⟩ := run_appF (t := 36) (ty := 36) (enc := encI) (sz := 1) (m := S.take q) (y := x.c.len) Tryz.underlying36 info3x rfl (by decide) (by decide) (fun _ => rfl) encI_one d1 (F := S.take q ++ [x.c.len] ++ S.drop q) (by rw [List.nil_append, List.append_assoc]; exact List.prefix_append _ _) HFL.out hC.size (hh.ext hC)
              show opGives _ _ _ _ _ _ _
              unfold opGives execOp
              simp only [resolve, invoke, builtin, Sem.run_bind, Sem.run_pure, Result.andThen_ok, List.map_toArray, List.map_cons, List.map_nil, hrun]
              exact ⟨⟨Below.trans hC hB, hR⟩, by rw [List.nil_append] at hnew; exact hnew⟩
            simp only [List.nil_append, List.cons_append]
            repeat (apply tame_q rfl; (intro ρ W hC hr hD; (obtain ⟨hrc, hrg, hrf, hrs⟩ := hr); (simp [go_sem] at hD); go_simp; first | exact ⟨⟨hC, RF.refl _⟩, rfl⟩ | exact rfl); simp only [List.nil_append, List.cons_append])
            apply tame_v rfl (OneF encI 3 x.c.len) (fun v V V' _ hR h => by obtain ⟨g, h1, h2⟩ := h; exact ⟨g, h1, hR.2.2.1 g h2⟩)
            · intro ρ V hC hr hD
              obtain ⟨hrc, hrg, hrf, hrs⟩ := hr
              simp [go_sem] at hD
              go_simp
              exact ⟨⟨hC.alloc _, RF.ext (Ext.al _ _)⟩, ⟨_, rfl, Blk.new _ _ _⟩⟩
            simp only [List.nil_append, List.cons_append]
            apply tame_v rfl (NewF encI 1 3 wr.heap.size (S.take q ++ [x.c.len])) (fun v V V' _ hR h => ⟨hR.2.1 _ (List.prefix_append _ _) v h.1, h.2⟩)
            · intro ρ V hC hr hD
              obtain ⟨hrc, hrg, hrf, hrs⟩ := hr
              simp [go_sem] at hD
              obtain ⟨d1, ⟨g, d2, d3⟩, -⟩ := hD
              obtain ⟨v', V', hrun, hnew, hR, hB⟩ := run_appF (t := 36) (ty := 36) (enc := encI) (sz := 1) (m := [x.c.len]) (y := x.c.len) Tryz.underlying36 info3x rfl (by decide) (by decide) (fun _ => rfl) encI_one d1 (F := S.take q ++ [x.c.len] ++ S.drop q) (List.prefix_append _ _) HFL.out hC.size (Sl.single (c := 1) d3 (Nat.le_refl _) (by decide))
              rw [← d2] at hrun
              show opGives _ _ _ _ _ _ _
              unfold opGives execOp
              simp only [resolve, invoke, builtin, Sem.run_bind, Sem.run_pure, Result.andThen_ok, List.map_toArray, List.map_cons, List.map_nil, hrun]
              exact ⟨⟨Below.trans hC hB, hR⟩, hnew⟩
            simp only [List.nil_append, List.cons_append]
            repeat (apply tame_q rfl; (intro ρ W hC hr hD; (obtain ⟨hrc, hrg, hrf, hrs⟩ := hr); (simp [go_sem] at hD); go_simp; first | exact ⟨⟨hC, RF.refl _⟩, rfl⟩ | exact rfl); simp only [List.nil_append, List.cons_append])
            apply tame_v rfl (NewF encI 1 3 wr.heap.size (S.take q ++ [x.c.len] ++ S.drop q)) (fun v V V' _ hR h => ⟨hR.2.1 _ (List.prefix_refl _) v h.1, h.2⟩)
            · intro ρ V hC hr hD
              obtain ⟨hrc, hrg, hrf, hrs⟩ := hr
              simp [go_sem] at hD
              obtain ⟨d1, d2, -⟩ := hD
              have hh : SlI wr (ρ (.tmp 56)) (S.drop q) := by
                rw [d2]
                have hh := Sl.tail HSW.out hqn
                simpa [sliced, Addr.add_lit] using hh
              obtain ⟨v', V', hrun, hnew, hR, hB⟩ := run_appF (t := 36) (ty := 36) (enc := encI) (sz := 1) (m := S.drop q) (y := x.c.len) Tryz.underlying36 info3x rfl (by decide) (by decide) (fun _ => rfl) encI_one d1 (F := S.take q ++ [x.c.len] ++ S.drop q) (List.prefix_refl _) HFL.out hC.size (hh.ext hC)
              show opGives _ _ _ _ _ _ _
              unfold opGives execOp
              simp only [resolve, invoke, builtin, Sem.run_bind, Sem.run_pure, Result.andThen_ok, List.map_toArray, List.map_cons, List.map_nil, hrun]
              exact ⟨⟨Below.trans hC hB, hR⟩, hnew⟩
            simp only [List.nil_append, List.cons_append]
            refine tame_end 67 rfl rfl (fun ρ V hC hr hF => ?_)
            obtain ⟨hrc, hrg, hrf, hrs⟩ := hr
            simp [go_sem] at hF
            obtain ⟨f37, f38, f39, f40, f41, f42, f43, f44, f45, f46, f47, f50o, Af, cf, f50, -⟩ := hF
            rw [f50] at f50o
            have HEV := Lib.hid hC
            have HNX := Lib.hid (show sortedTo (mOf lots size l).cots (kk + 1) = S.take q ++ x.c.len :: S.drop q by rw [HSU.out, if_pos HFX.out]; unfold insI; rw [HAT.out])
            have hln : (S.take q ++ x.c.len :: S.drop q).length = n3 + 1 := by have := HSN.out; simp; omega
            rw [hln] at f50 f50o
            rw [← HNX.out] at f50o
            have HO := Lib.hid (own_mono f50o (show w2.heap.size ≤ wr.heap.size from (HW.out.trans EX.out).size))
            clear f47 f50o hln HTL HFL HNX
            generalize ρ (Operand.tmp 56) = v56 at *
            apply frame_to
            · go_simp
              exact rfl
            clear f37 f38 f39 f40 f41 f42 f43 f44 f45 f46 f50 hrc hrg hrf hrs hC
            have HEF := Lib.hid (show Ext w2 V from (HW.out.trans EX.out).trans HEV.out)
            go_wp2
            go_roundg (nf - (kk + 1))
            case measure => omega
            case rel => exact ⟨kk + 1, by omega, by omega, by simp, HO.out, HEF.out⟩
    · have HEN := Lib.hid (show kk = nf by omega)
      have HST := Lib.hid (show sortedTo (mOf lots size l).cots kk = sortedL (mOf lots size l) by unfold sortedL; rw [show (mOf lots size l).cots.length = kk by simp [HL.out, HEN.out]])
      rw [HST.out] at OW
      have HSV := Lib.hid (show ∀ x ∈ sortedL (mOf lots size l), 1 ≤ x ∧ x ≤ 60 from fun x hx => by
        have h := (sortedL_ok (mOf lots size l)).2.mem_iff.1 hx
        unfold fitLens at h
        obtain ⟨y, hy, rfl⟩ := List.mem_map.1 h
        exact HMO.out.len y (List.mem_filter.1 hy).1)
      have HSL := Lib.hid (show (sortedL (mOf lots size l)).length ≤ 7 by
        rw [← HST.out]
        have h := sortedTo_len (mOf lots size l).cots kk (by have := HL.out; have := HEN.out; simp; omega)
        have := HN7.out; omega)
      have HSO := Lib.hid (sortedL_ok (mOf lots size l)).1
      obtain ⟨z, hz⟩ : ∃ z : Nat, size = ((z + 2 : Nat) : Int) := ⟨(size - 2).toNat, by have h : 2 ≤ size := HMO.out.s2; omega⟩
      have HZ := Lib.hid hz
      have HZ2 := Lib.hid (show z ≤ 2 by have h : size ≤ 4 := HMO.out.s4; omega)
      clear hz
      have HGV := Lib.hid (show mostN (mOf lots size l) L = ((grpF L size.toNat (sortedL (mOf lots size l)).length (sortedL (mOf lots size l)) : Nat) : Int) by
        unfold mostN
        rw [grp_eq (by have := HZ.out; show 2 ≤ size.toNat; omega) _ _ HSO.out (Nat.le_refl _)])
      obtain ⟨S, hS⟩ : ∃ S, sortedL (mOf lots size l) = S := ⟨_, rfl⟩
      rw [hS] at OW HSV HSL HGV
      obtain ⟨A3, n3, c3, rfl, hn3, hlc3, hcm3⟩ := (show SlI wr _ S from OW.out.sl (fun _ => rfl)).form
      have HSN := Lib.hid (show S.length = n3 from hn3.out.symm)
      have HO3 := Lib.hid (show SlI wr (.slice A3 n3 c3) S from OW.out.sl (fun _ => rfl))
      have hn37 : n3 ≤ 7 := by have := HSL.out; have := HSN.out; omega
      have HGR := Lib.hid (show ∀ V uv, Ext wr V → SlBo V uv (List.replicate n3 false) → Calls Tryz.prog 55 #[.slice A3 n3 c3, uv, .int .i64 size, .int .i64 L] V fun e V' => e = .returned (.int .i64 V0) ∧ Ext V V' from fun V uv hV hu => by
        have h := grp_any (L := L) HSL.out HZ.out HZ2.out (fun x hx => by have := HSV.out x hx; omega) HO3.out S.length (List.replicate n3 false) uv V hV hu (by simp [HSN.out]) (unU_len _ _)
        rw [← HSN.out, unU_free, ← HGV.out, ← HM.out.2, HV.out] at h
        rw [← HSN.out]
        exact h)
      clear hS hn3 OW HST
      have b0 := fun V (h : Ext wr V) => ((HB2.out.ext HW.out).ext h).c3.1
      have b1 := fun V (h : Ext wr V) => ((HB2.out.ext HW.out).ext h).c3.2.1
      have rm := fun W => run_makeBo (n := n3) (by omega) W
      go_wp2_with fail
      refine wp_region_tame (fun V => Ext wr V) (fun V V' => Ext V V') (by kernel_rfl) 67 rfl (by decide +kernel) (Ext.refl _).drew ?_
      repeat (apply tame_q rfl; (intro ρ W hC hr hD; (obtain ⟨hrc, hrg, hrf, hrs⟩ := hr); (simp [go_sem] at hD); go_simp; first | exact ⟨⟨hC, Ext.refl _⟩, rfl⟩ | exact ⟨⟨hC, RS.refl _⟩, rfl⟩ | exact rfl); simp only [List.nil_append, List.cons_append])
      apply tame_v rfl (fun v V => SlBo V v (List.replicate n3 false)) (fun v V V' _ hR h => h.ext hR)
      · intro ρ V hC hr hD
        obtain ⟨hrc, hrg, hrf, hrs⟩ := hr
        simp [go_sem] at hD
        go_simp
        exact ⟨⟨hC.alloc _, Ext.al _ _⟩, free_of (Blk.new _ _ _) (by omega)⟩
      simp only [List.nil_append, List.cons_append]
      repeat (apply tame_q rfl; (intro ρ W hC hr hD; (obtain ⟨hrc, hrg, hrf, hrs⟩ := hr); (simp [go_sem] at hD); go_simp; first | exact ⟨⟨hC, Ext.refl _⟩, rfl⟩ | exact ⟨⟨hC, RS.refl _⟩, rfl⟩ | exact rfl); simp only [List.nil_append, List.cons_append])
      apply tame_q rfl
      · intro ρ V hC hr hD
        obtain ⟨hrc, hrg, hrf, hrs⟩ := hr
        simp [go_sem] at hD
        have hu : SlBo V (ρ (.tmp 62)) (List.replicate n3 false) := by first | exact hD.2.1 | exact hD.1 | exact hD.2.2.1
        go_simp
        refine (HGR.out V _ hC hu).mono ?_
        rintro e w' ⟨rfl, hE⟩
        exact ⟨_, rfl, ⟨hC.trans hE, hE⟩, rfl⟩
      simp only [List.nil_append, List.cons_append]
      repeat (apply tame_q rfl; (intro ρ W hC hr hD; (obtain ⟨hrc, hrg, hrf, hrs⟩ := hr); (simp [go_sem] at hD); go_simp; first | exact ⟨⟨hC, Ext.refl _⟩, rfl⟩ | exact ⟨⟨hC, RS.refl _⟩, rfl⟩ | exact rfl); simp only [List.nil_append, List.cons_append])
      refine tame_end 67 rfl rfl (fun ρ V hC hr hF => ?_)
      obtain ⟨hrc, hrg, hrf, hrs⟩ := hr
      simp [go_sem] at hF
      obtain ⟨f1, f2, f3, -, f4, f5, f6, f7, f8, f9⟩ := hF
      generalize ρ (Operand.tmp 62) = v62 at *
      apply frame_to
      · go_simp
        exact rfl
      have HEF := Lib.hid (HE2.out.trans (HW.out.trans hC))
      clear f1 f2 f3 f4 f5 f6 f7 f8 f9 hrc hrg hrf hrs hC rm b0 b1
      go_wp2
      go_ret2
      exact ⟨by rw [← HE0.out, HM.out.1]; rfl, HEF.out⟩
end Go.Proofs.YtkpengeaolcjhaaGreatDoor
/- The law MillTells: the walk. -/
namespace Go.Proofs.YtkpengeaolcjhaaGreatDoor
open Go.RowKit Go.Shelf Go.Lib
set_option maxRecDepth 100000
set_option linter.unusedSimpArgs false

/-- What stands still while a law of the mill runs. -/
structure MsT (lots size : Int) (l L : List Rc) (w : World) (q : Nat) (A A2 : Option Addr) (n n2 c c2 : Nat) (W : World) : Prop where
  e : Ext w W
  p : Blk W w.heap.size 24 #[.int .i64 lots, .int .i64 size, .slice A n c]
  q : Blk W q 24 #[.int .i64 lots, .int .i64 size, .slice A2 n2 c2]
  t : TabM W
  a : MlC W (.slice A n c) l
  b : MlC W (.slice A2 n2 c2) L
theorem MsT.ext {lots size : Int} {l L : List Rc} {w : World} {q : Nat} {A A2 : Option Addr} {n n2 c c2 : Nat} {W W' : World} (h : MsT lots size l L w q A A2 n n2 c c2 W) (e : Ext W W') : MsT lots size l L w q A A2 n n2 c c2 W' :=
  ⟨h.e.trans e, h.p.ext e, h.q.ext e, h.t.ext e, h.a.ext e, h.b.ext e⟩
theorem greatM_len {l : List Rc} (h : greatM l = false) : l.length ≤ 14 := by
  unfold greatM at h; simp at h; omega
theorem mOf_map {lots size : Int} {l L : List Rc} (h : L.map (·.c) = l.map (·.c)) : mOf lots size L = mOf lots size l := by simp [mOf, h]
end Go.Proofs.YtkpengeaolcjhaaGreatDoor
/- The law MillBounds: the walk. -/
namespace Go.Proofs.YtkpengeaolcjhaaGreatDoor
open Go.RowKit Go.Shelf Go.Lib
set_option maxRecDepth 100000
set_option linter.unusedSimpArgs false

set_option maxHeartbeats 8000000 in
theorem millBounds_any (lots size L0 id : Int) (l : List Rc) (sv : Value) (w : World) (hT : TabM w) (hs : MlC w sv l) :
    Calls Tryz.prog 3 #[valM lots size sv, .int .i64 L0, .int .i64 id] w fun e w' => e = .returned (.bool true) ∧ Ext w w' := by
  have HT := Lib.hid hT; have HS := Lib.hid hs
  obtain ⟨A, n, c, rfl, hn, hlc, hcm⟩ := hs.1.form
  clear hs hT hn hlc hcm
  go_enter Tryz.func3, Tryz.ntmps3
  dsimp only [valM]
  go_wp2_with fail
  generalize hw0 : (w.alloc (.cells #[.int .i64 lots, .int .i64 size, .slice A n c] 24)) = w0
  have HE0 := Lib.hid (show Ext w w0 from hw0 ▸ Ext.al _ _)
  have HB0 := Lib.hid (show Blk w0 w.heap.size 24 #[.int .i64 lots, .int .i64 size, .slice A n c] from hw0 ▸ Blk.new _ _ _)
  clear hw0
  refine (greatM_any lots size l _ _ (HS.out.ext HE0.out)).mono ?_
  rintro e w1 ⟨rfl, hE⟩
  have HE1 := Lib.hid (HE0.out.trans hE)
  have HB1 := Lib.hid (HB0.out.ext hE)
  clear hE HB0
  cases hg : greatM l with
  | true =>
    go_wp2
    go_ret
    exact ⟨rfl, HE1.out⟩
  | false =>
    have HLE := Lib.hid (greatM_len hg)
    have HG := Lib.hid hg; clear hg
    have x0 := HB1.out.c3
    go_wp2_with fail
    clear x0
    refine (twinM_any lots size l _ _ (HS.out.ext HE1.out) HG.out).mono ?_
    rintro e w2 ⟨⟨v, L, rfl, tv⟩, hE2⟩
    have HMC := Lib.hid tv.mlc; have HMP := Lib.hid tv.map
    obtain ⟨A2, n2, c2, rfl, -, -, -⟩ := tv.mlc.1.form
    have HE2 := Lib.hid (HE1.out.trans hE2)
    have HBx := Lib.hid (HB1.out.ext hE2)
    clear tv hE2 HB1 HE0 HE1
    dsimp only [valM]
    go_wp2_with fail
    have S := Lib.hid (show MsT lots size l L w w2.heap.size A A2 n n2 c c2 (w2.alloc (.cells #[.int .i64 lots, .int .i64 size, .slice A2 n2 c2] 24)) from
      ⟨HE2.out.alloc _, HBx.out.alloc _, Blk.new _ _ _, (HT.out.ext HE2.out).ext (Ext.al _ _), (HS.out.ext HE2.out).ext (Ext.al _ _), HMC.out.ext (Ext.al _ _)⟩)
    have HLL := Lib.hid (show L.length ≤ 900 by have := congrArg List.length HMP.out; simp at this; have := HLE.out; omega)
    have HLl := Lib.hid (show l.length ≤ 900 by have := HLE.out; omega)
    have HM := Lib.hid (mOf_map (lots := lots) (size := size) HMP.out)
    clear HT HS HMC HBx HE2
    refine (mostM_any lots size L0 L _ _ S.out.t S.out.b (by have := HLL.out; omega)).mono ?_
    rintro e w3 ⟨rfl, hE⟩
    rw [HM.out]
    replace S := Lib.hid (S.out.ext hE)
    clear hE
    have x0 := S.out.p.c3
    go_wp2_with fail
    clear x0
    refine (refMostM_any lots size L0 l _ _ S.out.a (by have := HLl.out; omega)).mono ?_
    rintro e w4 ⟨rfl, hE⟩
    replace S := Lib.hid (S.out.ext hE)
    obtain ⟨m1, hm1⟩ : ∃ x, mostV (mOf lots size l) L0 = x := ⟨_, rfl⟩
    obtain ⟨m2, hm2⟩ : ∃ x, mostE (mOf lots size l) L0 = x := ⟨_, rfl⟩
    rw [hm1, hm2]
    clear hE hm1 hm2
    have x0 := S.out.q.c3
    go_wp2_with fail
    clear x0
    refine (withoutM_any lots size id L _ _ S.out.t S.out.b HLL.out).mono ?_
    rintro e w5 ⟨rfl, hE⟩
    rw [HM.out]
    replace S := Lib.hid (S.out.ext hE)
    clear hE
    have x0 := S.out.p.c3
    go_wp2_with fail
    clear x0
    refine (refWithoutM_any lots size id l _ _ S.out.a HG.out HLl.out).mono ?_
    rintro e w6 ⟨rfl, hE⟩
    replace S := Lib.hid (S.out.ext hE)
    obtain ⟨p1, p2, p3, hlo⟩ : ∃ a b c, lostM (mOf lots size l) id = (a, b, c) := ⟨_, _, _, rfl⟩
    rw [hlo]
    clear hE hlo
    have x0 := S.out.q.c3
    go_wp2_with fail
    clear x0
    refine (needsM_any lots size L _ _ S.out.t S.out.b HLL.out).mono ?_
    rintro e w7 ⟨⟨v3, rfl, hv3⟩, hE⟩
    rw [HM.out] at hv3 ⊢
    have L3 := Lib.hid hv3; replace S := Lib.hid (S.out.ext hE)
    clear hv3 hE
    have x0 := S.out.p.c3
    go_wp2_with fail
    clear x0
    refine (refNeedsM_any lots size l _ _ S.out.a HG.out HLl.out).mono ?_
    rintro e w8 ⟨⟨v4, rfl, hv4⟩, hE⟩
    have L4 := Lib.hid hv4; replace L3 := Lib.hid (L3.out.ext hE); replace S := Lib.hid (S.out.ext hE)
    obtain ⟨e1, he1⟩ : ∃ x, bestE (mOf lots size l) = x := ⟨_, rfl⟩
    rw [he1]
    clear hv4 hE he1
    go_wp2_with fail
    refine (sameIntsM_any (needL (mOf lots size l)) _ _ _ L3.out L4.out).mono ?_
    rintro e w9 ⟨rfl, hE⟩
    replace S := Lib.hid (S.out.ext hE)
    clear hE L3 L4
    have x0 := S.out.p.c3
    have x1 := S.out.q.c3
    go_wp2_with fail
    clear x0 x1
    refine (sameM_any lots size L l _ _ _ HMP.out S.out.b S.out.a).mono ?_
    rintro e w10 ⟨rfl, hE⟩
    replace S := Lib.hid (S.out.ext hE)
    clear hE
    go_wp2
    go_ret
    exact ⟨rfl, S.out.e⟩
end Go.Proofs.YtkpengeaolcjhaaGreatDoor
