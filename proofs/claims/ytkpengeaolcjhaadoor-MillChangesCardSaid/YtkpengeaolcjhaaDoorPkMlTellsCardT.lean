/- mill.Fit; the reference's Check, Best, Even. -/
import Derived.Test.YtkpengeaolcjhaaDoorPkMlTellsCardS
import Derived.Test.YtkpengeaolcjhaaDoorPkMlTellsCardQ
namespace Go.Proofs.YtkpengeaolcjhaaDoor
open Go.RowKit Go.Shelf Go.Lib
set_option maxRecDepth 100000
set_option linter.unusedSimpArgs false

set_option maxHeartbeats 2000000 in
theorem fitM_any (lots size : Int) (l : List Rc) (sv : Value) (w : World) (hT : TabM w) (hs : MlC w sv l) (hlen : l.length ≤ 1000) :
    Calls Tryd.prog 9 #[valM lots size sv] w fun e w' => (∃ v, e = .returned (.tuple #[v, .int .i64 (errB (checkM (mOf lots size l)) 90)]) ∧ SlI w' v (fitR (mOf lots size l))) ∧ Ext w w' := by
  have HS := Lib.hid hs; have HT := Lib.hid hT; have HLN := Lib.hid hlen
  obtain ⟨A, n, c, rfl, hn, hlc, hcm⟩ := hs.1.form
  have HL := Lib.hid (show l.length = n from hn.out.symm)
  have hnb : n ≤ 1000 := by have := hn.out; omega
  clear hs hT hn hlen
  go_enter Tryd.func9, Tryd.ntmps9
  go_wp2_with fail
  refine (checkM_any lots size l _ _ (HT.out.ext (Ext.al _ _)) (HS.out.ext (Ext.al _ _)) HLN.out).mono ?_
  rintro e w1 ⟨rfl, hE⟩
  have HE1 := Lib.hid ((Ext.al w (.cells #[.int .i64 lots, .int .i64 size, .slice A n c] 24)).trans hE)
  have HB1 := Lib.hid ((Blk.new w 24 #[.int .i64 lots, .int .i64 size, .slice A n c]).ext hE)
  obtain ⟨b0, b1, b2, bf, bl⟩ := HB1.out.c3
  clear hE
  cases hc : checkM (mOf lots size l)
  · have HC := Lib.hid hc
    simp only [errB]
    clear hc
    go_wp2
    go_ret2
    exact ⟨⟨.slice none 0 0, by rw [HC.out]; rfl, by rw [fitR_no HC.out]; exact Sl.nil _⟩, HE1.out⟩
  have HC := Lib.hid hc
  simp only [errB]
  clear hc
  go_wp2_with fail
  refine (laid_any lots size l _ _ (HT.out.1.ext HE1.out) (HS.out.ext HE1.out) HLN.out).mono ?_
  rintro e w2 ⟨⟨m, nn, rfl, -, -, hmp⟩, hE⟩
  have HE2 := Lib.hid (HE1.out.trans hE); have HMP := Lib.hid hmp
  have HB2 := Lib.hid (HB1.out.ext hE)
  clear hE hmp b0 b1 b2 bf bl
  obtain ⟨b0, b1, b2, bf, bl⟩ := HB2.out.c3
  go_wp2_with fail
  obtain ⟨w3, hw3⟩ : ∃ w3, w3 = w2.alloc (.cells #[.int .i64 lots, .int .i64 size, .slice A n c, .map (some m)] 87) := ⟨_, rfl⟩
  rw [← hw3]
  have HE3 := Lib.hid (show Ext w w3 from hw3 ▸ HE2.out.alloc _)
  have HT3 := Lib.hid (show Blk w3 w2.heap.size 87 #[.int .i64 lots, .int .i64 size, .slice A n c, .map (some m)] from hw3 ▸ Blk.new _ _ _)
  have HMP3 := Lib.hid (show MapB w3 m nn (fitTo l l.length) from hw3 ▸ HMP.out.ext (Ext.al _ _))
  clear hw3 b0 b1 b2 bf bl
  refine (ids_any lots size l _ _ (HS.out.1.ext HE3.out) HLN.out).mono ?_
  rintro e w4 ⟨⟨iv, rfl, hiv⟩, hE⟩
  have HE4 := Lib.hid (HE3.out.trans hE)
  have HT4 := Lib.hid (HT3.out.ext hE)
  have HMP4 := Lib.hid (HMP3.out.ext hE)
  have hsi : SlI w4 iv (l.map (·.c.b.id)) := hiv.sl (fun _ => rfl)
  obtain ⟨Ai, ni, ci, rfl, hni, hli, hci⟩ := hsi.form
  have HSI := Lib.hid hsi
  obtain rfl : ni = n := by have := hni.out; rw [List.length_map] at this; have := HL.out; omega
  clear hE hiv hsi hni
  go_wp2
  go_loopg [6, 19] ni (fun gg s6 s19 wr => ∃ kk : Nat, kk ≤ ni ∧ ni - kk ≤ gg ∧ s19 = .int .i64 (kk : Int) ∧ Aside (Own encI 3 1 wr w4.heap.size s6 (fitIds ((l.take kk).map (·.c)))) ∧ Aside (Ext w4 wr))
  case atStart => exact ⟨0, by omega, by omega, by simp, Own.nil _ _, Ext.refl _⟩
  case round =>
    obtain ⟨kk, hkk, hgg, rfl, OW, HW⟩ := hrel
    by_cases hlt : kk < ni
    · have hltz : (kk : Int) < (ni : Int) := by omega
      have hin : In64 (kk : Int) := by unfold In64; omega
      obtain ⟨x, hx⟩ : ∃ x, l[kk]? = some x := ⟨_, List.getElem?_eq_getElem (by have := HL.out; omega)⟩
      obtain ⟨bi, offi, y, rfl, hy, hb, hcell⟩ := HSI.out.at_ hlt
      obtain rfl : x.c.b.id = y := by rw [List.getElem?_map, hx] at hy; simpa using hy
      have c0 := SlI.cell hcell HW.out
      have lk := (HMP4.out.ext HW.out).look hin
      rw [fitTo_at hx] at lk
      obtain ⟨t0, t1, t2, t3, tf, tl⟩ := (HT4.out.ext HW.out).c4
      have HTK := Lib.hid (show fitIds ((l.take (kk + 1)).map (·.c)) = fitIds ((l.take kk).map (·.c)) ++ (if fitB x.c then [x.c.b.id] else []) by rw [List.take_add_one, hx, List.map_append]; exact idsL_cons _ _)
      have HLB := Lib.hid (show (fitIds ((l.take kk).map (·.c))).length < 100000000000 by
        have h1 : (fitIds ((l.take kk).map (·.c))).length ≤ ((l.take kk).map (·.c)).length := by unfold fitIds; rw [List.length_map]; exact List.length_filter_le _ _
        rw [List.length_map, List.length_take] at h1; omega)
      generalize fitIds ((l.take kk).map (·.c)) = L0 at *
      clear hcell hx hy
      cases hfx : fitB x.c
      · have HX := Lib.hid hfx
        rw [hfx] at lk
        have HT2 := Lib.hid (show fitIds ((l.take (kk + 1)).map (·.c)) = L0 by rw [HTK.out, HX.out]; simp)
        clear hfx
        go_wp2
        go_roundg (ni - (kk + 1))
        case measure => omega
        case rel => exact ⟨kk + 1, by omega, by omega, by simp, by rw [HT2.out]; exact OW.out, HW.out⟩
      · have HX := Lib.hid hfx
        rw [hfx] at lk
        have HT2 := Lib.hid (show fitIds ((l.take (kk + 1)).map (·.c)) = L0 ++ [x.c.b.id] by rw [HTK.out, HX.out]; simp)
        clear hfx
        go_wp2_with (at_builtin; refine wpList_app encI 27 3 1 _ 8 Tryd.underlying27 info3x rfl (by decide) (by decide) (fun _ => rfl) encI_one rfl (.tmp 28) (.tmp 30) rfl w4.heap.size _ L0 rfl (OW.out.alloc _) wr.heap.size 1 x.c.b.id rfl (cells1 (by simp [go_sem])) HLB.out (by have := HW.out.size; simp; omega) ?_)
        intro g cap w' hown hg2 hbel _
        rw [← HT2.out] at hown
        have HO := Lib.hid hown
        have HB := Lib.hid (show Ext w4 w' from Below.trans (HW.out.alloc _) hbel)
        clear hown hbel
        go_wp2
        go_roundg (ni - (kk + 1))
        case measure => omega
        case rel => exact ⟨kk + 1, by omega, by omega, by simp, HO.out, HB.out⟩
    · have HE := Lib.hid (show kk = ni by omega)
      have hO := Own.sl (enc := encI) (fun _ => rfl) OW.out
      rw [List.take_of_length_le (by have := HE.out; have := HL.out; omega)] at hO
      have HO := Lib.hid hO
      clear hO
      go_wp2
      go_ret2
      exact ⟨⟨_, by rw [HC.out]; rfl, by rw [fitR_yes HC.out]; exact HO.out⟩, HE4.out.trans HW.out⟩

theorem refCheckM_any (lots size : Int) (l : List Rc) (sv : Value) (w : World) (hs : MlC w sv l) :
    Calls Tryd.prog 16 #[valM lots size sv] w fun e w' => e = .returned (.int .i64 (errB (checkM (mOf lots size l)) 90)) ∧ Ext w w' := by
  have HS := Lib.hid hs
  obtain ⟨A, n, c, rfl, hn, hlc, hcm⟩ := hs.1.form
  clear hs hn
  go_enter Tryd.func16, Tryd.ntmps16
  go_wp2_with fail
  refine (refMill_any lots size l _ _ (HS.out.ext (Ext.al _ _))).mono ?_
  rintro e w1 ⟨rfl, hE⟩
  rw [millR_eq]
  have HE1 := Lib.hid ((Ext.al w (.cells #[.int .i64 lots, .int .i64 size, .slice A n c] 24)).trans hE)
  clear hE
  cases hc : checkM (mOf lots size l)
  all_goals
    have HC := Lib.hid hc
    clear hc
    go_wp2
    go_ret
    exact ⟨by rw [HC.out]; rfl, HE1.out⟩
theorem bestT_of {lots size : Int} {l : List Rc} (hm : Mok (mOf lots size l)) : bestT (mOf lots size l) = (match bestP (mOf lots size l) with | none => ([], (0, 0), false) | some p => (p, unev (mOf lots size l) p, true)) := look_best hm
set_option maxHeartbeats 2000000 in
theorem refBestM_any (lots size : Int) (l : List Rc) (sv : Value) (w : World) (hs : MlC w sv l) :
    Calls Tryd.prog 12 #[valM lots size sv] w fun e w' => (∃ v, e = .returned (.tuple #[v, .int .i64 (bestE (mOf lots size l))]) ∧ SlI w' v (bestL (mOf lots size l))) ∧ Ext w w' := by
  have HS := Lib.hid hs
  obtain ⟨A, n, c, rfl, hn, hlc, hcm⟩ := hs.1.form
  clear hs hn
  go_enter Tryd.func12, Tryd.ntmps12
  go_wp2_with fail
  refine (refMill_any lots size l _ _ (HS.out.ext (Ext.al _ _))).mono ?_
  rintro e w1 ⟨rfl, hE⟩
  rw [millR_eq]
  have HE1 := Lib.hid ((Ext.al w (.cells #[.int .i64 lots, .int .i64 size, .slice A n c] 24)).trans hE)
  have HB1 := Lib.hid ((Blk.new w 24 #[.int .i64 lots, .int .i64 size, .slice A n c]).ext hE)
  obtain ⟨b0, b1, b2, bf, bl⟩ := HB1.out.c3
  clear hE
  cases hc : checkM (mOf lots size l)
  · have HQ := Lib.hid (be_no hc)
    clear hc
    go_wp2
    go_ret2
    exact ⟨⟨.slice none 0 0, by rw [HQ.out.1]; rfl, by rw [HQ.out.2.1]; exact Sl.nil _⟩, HE1.out⟩
  have HC := Lib.hid hc; have HM := Lib.hid (mok_of hc)
  clear hc
  go_wp2_with fail
  refine (refBestT_any lots size l _ _ HM.out (HS.out.ext HE1.out)).mono ?_
  rintro e w2 ⟨⟨v, rfl, hv⟩, hE⟩
  rw [bestT_of HM.out] at hv ⊢
  have HE2 := Lib.hid (HE1.out.trans hE)
  obtain ⟨Av, nv, cv, rfl, -, -, -⟩ := hv.form
  clear hE b0 b1 b2 bf bl
  cases hb : bestP (mOf lots size l) with
  | none =>
    have HQ := Lib.hid (be_few HC.out hb)
    clear hb hv
    go_wp2
    go_ret2
    exact ⟨⟨.slice none 0 0, by rw [HQ.out.1]; rfl, by rw [HQ.out.2.1]; exact Sl.nil _⟩, HE2.out.alloc _⟩
  | some p =>
    have HQ := Lib.hid (be_ok HC.out hb)
    rw [hb] at hv
    have HV2 := Lib.hid (show SlI w2 (.slice Av nv cv) p from hv)
    clear hb hv
    go_wp2
    go_ret2
    exact ⟨⟨.slice Av nv cv, by rw [HQ.out.1]; rfl, by rw [HQ.out.2.1]; exact HV2.out.ext (Ext.al _ _)⟩, HE2.out.alloc _⟩
set_option maxHeartbeats 2000000 in
theorem refEvenM_any (lots size : Int) (l : List Rc) (sv : Value) (w : World) (hs : MlC w sv l) :
    Calls Tryd.prog 14 #[valM lots size sv] w fun e w' => e = .returned (.tuple #[.int .i64 (evenU (mOf lots size l)).1, .int .i64 (evenU (mOf lots size l)).2, .int .i64 (bestE (mOf lots size l))]) ∧ Ext w w' := by
  have HS := Lib.hid hs
  obtain ⟨A, n, c, rfl, hn, hlc, hcm⟩ := hs.1.form
  clear hs hn
  go_enter Tryd.func14, Tryd.ntmps14
  go_wp2_with fail
  refine (refMill_any lots size l _ _ (HS.out.ext (Ext.al _ _))).mono ?_
  rintro e w1 ⟨rfl, hE⟩
  rw [millR_eq]
  have HE1 := Lib.hid ((Ext.al w (.cells #[.int .i64 lots, .int .i64 size, .slice A n c] 24)).trans hE)
  have HB1 := Lib.hid ((Blk.new w 24 #[.int .i64 lots, .int .i64 size, .slice A n c]).ext hE)
  obtain ⟨b0, b1, b2, bf, bl⟩ := HB1.out.c3
  clear hE
  cases hc : checkM (mOf lots size l)
  · have HQ := Lib.hid (be_no hc)
    clear hc
    go_wp2
    refine bodyPost_ret (v := .tuple #[.int .i64 (evenU (mOf lots size l)).1, .int .i64 (evenU (mOf lots size l)).2, .int .i64 (bestE (mOf lots size l))]) (by rw [HQ.out.1, HQ.out.2.2]; simp [results, Tryd.results14, go_sem]) rfl ?_
    exact ⟨rfl, HE1.out⟩
  have HC := Lib.hid hc; have HM := Lib.hid (mok_of hc)
  clear hc
  go_wp2_with fail
  refine (refBestT_any lots size l _ _ HM.out (HS.out.ext HE1.out)).mono ?_
  rintro e w2 ⟨⟨v, rfl, hv⟩, hE⟩
  rw [bestT_of HM.out] at hv ⊢
  have HE2 := Lib.hid (HE1.out.trans hE)
  obtain ⟨Av, nv, cv, rfl, -, -, -⟩ := hv.form
  clear hE b0 b1 b2 bf bl hv
  cases hb : bestP (mOf lots size l) with
  | none =>
    have HQ := Lib.hid (be_few HC.out hb)
    clear hb
    go_wp2
    refine bodyPost_ret (v := .tuple #[.int .i64 (evenU (mOf lots size l)).1, .int .i64 (evenU (mOf lots size l)).2, .int .i64 (bestE (mOf lots size l))]) (by rw [HQ.out.1, HQ.out.2.2]; simp [results, Tryd.results14, go_sem]) rfl ?_
    exact ⟨rfl, HE2.out.alloc _⟩
  | some p =>
    have HQ := Lib.hid (be_ok HC.out hb)
    clear hb
    obtain ⟨u, hu⟩ : ∃ u, unev (mOf lots size l) p = u := ⟨_, rfl⟩
    simp only [hu]
    have HU := Lib.hid hu
    clear hu
    go_wp2
    obtain ⟨w4, hw4⟩ : ∃ w4, w4 = w2.alloc (.cells #[.int .i64 u.1, .int .i64 u.2] 95) := ⟨_, rfl⟩
    rw [← hw4]
    have E4 := Lib.hid (show Ext w w4 from hw4 ▸ HE2.out.alloc _)
    have HB4 := Lib.hid (show Blk w4 w2.heap.size 95 #[.int .i64 u.1, .int .i64 u.2] from hw4 ▸ Blk.new _ _ _)
    clear hw4
    have q0 := fun V (h : Ext w4 V) => (HB4.out.ext h).c2.1
    have q1 := fun V (h : Ext w4 V) => (HB4.out.ext h).c2.2.1
    refine wp_region_tame (fun W => Ext w4 W) (fun W W' => Ext W W') (by kernel_rfl) 23 rfl (by decide +kernel) (Ext.refl _).drew ?_
    repeat (apply tame_q rfl; (intro ρ W hC hr hD; (obtain ⟨hrc, hrg, hrf, hrs⟩ := hr); (simp [go_sem] at hD); go_simp; first | exact ⟨⟨hC, Ext.refl _⟩, rfl⟩ | exact ⟨⟨hC, RS.refl _⟩, rfl⟩ | exact rfl); simp only [List.nil_append, List.cons_append])
    refine tame_end 23 rfl rfl (fun ρ W hC hr hF => ?_)
    obtain ⟨hrc, hrg, hrf, hrs⟩ := hr
    simp [go_sem] at hF
    apply frame_to
    · go_simp
      exact rfl
    clear hF hrs hrc hrg hrf
    have HC2 := Lib.hid (E4.out.trans hC)
    clear hC q0 q1
    go_wp2
    refine bodyPost_ret (v := .tuple #[.int .i64 (evenU (mOf lots size l)).1, .int .i64 (evenU (mOf lots size l)).2, .int .i64 (bestE (mOf lots size l))]) (by rw [HQ.out.1, HQ.out.2.2, HU.out]; simp [results, Tryd.results14, go_sem]) rfl ?_
    exact ⟨rfl, HC2.out⟩
end Go.Proofs.YtkpengeaolcjhaaDoor
