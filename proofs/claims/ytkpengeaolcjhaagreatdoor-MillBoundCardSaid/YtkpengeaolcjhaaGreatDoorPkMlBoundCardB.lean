/- The law MillBound: the walk; a plan whose lengths do not differ. -/
import Derived.Test.YtkpengeaolcjhaaGreatDoorPkMlBestCardX
import Derived.Test.YtkpengeaolcjhaaGreatDoorPkMlBoundCardA
import Derived.Test.YtkpengeaolcjhaaGreatDoorPkMlBestCardY
namespace Go.Proofs.YtkpengeaolcjhaaGreatDoor
open Go.RowKit Go.Shelf Go.Lib
set_option maxRecDepth 100000
set_option linter.unusedSimpArgs false

set_option maxHeartbeats 32000000 in
theorem millBound_flat (hA : AliveM) (lots size : Int) (x1 : Int) (l : List Rc) (sv : Value) (w : World) (hT : TabM w) (hs : MlC w sv l) (hx1 : 0 ≤ x1 ∧ x1 ≤ 255) (hbp : ∃ p, bestP (mOf lots size l) = some p ∧ (unev (mOf lots size l) p).1 = 0) :
    Calls Tryz.prog 5 #[valM lots size sv, .int .u8 x1] w fun e w' => e = .returned (.bool true) ∧ Ext w w' := by
  obtain ⟨hx10, hx15⟩ := hx1
  have HBP := Lib.hid hbp
  clear hbp
  have HS := Lib.hid hs; have HT := Lib.hid hT
  obtain ⟨A, n, c, rfl, hn, hlc, hcm⟩ := hs.1.form
  have HL := Lib.hid (show l.length = n from hn.out.symm)
  clear hs hT hn
  go_enter Tryz.func5, Tryz.ntmps5
  go_wp2_with fail
  have E0 := Lib.hid (Ext.al w (.cells #[.int .i64 lots, .int .i64 size, .slice A n c] 24))
  have B0 := Lib.hid (Blk.new w 24 #[.int .i64 lots, .int .i64 size, .slice A n c])
  refine (hA _ (HT.out.ext E0.out)).mono ?_
  rintro e w1 ⟨rfl, hE⟩
  have E1 := Lib.hid (E0.out.trans hE)
  have B1 := Lib.hid (B0.out.ext hE)
  clear hE E0 B0 hA
  obtain ⟨b0, b1, b2, bf, bl⟩ := B1.out.c3
  go_wp2_with fail
  refine (readyM_any lots size l _ _ (HS.out.ext E1.out)).mono ?_
  rintro e w2 ⟨rfl, hE⟩
  have E2 := Lib.hid (E1.out.trans hE)
  have B2 := Lib.hid (B1.out.ext hE)
  clear hE E1 B1 b0 b1 b2 bf bl
  obtain ⟨rd, hrd⟩ : ∃ rd, (!greatM l && checkM (mOf lots size l)) = rd := ⟨_, rfl⟩
  rw [hrd]
  cases rd with
  | false =>
    clear hrd
    go_wp2
    go_ret
    exact ⟨rfl, E2.out⟩
  | true =>
  rw [Bool.and_eq_true] at hrd
  have HG := Lib.hid (show greatM l = false by have h := hrd.1; revert h; cases greatM l <;> simp)
  have HC := Lib.hid hrd.2
  have HMO := Lib.hid (mok_of hrd.2)
  have HN7 := Lib.hid (show n ≤ 7 by have h := HMO.out.n7; simp at h; have := HL.out; omega)
  have HLN := Lib.hid (show l.length ≤ 900 by have := HN7.out; have := HL.out; omega)
  clear hrd
  obtain ⟨sz, hsz⟩ : ∃ sz : Nat, size = (sz : Int) := ⟨size.toNat, by have h : 2 ≤ size := HMO.out.s2; omega⟩
  subst hsz
  have hs2 : 2 ≤ sz := by have h : 2 ≤ (sz : Int) := HMO.out.s2; omega
  have hs4 : sz ≤ 4 := by have h : (sz : Int) ≤ 4 := HMO.out.s4; omega
  have hn7 : n ≤ 7 := HN7.out
  obtain ⟨iI, hiI, htI0⟩ := modB_at (x := x1) (n := 61) hx10 (by omega)
  have htI : x1.tmod 61 = (iI : Int) := htI0
  clear htI0
  have hx1w : IntKind.i64.wrap x1 = x1 := by rw [IntKind.wrap_i64]; omega
  have HMI := Lib.hid (most_ok (L := (iI : Int)) HC.out (by omega))
  obtain ⟨G, hG1, hG2⟩ : ∃ G, mostN (mOf lots sz l) (iI : Int) = (G : Nat) ∧ gr (iI : Int) sz (sortedL (mOf lots sz l)) = G := ⟨_, rfl, rfl⟩
  have HGN := Lib.hid (show mostN (mOf lots sz l) (iI : Int) = (G : Int) from hG1)
  have HG := Lib.hid hG2
  have HSAY := Lib.hid (bound_say (L := (iI : Int)) HC.out (by omega))
  clear hG1 hG2
  obtain ⟨b0, b1, b2, bf, bl⟩ := B2.out.c3
  go_wp2_with fail
  refine (fitted_any lots sz l _ _ (HT.out.ext E2.out) (HS.out.ext E2.out) HC.out).mono ?_
  rintro e w3 ⟨⟨fv, rfl, hfv⟩, hE⟩
  have E3 := Lib.hid (E2.out.trans hE)
  have B3 := Lib.hid (B2.out.ext hE)
  have F3 := Lib.hid (show SlBo w3 fv (fitL (mOf lots sz l)) from hfv.sl (fun _ => rfl))
  clear hE hfv E2 B2 b0 b1 b2 bf bl
  obtain ⟨b0, b1, b2, bf, bl⟩ := B3.out.c3
  go_wp2_with fail
  refine (evenM_any lots sz l _ _ (HT.out.ext E3.out) (HS.out.ext E3.out) (by have := HLN.out; omega)).mono ?_
  rintro e w4 ⟨rfl, hE⟩
  have E4 := Lib.hid (E3.out.trans hE)
  have B4 := Lib.hid (B3.out.ext hE)
  have F4 := Lib.hid (F3.out.ext hE)
  clear hE E3 B3 F3 b0 b1 b2 bf bl
  obtain ⟨Af, nf, cf, rfl, hnf, hlf, hcf⟩ := F4.out.form
  obtain rfl : n = nf := by have h1 := hnf.out; simp [fitL] at h1; have := HL.out; omega
  clear hnf
  rcases HSAY.out with ⟨p, hp, hq⟩ | ⟨hp, hq⟩
  · obtain ⟨p', h1, hz⟩ := HBP.out
    obtain rfl : p = p' := Option.some.inj (hp.symm.trans h1)
    clear h1
    have HBE := Lib.hid (be_ok HC.out hp)
    rw [HBE.out.1, HBE.out.2.2]
    have HA0 := Lib.hid (most_ok (L := (unev (mOf lots sz l) p).1) HC.out (by have := unev_pos (mOf lots sz l) p; omega))
    have HA1 := Lib.hid (most_le HMO.out hp (Int.le_refl (unev (mOf lots sz l) p).1))
    have HA2 := Lib.hid (show 0 < (unev (mOf lots sz l) p).1 → (mostE (mOf lots sz l) ((unev (mOf lots sz l) p).1 - 1) = 0 ∧ mostV (mOf lots sz l) ((unev (mOf lots sz l) p).1 - 1) = mostN (mOf lots sz l) ((unev (mOf lots sz l) p).1 - 1)) ∧ mostN (mOf lots sz l) ((unev (mOf lots sz l) p).1 - 1) < lots from fun h => ⟨most_ok HC.out (by omega), most_lt HMO.out hp (by omega) (by omega)⟩)
    have ha0 := unev_pos (mOf lots sz l) p
    have ha6 := unev_60 HMO.out p
    obtain ⟨a2, ha2⟩ : ∃ a2, (unev (mOf lots sz l) p).2 = a2 := ⟨_, rfl⟩
    rw [ha2]
    clear ha2
    obtain ⟨a, ha⟩ : ∃ a, (unev (mOf lots sz l) p).1 = a := ⟨_, rfl⟩
    rw [ha] at hz hq HA0 HA1 HA2 ha0 ha6 ⊢
    have hap : ¬ 0 < a := by omega
    clear hz
    have HQ := Lib.hid (show lots ≤ (G : Int) ↔ a ≤ (iI : Int) by rw [← HGN.out]; exact hq)
    have haw : IntKind.i64.wrap (a - 1) = a - 1 := by rw [IntKind.wrap_i64]; omega
    clear ha hp hq HBE HSAY HBP
    obtain ⟨b0, b1, b2, bf, bl⟩ := B4.out.c3
    go_wp2_with fail
    refine (mostM_any lots sz a l _ _ (HT.out.ext E4.out) (HS.out.ext E4.out) (by have := HLN.out; omega)).mono ?_
    rintro e w5 ⟨rfl, hE⟩
    rw [HA0.out.1, HA0.out.2]
    have E5 := Lib.hid (E4.out.trans hE)
    have B5 := Lib.hid (B4.out.ext hE)
    have F5 := Lib.hid (F4.out.ext hE)
    clear hE E4 B4 F4 b0 b1 b2 bf bl
    obtain ⟨Na, hNa⟩ : ∃ Na, mostN (mOf lots sz l) a = Na := ⟨_, rfl⟩
    have hna : ¬ Na < lots := by rw [← hNa]; have : lots ≤ _ := HA1.out; omega
    rw [hNa]
    clear hNa
    obtain ⟨b0, b1, b2, bf, bl⟩ := B5.out.c3
    go_wp2_with fail
    refine (mostM_any lots sz (iI : Int) l _ _ (HT.out.ext E5.out) (HS.out.ext E5.out) (by have := HLN.out; omega)).mono ?_
    rintro e w8 ⟨rfl, hE⟩
    rw [HMI.out.1, HMI.out.2, HGN.out]
    have E8 := Lib.hid (E5.out.trans hE)
    have B8 := Lib.hid (B5.out.ext hE)
    have F8 := Lib.hid (F5.out.ext hE)
    clear hE E5 B5 F5 b0 b1 b2 bf bl
    obtain ⟨b0, b1, b2, bf, bl⟩ := B8.out.c3
    go_upto_region 21 with (fail)
    obtain ⟨w9, hw9⟩ : ∃ w9, w9 = w8.alloc (.cells (cntV []).toArray 55) := ⟨_, rfl⟩
    rw [cntV_nil] at hw9
    simp only [List.replicate] at hw9
    rw [← hw9]
    have K9 := Lib.hid (show Blk w9 w8.heap.size 55 (cntV []).toArray from by rw [hw9, cntV_nil]; exact Blk.new _ _ _)
    have E9 := Lib.hid (show Ext w8 w9 from hw9 ▸ Ext.al _ _)
    clear hw9 b0 b1 b2 bf bl
    obtain ⟨b0, b1, b2, bf, bl⟩ := (B8.out.ext E9.out).c3
    go_wp2
    clear b0 b1 b2 bf bl
    go_loopg [97] n (fun gg s97 wr => ∃ kk : Nat, kk ≤ n ∧ n - kk ≤ gg ∧ s97 = .int .i64 (kk : Int) ∧ Aside (Blk wr w8.heap.size 55 (cntV (fitLen ((l.take kk).map (·.c)))).toArray) ∧ Aside (Ext w8 wr))
    case atStart => exact ⟨0, by omega, by omega, by simp, K9.out, E9.out⟩
    case round =>
      obtain ⟨kk, hkk, hgg, rfl, KW, HW⟩ := hrel
      by_cases hlt : kk < n
      · have hltz : (kk : Int) < (n : Int) := by omega
        have hkz : (0 : Int) ≤ (kk : Int) := by omega
        obtain ⟨bi, offi, x, rfl, hx, hb, hcell⟩ := HS.out.1.at_ hlt
        obtain ⟨bq, offq, bo, rfl, hbo, -, hcb⟩ := F8.out.at_ hlt
        obtain ⟨c0, c1, c2, c3, c4, c5, c6, c7⟩ := SlC.cells hcell (E8.out.trans HW.out)
        have HFX := Lib.hid (show fitB x.c = bo by simp [fitL, (show l[kk]? = some x from hx)] at hbo; exact hbo)
        have HTK := Lib.hid (show fitLen ((l.take (kk + 1)).map (·.c)) = fitLen ((l.take kk).map (·.c)) ++ (if fitB x.c then [x.c.len] else []) by rw [List.take_add_one, hx, List.map_append]; exact fitLen_snoc _ _)
        have HLB := Lib.hid (show (fitLen ((l.take kk).map (·.c))).length < 100000 by
          have h1 := fitLen_le ((l.take kk).map (·.c))
          rw [List.length_map, List.length_take] at h1; omega)
        obtain ⟨ln, hln⟩ : ∃ ln : Nat, x.c.len = (ln : Int) := ⟨x.c.len.toNat, by have := HMO.out.len x.c (List.mem_map.2 ⟨x, List.mem_of_getElem? hx, rfl⟩); omega⟩
        have hl61 : ln < 61 := by have := HMO.out.len x.c (List.mem_map.2 ⟨x, List.mem_of_getElem? hx, rfl⟩); omega
        have hl61z : (ln : Int) < 61 := by omega
        have hl0 : (0 : Int) ≤ (ln : Int) := by omega
        rw [hln] at HTK c6
        have d0 := SlBo.cell hcb (HW.out.trans (Ext.al wr (.cells #[.int .i64 x.c.b.id, .int .i64 x.c.b.layers, .int .i64 x.c.b.dry.lo, .int .i64 x.c.b.dry.hi, .slice x.da x.dn x.dc, .slice x.wa x.wn x.wc, .int .i64 (ln : Int), .int .i64 x.c.str] 63)))
        generalize fitLen ((l.take kk).map (·.c)) = L0 at *
        obtain ⟨cc, hcc⟩ : ∃ cc : Nat, L0.count (ln : Int) = cc := ⟨_, rfl⟩
        have hcb2 : cc < 100000 := by have h := List.count_le_length (a := (ln : Int)) (l := L0); have := HLB.out; omega
        have hcw : IntKind.i64.wrap ((cc : Int) + 1) = ((cc + 1 : Nat) : Int) := by rw [show (cc : Int) + 1 = ((cc + 1 : Nat) : Int) by omega]; exact wrap_nat (by omega)
        have g0 : wr.cell? ⟨w8.heap.size, ln, none⟩ = some (.int .i64 (cc : Int)) := by rw [KW.out.cell ln]; simp [cntV_at L0 hl61, hcc]
        have g1 := KW.out.frozen
        have g2 := KW.out.lt
        have HCC := Lib.hid hcc
        clear hcell hx hbo hcb hcc
        cases bo with
        | false =>
          have HT2 := Lib.hid (show fitLen ((l.take (kk + 1)).map (·.c)) = L0 by rw [HTK.out, HFX.out]; simp)
          go_wp2
          go_roundg (n - (kk + 1))
          case measure => omega
          case rel => exact ⟨kk + 1, by omega, by omega, by simp, by rw [HT2.out]; exact KW.out.ext (Ext.al _ _), HW.out.alloc _⟩
        | true =>
          have HT2 := Lib.hid (show cntV (fitLen ((l.take (kk + 1)).map (·.c))) = (cntV L0).set ln (.int .i64 ((cc : Int) + 1)) by rw [HTK.out, HFX.out, if_pos rfl, cntV_snoc L0 hl61, HCC.out]; rfl)
          go_wp2
          go_roundg (n - (kk + 1))
          case measure => omega
          case rel =>
            refine ⟨kk + 1, by omega, by omega, by simp, ?_, (HW.out.setCell (by dsimp only; omega) _).alloc _⟩
            rw [HT2.out]
            have h := (KW.out.set_ ln (.int .i64 ((cc : Int) + 1))).alloc (.cells #[.int .i64 x.c.b.id, .int .i64 x.c.b.layers, .int .i64 x.c.b.dry.lo, .int .i64 x.c.b.dry.hi, .slice x.da x.dn x.dc, .slice x.wa x.wn x.wc, .int .i64 (ln : Int), .int .i64 x.c.str] 63)
            rw [List.setIfInBounds_toArray] at h
            exact h
      · have HE := Lib.hid (show kk = n by omega)
        have HTT := Lib.hid (show fitLen ((l.take kk).map (·.c)) = fitLens (mOf lots sz l) by rw [List.take_of_length_le (by have := HE.out; have := HL.out; omega)]; rfl)
        rw [HTT.out] at KW
        have HOF := Lib.hid (outTo_fit (mOf lots sz l) HMO.out)
        have HTL := Lib.hid (show (fitLens (mOf lots sz l)).length ≤ 7 by
          have h := fitLen_le (mOf lots sz l).cots
          have e : (mOf lots sz l).cots.length = n := by simp [HL.out]
          rw [e] at h
          exact Nat.le_trans h hn7)
        have HTB := Lib.hid (show ∀ x ∈ fitLens (mOf lots sz l), 0 ≤ x ∧ x < 61 from fun x hx => by
          unfold fitLens at hx
          obtain ⟨y, hy, rfl⟩ := List.mem_map.1 hx
          have := HMO.out.len y (List.mem_filter.1 hy).1
          omega)
        obtain ⟨T, hT⟩ : ∃ T, fitLens (mOf lots sz l) = T := ⟨_, rfl⟩
        rw [hT] at KW HOF HTL HTB
        have EA := Lib.hid (E8.out.trans HW.out)
        have BA := Lib.hid (B8.out.ext HW.out)
        clear HE HTT hT E8 B8 F8 K9 E9 HW
        have HOL := Lib.hid (fun j hj => outTo_len T j hj HTB.out)
        go_wp2_with (refine wpList_load_row rfl 55 (.tmp 16) rfl w8.heap.size rfl 55 (cntV T).toArray (0, 0) _ KW.out Tryz.underlying55 rfl (by rw [info55y]; simp [cntV_len]) ?_)
        rename World => wA
        go_loopg [19, 114] 61 (fun gg s19 s114 wr => ∃ j : Nat, j ≤ 61 ∧ 61 - j ≤ gg ∧ s114 = .int .i64 (j : Int) ∧ Aside (Own encI 3 1 wr wA.heap.size s19 (outTo T j)) ∧ Aside (Ext wA wr))
        case atStart => exact ⟨0, by omega, by omega, by simp, Own.nil _ _, Ext.refl _⟩
        case round =>
          obtain ⟨j, hj, hgg, rfl, OW, HW⟩ := hrel
          by_cases hj6 : j < 61
          · have hjz : (j : Int) < 61 := by omega
            have hj0 : (0 : Int) ≤ (j : Int) := by omega
            obtain ⟨cc, hcc⟩ : ∃ cc : Nat, T.count (j : Int) = cc := ⟨_, rfl⟩
            have HSU := Lib.hid (show outTo T (j + 1) = outTo T j ++ List.replicate cc (j : Int) by rw [outTo_succ, hcc])
            have HLJ := Lib.hid (show (outTo T j).length + cc ≤ 7 by
              have h := HOL.out (j + 1) (by omega)
              rw [HSU.out, List.length_append, List.length_replicate] at h
              have := HTL.out; omega)
            have hc7 : cc ≤ 7 := by have := HLJ.out; omega
            have HCO := Lib.hid hcc
            clear hcc
            go_wp2_with (refine wpList_index61 rfl (.tmp 113) (.tmp 114) rfl T j cc rfl rfl hj6 HCO.out ?_)
            go_loopg [19, 119] cc (fun gg s19 s119 wr => ∃ t : Nat, t ≤ cc ∧ cc - t ≤ gg ∧ s119 = .int .i64 (t : Int) ∧ Aside (Own encI 3 1 wr wA.heap.size s19 (outTo T j ++ List.replicate t (j : Int))) ∧ Aside (Ext wA wr))
            case atStart => exact ⟨0, by omega, by omega, by simp, by rw [List.replicate_zero, List.append_nil]; exact OW.out, HW.out⟩
            case round =>
              obtain ⟨t, ht, hgt, rfl, OT, ET⟩ := hrel
              by_cases htc : t < cc
              · have htz : (t : Int) < (cc : Int) := by omega
                have HLT := Lib.hid (show (outTo T j ++ List.replicate t (j : Int)).length < 100000000000 by rw [List.length_append, List.length_replicate]; have := HLJ.out; omega)
                have HRE := Lib.hid (show outTo T j ++ List.replicate (t + 1) (j : Int) = (outTo T j ++ List.replicate t (j : Int)) ++ [(j : Int)] by rw [List.replicate_succ', List.append_assoc])
                generalize outTo T j ++ List.replicate t (j : Int) = L0 at *
                go_wp2_with (at_builtin; refine wpList_app encI 36 3 1 _ 8 Tryz.underlying36 info3x rfl (by decide) (by decide) (fun _ => rfl) encI_one rfl (.tmp 121) (.tmp 123) rfl wA.heap.size _ L0 rfl (OT.out.alloc _) wr.heap.size 1 (j : Int) rfl (cells1 (by simp [go_sem])) HLT.out (by have := ET.out.size; simp; omega) ?_)
                intro g cap w' hown hg2 hbel _
                rw [← HRE.out] at hown
                have HO := Lib.hid hown
                have HBE := Lib.hid (show Ext wA w' from Below.trans (ET.out.alloc _) hbel)
                clear hown hbel
                go_wp2
                have htw : IntKind.i64.wrap ((t : Int) + 1) = (t : Int) + 1 := wrap_at (by omega) (by omega)
                go_roundg (cc - (t + 1))
                case measure => omega
                case rel => exact ⟨t + 1, by omega, by omega, by simp [htw], HO.out, HBE.out⟩
              · have htn : ¬ (t : Int) < (cc : Int) := by omega
                have HTC := Lib.hid (show t = cc by omega)
                go_wp2
                go_roundg (61 - (j + 1))
                case measure => omega
                case rel => exact ⟨j + 1, by omega, by omega, by simp, by rw [HSU.out, ← HTC.out]; exact OT.out, ET.out⟩
          · have HJE := Lib.hid (show j = 61 by omega)
            have hjn : ¬ (j : Int) < 61 := by omega
            rw [HJE.out, HOF.out] at OW
            have SW := Lib.hid (show SlI wr _ (sortedL (mOf lots sz l)) from OW.out.sl (enc := encI) (fun _ => rfl))
            have HSV := Lib.hid (show ∀ x ∈ sortedL (mOf lots sz l), 1 ≤ x ∧ x ≤ 60 from fun x hx => by
              have h := (sortedL_ok (mOf lots sz l)).2.mem_iff.1 hx
              unfold fitLens at h
              obtain ⟨y, hy, rfl⟩ := List.mem_map.1 h
              exact HMO.out.len y (List.mem_filter.1 hy).1)
            have HSL := Lib.hid (show (sortedL (mOf lots sz l)).length ≤ 7 by
              have h := HOL.out 61 (by omega)
              rw [HOF.out] at h
              have := HTL.out; omega)
            have EC := Lib.hid (EA.out.trans HW.out)
            have BC := Lib.hid (BA.out.ext HW.out)
            obtain ⟨S, hS⟩ : ∃ S, sortedL (mOf lots sz l) = S := ⟨_, rfl⟩
            rw [hS] at SW HSV HSL HG
            clear hS OW HW EA BA KW HOF
            obtain ⟨AS, r, cS, rfl, hr, hrc, hcm2⟩ := SW.out.form
            have HRL := Lib.hid (show S.length = r from hr.out.symm)
            have hr7 : r ≤ 7 := by have := HSL.out; have := HRL.out; omega
            clear hr
            go_wp2
            rename World => wC
            go_loopg [22, 23] 10 (fun gg s22 s23 wr => ∃ k i : Nat, s22 = .int .i64 (k : Int) ∧ s23 = .int .i64 (i : Int) ∧ i ≤ r ∧ r - i ≤ gg ∧ Aside (k + gr (iI : Int) sz (S.drop i) = G) ∧ Aside (Ext wC wr))
            case atStart => exact ⟨0, 0, by simp, by simp, by omega, by omega, by rw [Nat.zero_add, List.drop_zero]; exact HG.out, Ext.refl _⟩
            case round =>
              obtain ⟨k, i, rfl, rfl, hir, hgi, KR, EW⟩ := hrel
              have HK := Lib.hid (show k + gr (iI : Int) sz (S.drop i) ≤ 7 by
                have h1 := KR.out; have h2 := gr_le_len (iI : Int) sz (by omega) _ S (Nat.le_refl _); have := HSL.out; have := HG.out; omega)
              have hiw : IntKind.i64.wrap ((i : Int) + (sz : Int)) = (i : Int) + (sz : Int) := wrap_at (by omega) (by omega)
              have hi1 : IntKind.i64.wrap ((i : Int) + 1) = ((i + 1 : Nat) : Int) := by rw [show (i : Int) + 1 = ((i + 1 : Nat) : Int) by omega]; exact wrap_nat (by omega)
              have hk1 : IntKind.i64.wrap ((k : Int) + 1) = ((k + 1 : Nat) : Int) := by rw [show (k : Int) + 1 = ((k + 1 : Nat) : Int) by omega]; exact wrap_nat (by have := HK.out; omega)
              by_cases hle : i + sz ≤ r
              · have hlez : (i : Int) + (sz : Int) ≤ (r : Int) := by omega
                obtain ⟨q, hqz⟩ : ∃ q : Nat, q + 1 = i + sz := ⟨i + sz - 1, by omega⟩
                have HQZ := Lib.hid hqz
                have hzw : IntKind.i64.wrap ((i : Int) + (sz : Int) - 1) = (q : Int) := by rw [show (i : Int) + (sz : Int) - 1 = (q : Int) by omega]; exact wrap_nat (by omega)
                have hzr : q < r := by omega
                have hzrz : (q : Int) < (r : Int) := by omega
                have hzn : (0 : Int) ≤ (q : Int) := by omega
                clear hqz
                have hilt : i < r := by omega
                have hiltz : (i : Int) < (r : Int) := by omega
                have hi0 : (0 : Int) ≤ (i : Int) := by omega
                obtain ⟨b, off, y, rfl, hy, hbl, hcy⟩ := SW.out.at_ hzr
                obtain ⟨b', off', x, e2, hx, -, hcx⟩ := SW.out.at_ hilt
                injection e2 with e2
                injection e2 with e21 e22
                subst e21 e22
                have c0 := fun W' (h : Ext wr W') => SlI.cell hcy (EW.out.trans h)
                have c1 := fun W' (h : Ext wr W') => SlI.cell hcx (EW.out.trans h)
                obtain ⟨hy0, hy9⟩ := HSV.out y (List.mem_of_getElem? hy)
                obtain ⟨hx0, hx9⟩ := HSV.out x (List.mem_of_getElem? hx)
                have hyw : IntKind.i64.wrap (y - x) = y - x := by rw [IntKind.wrap_i64]; omega
                have HRD := Lib.hid (show S.drop i = x :: S.drop (i + 1) from drop_at hx)
                have HWIN := Lib.hid (show win (iI : Int) sz (S.drop i) = decide (y - x ≤ (iI : Int)) by
                  unfold win
                  rw [decide_eq_true (by rw [List.length_drop]; have := HRL.out; omega), List.getElem?_drop, List.getElem?_drop, show i + (sz - 1) = q by have := HQZ.out; omega, hy, Nat.add_zero, hx]
                  rfl)
                have HGR := Lib.hid (show gr (iI : Int) sz (S.drop i) = if win (iI : Int) sz (S.drop i) then 1 + gr (iI : Int) sz (S.drop (i + sz)) else gr (iI : Int) sz (S.drop (i + 1)) by
                  rw [HRD.out, gr_cons, List.drop_drop, ← HRD.out, show i + 1 + (sz - 1) = i + sz by omega])
                clear hx hy hcx hcy
                have m1 := fun W' (h : Ext wr W') => ((BC.out.ext (EW.out.trans h)).c3).2.1
                have m2 := ((BC.out.ext EW.out).c3).2.1
                cases hyl : decide (y - x ≤ (iI : Int)) with
                | true =>
                  have hyx : y - x ≤ (iI : Int) := of_decide_eq_true hyl
                  have HKR := Lib.hid (show (k + 1) + gr (iI : Int) sz (S.drop (i + sz)) = G by rw [← KR.out, HGR.out, HWIN.out, hyl, if_pos rfl]; omega)
                  clear hyl
                  go_wp2
                  refine wp_region_tame (fun W => Ext wr W) (fun W W' => Ext W W') (by kernel_rfl) 191 rfl (by decide +kernel) (Ext.refl _).drew ?_
                  repeat (apply tame_q rfl; (intro ρ W hC hr hD; (obtain ⟨hrc, hrg, hrf, hrs⟩ := hr); (simp [go_sem] at hD); go_simp; first | exact ⟨⟨hC, Ext.refl _⟩, rfl⟩ | exact ⟨⟨hC, RS.refl _⟩, rfl⟩ | exact rfl); simp only [List.nil_append, List.cons_append])
                  refine tame_end 191 rfl rfl (fun ρ W' hC hr hF => ?_)
                  obtain ⟨hrc', hrg, hrf, hrs⟩ := hr
                  simp [go_sem] at hF
                  apply frame_to
                  · simp (maxSteps := 4000000) [go_sem, hF, hrs]
                    exact rfl
                  have EW2 := Lib.hid (EW.out.trans hC)
                  have m3 := ((BC.out.ext EW2.out).c3).2.1
                  clear hF hrs hrc' hrg hrf hC c0 c1 m1 m2
                  go_wp2
                  go_roundg (r - (i + sz))
                  case measure => omega
                  case rel => exact ⟨k + 1, i + sz, by first | rfl | simp [hk1], by first | rfl | simp [hiw], by omega, by omega, HKR.out, EW2.out⟩
                | false =>
                  have hyx : ¬ y - x ≤ (iI : Int) := of_decide_eq_false hyl
                  have HKR := Lib.hid (show k + gr (iI : Int) sz (S.drop (i + 1)) = G by rw [← KR.out, HGR.out, HWIN.out, hyl, if_neg (by simp)])
                  clear hyl
                  go_wp2
                  refine wp_region_tame (fun W => Ext wr W) (fun W W' => Ext W W') (by kernel_rfl) 191 rfl (by decide +kernel) (Ext.refl _).drew ?_
                  repeat (apply tame_q rfl; (intro ρ W hC hr hD; (obtain ⟨hrc, hrg, hrf, hrs⟩ := hr); (simp [go_sem] at hD); go_simp; first | exact ⟨⟨hC, Ext.refl _⟩, rfl⟩ | exact ⟨⟨hC, RS.refl _⟩, rfl⟩ | exact rfl); simp only [List.nil_append, List.cons_append])
                  refine tame_end 191 rfl rfl (fun ρ W' hC hr hF => ?_)
                  obtain ⟨hrc', hrg, hrf, hrs⟩ := hr
                  simp [go_sem] at hF
                  apply frame_to
                  · simp (maxSteps := 4000000) [go_sem, hF, hrs]
                    exact rfl
                  have EW2 := Lib.hid (EW.out.trans hC)
                  have m3 := ((BC.out.ext EW2.out).c3).2.1
                  clear hF hrs hrc' hrg hrf hC c0 c1 m1 m2
                  go_wp2
                  go_roundg (r - (i + 1))
                  case measure => omega
                  case rel => exact ⟨k, i + 1, rfl, by first | rfl | simp [hi1], by omega, by omega, HKR.out, EW2.out⟩
              · have hlez : ¬ (i : Int) + (sz : Int) ≤ (r : Int) := by omega
                have HKF := Lib.hid (show k = G by have h := KR.out; rw [gr_short (iI : Int) sz (S.drop i) (by rw [List.length_drop]; have := HRL.out; omega)] at h; omega)
                obtain ⟨b0, b1, b2, bf, bl⟩ := (BC.out.ext EW.out).c3
                have HEE := Lib.hid (EC.out.trans EW.out)
                obtain rfl := HKF.out
                have q1 : lots ≤ (k : Int) := by have := HQ.out; omega
                have q2 : a ≤ (iI : Int) := by omega
                have q3 : ¬ (k : Int) < lots := by omega
                have q4 : ¬ (iI : Int) < a := by omega
                go_wp2
                go_ret
                exact ⟨rfl, HEE.out⟩
  · obtain ⟨p, h1, -⟩ := HBP.out
    exact absurd (h1.symm.trans hp) (by simp)
end Go.Proofs.YtkpengeaolcjhaaGreatDoor
