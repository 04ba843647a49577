/- The walks of the reference's chained, Chain, Check, and of SameInts at equal lists. -/
import Derived.Test.YtafdbgielmlihaaDoorChB
import Derived.Test.YtafdbgielmlihaaDoorTame
import Derived.WalkMore
import Derived.RegionTactic
namespace Go.Proofs.YtafdbgielmlihaaDoor
open Go.RowKit Go.Shelf
set_option maxRecDepth 100000
set_option linter.unusedSimpArgs false

set_option maxHeartbeats 4000000 in
theorem chained_any (c : Chn) (hv sv : Value) (w : World) (hh : SlI w hv c.houses) (hs : SlL w sv c.sales) :
    Calls Tryd.prog 105 #[valC hv sv] w fun e w' => e = .returned (.bool (chainedR c)) ∧ Ext w w' := by
  have HH := Lib.hid hh
  have HS := Lib.hid hs
  obtain ⟨A, n, cp, rfl, hn, hlc, hcm⟩ := hh.form
  obtain ⟨A2, n2, cp2, rfl, hn2, hlc2, hcm2⟩ := hs.form
  clear hh hs
  by_cases h6 : (6 : Int) < n
  · have D := Lib.hid (show decide (c.houses.length ≤ 6) = false by have := hn.out; simp; omega)
    go_enter Tryd.func105, Tryd.ntmps105
    go_wp2
    go_ret
    exact ⟨ret_bool (by unfold chainedR; rw [D.out]; rfl), Ext.al _ _⟩
  have D := Lib.hid (show decide (c.houses.length ≤ 6) = true by have := hn.out; simp; omega)
  go_enter Tryd.func105, Tryd.ntmps105
  go_wp2
  go_loopg [3, 15] n (fun gg la s wr => ∃ (kk : Nat) (last : Int), kk ≤ n ∧ n - kk ≤ gg ∧ s = .int .i64 kk ∧ la = .int .i64 last ∧ 0 ≤ last ∧ last ≤ 9999 ∧ Aside (risingB 0 c.houses = risingB last (c.houses.drop kk)) ∧ Aside (Ext (w.alloc (.cells #[.slice A n cp, .slice A2 n2 cp2] 25)) wr))
  case atStart => exact ⟨0, 0, Nat.zero_le _, by omega, rfl, rfl, by omega, by omega, rfl, Ext.refl _⟩
  case round =>
    obtain ⟨kk, last, hkk, hg, rfl, rfl, h0, h9, RE, BW⟩ := hrel
    obtain ⟨hc, hf, hz, -⟩ := BW.out.use
    simp at hz
    have hz1 : w.heap.size < wr.heap.size := by omega
    by_cases hlt : kk < n
    · have hltz : (kk : Int) < (n : Int) := by omega
      obtain ⟨bb, off, x, rfl, hx, hb, hcell⟩ := HH.out.at_ hlt
      have c0 := SlI.cell hcell ((Ext.al _ _).trans BW.out)
      have HX := Lib.hid hx; clear hx hcell hb
      go_wp2_with fail
      refine (within_any x (last + 1) 9999 _).mono ?_
      rintro e w1 ⟨rfl, rfl⟩
      cases hq : inB (last + 1) 9999 x
      · have HQ := Lib.hid hq; clear hq
        go_wp2
        go_ret
        exact ⟨ret_bool (by unfold chainedR; rw [RE.out, drop_at HX.out, risingB, HQ.out]; simp), (Ext.al _ _).trans BW.out⟩
      have hq' := hq
      unfold inB at hq'
      simp at hq'
      have i1 : 0 ≤ x := by omega
      have i2 : x ≤ 9999 := by omega
      have HQ := Lib.hid hq; clear hq hq'
      go_wp2
      go_roundg (n - (kk + 1))
      case measure => omega
      case rel => exact ⟨kk + 1, x, by omega, by omega, by simp, rfl, i1, i2, by show _ = _; rw [RE.out, drop_at HX.out, risingB, HQ.out]; rfl, BW.out⟩
    · have HK := Lib.hid (show kk = n by omega)
      have DD := Lib.hid (show risingB 0 c.houses = true by rw [RE.out, List.drop_eq_nil_of_le (by have := HK.out; have := hn.out; omega)]; rfl)
      obtain ⟨wo, hwo⟩ : ∃ wo : World, wo = wr := ⟨_, rfl⟩
      subst hwo
      go_wp2
      go_loopg [3, 29] n2 (fun gg la s wr => ∃ (kk : Nat) (last : Int), kk ≤ n2 ∧ n2 - kk ≤ gg ∧ s = .int .i64 kk ∧ la = .int .i64 last ∧ 0 ≤ last ∧ last ≤ 9999 ∧ Aside (salesR c 0 c.sales = salesR c last (c.sales.drop kk)) ∧ Aside (Ext (w.alloc (.cells #[.slice A n cp, .slice A2 n2 cp2] 25)) wr))
      case atStart => exact ⟨0, 0, Nat.zero_le _, by omega, rfl, rfl, by omega, by omega, rfl, BW.out⟩
      case round =>
        clear hc hf hz hz1
        obtain ⟨kk, last, hkk, hg, rfl, rfl, h0, h9, RE, BW⟩ := hrel
        obtain ⟨hc, hf, hz, -⟩ := BW.out.use
        simp at hz
        have hz1 : w.heap.size < wr.heap.size := by omega
        by_cases hlt : kk < n2
        · have hltz : (kk : Int) < (n2 : Int) := by omega
          obtain ⟨bb, off, x, rfl, hx, hb, hcell⟩ := HS.out.at_ hlt
          obtain ⟨c0, c1, c2, c3, c4⟩ := SlL.cells hcell ((Ext.al w _).trans BW.out)
          have HX := Lib.hid hx; clear hx hcell hb
          have HK0 := Lib.hid (show Later (wr.alloc (.cells #[.int .i64 x.number, .int .i64 x.seller, .int .i64 x.buyer, .int .i64 x.bales, .int .i64 x.price] 68)) (fun W => (W.cell? ⟨w.heap.size, 0, none⟩ = some (.slice A n cp) ∧ W.cell? ⟨w.heap.size, 1, none⟩ = some (.slice (some ⟨bb, off, none⟩) n2 cp2) ∧ (∀ i, W.frozen? ⟨w.heap.size, i, none⟩ = false) ∧ w.heap.size < W.heap.size) ∧ (W.cell? ⟨wr.heap.size, 0, none⟩ = some (.int .i64 x.number) ∧ W.cell? ⟨wr.heap.size, 1, none⟩ = some (.int .i64 x.seller) ∧ W.cell? ⟨wr.heap.size, 2, none⟩ = some (.int .i64 x.buyer) ∧ W.cell? ⟨wr.heap.size, 3, none⟩ = some (.int .i64 x.bales) ∧ W.cell? ⟨wr.heap.size, 4, none⟩ = some (.int .i64 x.price) ∧ (∀ i, W.frozen? ⟨wr.heap.size, i, none⟩ = false) ∧ wr.heap.size < W.heap.size)) from
            fun W hW => ⟨((((Blk.new _ _ _).ext BW.out).alloc _).ext hW).c2, ((Blk.new _ _ _).ext hW).c5⟩)
          have HEx := Lib.hid (show ∀ W, Ext (wr.alloc (.cells #[.int .i64 x.number, .int .i64 x.seller, .int .i64 x.buyer, .int .i64 x.bales, .int .i64 x.price] 68)) W → Ext w W from fun W hW => ((Ext.al w _).trans (BW.out.trans (Ext.al _ _))).trans hW)
          have HF := Lib.hid (show saleR c last x = false → chainedR c = false from fun h => by unfold chainedR; rw [RE.out, drop_at HX.out, salesR, h]; simp)
          go_wp2_with fail
          refine (within_any x.number (last + 1) 9999 _).mono ?_
          rintro e w1 ⟨rfl, rfl⟩
          cases hq : inB (last + 1) 9999 x.number
          · have HQ := Lib.hid hq; clear hq
            go_wp2
            go_ret
            exact ⟨ret_bool (HF.out (by unfold saleR; rw [HQ.out]; rfl)).symm, HEx.out _ (Ext.refl _)⟩
          have GA := Lib.hid hq; clear hq
          go_wp2_with fail
          refine (house_any c x.seller _ _ _ (HH.out.ext (HEx.out _ (Ext.refl _))) (HS.out.ext (HEx.out _ (Ext.refl _)))).mono ?_
          rintro e w1 ⟨rfl, hE⟩
          have HE1 := Lib.hid hE; clear hE c0 c1 c2 c3 c4 hc hf hz hz1
          obtain ⟨k0, k1⟩ := HK0.out _ HE1.out
          by_cases hs1 : houseI c x.seller < 0
          · have HQ := Lib.hid (show decide (0 ≤ houseI c x.seller) = false by simp; omega)
            go_wp2
            go_ret
            exact ⟨ret_bool (HF.out (by unfold saleR; rw [HQ.out]; simp)).symm, HEx.out _ HE1.out⟩
          have GB := Lib.hid (show decide (0 ≤ houseI c x.seller) = true by simp; omega)
          go_wp2_with fail
          refine (house_any c x.buyer _ _ _ (HH.out.ext (HEx.out _ HE1.out)) (HS.out.ext (HEx.out _ HE1.out))).mono ?_
          rintro e w2 ⟨rfl, hE⟩
          have HE2 := Lib.hid (HE1.out.trans hE); clear hE HE1 k0 k1
          obtain ⟨k0, k1⟩ := HK0.out _ HE2.out
          by_cases hs2 : houseI c x.buyer < 0
          · have HQ := Lib.hid (show decide (0 ≤ houseI c x.buyer) = false by simp; omega)
            go_wp2
            go_ret
            exact ⟨ret_bool (HF.out (by unfold saleR; rw [HQ.out]; simp)).symm, HEx.out _ HE2.out⟩
          have GC := Lib.hid (show decide (0 ≤ houseI c x.buyer) = true by simp; omega)
          cases e0 : (x.seller == x.buyer) with
          | true =>
            have E0 := Lib.hid (show decide (x.seller = x.buyer) = true by simpa using e0)
            go_wp2
            go_ret
            exact ⟨ret_bool (HF.out (by unfold saleR; rw [E0.out]; simp)).symm, HEx.out _ HE2.out⟩
          | false =>
            have E0 := Lib.hid (show decide (x.seller = x.buyer) = false by simpa using e0)
            go_wp2_with fail
            refine (within_any x.bales 1 9 _).mono ?_
            rintro e w1 ⟨rfl, rfl⟩
            cases hq : inB 1 9 x.bales
            · have HQ := Lib.hid hq; clear hq
              go_wp2
              go_ret
              exact ⟨ret_bool (HF.out (by unfold saleR; rw [HQ.out]; simp)).symm, HEx.out _ HE2.out⟩
            have GD := Lib.hid hq; clear hq
            go_wp2_with fail
            refine (within_any x.price 0 1000000 _).mono ?_
            rintro e w1 ⟨rfl, rfl⟩
            cases hq : inB 0 1000000 x.price
            · have HQ := Lib.hid hq; clear hq
              go_wp2
              go_ret
              exact ⟨ret_bool (HF.out (by unfold saleR; rw [HQ.out]; simp)).symm, HEx.out _ HE2.out⟩
            have GE := Lib.hid hq; clear hq
            have hq' := GA.out
            unfold inB at hq'
            simp at hq'
            have i1 : 0 ≤ x.number := by omega
            have i2 : x.number ≤ 9999 := by omega
            have HR := Lib.hid (show saleR c last x = true by unfold saleR; rw [GA.out, GB.out, GC.out, E0.out, GD.out, GE.out]; rfl)
            clear hq'
            go_wp2
            go_roundg (n2 - (kk + 1))
            case measure => omega
            case rel => exact ⟨kk + 1, x.number, by omega, by omega, by simp, rfl, i1, i2, by show _ = _; rw [RE.out, drop_at HX.out, salesR, HR.out]; rfl, (BW.out.trans (Ext.al _ _)).trans HE2.out⟩
        · have HK2 := Lib.hid (show kk = n2 by omega)
          go_wp2
          go_ret
          exact ⟨ret_bool (by unfold chainedR; rw [D.out, DD.out, RE.out, List.drop_eq_nil_of_le (by have := HK2.out; have := hn2.out; omega)]; rfl), (Ext.al w _).trans BW.out⟩

theorem refChain_any (c : Chn) (hv sv : Value) (w : World) (hh : SlI w hv c.houses) (hs : SlL w sv c.sales) :
    Calls Tryd.prog 73 #[valC hv sv] w fun e w' => e = .returned (.bool (checkP c)) ∧ Ext w w' := by
  have HH := Lib.hid hh
  have HS := Lib.hid hs
  have HR := Lib.hid (chain_eq c)
  obtain ⟨A, n, cp, rfl, hn, hlc, hcm⟩ := hh.form
  obtain ⟨A2, n2, cp2, rfl, hn2, hlc2, hcm2⟩ := hs.form
  clear hh hs
  by_cases h10 : (n2 : Int) ≤ 10
  · have D := Lib.hid (show decide (c.sales.length ≤ 10) = true by have := hn2.out; simp; omega)
    go_enter Tryd.func73, Tryd.ntmps73
    go_wp2_with fail
    refine (chained_any c _ _ _ (HH.out.ext (Ext.al _ _)) (HS.out.ext (Ext.al _ _))).mono ?_
    rintro e w1 ⟨rfl, hE⟩
    have HE := Lib.hid ((Ext.al _ _).trans hE); clear hE
    go_wp2
    go_ret
    exact ⟨ret_bool (by rw [← HR.out]; unfold chainR; rw [D.out]; rfl), HE.out⟩
  · have D := Lib.hid (show decide (c.sales.length ≤ 10) = false by have := hn2.out; simp; omega)
    go_enter Tryd.func73, Tryd.ntmps73
    go_wp2
    go_ret
    exact ⟨ret_bool (by rw [← HR.out]; unfold chainR; rw [D.out]; rfl), Ext.al _ _⟩
theorem refCheck_any (c : Chn) (hv sv : Value) (w : World) (hh : SlI w hv c.houses) (hs : SlL w sv c.sales) :
    Calls Tryd.prog 25 #[valC hv sv] w fun e w' => e = .returned (.int .i64 (errB (checkP c) 60)) ∧ Ext w w' := by
  have HH := Lib.hid hh
  have HS := Lib.hid hs
  obtain ⟨A, n, cp, rfl, hn, hlc, hcm⟩ := hh.form
  obtain ⟨A2, n2, cp2, rfl, hn2, hlc2, hcm2⟩ := hs.form
  clear hh hs
  go_enter Tryd.func25, Tryd.ntmps25
  go_wp2_with fail
  refine (refChain_any c _ _ _ (HH.out.ext (Ext.al _ _)) (HS.out.ext (Ext.al _ _))).mono ?_
  rintro e w1 ⟨rfl, hE⟩
  have HE := Lib.hid ((Ext.al _ _).trans hE); clear hE
  cases hq : checkP c
  all_goals
    have HQ := Lib.hid hq; clear hq
    go_wp2
    go_ret
    exact ⟨ret_int (by rw [HQ.out]; rfl), HE.out⟩
end Go.Proofs.YtafdbgielmlihaaDoor
